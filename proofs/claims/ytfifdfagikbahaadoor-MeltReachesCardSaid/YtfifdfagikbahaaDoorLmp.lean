/- The walk of the law MeltPredicts. -/
import Derived.Test.YtfifdfagikbahaaDoorNm
namespace Go.Proofs.YtfifdfagikbahaaDoor
open Go.RowKit
attribute [local go_sem] Oper.semAt_some
theorem PrrF.le {m : Mlt} {l : List Stp} {u : Value} {w w' : World} (h : PrrF m l u w) (hl : Le w w') : PrrF m l u w' := by
  obtain ⟨S, d, h1, h2, h3, h4⟩ := h
  exact ⟨S, d, h1, h2, h3, h4.row fun b _ _ hlt => Below.block hl b hlt⟩
theorem PrrF.sl {m : Mlt} {l : List Stp} {S : Option Addr} {n d : Nat} {R : Nat → Int} {w : World} (h : PrrF m l (.agg (runArr (.slice S n d) R)) w) : n = fzK l l.length ∧ SlIn 0 w (.slice S n d) n (prS m l) := by
  obtain ⟨S', d', he, _, _, hr⟩ := h
  have e : some (Value.slice S n d) = some (.slice S' (fzK l l.length) d') := congrArg (fun v : Value => match v with | Value.agg b => b[0]? | _ => none) he
  simp only [Option.some.injEq, Value.slice.injEq] at e
  obtain ⟨rfl, rfl, rfl⟩ := e
  exact ⟨rfl, hr⟩
theorem load_row_grow {P : Program} {o : Oper} {a : Act} {w : World} (ty : TypeId) (x : Operand) (ho : o.op = .load ty x) (g : Nat) (hx : a.eval x = .pointer (some ⟨g, 0, none⟩)) (cs : Array Value) (t : TypeId) (fr : Nat × Nat) (d : TypeDesc) (hg : w.heap[g]? = some (.cells cs t fr))
    (hu : P.underlying ty = some d) (hd : (match d with | .struct _ | .array _ _ => true | _ => false) = true) (hi : (P.info? ty).map (·.size) = some cs.size) : Oper.grows P o a w (fun u _ => u = .agg cs) := by
  have hrun := run_loadVar_row (P := P) w g t ty cs fr d hg hu hd hi
  unfold Oper.grows execOp
  simp only [ho, hx, Instr.loadAt, Instr.sureAddr, Sem.run_bind, Sem.run_pure, Result.andThen_ok, hrun]
  exact ⟨Le.refl _, fun _ _ => rfl⟩
set_option maxRecDepth 100000 in
set_option maxHeartbeats 4000000 in
theorem meltPredicts_any (m : Mlt) (A : Option Addr) (c : Nat) (l : List Stp) (w : World) (hG : Glob w) (hx : Rd w w.heap.size 8 A l.length (rT l)) (hk : ∀ j, j < l.length → 0 ≤ (at0 l j).kd ∧ (at0 l j).kd ≤ 255) (hn : l.length ≤ maxLen) :
    Calls Tryd.prog 3 #[.agg (mltArr m), .slice A l.length c] w fun e w' => e = .returned (.bool true) ∧ Below w.heap.size w w' := by
  obtain ⟨W, hW⟩ : ∃ W, W = w.alloc (.cells (mltArr m) 27) := ⟨_, rfl⟩
  have hb0 : Below w.heap.size w W := by rw [hW]; exact (Below.refl _ _).alloc (Nat.le_refl _) _
  have r0 : W.heap[w.heap.size]? = some (.cells (mltArr m) 27 (0, 0)) := by rw [hW]; exact heap_last _ _ _ rfl
  have sW : w.heap.size + 1 = W.heap.size := by rw [hW]; simp
  have HW := Lib.hid hW
  have Hb0 := Lib.hid hb0
  have HY : Hid (∀ W', Below W.heap.size W W' → W'.heap[w.heap.size]? = some (.cells (mltArr m) 27 (0, 0)) ∧ Rd W' w.heap.size 8 A l.length (rT l) ∧ Glob W' ∧ Below w.heap.size w W') := fun W' h => by
    have h' := hb0.trans (h.mono hb0.size)
    exact ⟨(h.block _ (by omega)).trans r0, hx.below h', hG.below h', h'⟩
  have Hk := Lib.hid hk
  have Hn := Lib.hid hn
  clear hW hb0 r0 hx hG hk hn
  go_enter Tryd.func3, Tryd.ntmps3
  go_upto_region 1 with (fail)
  rw [← HW.out]
  by_cases h210 : 210 < l.length
  · have d1 : decide (210 < (l.length : Int)) = true := decide_eq_true (by omega)
    clear h210
    go_wp2_with fail
    refine (known_any W (HY.out W (Below.refl _ _)).2.2.1).mono ?_
    rintro e w1 ⟨rfl, hb⟩
    have H1 := Lib.hid hb
    clear hb
    go_wp2_with fail
    go_ret
    exact ⟨rfl, (HY.out _ H1.out).2.2.2⟩
  have d1 : decide (210 < (l.length : Int)) = false := decide_eq_false (by omega)
  go_wp2_with fail
  refine (ownSteps_any A l.length c (rT l) W w.heap.size (by omega) (by omega) (HY.out W (Below.refl _ _)).2.1).mono ?_
  rintro e w1 ⟨A', c', rfl, hc1, hc2, hr1, hb1⟩
  have Hr1 := Lib.hid hr1
  have H1 := Lib.hid hb1
  have hs1 := hb1.size
  have hlm : l.length ≤ 1000 := by omega
  clear hr1 hb1 h210 d1
  have y := fun k (v : Value) (h : (mltArr m)[k]? = some v) => (show w1.cell? ⟨w.heap.size, k, none⟩ = some v by rw [cell_of_row _ _ _ _ _ _ (HY.out w1 H1.out).1]; exact h)
  have y0 := y 0 _ rfl
  have y1 := y 1 _ rfl
  have y2 := y 2 _ rfl
  have y3 := y 3 _ rfl
  have y4 := y 4 _ rfl
  have y5 := y 5 _ rfl
  have y6 := y 6 _ rfl
  clear y
  go_wp2_with fail
  refine (check_any m A' c' l w1 w1.heap.size (HY.out w1 H1.out).2.2.1 (Nat.le_refl _) Hr1.out Hk.out Hn.out).mono ?_
  rintro e w2 ⟨rfl, hb2⟩
  have H2 : Hid (Below W.heap.size W w2) := H1.out.trans (hb2.mono hs1)
  have Hr2 := Lib.hid (Hr1.out.below hb2)
  have hs2 := hb2.size
  clear hb2 y0 y1 y2 y3 y4 y5 y6
  have y := fun k (v : Value) (h : (mltArr m)[k]? = some v) => (show w2.cell? ⟨w.heap.size, k, none⟩ = some v by rw [cell_of_row _ _ _ _ _ _ (HY.out w2 H2.out).1]; exact h)
  have y0 := y 0 _ rfl
  have y1 := y 1 _ rfl
  have y2 := y 2 _ rfl
  have y3 := y 3 _ rfl
  have y4 := y 4 _ rfl
  have y5 := y 5 _ rfl
  have y6 := y 6 _ rfl
  clear y
  go_wp2_with fail
  refine (predict_any m A' c' l w2 w1.heap.size (HY.out w2 H2.out).2.2.1 (by have := (HY.out w1 H1.out).2.2.1.lt; omega) hs2 Hr2.out Hk.out Hn.out).mono ?_
  rintro e w3 ⟨hb3, h3⟩
  have H3 : Hid (Below W.heap.size W w3) := H2.out.trans (hb3.mono (by omega))
  have Hr3 := Lib.hid (Hr2.out.below (hb3.mono hs2))
  have hs3 := hb3.size
  clear hb3 y0 y1 y2 y3 y4 y5 y6
  -- what Predict tells, as a slice and numbers
  have hrun : ∃ (S : Option Addr) (n d : Nat) (R : Nat → Int) (g : Nat → Nat → Int) (er : Int), e = .returned (.tuple #[.agg (runArr (.slice S n d) R), I er]) ∧ er = ckF m l ∧ n ≤ 1000 ∧ SlIn 0 w3 (.slice S n d) n g ∧ (ckF m l ≠ 0 → n = 0 ∧ S = none ∧ d = 0 ∧ R = fun _ => 0) ∧ (ckF m l = 0 → n = fzK l l.length ∧ R = prR m l ∧ g = prS m l) := by
    rcases h3 with ⟨h0, rfl⟩ | ⟨h0, S, d, rfl, hd1, hd2, hsl⟩
    · exact ⟨none, 0, 0, fun _ => 0, fun _ _ => 0, _, rfl, rfl, by omega, .inl rfl, fun _ => ⟨rfl, rfl, rfl, rfl⟩, fun h => absurd h h0⟩
    · exact ⟨S, _, d, prR m l, prS m l, 0, rfl, h0.symm, by have := fzK_le l l.length; omega, hsl.more (Nat.zero_le _), fun h => absurd h0 h, fun _ => ⟨rfl, rfl, rfl⟩⟩
  obtain ⟨S, n, d, R, g, er, rfl, her, hn1000, hsl, hne, heq⟩ := hrun
  have Hne := Lib.hid hne
  have Heq := Lib.hid heq
  have Hsl := Lib.hid hsl
  have Her := Lib.hid her
  clear h3 hne heq hsl her
  go_upto_region 6 with (refine wpList_store_row rfl 35 _ _ rfl w3.heap.size rfl _ _ (heap_last w3 (.cells (runArr (.slice none 0 0) fun _ => 0) 35) _ rfl) (runArr (.slice S n d) R) rfl (run_one rfl) rfl (by kernel_rfl) ?_)
  refine name_w fun V hV => ?_
  try simp only [Act.put]
  obtain ⟨xb, hxb⟩ : ∃ q, w3.heap.size = q := ⟨_, rfl⟩
  have rV : V.heap[xb]? = some (.cells (runArr (.slice S n d) R) 35 (0, 0)) := by rw [hV, ← hxb]; exact setRow_same (heap_last _ _ _ rfl)
  have b3 : Below w3.heap.size w3 V := by rw [hV]; exact below_setRow ((Below.refl _ _).alloc (Nat.le_refl _) _) (Nat.le_refl _) _
  have HV : Hid (Below W.heap.size W V) := H3.out.trans (b3.mono (by have := H3.out.size; omega))
  have HrV := Lib.hid rV
  have Hr4 := Lib.hid (Hr3.out.below (b3.mono (by omega)))
  have Hsl4 := Lib.hid (Hsl.out.row (w' := V) fun q _ _ hlt => b3.block q hlt)
  have hxV := (Array.getElem?_eq_some_iff.1 rV).1
  have hsV := b3.size
  rw [hxb]
  obtain ⟨ce, hce⟩ : ∃ q, ckF m l = q := ⟨_, rfl⟩
  have hee : er = ce := by rw [Her.out, hce]
  subst hee
  have Hce := Lib.hid hce
  rw [hce]
  clear hV rV b3 hxb hce Her Hr3 Hsl
  have y := fun k (v : Value) (h : (mltArr m)[k]? = some v) => (show V.cell? ⟨w.heap.size, k, none⟩ = some v by rw [cell_of_row _ _ _ _ _ _ (HY.out V HV.out).1]; exact h)
  have y0 := y 0 _ rfl
  have y1 := y 1 _ rfl
  have y2 := y 2 _ rfl
  have y3 := y 3 _ rfl
  have y4 := y 4 _ rfl
  have y5 := y 5 _ rfl
  have y6 := y 6 _ rfl
  clear y
  go_wp2_with fail
  refine (refCheck_any m A c l V w.heap.size (by have := HV.out.size; omega) (HY.out V HV.out).2.1 Hk.out Hn.out).mono ?_
  rintro e w4 ⟨rfl, hb4⟩
  have H4 : Hid (Below W.heap.size W w4) := HV.out.trans (hb4.mono (by have := HV.out.size; omega))
  have HrV4 := Lib.hid ((hb4.block xb hxV).trans HrV.out)
  have Hr5 := Lib.hid (Hr4.out.below (hb4.mono (by omega)))
  have Hsl5 := Lib.hid (Hsl4.out.row (w' := w4) fun q _ _ hlt => hb4.block q hlt)
  have hs4 := hb4.size
  rw [Hce.out]
  clear hb4 y0 y1 y2 y3 y4 y5 y6 HrV Hr4 Hsl4
  have e0 : (er == er) = true := by simp
  go_wp2_with fail
  refine (sameSteps_any A' A c' c l w4 hlm (Hr5.out.more (by omega)) ((HY.out w4 H4.out).2.1.more (by have := H4.out.size; omega))).mono ?_
  rintro e w5 ⟨rfl, hb5⟩
  have H5 : Hid (Below W.heap.size W w5) := H4.out.trans (hb5.mono (by have := H4.out.size; omega))
  have rV5 := (hb5.block xb (by omega)).trans HrV4.out
  have HrV5 := Lib.hid rV5
  have Hsl6 := Lib.hid (Hsl5.out.row (w' := w5) fun q _ _ hlt => hb5.block q hlt)
  have hs5 := hb5.size
  clear hb5 HrV4 Hr5 Hsl5
  by_cases h0 : er = 0
  · as_aux_lemma =>
      subst h0
      obtain ⟨rfl, rfl, rfl⟩ := Heq.out Hce.out
      have e1 : ((0 : Int) == 0) = true := rfl
      go_upto_region 11 with (fail)
      have yy := fun k (v : Value) (h : (mltArr m)[k]? = some v) => ovr_cell (show w5.cell? ⟨w.heap.size, k, none⟩ = some v by rw [cell_of_row _ _ _ _ _ _ (HY.out w5 H5.out).1]; exact h)
      have y0 := yy 0 _ rfl
      have y1 := yy 1 _ rfl
      have y2 := yy 2 _ rfl
      have y3 := yy 3 _ rfl
      have y4 := yy 4 _ rfl
      have y5 := yy 5 _ rfl
      have y6 := yy 6 _ rfl
      have hs5' := H5.out.size
      clear yy rV5
      refine wp_region_seq2 9 (fun j => if j = 0 then some (fun u _ => u = .agg (runArr (.slice S (fzK l l.length) d) (prR m l))) else if j = 3 then some (PrrF m l) else if j = 4 then some (fun u _ => u = .bool true) else if j = 6 then some (fun u _ => u = .bool true) else none) (by kernel_rfl) (by kernel_rfl) (by kernel_rfl) (by kernel_rfl) (by kernel_rfl) ?_
      simp only [List.take_succ_cons, List.take_zero, List.drop_succ_cons, List.drop_zero]
      refine wpG_make (fun u _ => u = .agg (runArr (.slice S (fzK l l.length) d) (prR m l))) rfl rfl (fun w' hw' _ => load_row_grow 35 _ rfl xb rfl _ _ _ _ ((hw'.le.block xb (by omega)).trans HrV5.out) Tryd.underlying35 rfl (by kernel_rfl)) (fun u hu => ?_)
      obtain ⟨_, _, rfl⟩ := hu
      simp only [Act.put, List.setIfInBounds_toArray, List.set_cons_zero, List.set_cons_succ]
      repeat (refine wpG_one rfl rfl rfl ?_; intro K hK; go_big_quiet_op; go_big_quiet_on)
      refine wpG_make (PrrF m l) rfl rfl (fun w' hw' _ => ?_) (fun u hu => ?_)
      · go_simp
        exact (refPredict_any m A c l w' w.heap.size (by have := hw'.le.size; omega) (HY.out w' (H5.out.trans (hw'.le.mono hs5'))).2.1 Hce.out).mono fun e w'' ⟨u, he, hb, hu⟩ => ⟨u, he, hb, fun w3 h3 => hu.le h3⟩
      obtain ⟨_, _, S', d', rfl, _, _, _⟩ := hu
      simp only [Act.put, List.setIfInBounds_toArray, List.set_cons_zero, List.set_cons_succ]
      refine wpG_make (fun u _ => u = .bool true) rfl rfl (fun w' hw' hk => ?_) (fun u hu => ?_)
      · have h3 := (hk ⟨3, .data⟩ (by simp) rfl _ _ _ rfl rfl rfl (by simp) rfl).now
        have h4 := PrrF.sl h3
        have h5 := Hsl6.out.row (w' := w') fun q _ _ hlt => hw'.le.block q hlt
        go_simp
        exact call_grow (sameRun_any S S' d d' (fzK l l.length) (prR m l) (prS m l) w' hn1000 h5.rd h4.2.rd)
      obtain ⟨_, _, rfl⟩ := hu
      simp only [Act.put, List.setIfInBounds_toArray, List.set_cons_zero, List.set_cons_succ]
      repeat (refine wpG_one rfl rfl rfl ?_; intro K hK; go_big_quiet_op; go_big_quiet_on)
      refine wpG_make (fun u _ => u = .bool true) rfl rfl (fun w' hw' _ => ?_) (fun u hu => ?_)
      · go_simp
        exact call_grow (known_any w' (HY.out w' (H5.out.trans (hw'.le.mono hs5'))).2.2.1)
      obtain ⟨_, _, rfl⟩ := hu
      simp only [Act.put, List.setIfInBounds_toArray, List.set_cons_zero, List.set_cons_succ]
      repeat (refine wpG_one rfl rfl rfl ?_; intro K hK; go_big_quiet_op; go_big_quiet_on)
      refine wpG_nil (fun w6 hw6 hG => ?_)
      clear hG y0 y1 y2 y3 y4 y5 y6
      refine wpTailIn_nil ?_
      have H6 : Hid (Below W.heap.size W w6) := H5.out.trans (hw6.le.mono hs5')
      clear hw6
      go_wp2_with fail
      go_ret
      exact ⟨rfl, (HY.out _ H6.out).2.2.2⟩
  · as_aux_lemma =>
      obtain ⟨rfl, rfl, rfl, rfl⟩ := Hne.out (by rw [Hce.out]; exact h0)
      have e1 : (er == 0) = false := by simpa using h0
      clear h0 rV5
      go_upto_region 10 with (fail)
      go_wp2_with (refine wpList_load_row rfl 35 _ rfl xb rfl _ _ _ _ HrV5.out Tryd.underlying35 rfl (by kernel_rfl) ?_)
      refine (sameRun_any none none 0 0 0 (fun _ => 0) (fun _ _ => 0) w5 (by omega) Rd.nil Rd.nil).mono ?_
      rintro e w6 ⟨rfl, hb6⟩
      have H6 : Hid (Below W.heap.size W w6) := H5.out.trans (hb6.mono (by have := H5.out.size; omega))
      clear hb6
      go_wp2_with fail
      refine (known_any w6 (HY.out w6 H6.out).2.2.1).mono ?_
      rintro e w7 ⟨rfl, hb7⟩
      have H7 : Hid (Below W.heap.size W w7) := H6.out.trans (hb7.mono (by have := H6.out.size; omega))
      clear hb7
      go_wp2_with fail
      go_ret
      exact ⟨rfl, (HY.out _ H7.out).2.2.2⟩
end Go.Proofs.YtfifdfagikbahaaDoor
