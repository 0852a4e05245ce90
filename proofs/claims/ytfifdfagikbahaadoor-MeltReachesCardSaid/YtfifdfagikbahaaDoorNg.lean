/- The examples of the document hold: known. -/
import Derived.Test.YtfifdfagikbahaaDoorNf
namespace Go.Proofs.YtfifdfagikbahaaDoor
open Go.RowKit
attribute [local go_sem] Oper.semAt_some
/-- What Predict tells. -/
def PrdF (m : Mlt) (l : List Stp) (u : Value) (w : World) : Prop := (ckF m l ≠ 0 ∧ u = .tuple #[.agg (runArr (.slice none 0 0) fun _ => 0), I (ckF m l)]) ∨
  (ckF m l = 0 ∧ ∃ S d, u = .tuple #[.agg (runArr (.slice S (fzK l l.length) d) (prR m l)), I 0] ∧ fzK l l.length ≤ d ∧ d ≤ maxLen ∧ SlIn 0 w (.slice S (fzK l l.length) d) (fzK l l.length) (prS m l))
theorem PrdF.le {m : Mlt} {l : List Stp} {u : Value} {w w' : World} (h : PrdF m l u w) (hl : Le w w') : PrdF m l u w' := by
  rcases h with h | ⟨h0, S, d, h1, h2, h3, h4⟩
  · exact .inl h
  · exact .inr ⟨h0, S, d, h1, h2, h3, h4.row fun b _ _ hlt => Below.block hl b hlt⟩
theorem predict_grow (m : Mlt) (A : Option Addr) (c : Nat) (l : List Stp) (w : World) (hG : Glob w) (hx : Rd w w.heap.size 8 A l.length (rT l)) (hk : ∀ j, j < l.length → 0 ≤ (at0 l j).kd ∧ (at0 l j).kd ≤ 255) (hn : l.length ≤ maxLen) :
    Calls Tryd.prog 15 #[.agg (mltArr m), .slice A l.length c] w fun e w' => ∃ u, e = .returned u ∧ Le w w' ∧ Box (PrdF m l) u w' :=
  (predict_any m A c l w w.heap.size hG hG.lt (Nat.le_refl _) hx hk hn).mono fun e w' ⟨hb, h⟩ => by
    rcases h with ⟨h0, rfl⟩ | ⟨h0, S, d, rfl, h2, h3, h4⟩
    · exact ⟨_, rfl, hb, fun w'' hl => PrdF.le (.inl ⟨h0, rfl⟩) hl⟩
    · exact ⟨_, rfl, hb, fun w'' hl => PrdF.le (.inr ⟨h0, S, d, rfl, h2, h3, h4.more (Nat.zero_le _)⟩) hl⟩
theorem PrdF.sl {m : Mlt} {l : List Stp} {S : Option Addr} {n d : Nat} {R : Nat → Int} {x : Value} {w : World} (h0 : ckF m l = 0) (h : PrdF m l (.tuple #[.agg (runArr (.slice S n d) R), x]) w) : n = fzK l l.length ∧ SlIn 0 w (.slice S n d) n (prS m l) := by
  rcases h with ⟨h1, _⟩ | ⟨_, S', d', he, _, _, hr⟩
  · exact absurd h0 h1
  · have e : some (Value.slice S n d) = some (.slice S' (fzK l l.length) d') := congrArg (fun v : Value => match v with | Value.tuple a => (match a[0]? with | some (Value.agg b) => b[0]? | _ => none) | _ => none) he
    simp only [Option.some.injEq, Value.slice.injEq] at e
    obtain ⟨rfl, rfl, rfl⟩ := e
    exact ⟨rfl, hr⟩
/-- A new list that holds cs. -/
def SlAt (w0 : World) (cs : Array Value) (t : TypeId) (n : Nat) (u : Value) (w : World) : Prop := ∃ b, u = .slice (some ⟨b, 0, none⟩) n n ∧ w.heap[b]? = some (.cells cs t (0, 0)) ∧ w0.heap.size ≤ b
theorem slat_grow {w0 w : World} {cs : Array Value} {t : TypeId} {n : Nat} (h : Cl w0 w) : Le w (w.alloc (.cells cs t)) ∧ Box (SlAt w0 cs t n) (.slice (some ⟨w.heap.size, 0, none⟩) n n) (w.alloc (.cells cs t)) :=
  ⟨(Below.refl _ _).alloc (Nat.le_refl _) _, fun _ h2 => ⟨_, rfl, (h2.block _ (by simp)).trans (heap_alloc_new w _), h.le.size⟩⟩
theorem full_any (w : World) : Calls Tryd.prog 39 #[] w fun e w' => e = .returned (.agg #[I 1000, I 10000, I 10000, I 10000, I 10000, I 10000, I 10000]) ∧ Below w.heap.size w w' := by
  go_enter Tryd.func39, Tryd.ntmps39
  go_wp2_with fail
  refine bodyPost_ret (results_cell_only rfl _ _ w.heap.size 27 #[I 1000, I 10000, I 10000, I 10000, I 10000, I 10000, I 10000] (0, 0) _ rfl (heap_before (heap_last _ _ _ rfl)) Tryd.underlying27 rfl (by kernel_rfl)) rfl ?_
  exact ⟨rfl, ((Below.refl _ _).alloc (Nat.le_refl _) _).alloc (by simp) _⟩
theorem wp_assign {P : Program} {o : Oper} {a : Act} {w : World} {K : Act → World → Prop} {Q : Exit → Act → World → Prop} (x : Operand) (v : Value) (ho : o.op = .assign x) (hv : a.eval x = v) (h : K (a.put o.dst v) w) : o.wp P a w K Q := by
  unfold Oper.wp execOp
  simp only [ho, hv, Sem.run_pure, Oper.upon]
  exact h
theorem Cl.set {W0 w : World} (h : Cl W0 w) {g : Nat} (hg : W0.heap.size ≤ g) (cs : Array Value) : Cl W0 (w.setRow g cs) := Cl.of (below_setRow h.le hg _)
def knM : Mlt := ⟨1000, fun _ => 10000⟩
def knS : Stp := ⟨1, 100, fun j => if j % 2 = 0 then 3000 else 4000⟩
def knL : List Stp := [knS, knS]
theorem kn_ck : ckF knM knL = 0 := by decide +kernel
theorem kn_fz : fzK knL knL.length = 2 := by decide +kernel
theorem kn_v1 : prS knM knL 0 1 = 300 ∧ prS knM knL 0 2 = 400 ∧ prS knM knL 1 1 = 320 ∧ prS knM knL 1 2 = 432 := by decide +kernel
theorem kn_r1 : prR knM knL 1 = 800 := by decide +kernel
def knF : Rng := ⟨0, 0⟩
def knC : Rng := ⟨3500, 3500⟩
def knT : Rng := ⟨0, 1750000⟩
theorem kn_ok : rfOk knM knF knC knT 0 = 0 := by decide +kernel
theorem kn_b : Both knM knF knC knT 0 1000 := ⟨by decide +kernel, by decide +kernel⟩
theorem kn_n {n : Nat} (h : Both knM knF knC knT 0 n) : 1000 ≤ n := by
  have h1 : (if (false : Bool) then decide (mxR (mxs knM knF knC knT 0 0) n ≤ mxL (mxs knM knF knC knT 0 0) n) else decide (mxL (mxs knM knF knC knT 0 0) n ≤ mxR (mxs knM knF knC knT 0 0) n)) = true := h.1
  simp only [Bool.false_eq_true, if_false, decide_eq_true_eq] at h1
  have h2 : (1000000 * 10000 + 0 * n) * 3500 ≤ 10000 * 1750000 * (1000 + n) := h1
  omega
theorem kn_rd {w : World} {b : Nat} {t : TypeId} (h : w.heap[b]? = some (.cells #[.int .u8 1, I 100, I 3000, I 4000, I 3000, I 4000, I 3000, I 4000, .int .u8 1, I 100, I 3000, I 4000, I 3000, I 4000, I 3000, I 4000] t (0, 0))) : Rd w w.heap.size 8 (some ⟨b, 0, none⟩) 2 (rT knL) := fun _ => by
  refine ⟨b, 0, rfl, (Array.getElem?_eq_some_iff.1 h).1, fun k hk j hj => ?_⟩
  rw [cell_of_row _ _ _ _ _ _ h]
  match k, hk with
  | 0, _ => match j, hj with | 0, _ => rfl | 1, _ => rfl | 2, _ => rfl | 3, _ => rfl | 4, _ => rfl | 5, _ => rfl | 6, _ => rfl | 7, _ => rfl
  | 1, _ => match j, hj with | 0, _ => rfl | 1, _ => rfl | 2, _ => rfl | 3, _ => rfl | 4, _ => rfl | 5, _ => rfl | 6, _ => rfl | 7, _ => rfl
set_option maxRecDepth 100000 in
set_option maxHeartbeats 4000000 in
theorem known_any (w : World) (hG : Glob w) : Calls Tryd.prog 12 #[] w fun e w' => e = .returned (.bool true) ∧ Below w.heap.size w w' := by
  have HG := Lib.hid hG
  clear hG
  go_enter Tryd.func12, Tryd.ntmps12
  go_upto_region 3 with (fail)
  refine name_w fun W hW => ?_
  have hb0 : Below w.heap.size w W := by rw [hW]; exact ((Below.refl _ _).alloc (Nat.le_refl _) _).alloc (by simp) _
  have r1 : W.heap[w.heap.size + 1]? = some (.cells #[I 3000, I 4000, I 3000, I 4000, I 3000, I 4000] 25 (0, 0)) := by rw [hW]; exact heap_last _ _ _ (by simp)
  have y := fun k (v : Value) (h : (#[I 3000, I 4000, I 3000, I 4000, I 3000, I 4000] : Array Value)[k]? = some v) => ovr_cell (show W.cell? ⟨w.heap.size + 1, k, none⟩ = some v by rw [cell_of_row _ _ _ _ _ _ r1]; exact h)
  have y0 := y 0 _ rfl
  have y1 := y 1 _ rfl
  have y2 := y 2 _ rfl
  have y3 := y 3 _ rfl
  have y4 := y 4 _ rfl
  have y5 := y 5 _ rfl
  have Hb0 := Lib.hid hb0
  have sW := hb0.size
  clear y hW hb0 r1
  refine wp_region_make_two (fun j => if j = 0 then some (fun u _ => u = .agg (mltArr knM)) else if j = 5 then some (SlAt W #[.int .u8 1, I 100, I 3000, I 4000, I 3000, I 4000, I 3000, I 4000, .int .u8 1, I 100, I 3000, I 4000, I 3000, I 4000, I 3000, I 4000] 58 2) else if j = 6 then some (PrdF knM knL) else if j = 10 then some (NewAt W (runArr (.slice none 0 0) fun _ => 0) 35) else none) [9] (by kernel_rfl) (by kernel_rfl) (by kernel_rfl) (by kernel_rfl) (by kernel_rfl) (by intro i hi; simp at hi; subst hi; rfl) ⟨rfl, rfl⟩ (fun c a d v w h => by cases d <;> exact h) ?_
  simp only [sleepTwo_cons, sleepTwo_two]
  refine wpG_make (fun u _ => u = .agg (mltArr knM)) rfl rfl (fun w' hw' _ => ?_) (fun u hu => ?_)
  · go_simp
    exact call_grow (full_any w')
  obtain ⟨_, _, rfl⟩ := hu
  simp only [Act.put, List.setIfInBounds_toArray, List.set_cons_zero, List.set_cons_succ]
  repeat (refine wpG_one rfl rfl rfl ?_; intro K hK; go_big_quiet_op; go_big_quiet_on)
  refine wpG_make (SlAt W #[.int .u8 1, I 100, I 3000, I 4000, I 3000, I 4000, I 3000, I 4000, .int .u8 1, I 100, I 3000, I 4000, I 3000, I 4000, I 3000, I 4000] 58 2) rfl rfl (fun w' hw' _ => ?_) (fun u hu => ?_)
  · unfold Oper.grows
    go_simp
    exact slat_grow hw'
  obtain ⟨_, _, sb, rfl, _, _⟩ := hu
  simp only [Act.put, List.setIfInBounds_toArray, List.set_cons_zero, List.set_cons_succ]
  refine wpG_make (PrdF knM knL) rfl rfl (fun w' hw' hk => ?_) (fun u hu => ?_)
  · obtain ⟨b', he, hr, _⟩ := (hk ⟨5, .data⟩ (by simp) rfl _ _ _ rfl rfl rfl (by simp) rfl).now
    obtain rfl : sb = b' := by simp at he; first | exact he | exact he.1
    go_simp
    exact predict_grow knM _ _ knL w' (HG.out.below (Hb0.out.trans (hw'.le.mono sW))) (kn_rd hr) (by decide +kernel) (by decide)
  obtain ⟨_, _, hu⟩ := hu
  rcases hu with ⟨h0, _⟩ | ⟨_, S, d, rfl, hd1, hd2, _⟩
  · exact absurd kn_ck h0
  rw [kn_fz] at hd1 ⊢
  simp only [Act.put, List.setIfInBounds_toArray, List.set_cons_zero, List.set_cons_succ]
  repeat (refine wpG_one rfl rfl rfl ?_; intro K hK; go_big_quiet_op; go_big_quiet_on)
  refine wpG_make (NewAt W (runArr (.slice none 0 0) fun _ => 0) 35) rfl rfl (fun w' hw' _ => ?_) (fun u hu => ?_)
  · go_simp
    exact new_grow hw'
  obtain ⟨_, _, xb, rfl, _, hxb⟩ := hu
  simp only [Act.put, List.setIfInBounds_toArray, List.set_cons_zero, List.set_cons_succ]
  repeat (refine wpG_one rfl rfl rfl ?_; intro K hK; go_big_quiet_op; go_big_quiet_on)
  refine wpG_nil (fun w5 hw5 hG5 => ?_)
  have hx5 := (Box.now hG5.2).at.1
  have hP := (Box.now hG5.1.2).sl kn_ck
  clear hG5
  intro s t hs ht
  obtain rfl := Option.some.inj hs
  obtain rfl := Option.some.inj ht
  clear hs ht
  refine wp_store_row 35 _ _ rfl xb rfl _ _ hx5 (runArr (.slice S 2 d) (prR knM knL)) rfl (run_one rfl) rfl (by kernel_rfl) ?_
  refine ⟨hw5.set hxb _, ?_⟩
  refine wp_assign _ (I 0) rfl rfl ?_
  refine ⟨hw5.set hxb _, ?_⟩
  simp only [Act.put, List.setIfInBounds_toArray, List.set_cons_zero, List.set_cons_succ]
  obtain ⟨Z, hZ⟩ : ∃ Z, Z = w5.setRow xb (runArr (.slice S 2 d) (prR knM knL)) := ⟨_, rfl⟩
  have rZ : Z.heap[xb]? = some (.cells (runArr (.slice S 2 d) (prR knM knL)) 35 (0, 0)) := by rw [hZ]; exact setRow_same hx5
  have bZ : Below w.heap.size w Z := by rw [hZ]; exact below_setRow (Hb0.out.trans (hw5.le.mono sW)) (by omega) _
  have sZ : SlIn 0 Z (.slice S 2 d) 2 (prS knM knL) := by
    rw [hZ]
    rcases hP.2 with h | ⟨b, c, cs, h0, _, h2, h3⟩
    · cases h
    · refine .inr ⟨b, c, cs, h0, Nat.zero_le _, ?_, h3⟩
      rw [setRow_other]
      · exact h2
      · rintro rfl
        rw [hx5] at h2
        injection h2 with h2
        injection h2 with _ ht _
        exact absurd ht (by decide)
  obtain ⟨b, o, rfl, _, hc⟩ := sZ.rd (by omega)
  obtain ⟨v1, v2, v3, v4⟩ := kn_v1
  have c1 : Z.cell? ⟨b, o + 1, none⟩ = some (I 300) := by rw [← v1]; exact hc 0 (by omega) 1 (by omega)
  have c2 : Z.cell? ⟨b, o + 1 + 1, none⟩ = some (I 400) := by rw [← v2]; exact hc 0 (by omega) 2 (by omega)
  have c3 : Z.cell? ⟨b, o + 7 + 1, none⟩ = some (I 320) := by rw [← v3]; exact hc 1 (by omega) 1 (by omega)
  have c4 : Z.cell? ⟨b, o + 7 + 1 + 1, none⟩ = some (I 432) := by rw [← v4]; exact hc 1 (by omega) 2 (by omega)
  have c5 : Z.cell? ⟨xb, 0, none⟩ = some (.slice (some ⟨b, o, none⟩) 2 d) := by rw [cell_of_row _ _ _ _ _ _ rZ]; rfl
  have c6 : Z.cell? ⟨xb, 1, none⟩ = some (I 800) := by rw [cell_of_row _ _ _ _ _ _ rZ, ← kn_r1]; rfl
  have HZ := Lib.hid bZ
  rw [← hZ]
  clear hZ rZ bZ sZ hP hx5 hw5 hxb y0 y1 y2 y3 y4 y5 hc
  go_wp2_with fail
  refine (full_any Z).mono ?_
  rintro e w6 ⟨rfl, hb6⟩
  have H6 : Hid (Below w.heap.size w w6) := HZ.out.trans (hb6.mono HZ.out.size)
  clear hb6 c1 c2 c3 c4 c5 c6
  go_wp2_with fail
  refine (refill_any knM knF knC knT 0 w6).mono ?_
  rintro e w7 ⟨hb7, h7⟩
  have H7 : Hid (Below w.heap.size w w7) := H6.out.trans (hb7.mono H6.out.size)
  clear hb7
  rcases h7 with ⟨h0, _⟩ | ⟨_, n, er, rfl, h⟩
  · exact absurd kn_ok h0
  have hn : n = 1000 ∧ er = 0 := by
    rcases h with ⟨_, _, h⟩ | ⟨h0, h1, h2, h3, h4⟩
    · exact absurd kn_b (h 1000 (by decide) (by decide))
    · refine ⟨?_, h0⟩
      have h5 := kn_n h3
      rcases Nat.lt_or_ge 1000 n with h6 | h6
      · exact absurd kn_b (h4 1000 (by decide) h6)
      · omega
  obtain ⟨rfl, rfl⟩ := hn
  clear h
  go_wp2_with fail
  go_ret
  exact ⟨rfl, H7.out⟩
end Go.Proofs.YtfifdfagikbahaaDoor
