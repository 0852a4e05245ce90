/- DefectWindowHolds: zones, hasRate, fits, bare. -/
import Derived.Test.YteibgenkklpoaaaDn2
import Derived.Test.YteibgenkklpoaaaDt2
import Derived.Test.YteibgenkklpoaaaRo
import Derived.Test.YteibgenkklpoaaaDl
namespace Go.Proofs.Yteibgenkklpoaaa.Un
open Go.RowKit
theorem run_app_big {P : Program} (w : World) (t ty e : TypeId) (i : TypeInfo) (z : Value) (sz bytes : Nat) (ht : P.underlying t = some (.slice e)) (hi : P.info? e = some i) (hz : i.zero = some z) (hsz : i.size = sz) (hby : i.bytes = bytes) (hzs : z.cells.size = sz) (h0 : 0 < sz)
    (b : Nat) (A : Option Addr) (n c : Nat) (g : Nat → Nat → Value) (hr : Rd w w.heap.size sz A n g) (hn : n ≤ maxLen) (hb : n * bytes ≤ 140737488355328) :
    ∃ A' c' w', (Builtin.append_ #[t, t] ty #[.slice (some ⟨b, 0, none⟩) 0 0, .slice A n c]).run P w = .ok (.slice A' n c') w' ∧ Below w.heap.size w w' ∧ n ≤ c' ∧ c' ≤ maxLen ∧ Rd w' w'.heap.size sz A' n g := by
  by_cases hn0 : n = 0
  · subst hn0
    refine ⟨some ⟨b, 0, none⟩, 0, w, ?_, Below.refl _ _, Nat.le_refl _, by unfold maxLen; omega, Rd.nil⟩
    cases A <;> simp [go_sem, Builtin.append_, run_underlying ht, sizeOf, typeInfo, hi, Builtin.lenOf, Builtin.firstCells, storeCells]
  · obtain ⟨b2, o2, hA, _, hc⟩ := hr (by omega)
    subst hA
    obtain ⟨v', w', hrun, hown, hgr⟩ := run_append_arg_grows (P := P) w t ty e i z sz bytes ht hi hz hsz hby hzs h0 ⟨b, 0, none⟩ 0 0 [] (by simp) (fun j u hu => by simp at hu) ⟨b2, o2, none⟩ n c (flat sz g n) (flat_len _ _ _) (Rd.flat_at hc h0) (by omega) (by omega) (by rw [Nat.zero_add]; exact hb)
    rw [Nat.zero_add, List.nil_append] at hown
    obtain ⟨A', c', hv, hnc, hcm, hrd⟩ := Rd.of_own_max hown
    subst hv
    exact ⟨A', c', w', hrun, (Below.refl _ _).grown hgr (Nat.le_refl _) (fun g hg => by cases hg), hnc, hcm, hrd⟩
theorem wpList_app_big {P : Program} {ops : Array Oper} {rest : List Oper} {o : Oper} {a : Act} {w : World} {Q : Exit → Act → World → Prop} (hg : o.guard = none) (s x : Operand) (t : TypeId) (ho : o.op = .call { callee := .builtin .append, args := #[s, x], argTypes := #[t, t] })
    (e : TypeId) (i : TypeInfo) (z : Value) (sz bytes : Nat) (ht : P.underlying t = some (.slice e)) (hi : P.info? e = some i) (hz : i.zero = some z) (hsz : i.size = sz) (hby : i.bytes = bytes) (hzs : z.cells.size = sz) (h0 : 0 < sz)
    (b : Nat) (hs : a.eval s = .slice (some ⟨b, 0, none⟩) 0 0) (A : Option Addr) (n c : Nat) (hx : a.eval x = .slice A n c) (g : Nat → Nat → Value) (hr : Rd w w.heap.size sz A n g) (hn : n ≤ maxLen) (hb : n * bytes ≤ 140737488355328)
    (hK : ∀ A' c' w', n ≤ c' → c' ≤ maxLen → Rd w' w'.heap.size sz A' n g → Below w.heap.size w w' → wpList P ops Q rest (a.put o.dst (.slice A' n c')) w') : wpList P ops Q (o :: rest) a w := by
  refine wpList_plain hg fun K hK' => ?_
  obtain ⟨A', c', w', hrun, h1, h2, h3, h4⟩ := run_app_big (P := P) w t o.type e i z sz bytes ht hi hz hsz hby hzs h0 b A n c g hr hn hb
  unfold Oper.wp
  simp [execOp, ho, resolve, invoke, builtin, hs, hx, hrun, Result.andThen]
  exact hK' _ _ (hK A' c' w' h2 h3 h4 h1)
/-- A list that fits in the memory. -/
structure Fits (n : Nat) : Prop where
  a : n ≤ maxLen
  b : n * 16 ≤ 140737488355328
set_option maxRecDepth 100000 in
theorem zones_any (A : Option Addr) (n c : Nat) (g : Nat → Nat → Value) (w : World) (B : Nat) (hn : Fits n) (hB : B ≤ w.heap.size) (hx : Rd w B 2 A n g) : Calls Try.prog 21 #[.slice A n c] w (RetLc w 2 n g) := by
  obtain ⟨i0, hi0, iz0, iz1, iz2⟩ := info_parts rng_info5
  have HX := Lib.hid hx
  have HB := Lib.hid hB
  have HN := Lib.hid hn
  clear hx hB hn
  go_enter Try.func21, Try.ntmps21
  go_wp2_with (at_builtin; go_loud (refine wpList_app_big rfl _ _ 41 rfl 23 i0 _ 2 16 Try.underlying41 hi0 iz0 iz1 iz2 rfl (by decide) _ rfl A n c rfl g ?hr ?hn ?hb ?_))
  case hr => exact (HX.out.alloc HB.out _).more (by have := HB.out; simp; omega)
  case hn => exact HN.out.a
  case hb => exact HN.out.b
  intro A' c' w' h1 h2 h3 h4
  have H4 : Hid (Below w.heap.size w w') := ((Below.refl _ _).alloc (Nat.le_refl _) _).trans (h4.mono (by omega))
  clear h4
  go_wp2_with fail
  go_ret
  exact ⟨A', c', rfl, h1, h2, h3, H4.out⟩
def hasB (l : List Rng) (v : Int) : Bool := l.any fun r => decide (r.lo ≤ v) && decide (v ≤ r.hi)
theorem hasB_iff {l : List Rng} {v : Int} : hasB l v = true ↔ inL l v := by
  unfold hasB inL inR
  simp only [List.any_eq_true, Bool.and_eq_true, decide_eq_true_eq]
set_option maxRecDepth 100000 in
set_option maxHeartbeats 2000000 in
theorem hasRate_any (A : Option Addr) (c : Nat) (l : List Rng) (v : Int) (w : World) (B : Nat) (hl : l.length ≤ 1000) (hB : B ≤ w.heap.size) (hx : Rd w B 2 A l.length (rR l)) :
    Calls Try.prog 24 #[.slice A l.length c, I v] w fun e w' => e = .returned (.bool (hasB l v)) ∧ Below w.heap.size w w' := by
  have HX : Hid (∀ u, Rd (ovr w u) B 2 A l.length (rR l)) := fun u => hx.below ((ovr_below w u).mono hB)
  have HL := Lib.hid hl
  clear hx hB hl
  obtain ⟨u0, hu0⟩ := ovr_self w
  have H0 := Lib.hid hu0
  clear hu0
  go_enter Try.func24, Try.ntmps24
  go_wp2_with fail
  go_loopw [5] (fun i wr => ∃ (n : Nat) (u : World), n ≤ l.length ∧ i = .int .i64 n ∧ wr = ovr w u ∧ ∀ j, j < n → (decide ((at0 l j).lo ≤ v) && decide (v ≤ (at0 l j).hi)) = false) (fun i _ => l.length - (intOf i).toNat)
  case atStart => exact ⟨0, u0, by omega, rfl, H0.out, fun j hj => absurd hj (by omega)⟩
  case round =>
    obtain ⟨n, u, hnl, rfl, rfl, hall⟩ := hrel
    have HALL := Lib.hid hall
    clear hall
    have hn20 : n ≤ 1000 := by have := HL.out; omega
    by_cases hlt : n < l.length
    · have HLT := Lib.hid hlt
      obtain ⟨b, o, rfl, _, e0, e1⟩ := (HX.out u).rng hlt
      obtain ⟨⟨ra, rb⟩, hr⟩ : ∃ r, at0 l n = r := ⟨_, rfl⟩
      have HR := Lib.hid hr
      rw [hr] at e0 e1
      clear hr
      by_cases hin : ra ≤ v ∧ v ≤ rb
      · have hf : Hid (hasB l v = true) := hasB_iff.2 ⟨at0 l n, by rw [at0_get hlt]; exact List.getElem_mem hlt, by rw [HR.out]; exact hin⟩
        have d1 := decide_eq_true hin.1
        have d2 := decide_eq_true hin.2
        clear hin
        go_wp2_with fail
        go_ret
        exact ⟨by rw [hf.out]; rfl, ovr_below _ _⟩
      · have hq : Hid (∀ j, j < n + 1 → (decide ((at0 l j).lo ≤ v) && decide (v ≤ (at0 l j).hi)) = false) := fun j hj => by
          by_cases hjn : j = n
          · rw [hjn, HR.out, ← Bool.decide_and]
            exact decide_eq_false hin
          · exact HALL.out j (by omega)
        by_cases hlo : ra ≤ v
        · have d1 := decide_eq_true hlo
          have d2 : decide (v ≤ rb) = false := decide_eq_false (fun h => hin ⟨hlo, h⟩)
          clear hin hlo
          go_wp2_with fail
          exact ⟨⟨n + 1, u, HLT.out, rfl, rfl, hq.out⟩, by have := HLT.out; simp [intOf]; omega⟩
        · have d1 := decide_eq_false hlo
          clear hin hlo
          go_wp2_with fail
          exact ⟨⟨n + 1, u, HLT.out, rfl, rfl, hq.out⟩, by have := HLT.out; simp [intOf]; omega⟩
    · have hnn : n = l.length := by omega
      subst hnn
      have hf : Hid (hasB l v = false) := by
        show _ = _
        unfold hasB
        rw [List.any_eq_false]
        intro x hx
        obtain ⟨j, hj, rfl⟩ := at0_mem hx
        rw [HALL.out j hj]
        decide
      go_wp2_with fail
      go_ret
      exact ⟨by rw [hf.out]; rfl, ovr_below _ _⟩
set_option maxRecDepth 100000 in
theorem fitsR_any (r : Rng) (lo hi : Int) (w : World) (h1 : lo ≤ r.lo) (h2 : r.lo ≤ r.hi) (h3 : r.hi ≤ hi) : Calls Try.prog 26 #[r.val, I lo, I hi] w fun e w' => e = .returned (.bool true) ∧ Below w.heap.size w w' := by
  obtain ⟨a, b⟩ := r
  obtain ⟨W, hW⟩ : ∃ W, W = (w.alloc (.cells #[I a, I b] 23)) := ⟨_, rfl⟩
  have rowW0 : W.heap[w.heap.size]? = some (.cells #[I a, I b] 23 (0, 0)) := by rw [hW]; exact heap_last _ _ _ rfl
  have yW00 := ovr_cell (W := W) (b := w.heap.size) (o := 0) (v := I a) (by rw [cell_of_row _ _ _ _ _ _ rowW0]; rfl)
  have yW01 := ovr_cell (W := W) (b := w.heap.size) (o := 1) (v := I b) (by rw [cell_of_row _ _ _ _ _ _ rowW0]; rfl)
  have RrowW0 := Lib.hid (ovr_row rowW0)
  clear rowW0
  have HUW : Hid (∀ u, Below w.heap.size w (ovr W u)) := U1 hW
  have HW := Lib.hid hW
  clear hW
  have d1 : decide (lo ≤ a) = true := decide_eq_true h1
  have d2 : decide (a ≤ b) = true := decide_eq_true h2
  have d3 : decide (b ≤ hi) = true := decide_eq_true h3
  clear h1 h2 h3
  go_enter Try.func26, Try.ntmps26
  go_upto_region 1 with (fail)
  rw [← HW.out]
  obtain ⟨u0, hu0⟩ := ovr_self W
  rw [hu0]
  clear hu0
  go_wp2_with fail
  go_ret
  exact ⟨rfl, HUW.out _⟩
/-- A slice that reads as g. -/
def SlK (sz n : Nat) (g : Nat → Nat → Value) (u : Value) (w : World) : Prop := ∃ A c, u = .slice A n c ∧ n ≤ c ∧ c ≤ maxLen ∧ Rd w w.heap.size sz A n g
theorem own_growK {P : Program} {f : FuncId} {args : Array Value} {w : World} {sz n : Nat} {g : Nat → Nat → Value} (h : Calls P f args w (RetLc w sz n g)) : Calls P f args w fun e w' => ∃ u, e = .returned u ∧ Le w w' ∧ Box (SlK sz n g) u w' :=
  h.mono fun _ _ ⟨A, c, he, h1, h2, hr, hb⟩ => ⟨_, he, hb, fun _ hl => ⟨A, c, rfl, h1, h2, (hr.below hl).more hl.size⟩⟩
def whyQ : Option (Nat × Nat) → Int × Int
  | some (i, k) => (i, k)
  | none => (-1, 0)
theorem whyT_Q (q : Option (Nat × Nat)) : whyT q = .tuple #[I (whyQ q).1, I (whyQ q).2, I 0] := by
  rcases q with _ | ⟨i, k⟩ <;> rfl
def barB (q : Option (Nat × Nat)) : Bool := (whyQ q).1 == -1
theorem barB_iff {q : Option (Nat × Nat)} : barB q = true ↔ q = none := by
  rcases q with _ | ⟨i, k⟩
  · exact ⟨fun _ => rfl, fun _ => rfl⟩
  · refine ⟨fun h => ?_, fun h => (by cases h)⟩
    unfold barB whyQ at h
    rw [beq_iff_eq] at h
    simp only at h
    omega
theorem whyF_in {m : Mdl} {zs : List Rng} {u v : Int} (hck : ckF m zs u = 0) (hv : 0 ≤ v ∧ v ≤ 1000000) : whyF m zs u v = .tuple #[I (whyQ (whyL m u v zs)).1, I (whyQ (whyL m u v zs)).2, I 0] := by
  unfold whyF
  rw [if_neg (by omega), if_neg (by omega), whyT_Q]
set_option maxRecDepth 100000 in
set_option maxHeartbeats 4000000 in
theorem bare_any (m : Mdl) (A : Option Addr) (c : Nat) (zs : List Rng) (u rt v : Int) (w : World) (B : Nat) (hn : Fits zs.length) (hB : B ≤ w.heap.size) (hx : Rd w B 2 A zs.length (rR zs)) (hck : ckF m zs u = 0) (hv : 0 ≤ v ∧ v ≤ 1000000) :
    Calls Try.prog 27 #[.agg (mdA m), .agg #[.slice A zs.length c, .int .u8 u, I rt], I v] w fun e w' => e = .returned (.bool (barB (whyL m u v zs))) ∧ Below w.heap.size w w' := by
  have HX : Hid (∀ V, Below w.heap.size w V → Rd V B 2 A zs.length (rR zs)) := fun V hV => hx.below (hV.mono hB)
  have HB := Lib.hid hB
  obtain ⟨⟨i, k⟩, hq⟩ : ∃ q, whyQ (whyL m u v zs) = q := ⟨_, rfl⟩
  have CZ : Hid (∀ V, Below w.heap.size w V → Calls Try.prog 21 #[.slice A zs.length c] V (RetLc V 2 zs.length (rR zs))) := fun V hV => zones_any A zs.length c (rR zs) V B hn (Nat.le_trans hB hV.size) (hx.below (hV.mono hB))
  have CW : Hid (∀ V A' c', Rd V V.heap.size 2 A' zs.length (rR zs) → Calls Try.prog 23 #[.agg (mdA m), .slice A' zs.length c', .int .u8 u, I v] V fun e w' => e = .returned (.tuple #[I i, I k, I 0]) ∧ Below V.heap.size V w') := fun V A' c' h => by
    have := why_any m A' c' zs u v V V.heap.size hn.a (Nat.le_refl _) h
    rw [whyF_in hck hv, hq] at this
    exact this
  have HF : Hid (barB (whyL m u v zs) = (i == -1)) := by show _ = _; unfold barB; rw [hq]
  clear hx hB hq hck hv hn
  obtain ⟨W, hW⟩ : ∃ W, W = ((w.alloc (.cells #[I m.sc, I (m.b 0).lo, I (m.b 0).hi, I (m.b 1).lo, I (m.b 1).hi, I (m.b 2).lo, I (m.b 2).hi, I (m.b 3).lo, I (m.b 3).hi] 26)).alloc (.cells #[.slice A zs.length c, .int .u8 u, I rt] 43)) := ⟨_, rfl⟩
  have rowW0 : W.heap[w.heap.size]? = some (.cells #[I m.sc, I (m.b 0).lo, I (m.b 0).hi, I (m.b 1).lo, I (m.b 1).hi, I (m.b 2).lo, I (m.b 2).hi, I (m.b 3).lo, I (m.b 3).hi] 26 (0, 0)) := by rw [hW]; exact heap_before (heap_last _ _ _ rfl)
  have yW00 := ovr_cell (W := W) (b := w.heap.size) (o := 0) (v := I m.sc) (by rw [cell_of_row _ _ _ _ _ _ rowW0]; rfl)
  have yW01 := ovr_cell (W := W) (b := w.heap.size) (o := 1) (v := I (m.b 0).lo) (by rw [cell_of_row _ _ _ _ _ _ rowW0]; rfl)
  have yW02 := ovr_cell (W := W) (b := w.heap.size) (o := 2) (v := I (m.b 0).hi) (by rw [cell_of_row _ _ _ _ _ _ rowW0]; rfl)
  have yW03 := ovr_cell (W := W) (b := w.heap.size) (o := 3) (v := I (m.b 1).lo) (by rw [cell_of_row _ _ _ _ _ _ rowW0]; rfl)
  have yW04 := ovr_cell (W := W) (b := w.heap.size) (o := 4) (v := I (m.b 1).hi) (by rw [cell_of_row _ _ _ _ _ _ rowW0]; rfl)
  have yW05 := ovr_cell (W := W) (b := w.heap.size) (o := 5) (v := I (m.b 2).lo) (by rw [cell_of_row _ _ _ _ _ _ rowW0]; rfl)
  have yW06 := ovr_cell (W := W) (b := w.heap.size) (o := 6) (v := I (m.b 2).hi) (by rw [cell_of_row _ _ _ _ _ _ rowW0]; rfl)
  have yW07 := ovr_cell (W := W) (b := w.heap.size) (o := 7) (v := I (m.b 3).lo) (by rw [cell_of_row _ _ _ _ _ _ rowW0]; rfl)
  have yW08 := ovr_cell (W := W) (b := w.heap.size) (o := 8) (v := I (m.b 3).hi) (by rw [cell_of_row _ _ _ _ _ _ rowW0]; rfl)
  have RrowW0 := Lib.hid (ovr_row rowW0)
  clear rowW0
  have rowW1 : W.heap[w.heap.size + 1]? = some (.cells #[.slice A zs.length c, .int .u8 u, I rt] 43 (0, 0)) := by rw [hW]; exact heap_last _ _ _ (by simp)
  have yW10 := ovr_cell (W := W) (b := w.heap.size + 1) (o := 0) (v := .slice A zs.length c) (by rw [cell_of_row _ _ _ _ _ _ rowW1]; rfl)
  have yW11 := ovr_cell (W := W) (b := w.heap.size + 1) (o := 1) (v := .int .u8 u) (by rw [cell_of_row _ _ _ _ _ _ rowW1]; rfl)
  have yW12 := ovr_cell (W := W) (b := w.heap.size + 1) (o := 2) (v := I rt) (by rw [cell_of_row _ _ _ _ _ _ rowW1]; rfl)
  have RrowW1 := Lib.hid (ovr_row rowW1)
  clear rowW1
  have HUW : Hid (∀ u, Below w.heap.size w (ovr W u)) := U2 hW
  have HW := Lib.hid hW
  clear hW
  go_enter Try.func27, Try.ntmps27
  go_upto_region 1 with (fail)
  rw [← HW.out]
  obtain ⟨u0, hu0⟩ := ovr_self W
  rw [hu0]
  clear hu0
  have hbY := ovr_below W u0
  obtain ⟨Y, hY⟩ : ∃ Y, Y = ovr W u0 := ⟨_, rfl⟩
  rw [← hY] at hbY
  rw [← hY]
  have hY' := Lib.hid hY
  clear hY
  have hbY' := Lib.hid hbY
  have reY : ∀ v, ∃ x, ovr Y v = ovr W x := fun v => ovr_reB hbY v
  replace yW00 := tr_cell reY yW00
  replace yW01 := tr_cell reY yW01
  replace yW02 := tr_cell reY yW02
  replace yW03 := tr_cell reY yW03
  replace yW04 := tr_cell reY yW04
  replace yW05 := tr_cell reY yW05
  replace yW06 := tr_cell reY yW06
  replace yW07 := tr_cell reY yW07
  replace yW08 := tr_cell reY yW08
  replace RrowW0 := Lib.hid (tr_row reY RrowW0.out)
  replace yW10 := tr_cell reY yW10
  replace yW11 := tr_cell reY yW11
  replace yW12 := tr_cell reY yW12
  replace RrowW1 := Lib.hid (tr_row reY RrowW1.out)
  have HUY : Hid (∀ u, Below w.heap.size w (ovr Y u)) := fun u => by obtain ⟨x, hx⟩ := reY u; rw [hx]; exact HUW.out x
  clear reY hbY
  refine Dl.wp_region_late 12 [10, 11] (fun j => if j = 3 then some (SlK 2 zs.length (rR zs)) else if j = 7 then some (fun u _ => u = .tuple #[I i, I k, I 0]) else none) (by kernel_rfl) (by kernel_rfl) (by kernel_rfl) (by kernel_rfl) [] (E := 23)
    ⟨by kernel_rfl, alloc_rng, fun j hj => by cases hj⟩ (by kernel_rfl) (fun i hi => by simp only [List.mem_cons, List.not_mem_nil, or_false] at hi; rcases hi with rfl | rfl <;> rfl) (fun c a d v w h => by cases d <;> exact h) ?_
  simp only [List.take_succ_cons, List.take_zero, List.drop_succ_cons, List.drop_zero]
  repeat (refine Dk.wpG_one rfl rfl rfl ?_; intro K hK; go_big_quiet_op; go_big_quiet_on)
  refine Dk.wpG_make (SlK 2 zs.length (rR zs)) rfl rfl (fun w' hw' _ => ?_) (fun u hu => ?_)
  · obtain ⟨x, rfl⟩ := hw'
    go_simp
    exact own_growK (CZ.out _ (HUY.out x))
  obtain ⟨_, _, A2, c2, rfl, _, _, _⟩ := hu
  simp only [Act.put, List.setIfInBounds_toArray, List.set_cons_zero, List.set_cons_succ]
  repeat (refine Dk.wpG_one rfl rfl rfl ?_; intro K hK; go_big_quiet_op; go_big_quiet_on)
  refine Dk.wpG_make (fun u _ => u = .tuple #[I i, I k, I 0]) rfl rfl (fun w' hw' hk => ?_) (fun u hu => ?_)
  · have hk2 := hk ⟨3, .data⟩ (by simp) rfl _ 14 _ rfl rfl rfl (Nat.lt_of_lt_of_eq (by decide : 14 < 28) rfl) rfl
    obtain ⟨A3, c3, he, _, _, hr⟩ := hk2.now
    obtain ⟨rfl, rfl⟩ : A2 = A3 ∧ c2 = c3 := by
      injection he with e1 e2 e3
      exact ⟨e1, e3⟩
    go_simp
    exact call_grow (CW.out w' A2 c2 hr)
  obtain ⟨_, _, rfl⟩ := hu
  simp only [Act.put, List.setIfInBounds_toArray, List.set_cons_zero, List.set_cons_succ]
  repeat (refine Dk.wpG_one rfl rfl rfl ?_; intro K hK; go_big_quiet_op; go_big_quiet_on)
  refine Dk.wpG_nil (fun w5 hw5 _ => ?_)
  refine Dl.wpTailH_cons (wp_assign _ (I i) rfl rfl ⟨hw5, ?_⟩)
  refine Dl.wpTailH_cons (wp_assign _ (I k) rfl rfl ⟨hw5, ?_⟩)
  refine Dl.wpTailH_cons (wp_assign _ (I 0) rfl rfl ⟨hw5, ?_⟩)
  refine Dl.wpTailH_nil ?_
  simp only [Act.put]
  obtain ⟨x5, rfl⟩ := hw5
  have hbf := Lib.hid (HUY.out x5)
  go_wp2_with fail
  go_ret
  exact ⟨by rw [HF.out]; rfl, hbf.out⟩
def WdT (m : Mdl) (zs : List Rng) (u : Int) (V : Value) (w : World) : Prop := ∃ A c l, V = .tuple #[.slice A l.length c, I (ckF m zs u)] ∧ WinR m zs u l ∧ Rd w w.heap.size 2 A l.length (rR l)
theorem win_T {w w' : World} {m : Mdl} {zs : List Rng} {u : Int} {e : Ending} (h : RetW w m zs u e w') : ∃ V, e = .returned V ∧ Below w.heap.size w w' ∧ WdT m zs u V w' := by
  obtain ⟨V, l, he, hw, ho, hb⟩ := h
  obtain ⟨A, c, rfl, _, hrd⟩ := Rd.of_rc rfl ho
  exact ⟨_, he, hb, A, c, l, rfl, hw, hrd⟩
theorem WdT.below {m : Mdl} {zs : List Rng} {u : Int} {V : Value} {w w' : World} (h : WdT m zs u V w) (hb : Below w.heap.size w w') : WdT m zs u V w' := by
  obtain ⟨A, c, l, e, hw, hr⟩ := h
  exact ⟨A, c, l, e, hw, (hr.below hb).more hb.size⟩
theorem win_grow {P : Program} {f : FuncId} {args : Array Value} {w : World} {m : Mdl} {zs : List Rng} {u : Int} (h : Calls P f args w (RetW w m zs u)) : Calls P f args w fun e w' => ∃ V, e = .returned V ∧ Le w w' ∧ Box (WdT m zs u) V w' :=
  h.mono fun _ _ h => by
    obtain ⟨V, he, hb, hw⟩ := win_T h
    exact ⟨V, he, hb, fun _ hl => hw.below hl⟩
theorem WdT.same {m : Mdl} {zs : List Rng} {u : Int} {A : Option Addr} {n c : Nat} {e : Int} {w : World} (h : WdT m zs u (.tuple #[.slice A n c, I e]) w) : ∃ l, n = l.length ∧ WinR m zs u l ∧ Rd w w.heap.size 2 A l.length (rR l) := by
  obtain ⟨A', c', l, he, hw, hr⟩ := h
  injection he with he
  simp at he
  obtain ⟨⟨rfl, h2, _⟩, _⟩ := he
  exact ⟨l, h2, hw, hr⟩
theorem ck_cases (m : Mdl) (zs : List Rng) (u : Int) : ckF m zs u = 0 ∨ ckF m zs u = 2 ∨ ckF m zs u = 5 := by
  unfold ckF
  split
  · split
    · exact .inr (.inr rfl)
    · split
      · exact .inr (.inl rfl)
      · exact .inl rfl
  · exact .inr (.inl rfl)
end Go.Proofs.Yteibgenkklpoaaa.Un
