/- Contracts of the reference's span, Model, Can, Regions, of both Judges. -/
import Derived.Test.YteibgenkklpoaaaGreatDa
namespace Go.Proofs.YteibgenkklpoaaaGreat.Un
open Go.RowKit
set_option maxRecDepth 100000 in
set_option maxHeartbeats 1000000 in
theorem span_any (r : Rng) (l h : Int) (w : World) : Calls Tryz.prog 35 #[r.val, I l, I h] w fun e w' => e = .returned (.bool (spanB r l h)) ∧ Below w.heap.size w w' := by
  obtain ⟨lo, hi⟩ := r
  obtain ⟨W, hW⟩ : ∃ W, W = (w.alloc (.cells #[I lo, I hi] 23)) := ⟨_, rfl⟩
  have rowW0 : W.heap[w.heap.size]? = some (.cells #[I lo, I hi] 23 (0, 0)) := by rw [hW]; exact heap_last _ _ _ rfl
  have yW00 := ovr_cell (W := W) (b := w.heap.size) (o := 0) (v := I lo) (by rw [cell_of_row _ _ _ _ _ _ rowW0]; rfl)
  have yW01 := ovr_cell (W := W) (b := w.heap.size) (o := 1) (v := I hi) (by rw [cell_of_row _ _ _ _ _ _ rowW0]; rfl)
  have RrowW0 := Lib.hid (ovr_row rowW0)
  clear rowW0
  have HUW : Hid (∀ u, Below w.heap.size w (ovr W u)) := U1 hW
  have HW := Lib.hid hW
  clear hW
  have hf : Hid (spanB ⟨lo, hi⟩ l h = (decide (l ≤ lo) && (decide (lo ≤ hi) && decide (hi ≤ h)))) := rfl
  by_cases h1 : l ≤ lo
  case neg =>
    rw [decide_eq_false h1] at hf
    go_enter Tryz.func35, Tryz.ntmps35
    go_upto_region 1 with (fail)
    rw [← HW.out]
    obtain ⟨u0, hu0⟩ := ovr_self W
    rw [hu0]
    clear hu0
    go_wp2_with fail
    go_ret
    exact ⟨by rw [hf.out]; rfl, HUW.out _⟩
  by_cases h2 : lo ≤ hi
  case neg =>
    rw [decide_eq_true h1, decide_eq_false h2] at hf
    go_enter Tryz.func35, Tryz.ntmps35
    go_upto_region 1 with (fail)
    rw [← HW.out]
    obtain ⟨u0, hu0⟩ := ovr_self W
    rw [hu0]
    clear hu0
    go_wp2_with fail
    go_ret
    exact ⟨by rw [hf.out]; rfl, HUW.out _⟩
  by_cases h3 : hi ≤ h
  case neg =>
    rw [decide_eq_true h1, decide_eq_true h2, decide_eq_false h3] at hf
    go_enter Tryz.func35, Tryz.ntmps35
    go_upto_region 1 with (fail)
    rw [← HW.out]
    obtain ⟨u0, hu0⟩ := ovr_self W
    rw [hu0]
    clear hu0
    go_wp2_with fail
    go_ret
    exact ⟨by rw [hf.out]; rfl, HUW.out _⟩
  rw [decide_eq_true h1, decide_eq_true h2, decide_eq_true h3] at hf
  go_enter Tryz.func35, Tryz.ntmps35
  go_upto_region 1 with (fail)
  rw [← HW.out]
  obtain ⟨u0, hu0⟩ := ovr_self W
  rw [hu0]
  clear hu0
  go_wp2_with fail
  go_ret
  exact ⟨by rw [hf.out]; rfl, HUW.out _⟩
set_option maxRecDepth 100000 in
set_option maxHeartbeats 1000000 in
theorem refGrad_any (r : Rng) (w : World) : Calls Tryz.prog 36 #[r.val] w fun e w' => e = .returned (.bool (spanB r 1 1000000)) ∧ Below w.heap.size w w' := by
  obtain ⟨lo, hi⟩ := r
  have c1 := Lib.hid fun W => span_any ⟨lo, hi⟩ 1 1000000 W
  obtain ⟨W, hW⟩ : ∃ W, W = (w.alloc (.cells #[I lo, I hi] 23)) := ⟨_, rfl⟩
  have rowW0 : W.heap[w.heap.size]? = some (.cells #[I lo, I hi] 23 (0, 0)) := by rw [hW]; exact heap_last _ _ _ rfl
  have yW00 := ovr_cell (W := W) (b := w.heap.size) (o := 0) (v := I lo) (by rw [cell_of_row _ _ _ _ _ _ rowW0]; rfl)
  have yW01 := ovr_cell (W := W) (b := w.heap.size) (o := 1) (v := I hi) (by rw [cell_of_row _ _ _ _ _ _ rowW0]; rfl)
  have RrowW0 := Lib.hid (ovr_row rowW0)
  clear rowW0
  have HUW : Hid (∀ u, Below w.heap.size w (ovr W u)) := U1 hW
  have HW := Lib.hid hW
  clear hW
  go_enter Tryz.func36, Tryz.ntmps36
  go_upto_region 1 with (fail)
  rw [← HW.out]
  obtain ⟨u0, hu0⟩ := ovr_self W
  rw [hu0]
  clear hu0
  go_wp2_with fail
  refine (c1.out _).mono ?_
  rintro e w1 ⟨rfl, hb1⟩
  obtain ⟨u1, rfl⟩ := ovr_next hb1
  clear hb1
  go_wp2_with fail
  go_ret
  exact ⟨rfl, HUW.out _⟩
/-- The border asked about by the reference: as bdM, but that the first has none before it. -/
def bdR (m : Mdl) (k : Nat) : Bool := spanB (m.b k) 0 1000000 && !(decide (0 < k) && (decide ((m.b k).lo < (m.b (k - 1)).lo) || decide ((m.b k).hi < (m.b (k - 1)).hi)))
theorem bdR_eq (m : Mdl) (k : Nat) : bdR m k = bdM m k := by
  unfold bdR bdM
  rcases h : spanB (m.b k) 0 1000000 with _ | _
  · rfl
  · have hs := spanB_iff.1 h
    cases k with
    | zero =>
      have e1 : (0 : Int) ≤ (m.b 0).lo := hs.1
      have e2 : (0 : Int) ≤ (m.b 0).hi := by omega
      simp [bfM, e1, e2]
    | succ k =>
      simp only [bfM, Nat.succ_pos, Nat.add_sub_cancel, decide_true, Bool.true_and, Bool.not_or]
      rw [← decide_not, ← decide_not]
      congr 1 <;> (apply decide_eq_decide.2; omega)
set_option maxRecDepth 100000 in
set_option maxHeartbeats 2000000 in
theorem refModel_any (m : Mdl) (w : World) : Calls Tryz.prog 10 #[.agg (mdA m)] w fun e w' => e = .returned (.bool (okMdl m)) ∧ Below w.heap.size w w' := by
  obtain ⟨W, hW⟩ : ∃ W, W = (w.alloc (.cells #[I m.sc, I (m.b 0).lo, I (m.b 0).hi, I (m.b 1).lo, I (m.b 1).hi, I (m.b 2).lo, I (m.b 2).hi, I (m.b 3).lo, I (m.b 3).hi] 26)) := ⟨_, rfl⟩
  have rowW0 : W.heap[w.heap.size]? = some (.cells #[I m.sc, I (m.b 0).lo, I (m.b 0).hi, I (m.b 1).lo, I (m.b 1).hi, I (m.b 2).lo, I (m.b 2).hi, I (m.b 3).lo, I (m.b 3).hi] 26 (0, 0)) := by rw [hW]; exact heap_last _ _ _ rfl
  have yW00 := ovr_cell (W := W) (b := w.heap.size) (o := 0) (v := I m.sc) (by rw [cell_of_row _ _ _ _ _ _ rowW0]; rfl)
  have yW01 := ovr_cell (W := W) (b := w.heap.size) (o := 1) (v := I (m.b 0).lo) (by rw [cell_of_row _ _ _ _ _ _ rowW0]; rfl)
  have yW02 := ovr_cell (W := W) (b := w.heap.size) (o := 2) (v := I (m.b 0).hi) (by rw [cell_of_row _ _ _ _ _ _ rowW0]; rfl)
  have yW03 := ovr_cell (W := W) (b := w.heap.size) (o := 3) (v := I (m.b 1).lo) (by rw [cell_of_row _ _ _ _ _ _ rowW0]; rfl)
  have yW04 := ovr_cell (W := W) (b := w.heap.size) (o := 4) (v := I (m.b 1).hi) (by rw [cell_of_row _ _ _ _ _ _ rowW0]; rfl)
  have yW05 := ovr_cell (W := W) (b := w.heap.size) (o := 5) (v := I (m.b 2).lo) (by rw [cell_of_row _ _ _ _ _ _ rowW0]; rfl)
  have yW06 := ovr_cell (W := W) (b := w.heap.size) (o := 6) (v := I (m.b 2).hi) (by rw [cell_of_row _ _ _ _ _ _ rowW0]; rfl)
  have yW07 := ovr_cell (W := W) (b := w.heap.size) (o := 7) (v := I (m.b 3).lo) (by rw [cell_of_row _ _ _ _ _ _ rowW0]; rfl)
  have yW08 := ovr_cell (W := W) (b := w.heap.size) (o := 8) (v := I (m.b 3).hi) (by rw [cell_of_row _ _ _ _ _ _ rowW0]; rfl)
  have RrowW0 := Lib.hid (ovr_row rowW0)
  clear rowW0
  have HUW : Hid (∀ u, Below w.heap.size w (ovr W u)) := U1 hW
  have HW := Lib.hid hW
  clear hW
  go_enter Tryz.func10, Tryz.ntmps10
  go_upto_region 1 with (fail)
  rw [← HW.out]
  obtain ⟨u0, hu0⟩ := ovr_self W
  rw [hu0]
  clear hu0
  go_wp2_with fail
  go_loopw [3] (fun i wr => ∃ (k : Nat) (u : World), k ≤ 4 ∧ i = .int .i64 k ∧ wr = ovr W u ∧ ∀ j, j < k → bdM m j = true) (fun i _ => 4 - (intOf i).toNat)
  case atStart => exact ⟨0, u0, by omega, rfl, rfl, fun j hj => absurd hj (by omega)⟩
  case round =>
    obtain ⟨k, u, hk4, rfl, rfl, hall⟩ := hrel
    have HALL := Lib.hid hall
    clear hall
    by_cases hlt : k < 4
    · have hno : Hid (bdM m k = false → okMdl m = false) := fun h => okMdl_no hlt h
      have hyes : Hid (∀ h : bdM m k = true, ∀ j, j < k + 1 → bdM m j = true) := fun h j hj => by
        rcases Nat.lt_or_eq_of_le (Nat.le_of_lt_succ hj) with h1 | h1
        · exact HALL.out j h1
        · rw [h1]; exact h
      have hbd : Hid (bdR m k = bdM m k) := bdR_eq m k
      rcases k with _ | _ | _ | _ | k
      · skip
        go_upto_region 5 with fail
        obtain ⟨X1, hX1⟩ : ∃ X1, X1 = ((ovr W u).alloc (.cells #[I (m.b 0).lo, I (m.b 0).hi] 23)) := ⟨_, rfl⟩
        have reX1 : ∀ v, ∃ x, ovr X1 v = ovr W x := fun v => ovr_re1 hX1
        replace yW00 := tr_cell reX1 yW00
        replace yW01 := tr_cell reX1 yW01
        replace yW02 := tr_cell reX1 yW02
        replace yW03 := tr_cell reX1 yW03
        replace yW04 := tr_cell reX1 yW04
        replace yW05 := tr_cell reX1 yW05
        replace yW06 := tr_cell reX1 yW06
        replace yW07 := tr_cell reX1 yW07
        replace yW08 := tr_cell reX1 yW08
        replace RrowW0 := Lib.hid (tr_row reX1 RrowW0.out)
        have rowX10 : X1.heap[(ovr W u).heap.size]? = some (.cells #[I (m.b 0).lo, I (m.b 0).hi] 23 (0, 0)) := by rw [hX1]; exact heap_last _ _ _ rfl
        have yX100 := ovr_cell (W := X1) (b := (ovr W u).heap.size) (o := 0) (v := I (m.b 0).lo) (by rw [cell_of_row _ _ _ _ _ _ rowX10]; rfl)
        have yX101 := ovr_cell (W := X1) (b := (ovr W u).heap.size) (o := 1) (v := I (m.b 0).hi) (by rw [cell_of_row _ _ _ _ _ _ rowX10]; rfl)
        have RrowX10 := Lib.hid (ovr_row rowX10)
        clear rowX10
        have HBX1 : Hid (∀ u, Below W.heap.size W (ovr X1 u)) := fun u => by obtain ⟨x, hx⟩ := reX1 u; rw [hx]; exact ovr_below _ _
        have HUX1 : Hid (∀ u, Below w.heap.size w (ovr X1 u)) := fun u => by obtain ⟨x, hx⟩ := reX1 u; rw [hx]; exact HUW.out x
        clear reX1
        have HX1 := Lib.hid hX1
        clear hX1
        rw [← HX1.out]
        have cs := fun V => span_any (m.b 0) 0 1000000 V
        have hq : bdR m 0 = (spanB (m.b 0) 0 1000000 && true) := by unfold bdR; simp
        rw [hbd.out] at hq
        rcases hs : spanB (m.b 0) 0 1000000 with _ | _ <;> (rw [hs] at cs hq)
        · have hf := Lib.hid (hno.out hq)
          have CS := Lib.hid cs
          clear cs hq hs
          refine wp_region_below_lit (by kernel_rfl) (by kernel_rfl) ?_
          repeat (go_big_quiet_step ((go_at_call 35; exact call_below (CS.out _))))
          refine wpQuiet_nil ?_
          intro V2 hb2
          obtain ⟨u2, rfl⟩ : ∃ u, V2 = ovr X1 u := ⟨V2, ovr_of hb2⟩
          clear hb2
          go_wp2_with fail
          go_ret
          exact ⟨by rw [hf.out]; rfl, HUX1.out _⟩
        · have hf := Lib.hid (hyes.out hq)
          have CS := Lib.hid cs
          clear cs hq hs
          refine wp_region_below_lit (by kernel_rfl) (by kernel_rfl) ?_
          repeat (go_big_quiet_step ((go_at_call 35; exact call_below (CS.out _))))
          refine wpQuiet_nil ?_
          intro V2 hb2
          obtain ⟨u2, rfl⟩ : ∃ u, V2 = ovr X1 u := ⟨V2, ovr_of hb2⟩
          clear hb2
          go_wp2_with fail
          exact ⟨⟨0 + 1, _, by omega, rfl, ovr_of (HBX1.out u2), hf.out⟩, by simp [intOf]⟩
      · skip
        go_upto_region 5 with fail
        obtain ⟨X1, hX1⟩ : ∃ X1, X1 = ((ovr W u).alloc (.cells #[I (m.b 1).lo, I (m.b 1).hi] 23)) := ⟨_, rfl⟩
        have reX1 : ∀ v, ∃ x, ovr X1 v = ovr W x := fun v => ovr_re1 hX1
        replace yW00 := tr_cell reX1 yW00
        replace yW01 := tr_cell reX1 yW01
        replace yW02 := tr_cell reX1 yW02
        replace yW03 := tr_cell reX1 yW03
        replace yW04 := tr_cell reX1 yW04
        replace yW05 := tr_cell reX1 yW05
        replace yW06 := tr_cell reX1 yW06
        replace yW07 := tr_cell reX1 yW07
        replace yW08 := tr_cell reX1 yW08
        replace RrowW0 := Lib.hid (tr_row reX1 RrowW0.out)
        have rowX10 : X1.heap[(ovr W u).heap.size]? = some (.cells #[I (m.b 1).lo, I (m.b 1).hi] 23 (0, 0)) := by rw [hX1]; exact heap_last _ _ _ rfl
        have yX100 := ovr_cell (W := X1) (b := (ovr W u).heap.size) (o := 0) (v := I (m.b 1).lo) (by rw [cell_of_row _ _ _ _ _ _ rowX10]; rfl)
        have yX101 := ovr_cell (W := X1) (b := (ovr W u).heap.size) (o := 1) (v := I (m.b 1).hi) (by rw [cell_of_row _ _ _ _ _ _ rowX10]; rfl)
        have RrowX10 := Lib.hid (ovr_row rowX10)
        clear rowX10
        have HBX1 : Hid (∀ u, Below W.heap.size W (ovr X1 u)) := fun u => by obtain ⟨x, hx⟩ := reX1 u; rw [hx]; exact ovr_below _ _
        have HUX1 : Hid (∀ u, Below w.heap.size w (ovr X1 u)) := fun u => by obtain ⟨x, hx⟩ := reX1 u; rw [hx]; exact HUW.out x
        clear reX1
        have HX1 := Lib.hid hX1
        clear hX1
        rw [← HX1.out]
        have cs := fun V => span_any (m.b 1) 0 1000000 V
        have hq : bdR m 1 = (spanB (m.b 1) 0 1000000 && !(decide ((m.b 1).lo < (m.b 0).lo) || decide ((m.b 1).hi < (m.b 0).hi))) := by unfold bdR; simp
        rw [hbd.out] at hq
        rcases hs : spanB (m.b 1) 0 1000000 with _ | _ <;> (rw [hs] at cs hq)
        · have hf := Lib.hid (hno.out hq)
          have CS := Lib.hid cs
          clear cs hq hs
          refine wp_region_below_lit (by kernel_rfl) (by kernel_rfl) ?_
          repeat (go_big_quiet_step ((go_at_call 35; exact call_below (CS.out _))))
          refine wpQuiet_nil ?_
          intro V2 hb2
          obtain ⟨u2, rfl⟩ : ∃ u, V2 = ovr X1 u := ⟨V2, ovr_of hb2⟩
          clear hb2
          go_wp2_with fail
          go_ret
          exact ⟨by rw [hf.out]; rfl, HUX1.out _⟩
        · rcases h1 : decide ((m.b 1).lo < (m.b 0).lo) with _ | _ <;> rw [h1] at hq
          · rcases h2 : decide ((m.b 1).hi < (m.b 0).hi) with _ | _ <;> rw [h2] at hq
            · have hf := Lib.hid (hyes.out hq)
              have CS := Lib.hid cs
              clear cs hq hs
              refine wp_region_below_lit (by kernel_rfl) (by kernel_rfl) ?_
              repeat (go_big_quiet_step ((go_at_call 35; exact call_below (CS.out _))))
              refine wpQuiet_nil ?_
              intro V2 hb2
              obtain ⟨u2, rfl⟩ : ∃ u, V2 = ovr X1 u := ⟨V2, ovr_of hb2⟩
              clear hb2
              go_wp2_with fail
              exact ⟨⟨1 + 1, _, by omega, rfl, ovr_of (HBX1.out u2), hf.out⟩, by simp [intOf]⟩
            · have hf := Lib.hid (hno.out hq)
              have CS := Lib.hid cs
              clear cs hq hs
              refine wp_region_below_lit (by kernel_rfl) (by kernel_rfl) ?_
              repeat (go_big_quiet_step ((go_at_call 35; exact call_below (CS.out _))))
              refine wpQuiet_nil ?_
              intro V2 hb2
              obtain ⟨u2, rfl⟩ : ∃ u, V2 = ovr X1 u := ⟨V2, ovr_of hb2⟩
              clear hb2
              go_wp2_with fail
              go_ret
              exact ⟨by rw [hf.out]; rfl, HUX1.out _⟩
          · have hf := Lib.hid (hno.out (by rw [hq]; rfl))
            have CS := Lib.hid cs
            clear cs hq hs
            refine wp_region_below_lit (by kernel_rfl) (by kernel_rfl) ?_
            repeat (go_big_quiet_step ((go_at_call 35; exact call_below (CS.out _))))
            refine wpQuiet_nil ?_
            intro V2 hb2
            obtain ⟨u2, rfl⟩ : ∃ u, V2 = ovr X1 u := ⟨V2, ovr_of hb2⟩
            clear hb2
            go_wp2_with fail
            go_ret
            exact ⟨by rw [hf.out]; rfl, HUX1.out _⟩
      · skip
        go_upto_region 5 with fail
        obtain ⟨X1, hX1⟩ : ∃ X1, X1 = ((ovr W u).alloc (.cells #[I (m.b 2).lo, I (m.b 2).hi] 23)) := ⟨_, rfl⟩
        have reX1 : ∀ v, ∃ x, ovr X1 v = ovr W x := fun v => ovr_re1 hX1
        replace yW00 := tr_cell reX1 yW00
        replace yW01 := tr_cell reX1 yW01
        replace yW02 := tr_cell reX1 yW02
        replace yW03 := tr_cell reX1 yW03
        replace yW04 := tr_cell reX1 yW04
        replace yW05 := tr_cell reX1 yW05
        replace yW06 := tr_cell reX1 yW06
        replace yW07 := tr_cell reX1 yW07
        replace yW08 := tr_cell reX1 yW08
        replace RrowW0 := Lib.hid (tr_row reX1 RrowW0.out)
        have rowX10 : X1.heap[(ovr W u).heap.size]? = some (.cells #[I (m.b 2).lo, I (m.b 2).hi] 23 (0, 0)) := by rw [hX1]; exact heap_last _ _ _ rfl
        have yX100 := ovr_cell (W := X1) (b := (ovr W u).heap.size) (o := 0) (v := I (m.b 2).lo) (by rw [cell_of_row _ _ _ _ _ _ rowX10]; rfl)
        have yX101 := ovr_cell (W := X1) (b := (ovr W u).heap.size) (o := 1) (v := I (m.b 2).hi) (by rw [cell_of_row _ _ _ _ _ _ rowX10]; rfl)
        have RrowX10 := Lib.hid (ovr_row rowX10)
        clear rowX10
        have HBX1 : Hid (∀ u, Below W.heap.size W (ovr X1 u)) := fun u => by obtain ⟨x, hx⟩ := reX1 u; rw [hx]; exact ovr_below _ _
        have HUX1 : Hid (∀ u, Below w.heap.size w (ovr X1 u)) := fun u => by obtain ⟨x, hx⟩ := reX1 u; rw [hx]; exact HUW.out x
        clear reX1
        have HX1 := Lib.hid hX1
        clear hX1
        rw [← HX1.out]
        have cs := fun V => span_any (m.b 2) 0 1000000 V
        have hq : bdR m 2 = (spanB (m.b 2) 0 1000000 && !(decide ((m.b 2).lo < (m.b 1).lo) || decide ((m.b 2).hi < (m.b 1).hi))) := by unfold bdR; simp
        rw [hbd.out] at hq
        rcases hs : spanB (m.b 2) 0 1000000 with _ | _ <;> (rw [hs] at cs hq)
        · have hf := Lib.hid (hno.out hq)
          have CS := Lib.hid cs
          clear cs hq hs
          refine wp_region_below_lit (by kernel_rfl) (by kernel_rfl) ?_
          repeat (go_big_quiet_step ((go_at_call 35; exact call_below (CS.out _))))
          refine wpQuiet_nil ?_
          intro V2 hb2
          obtain ⟨u2, rfl⟩ : ∃ u, V2 = ovr X1 u := ⟨V2, ovr_of hb2⟩
          clear hb2
          go_wp2_with fail
          go_ret
          exact ⟨by rw [hf.out]; rfl, HUX1.out _⟩
        · rcases h1 : decide ((m.b 2).lo < (m.b 1).lo) with _ | _ <;> rw [h1] at hq
          · rcases h2 : decide ((m.b 2).hi < (m.b 1).hi) with _ | _ <;> rw [h2] at hq
            · have hf := Lib.hid (hyes.out hq)
              have CS := Lib.hid cs
              clear cs hq hs
              refine wp_region_below_lit (by kernel_rfl) (by kernel_rfl) ?_
              repeat (go_big_quiet_step ((go_at_call 35; exact call_below (CS.out _))))
              refine wpQuiet_nil ?_
              intro V2 hb2
              obtain ⟨u2, rfl⟩ : ∃ u, V2 = ovr X1 u := ⟨V2, ovr_of hb2⟩
              clear hb2
              go_wp2_with fail
              exact ⟨⟨2 + 1, _, by omega, rfl, ovr_of (HBX1.out u2), hf.out⟩, by simp [intOf]⟩
            · have hf := Lib.hid (hno.out hq)
              have CS := Lib.hid cs
              clear cs hq hs
              refine wp_region_below_lit (by kernel_rfl) (by kernel_rfl) ?_
              repeat (go_big_quiet_step ((go_at_call 35; exact call_below (CS.out _))))
              refine wpQuiet_nil ?_
              intro V2 hb2
              obtain ⟨u2, rfl⟩ : ∃ u, V2 = ovr X1 u := ⟨V2, ovr_of hb2⟩
              clear hb2
              go_wp2_with fail
              go_ret
              exact ⟨by rw [hf.out]; rfl, HUX1.out _⟩
          · have hf := Lib.hid (hno.out (by rw [hq]; rfl))
            have CS := Lib.hid cs
            clear cs hq hs
            refine wp_region_below_lit (by kernel_rfl) (by kernel_rfl) ?_
            repeat (go_big_quiet_step ((go_at_call 35; exact call_below (CS.out _))))
            refine wpQuiet_nil ?_
            intro V2 hb2
            obtain ⟨u2, rfl⟩ : ∃ u, V2 = ovr X1 u := ⟨V2, ovr_of hb2⟩
            clear hb2
            go_wp2_with fail
            go_ret
            exact ⟨by rw [hf.out]; rfl, HUX1.out _⟩
      · skip
        go_upto_region 5 with fail
        obtain ⟨X1, hX1⟩ : ∃ X1, X1 = ((ovr W u).alloc (.cells #[I (m.b 3).lo, I (m.b 3).hi] 23)) := ⟨_, rfl⟩
        have reX1 : ∀ v, ∃ x, ovr X1 v = ovr W x := fun v => ovr_re1 hX1
        replace yW00 := tr_cell reX1 yW00
        replace yW01 := tr_cell reX1 yW01
        replace yW02 := tr_cell reX1 yW02
        replace yW03 := tr_cell reX1 yW03
        replace yW04 := tr_cell reX1 yW04
        replace yW05 := tr_cell reX1 yW05
        replace yW06 := tr_cell reX1 yW06
        replace yW07 := tr_cell reX1 yW07
        replace yW08 := tr_cell reX1 yW08
        replace RrowW0 := Lib.hid (tr_row reX1 RrowW0.out)
        have rowX10 : X1.heap[(ovr W u).heap.size]? = some (.cells #[I (m.b 3).lo, I (m.b 3).hi] 23 (0, 0)) := by rw [hX1]; exact heap_last _ _ _ rfl
        have yX100 := ovr_cell (W := X1) (b := (ovr W u).heap.size) (o := 0) (v := I (m.b 3).lo) (by rw [cell_of_row _ _ _ _ _ _ rowX10]; rfl)
        have yX101 := ovr_cell (W := X1) (b := (ovr W u).heap.size) (o := 1) (v := I (m.b 3).hi) (by rw [cell_of_row _ _ _ _ _ _ rowX10]; rfl)
        have RrowX10 := Lib.hid (ovr_row rowX10)
        clear rowX10
        have HBX1 : Hid (∀ u, Below W.heap.size W (ovr X1 u)) := fun u => by obtain ⟨x, hx⟩ := reX1 u; rw [hx]; exact ovr_below _ _
        have HUX1 : Hid (∀ u, Below w.heap.size w (ovr X1 u)) := fun u => by obtain ⟨x, hx⟩ := reX1 u; rw [hx]; exact HUW.out x
        clear reX1
        have HX1 := Lib.hid hX1
        clear hX1
        rw [← HX1.out]
        have cs := fun V => span_any (m.b 3) 0 1000000 V
        have hq : bdR m 3 = (spanB (m.b 3) 0 1000000 && !(decide ((m.b 3).lo < (m.b 2).lo) || decide ((m.b 3).hi < (m.b 2).hi))) := by unfold bdR; simp
        rw [hbd.out] at hq
        rcases hs : spanB (m.b 3) 0 1000000 with _ | _ <;> (rw [hs] at cs hq)
        · have hf := Lib.hid (hno.out hq)
          have CS := Lib.hid cs
          clear cs hq hs
          refine wp_region_below_lit (by kernel_rfl) (by kernel_rfl) ?_
          repeat (go_big_quiet_step ((go_at_call 35; exact call_below (CS.out _))))
          refine wpQuiet_nil ?_
          intro V2 hb2
          obtain ⟨u2, rfl⟩ : ∃ u, V2 = ovr X1 u := ⟨V2, ovr_of hb2⟩
          clear hb2
          go_wp2_with fail
          go_ret
          exact ⟨by rw [hf.out]; rfl, HUX1.out _⟩
        · rcases h1 : decide ((m.b 3).lo < (m.b 2).lo) with _ | _ <;> rw [h1] at hq
          · rcases h2 : decide ((m.b 3).hi < (m.b 2).hi) with _ | _ <;> rw [h2] at hq
            · have hf := Lib.hid (hyes.out hq)
              have CS := Lib.hid cs
              clear cs hq hs
              refine wp_region_below_lit (by kernel_rfl) (by kernel_rfl) ?_
              repeat (go_big_quiet_step ((go_at_call 35; exact call_below (CS.out _))))
              refine wpQuiet_nil ?_
              intro V2 hb2
              obtain ⟨u2, rfl⟩ : ∃ u, V2 = ovr X1 u := ⟨V2, ovr_of hb2⟩
              clear hb2
              go_wp2_with fail
              exact ⟨⟨3 + 1, _, by omega, rfl, ovr_of (HBX1.out u2), hf.out⟩, by simp [intOf]⟩
            · have hf := Lib.hid (hno.out hq)
              have CS := Lib.hid cs
              clear cs hq hs
              refine wp_region_below_lit (by kernel_rfl) (by kernel_rfl) ?_
              repeat (go_big_quiet_step ((go_at_call 35; exact call_below (CS.out _))))
              refine wpQuiet_nil ?_
              intro V2 hb2
              obtain ⟨u2, rfl⟩ : ∃ u, V2 = ovr X1 u := ⟨V2, ovr_of hb2⟩
              clear hb2
              go_wp2_with fail
              go_ret
              exact ⟨by rw [hf.out]; rfl, HUX1.out _⟩
          · have hf := Lib.hid (hno.out (by rw [hq]; rfl))
            have CS := Lib.hid cs
            clear cs hq hs
            refine wp_region_below_lit (by kernel_rfl) (by kernel_rfl) ?_
            repeat (go_big_quiet_step ((go_at_call 35; exact call_below (CS.out _))))
            refine wpQuiet_nil ?_
            intro V2 hb2
            obtain ⟨u2, rfl⟩ : ∃ u, V2 = ovr X1 u := ⟨V2, ovr_of hb2⟩
            clear hb2
            go_wp2_with fail
            go_ret
            exact ⟨by rw [hf.out]; rfl, HUX1.out _⟩
      · omega
    · have hk : k = 4 := by omega
      subst hk
      have hf : Hid (okMdl m = (decide (1 ≤ m.sc) && decide (m.sc ≤ 1000000))) := by
        show _ = _
        unfold okMdl
        rw [show (List.range 4).all (bdM m) = true from by rw [List.all_eq_true]; intro x hx; exact HALL.out x (by simpa using hx), Bool.and_true]
      clear HALL
      rcases h1 : decide (1 ≤ m.sc) with _ | _ <;> rw [h1] at hf
      · go_wp2_with fail
        go_ret
        exact ⟨by rw [hf.out]; rfl, HUW.out _⟩
      · rcases h2 : decide (m.sc ≤ 1000000) with _ | _ <;> rw [h2] at hf
        all_goals
          go_wp2_with fail
          go_ret
          exact ⟨by rw [hf.out]; rfl, HUW.out _⟩
/-- What Judge answers. -/
def jdF (c v : Int) : Int × Int := if 31 < c ∨ 31 < v then (0, 2) else if bits .and .u8 c v = c then (1, 0) else if bits .and .u8 c v = 0 then (3, 0) else (2, 0)
/-- Can of the reference. -/
def canB (m : Mdl) (r g : Rng) (k : Nat) : Bool := !(decide (0 < k) && decide (r.hi * m.sc ≤ (m.b (k - 1)).lo * g.lo)) && (!(decide (k < 4) && decide ((m.b k).hi * g.hi < r.lo * m.sc)) && (decide (k = 0) || (decide (k = 4) || decide ((m.b (k - 1)).lo < (m.b k).hi))))
theorem can_eq {m : Mdl} {r g : Rng} {k : Nat} (hk : k < 5) (hp : PlOk m r g) : canB m r g k = posB m r g k := by
  have hr := spanB_iff.1 hp.r
  have hg := spanB_iff.1 hp.g
  have hs := okMdl_iff.1 hp.m
  have m1 := mul_bd (a := r.hi) (b := m.sc) (A := 1000000) (B := 1000000) ⟨by omega, hr.2.2⟩ ⟨by omega, hs.2.1⟩
  have m2 := mul_bd (a := r.lo) (b := m.sc) (A := 1000000) (B := 1000000) ⟨hr.1, by omega⟩ ⟨by omega, hs.2.1⟩
  unfold canB posB abv upt
  rw [Bool.eq_iff_iff]
  simp only [Bool.and_eq_true, Bool.or_eq_true, Bool.not_eq_true', Bool.and_eq_false_iff, decide_eq_true_eq, decide_eq_false_iff_not]
  by_cases h0 : k = 0
  · subst h0
    have b0 := bdM_bd hp.m (k := 0) (by omega)
    simp
    constructor
    · intro h; exact ⟨by omega, by omega, h⟩
    · intro h; exact h.2.2
  · rw [if_neg h0]
    have b1 := bdM_bd hp.m (k := k - 1) (by omega)
    by_cases h4 : k < 4
    · rw [if_pos h4]
      have e4 : ¬ k = 4 := by omega
      simp [h0, e4, h4]
      constructor
      · rintro ⟨h1, h2, h3⟩; exact ⟨h3, by omega, h2⟩
      · rintro ⟨h1, h2, h3⟩; exact ⟨by omega, h3, h1⟩
    · have e4 : k = 4 := by omega
      subst e4
      rw [if_neg h4]
      have b3 := bdM_bd hp.m (k := 3) (by omega)
      have m3 := Int.mul_le_mul_of_nonneg_left hg.1 (show (0 : Int) ≤ 1099511627776 by omega)
      have m4 := Int.mul_le_mul_of_nonneg_left (show (1 : Int) ≤ g.hi by omega) (show (0 : Int) ≤ 1099511627776 by omega)
      simp
      constructor
      · intro h; exact ⟨by omega, by omega, by omega⟩
      · intro h; exact h.2.1
set_option maxRecDepth 100000 in
set_option maxHeartbeats 4000000 in
theorem refCan_any (m : Mdl) (r g : Rng) (k : Nat) (hk : k < 5) (hp : PlOk m r g) (w : World) : Calls Tryz.prog 67 #[.agg (mdA m), r.val, g.val, I k] w fun e w' => e = .returned (.bool (posB m r g k)) ∧ Below w.heap.size w w' := by
  rw [← can_eq hk hp]
  have hr := spanB_iff.1 hp.r
  have hg := spanB_iff.1 hp.g
  have hs := okMdl_iff.1 hp.m
  obtain ⟨rl, rh⟩ := r
  obtain ⟨gl, gh⟩ := g
  have hr : 0 ≤ rl ∧ rl ≤ rh ∧ rh ≤ 1000000 := hr
  have hg : 1 ≤ gl ∧ gl ≤ gh ∧ gh ≤ 1000000 := hg
  have m1 := mul_bd (a := rh) (b := m.sc) (A := 1000000) (B := 1000000) ⟨by omega, hr.2.2⟩ ⟨by omega, hs.2.1⟩
  have m2 := mul_bd (a := rl) (b := m.sc) (A := 1000000) (B := 1000000) ⟨hr.1, by omega⟩ ⟨by omega, hs.2.1⟩
  have hm3 : ∀ j, j < 4 → 0 ≤ (m.b j).lo * gl ∧ (m.b j).lo * gl ≤ 1000000 * 1000000 := fun j hj => by
    have b1 := bdM_bd hp.m hj
    exact mul_bd ⟨by omega, by omega⟩ ⟨by omega, by omega⟩
  have hm4 : ∀ j, j < 4 → 0 ≤ (m.b j).hi * gh ∧ (m.b j).hi * gh ≤ 1000000 * 1000000 := fun j hj => by
    have b1 := bdM_bd hp.m hj
    exact mul_bd ⟨by omega, by omega⟩ ⟨by omega, by omega⟩
  obtain ⟨p1, hp1⟩ : ∃ p, p = rh * m.sc := ⟨_, rfl⟩
  obtain ⟨p2, hp2⟩ : ∃ p, p = rl * m.sc := ⟨_, rfl⟩
  obtain ⟨q1, hq1⟩ : ∃ p, p = (m.b (k - 1)).lo * gl := ⟨_, rfl⟩
  obtain ⟨q2, hq2⟩ : ∃ p, p = (m.b k).hi * gh := ⟨_, rfl⟩
  have w1 : IntKind.i64.wrap (rh * m.sc) = p1 := by rw [hp1]; exact IntWalk.i64_in _ (by omega)
  have w2 : IntKind.i64.wrap (rl * m.sc) = p2 := by rw [hp2]; exact IntWalk.i64_in _ (by omega)
  have w3 : IntKind.i64.wrap ((m.b (k - 1)).lo * gl) = q1 := by rw [hq1]; have := hm3 (k - 1) (by omega); exact IntWalk.i64_in _ (by omega)
  have w4 : k < 4 → IntKind.i64.wrap ((m.b k).hi * gh) = q2 := fun h4 => by rw [hq2]; have := hm4 k h4; exact IntWalk.i64_in _ (by omega)
  have hf : Hid (canB m ⟨rl, rh⟩ ⟨gl, gh⟩ k = (!(decide (0 < k) && decide (p1 ≤ q1)) && (!(decide (k < 4) && decide (q2 < p2)) && (decide (k = 0) || (decide (k = 4) || decide ((m.b (k - 1)).lo < (m.b k).hi)))))) := by rw [hp1, hp2, hq1, hq2]; exact Lib.hid rfl
  clear hr hg hs m1 m2 hm3 hm4 hp1 hp2 hq1 hq2 hp
  obtain ⟨W, hW⟩ : ∃ W, W = (((w.alloc (.cells #[I m.sc, I (m.b 0).lo, I (m.b 0).hi, I (m.b 1).lo, I (m.b 1).hi, I (m.b 2).lo, I (m.b 2).hi, I (m.b 3).lo, I (m.b 3).hi] 26)).alloc (.cells #[I rl, I rh] 23)).alloc (.cells #[I gl, I gh] 23)) := ⟨_, rfl⟩
  have rowW0 : W.heap[w.heap.size]? = some (.cells #[I m.sc, I (m.b 0).lo, I (m.b 0).hi, I (m.b 1).lo, I (m.b 1).hi, I (m.b 2).lo, I (m.b 2).hi, I (m.b 3).lo, I (m.b 3).hi] 26 (0, 0)) := by rw [hW]; exact heap_before (heap_before (heap_last _ _ _ rfl))
  have yW00 := ovr_cell (W := W) (b := w.heap.size) (o := 0) (v := I m.sc) (by rw [cell_of_row _ _ _ _ _ _ rowW0]; rfl)
  have yW01 := ovr_cell (W := W) (b := w.heap.size) (o := 1) (v := I (m.b 0).lo) (by rw [cell_of_row _ _ _ _ _ _ rowW0]; rfl)
  have yW02 := ovr_cell (W := W) (b := w.heap.size) (o := 2) (v := I (m.b 0).hi) (by rw [cell_of_row _ _ _ _ _ _ rowW0]; rfl)
  have yW03 := ovr_cell (W := W) (b := w.heap.size) (o := 3) (v := I (m.b 1).lo) (by rw [cell_of_row _ _ _ _ _ _ rowW0]; rfl)
  have yW04 := ovr_cell (W := W) (b := w.heap.size) (o := 4) (v := I (m.b 1).hi) (by rw [cell_of_row _ _ _ _ _ _ rowW0]; rfl)
  have yW05 := ovr_cell (W := W) (b := w.heap.size) (o := 5) (v := I (m.b 2).lo) (by rw [cell_of_row _ _ _ _ _ _ rowW0]; rfl)
  have yW06 := ovr_cell (W := W) (b := w.heap.size) (o := 6) (v := I (m.b 2).hi) (by rw [cell_of_row _ _ _ _ _ _ rowW0]; rfl)
  have yW07 := ovr_cell (W := W) (b := w.heap.size) (o := 7) (v := I (m.b 3).lo) (by rw [cell_of_row _ _ _ _ _ _ rowW0]; rfl)
  have yW08 := ovr_cell (W := W) (b := w.heap.size) (o := 8) (v := I (m.b 3).hi) (by rw [cell_of_row _ _ _ _ _ _ rowW0]; rfl)
  have RrowW0 := Lib.hid (ovr_row rowW0)
  clear rowW0
  have rowW1 : W.heap[w.heap.size + 1]? = some (.cells #[I rl, I rh] 23 (0, 0)) := by rw [hW]; exact heap_before (heap_last _ _ _ (by simp))
  have yW10 := ovr_cell (W := W) (b := w.heap.size + 1) (o := 0) (v := I rl) (by rw [cell_of_row _ _ _ _ _ _ rowW1]; rfl)
  have yW11 := ovr_cell (W := W) (b := w.heap.size + 1) (o := 1) (v := I rh) (by rw [cell_of_row _ _ _ _ _ _ rowW1]; rfl)
  have RrowW1 := Lib.hid (ovr_row rowW1)
  clear rowW1
  have rowW2 : W.heap[w.heap.size + 1 + 1]? = some (.cells #[I gl, I gh] 23 (0, 0)) := by rw [hW]; exact heap_last _ _ _ (by simp)
  have yW20 := ovr_cell (W := W) (b := w.heap.size + 1 + 1) (o := 0) (v := I gl) (by rw [cell_of_row _ _ _ _ _ _ rowW2]; rfl)
  have yW21 := ovr_cell (W := W) (b := w.heap.size + 1 + 1) (o := 1) (v := I gh) (by rw [cell_of_row _ _ _ _ _ _ rowW2]; rfl)
  have RrowW2 := Lib.hid (ovr_row rowW2)
  clear rowW2
  have HUW : Hid (∀ u, Below w.heap.size w (ovr W u)) := U3 hW
  have HW := Lib.hid hW
  clear hW
  rcases k with _ | _ | _ | _ | _ | k
  · have w4 := w4 (by omega)
    clear w3
    rcases h2 : decide (q2 < p2) with _ | _ <;> rw [h2] at hf
    · have hf : Hid (canB m ⟨rl, rh⟩ ⟨gl, gh⟩ 0 = true) := by show _ = _; rw [hf.out]; rfl
      go_enter Tryz.func67, Tryz.ntmps67
      go_upto_region 1 with (fail)
      rw [← HW.out]
      refine wp_region_below_lit (by kernel_rfl) (by kernel_rfl) ?_
      repeat (go_big_quiet_step (fail))
      refine wpQuiet_nil ?_
      intro V2 hb2
      obtain ⟨u1, rfl⟩ : ∃ u, V2 = ovr W u := ⟨V2, ovr_of hb2⟩
      clear hb2
      go_upto_region 3 with fail
      have hbX := ovr_below W u1
      obtain ⟨X, hX⟩ : ∃ X, X = ovr W u1 := ⟨_, rfl⟩
      rw [← hX] at hbX
      rw [← hX]
      have hX' := Lib.hid hX
      clear hX
      have hbX' := Lib.hid hbX
      have reX : ∀ v, ∃ x, ovr X v = ovr W x := fun v => ovr_reB hbX v
      replace yW00 := tr_cell reX yW00
      replace yW01 := tr_cell reX yW01
      replace yW02 := tr_cell reX yW02
      replace yW03 := tr_cell reX yW03
      replace yW04 := tr_cell reX yW04
      replace yW05 := tr_cell reX yW05
      replace yW06 := tr_cell reX yW06
      replace yW07 := tr_cell reX yW07
      replace yW08 := tr_cell reX yW08
      replace RrowW0 := Lib.hid (tr_row reX RrowW0.out)
      replace yW10 := tr_cell reX yW10
      replace yW11 := tr_cell reX yW11
      replace RrowW1 := Lib.hid (tr_row reX RrowW1.out)
      replace yW20 := tr_cell reX yW20
      replace yW21 := tr_cell reX yW21
      replace RrowW2 := Lib.hid (tr_row reX RrowW2.out)
      have HUX : Hid (∀ u, Below w.heap.size w (ovr X u)) := fun u => by obtain ⟨x, hx⟩ := reX u; rw [hx]; exact HUW.out x
      clear reX hbX
      refine wp_region_below_lit (by kernel_rfl) (by kernel_rfl) ?_
      repeat (go_big_quiet_step (fail))
      refine wpQuiet_nil ?_
      intro V2 hb2
      obtain ⟨u2, rfl⟩ : ∃ u, V2 = ovr X u := ⟨V2, ovr_of hb2⟩
      clear hb2
      go_upto_region 5 with fail
      have hbY := ovr_below X u2
      obtain ⟨Y, hY⟩ : ∃ Y, Y = ovr X u2 := ⟨_, rfl⟩
      rw [← hY] at hbY
      rw [← hY]
      have hY' := Lib.hid hY
      clear hY
      have hbY' := Lib.hid hbY
      have reY : ∀ v, ∃ x, ovr Y v = ovr X x := fun v => ovr_reB hbY v
      replace yW00 := tr_cell reY yW00
      replace yW01 := tr_cell reY yW01
      replace yW02 := tr_cell reY yW02
      replace yW03 := tr_cell reY yW03
      replace yW04 := tr_cell reY yW04
      replace yW05 := tr_cell reY yW05
      replace yW06 := tr_cell reY yW06
      replace yW07 := tr_cell reY yW07
      replace yW08 := tr_cell reY yW08
      replace RrowW0 := Lib.hid (tr_row reY RrowW0.out)
      replace yW10 := tr_cell reY yW10
      replace yW11 := tr_cell reY yW11
      replace RrowW1 := Lib.hid (tr_row reY RrowW1.out)
      replace yW20 := tr_cell reY yW20
      replace yW21 := tr_cell reY yW21
      replace RrowW2 := Lib.hid (tr_row reY RrowW2.out)
      have HUY : Hid (∀ u, Below w.heap.size w (ovr Y u)) := fun u => by obtain ⟨x, hx⟩ := reY u; rw [hx]; exact HUX.out x
      clear reY hbY
      refine wp_region_below_lit (by kernel_rfl) (by kernel_rfl) ?_
      repeat (go_big_quiet_step (fail))
      refine wpQuiet_nil ?_
      intro V2 hb2
      obtain ⟨u3, rfl⟩ : ∃ u, V2 = ovr Y u := ⟨V2, ovr_of hb2⟩
      clear hb2
      go_wp2_with fail
      go_ret
      exact ⟨by rw [hf.out]; rfl, HUY.out _⟩
    · have hf : Hid (canB m ⟨rl, rh⟩ ⟨gl, gh⟩ 0 = false) := by show _ = _; rw [hf.out]; rfl
      go_enter Tryz.func67, Tryz.ntmps67
      go_upto_region 1 with (fail)
      rw [← HW.out]
      refine wp_region_below_lit (by kernel_rfl) (by kernel_rfl) ?_
      repeat (go_big_quiet_step (fail))
      refine wpQuiet_nil ?_
      intro V2 hb2
      obtain ⟨u1, rfl⟩ : ∃ u, V2 = ovr W u := ⟨V2, ovr_of hb2⟩
      clear hb2
      go_upto_region 3 with fail
      have hbX := ovr_below W u1
      obtain ⟨X, hX⟩ : ∃ X, X = ovr W u1 := ⟨_, rfl⟩
      rw [← hX] at hbX
      rw [← hX]
      have hX' := Lib.hid hX
      clear hX
      have hbX' := Lib.hid hbX
      have reX : ∀ v, ∃ x, ovr X v = ovr W x := fun v => ovr_reB hbX v
      replace yW00 := tr_cell reX yW00
      replace yW01 := tr_cell reX yW01
      replace yW02 := tr_cell reX yW02
      replace yW03 := tr_cell reX yW03
      replace yW04 := tr_cell reX yW04
      replace yW05 := tr_cell reX yW05
      replace yW06 := tr_cell reX yW06
      replace yW07 := tr_cell reX yW07
      replace yW08 := tr_cell reX yW08
      replace RrowW0 := Lib.hid (tr_row reX RrowW0.out)
      replace yW10 := tr_cell reX yW10
      replace yW11 := tr_cell reX yW11
      replace RrowW1 := Lib.hid (tr_row reX RrowW1.out)
      replace yW20 := tr_cell reX yW20
      replace yW21 := tr_cell reX yW21
      replace RrowW2 := Lib.hid (tr_row reX RrowW2.out)
      have HUX : Hid (∀ u, Below w.heap.size w (ovr X u)) := fun u => by obtain ⟨x, hx⟩ := reX u; rw [hx]; exact HUW.out x
      clear reX hbX
      refine wp_region_below_lit (by kernel_rfl) (by kernel_rfl) ?_
      repeat (go_big_quiet_step (fail))
      refine wpQuiet_nil ?_
      intro V2 hb2
      obtain ⟨u2, rfl⟩ : ∃ u, V2 = ovr X u := ⟨V2, ovr_of hb2⟩
      clear hb2
      go_wp2_with fail
      go_ret
      exact ⟨by rw [hf.out]; rfl, HUX.out _⟩
  · skip
    have w4 := w4 (by omega)
    rcases h1 : decide (p1 ≤ q1) with _ | _ <;> rw [h1] at hf
    · rcases h2 : decide (q2 < p2) with _ | _ <;> rw [h2] at hf
      · rcases h3 : decide ((m.b 0).lo < (m.b 1).hi) with _ | _
        · have hf : Hid (canB m ⟨rl, rh⟩ ⟨gl, gh⟩ 1 = false) := by show _ = _; rw [hf.out, show decide ((m.b (1 - 1)).lo < (m.b 1).hi) = false from h3]; rfl
          go_enter Tryz.func67, Tryz.ntmps67
          go_upto_region 1 with (fail)
          rw [← HW.out]
          refine wp_region_below_lit (by kernel_rfl) (by kernel_rfl) ?_
          repeat (go_big_quiet_step (fail))
          refine wpQuiet_nil ?_
          intro V2 hb2
          obtain ⟨u1, rfl⟩ : ∃ u, V2 = ovr W u := ⟨V2, ovr_of hb2⟩
          clear hb2
          go_upto_region 3 with fail
          have hbX := ovr_below W u1
          obtain ⟨X, hX⟩ : ∃ X, X = ovr W u1 := ⟨_, rfl⟩
          rw [← hX] at hbX
          rw [← hX]
          have hX' := Lib.hid hX
          clear hX
          have hbX' := Lib.hid hbX
          have reX : ∀ v, ∃ x, ovr X v = ovr W x := fun v => ovr_reB hbX v
          replace yW00 := tr_cell reX yW00
          replace yW01 := tr_cell reX yW01
          replace yW02 := tr_cell reX yW02
          replace yW03 := tr_cell reX yW03
          replace yW04 := tr_cell reX yW04
          replace yW05 := tr_cell reX yW05
          replace yW06 := tr_cell reX yW06
          replace yW07 := tr_cell reX yW07
          replace yW08 := tr_cell reX yW08
          replace RrowW0 := Lib.hid (tr_row reX RrowW0.out)
          replace yW10 := tr_cell reX yW10
          replace yW11 := tr_cell reX yW11
          replace RrowW1 := Lib.hid (tr_row reX RrowW1.out)
          replace yW20 := tr_cell reX yW20
          replace yW21 := tr_cell reX yW21
          replace RrowW2 := Lib.hid (tr_row reX RrowW2.out)
          have HUX : Hid (∀ u, Below w.heap.size w (ovr X u)) := fun u => by obtain ⟨x, hx⟩ := reX u; rw [hx]; exact HUW.out x
          clear reX hbX
          refine wp_region_below_lit (by kernel_rfl) (by kernel_rfl) ?_
          repeat (go_big_quiet_step (fail))
          refine wpQuiet_nil ?_
          intro V2 hb2
          obtain ⟨u2, rfl⟩ : ∃ u, V2 = ovr X u := ⟨V2, ovr_of hb2⟩
          clear hb2
          go_upto_region 5 with fail
          have hbY := ovr_below X u2
          obtain ⟨Y, hY⟩ : ∃ Y, Y = ovr X u2 := ⟨_, rfl⟩
          rw [← hY] at hbY
          rw [← hY]
          have hY' := Lib.hid hY
          clear hY
          have hbY' := Lib.hid hbY
          have reY : ∀ v, ∃ x, ovr Y v = ovr X x := fun v => ovr_reB hbY v
          replace yW00 := tr_cell reY yW00
          replace yW01 := tr_cell reY yW01
          replace yW02 := tr_cell reY yW02
          replace yW03 := tr_cell reY yW03
          replace yW04 := tr_cell reY yW04
          replace yW05 := tr_cell reY yW05
          replace yW06 := tr_cell reY yW06
          replace yW07 := tr_cell reY yW07
          replace yW08 := tr_cell reY yW08
          replace RrowW0 := Lib.hid (tr_row reY RrowW0.out)
          replace yW10 := tr_cell reY yW10
          replace yW11 := tr_cell reY yW11
          replace RrowW1 := Lib.hid (tr_row reY RrowW1.out)
          replace yW20 := tr_cell reY yW20
          replace yW21 := tr_cell reY yW21
          replace RrowW2 := Lib.hid (tr_row reY RrowW2.out)
          have HUY : Hid (∀ u, Below w.heap.size w (ovr Y u)) := fun u => by obtain ⟨x, hx⟩ := reY u; rw [hx]; exact HUX.out x
          clear reY hbY
          refine wp_region_below_lit (by kernel_rfl) (by kernel_rfl) ?_
          repeat (go_big_quiet_step (fail))
          refine wpQuiet_nil ?_
          intro V2 hb2
          obtain ⟨u3, rfl⟩ : ∃ u, V2 = ovr Y u := ⟨V2, ovr_of hb2⟩
          clear hb2
          go_wp2_with fail
          go_ret
          exact ⟨by rw [hf.out]; rfl, HUY.out _⟩
        · have hf : Hid (canB m ⟨rl, rh⟩ ⟨gl, gh⟩ 1 = true) := by show _ = _; rw [hf.out, show decide ((m.b (1 - 1)).lo < (m.b 1).hi) = true from h3]; rfl
          go_enter Tryz.func67, Tryz.ntmps67
          go_upto_region 1 with (fail)
          rw [← HW.out]
          refine wp_region_below_lit (by kernel_rfl) (by kernel_rfl) ?_
          repeat (go_big_quiet_step (fail))
          refine wpQuiet_nil ?_
          intro V2 hb2
          obtain ⟨u1, rfl⟩ : ∃ u, V2 = ovr W u := ⟨V2, ovr_of hb2⟩
          clear hb2
          go_upto_region 3 with fail
          have hbX := ovr_below W u1
          obtain ⟨X, hX⟩ : ∃ X, X = ovr W u1 := ⟨_, rfl⟩
          rw [← hX] at hbX
          rw [← hX]
          have hX' := Lib.hid hX
          clear hX
          have hbX' := Lib.hid hbX
          have reX : ∀ v, ∃ x, ovr X v = ovr W x := fun v => ovr_reB hbX v
          replace yW00 := tr_cell reX yW00
          replace yW01 := tr_cell reX yW01
          replace yW02 := tr_cell reX yW02
          replace yW03 := tr_cell reX yW03
          replace yW04 := tr_cell reX yW04
          replace yW05 := tr_cell reX yW05
          replace yW06 := tr_cell reX yW06
          replace yW07 := tr_cell reX yW07
          replace yW08 := tr_cell reX yW08
          replace RrowW0 := Lib.hid (tr_row reX RrowW0.out)
          replace yW10 := tr_cell reX yW10
          replace yW11 := tr_cell reX yW11
          replace RrowW1 := Lib.hid (tr_row reX RrowW1.out)
          replace yW20 := tr_cell reX yW20
          replace yW21 := tr_cell reX yW21
          replace RrowW2 := Lib.hid (tr_row reX RrowW2.out)
          have HUX : Hid (∀ u, Below w.heap.size w (ovr X u)) := fun u => by obtain ⟨x, hx⟩ := reX u; rw [hx]; exact HUW.out x
          clear reX hbX
          refine wp_region_below_lit (by kernel_rfl) (by kernel_rfl) ?_
          repeat (go_big_quiet_step (fail))
          refine wpQuiet_nil ?_
          intro V2 hb2
          obtain ⟨u2, rfl⟩ : ∃ u, V2 = ovr X u := ⟨V2, ovr_of hb2⟩
          clear hb2
          go_upto_region 5 with fail
          have hbY := ovr_below X u2
          obtain ⟨Y, hY⟩ : ∃ Y, Y = ovr X u2 := ⟨_, rfl⟩
          rw [← hY] at hbY
          rw [← hY]
          have hY' := Lib.hid hY
          clear hY
          have hbY' := Lib.hid hbY
          have reY : ∀ v, ∃ x, ovr Y v = ovr X x := fun v => ovr_reB hbY v
          replace yW00 := tr_cell reY yW00
          replace yW01 := tr_cell reY yW01
          replace yW02 := tr_cell reY yW02
          replace yW03 := tr_cell reY yW03
          replace yW04 := tr_cell reY yW04
          replace yW05 := tr_cell reY yW05
          replace yW06 := tr_cell reY yW06
          replace yW07 := tr_cell reY yW07
          replace yW08 := tr_cell reY yW08
          replace RrowW0 := Lib.hid (tr_row reY RrowW0.out)
          replace yW10 := tr_cell reY yW10
          replace yW11 := tr_cell reY yW11
          replace RrowW1 := Lib.hid (tr_row reY RrowW1.out)
          replace yW20 := tr_cell reY yW20
          replace yW21 := tr_cell reY yW21
          replace RrowW2 := Lib.hid (tr_row reY RrowW2.out)
          have HUY : Hid (∀ u, Below w.heap.size w (ovr Y u)) := fun u => by obtain ⟨x, hx⟩ := reY u; rw [hx]; exact HUX.out x
          clear reY hbY
          refine wp_region_below_lit (by kernel_rfl) (by kernel_rfl) ?_
          repeat (go_big_quiet_step (fail))
          refine wpQuiet_nil ?_
          intro V2 hb2
          obtain ⟨u3, rfl⟩ : ∃ u, V2 = ovr Y u := ⟨V2, ovr_of hb2⟩
          clear hb2
          go_wp2_with fail
          go_ret
          exact ⟨by rw [hf.out]; rfl, HUY.out _⟩
      · have hf : Hid (canB m ⟨rl, rh⟩ ⟨gl, gh⟩ 1 = false) := by show _ = _; rw [hf.out]; rfl
        go_enter Tryz.func67, Tryz.ntmps67
        go_upto_region 1 with (fail)
        rw [← HW.out]
        refine wp_region_below_lit (by kernel_rfl) (by kernel_rfl) ?_
        repeat (go_big_quiet_step (fail))
        refine wpQuiet_nil ?_
        intro V2 hb2
        obtain ⟨u1, rfl⟩ : ∃ u, V2 = ovr W u := ⟨V2, ovr_of hb2⟩
        clear hb2
        go_upto_region 3 with fail
        have hbX := ovr_below W u1
        obtain ⟨X, hX⟩ : ∃ X, X = ovr W u1 := ⟨_, rfl⟩
        rw [← hX] at hbX
        rw [← hX]
        have hX' := Lib.hid hX
        clear hX
        have hbX' := Lib.hid hbX
        have reX : ∀ v, ∃ x, ovr X v = ovr W x := fun v => ovr_reB hbX v
        replace yW00 := tr_cell reX yW00
        replace yW01 := tr_cell reX yW01
        replace yW02 := tr_cell reX yW02
        replace yW03 := tr_cell reX yW03
        replace yW04 := tr_cell reX yW04
        replace yW05 := tr_cell reX yW05
        replace yW06 := tr_cell reX yW06
        replace yW07 := tr_cell reX yW07
        replace yW08 := tr_cell reX yW08
        replace RrowW0 := Lib.hid (tr_row reX RrowW0.out)
        replace yW10 := tr_cell reX yW10
        replace yW11 := tr_cell reX yW11
        replace RrowW1 := Lib.hid (tr_row reX RrowW1.out)
        replace yW20 := tr_cell reX yW20
        replace yW21 := tr_cell reX yW21
        replace RrowW2 := Lib.hid (tr_row reX RrowW2.out)
        have HUX : Hid (∀ u, Below w.heap.size w (ovr X u)) := fun u => by obtain ⟨x, hx⟩ := reX u; rw [hx]; exact HUW.out x
        clear reX hbX
        refine wp_region_below_lit (by kernel_rfl) (by kernel_rfl) ?_
        repeat (go_big_quiet_step (fail))
        refine wpQuiet_nil ?_
        intro V2 hb2
        obtain ⟨u2, rfl⟩ : ∃ u, V2 = ovr X u := ⟨V2, ovr_of hb2⟩
        clear hb2
        go_wp2_with fail
        go_ret
        exact ⟨by rw [hf.out]; rfl, HUX.out _⟩
    · have hf : Hid (canB m ⟨rl, rh⟩ ⟨gl, gh⟩ 1 = false) := by show _ = _; rw [hf.out]; rfl
      go_enter Tryz.func67, Tryz.ntmps67
      go_upto_region 1 with (fail)
      rw [← HW.out]
      refine wp_region_below_lit (by kernel_rfl) (by kernel_rfl) ?_
      repeat (go_big_quiet_step (fail))
      refine wpQuiet_nil ?_
      intro V2 hb2
      obtain ⟨u1, rfl⟩ : ∃ u, V2 = ovr W u := ⟨V2, ovr_of hb2⟩
      clear hb2
      go_wp2_with fail
      go_ret
      exact ⟨by rw [hf.out]; rfl, HUW.out _⟩
  · skip
    have w4 := w4 (by omega)
    rcases h1 : decide (p1 ≤ q1) with _ | _ <;> rw [h1] at hf
    · rcases h2 : decide (q2 < p2) with _ | _ <;> rw [h2] at hf
      · rcases h3 : decide ((m.b 1).lo < (m.b 2).hi) with _ | _
        · have hf : Hid (canB m ⟨rl, rh⟩ ⟨gl, gh⟩ 2 = false) := by show _ = _; rw [hf.out, show decide ((m.b (2 - 1)).lo < (m.b 2).hi) = false from h3]; rfl
          go_enter Tryz.func67, Tryz.ntmps67
          go_upto_region 1 with (fail)
          rw [← HW.out]
          refine wp_region_below_lit (by kernel_rfl) (by kernel_rfl) ?_
          repeat (go_big_quiet_step (fail))
          refine wpQuiet_nil ?_
          intro V2 hb2
          obtain ⟨u1, rfl⟩ : ∃ u, V2 = ovr W u := ⟨V2, ovr_of hb2⟩
          clear hb2
          go_upto_region 3 with fail
          have hbX := ovr_below W u1
          obtain ⟨X, hX⟩ : ∃ X, X = ovr W u1 := ⟨_, rfl⟩
          rw [← hX] at hbX
          rw [← hX]
          have hX' := Lib.hid hX
          clear hX
          have hbX' := Lib.hid hbX
          have reX : ∀ v, ∃ x, ovr X v = ovr W x := fun v => ovr_reB hbX v
          replace yW00 := tr_cell reX yW00
          replace yW01 := tr_cell reX yW01
          replace yW02 := tr_cell reX yW02
          replace yW03 := tr_cell reX yW03
          replace yW04 := tr_cell reX yW04
          replace yW05 := tr_cell reX yW05
          replace yW06 := tr_cell reX yW06
          replace yW07 := tr_cell reX yW07
          replace yW08 := tr_cell reX yW08
          replace RrowW0 := Lib.hid (tr_row reX RrowW0.out)
          replace yW10 := tr_cell reX yW10
          replace yW11 := tr_cell reX yW11
          replace RrowW1 := Lib.hid (tr_row reX RrowW1.out)
          replace yW20 := tr_cell reX yW20
          replace yW21 := tr_cell reX yW21
          replace RrowW2 := Lib.hid (tr_row reX RrowW2.out)
          have HUX : Hid (∀ u, Below w.heap.size w (ovr X u)) := fun u => by obtain ⟨x, hx⟩ := reX u; rw [hx]; exact HUW.out x
          clear reX hbX
          refine wp_region_below_lit (by kernel_rfl) (by kernel_rfl) ?_
          repeat (go_big_quiet_step (fail))
          refine wpQuiet_nil ?_
          intro V2 hb2
          obtain ⟨u2, rfl⟩ : ∃ u, V2 = ovr X u := ⟨V2, ovr_of hb2⟩
          clear hb2
          go_upto_region 5 with fail
          have hbY := ovr_below X u2
          obtain ⟨Y, hY⟩ : ∃ Y, Y = ovr X u2 := ⟨_, rfl⟩
          rw [← hY] at hbY
          rw [← hY]
          have hY' := Lib.hid hY
          clear hY
          have hbY' := Lib.hid hbY
          have reY : ∀ v, ∃ x, ovr Y v = ovr X x := fun v => ovr_reB hbY v
          replace yW00 := tr_cell reY yW00
          replace yW01 := tr_cell reY yW01
          replace yW02 := tr_cell reY yW02
          replace yW03 := tr_cell reY yW03
          replace yW04 := tr_cell reY yW04
          replace yW05 := tr_cell reY yW05
          replace yW06 := tr_cell reY yW06
          replace yW07 := tr_cell reY yW07
          replace yW08 := tr_cell reY yW08
          replace RrowW0 := Lib.hid (tr_row reY RrowW0.out)
          replace yW10 := tr_cell reY yW10
          replace yW11 := tr_cell reY yW11
          replace RrowW1 := Lib.hid (tr_row reY RrowW1.out)
          replace yW20 := tr_cell reY yW20
          replace yW21 := tr_cell reY yW21
          replace RrowW2 := Lib.hid (tr_row reY RrowW2.out)
          have HUY : Hid (∀ u, Below w.heap.size w (ovr Y u)) := fun u => by obtain ⟨x, hx⟩ := reY u; rw [hx]; exact HUX.out x
          clear reY hbY
          refine wp_region_below_lit (by kernel_rfl) (by kernel_rfl) ?_
          repeat (go_big_quiet_step (fail))
          refine wpQuiet_nil ?_
          intro V2 hb2
          obtain ⟨u3, rfl⟩ : ∃ u, V2 = ovr Y u := ⟨V2, ovr_of hb2⟩
          clear hb2
          go_wp2_with fail
          go_ret
          exact ⟨by rw [hf.out]; rfl, HUY.out _⟩
        · have hf : Hid (canB m ⟨rl, rh⟩ ⟨gl, gh⟩ 2 = true) := by show _ = _; rw [hf.out, show decide ((m.b (2 - 1)).lo < (m.b 2).hi) = true from h3]; rfl
          go_enter Tryz.func67, Tryz.ntmps67
          go_upto_region 1 with (fail)
          rw [← HW.out]
          refine wp_region_below_lit (by kernel_rfl) (by kernel_rfl) ?_
          repeat (go_big_quiet_step (fail))
          refine wpQuiet_nil ?_
          intro V2 hb2
          obtain ⟨u1, rfl⟩ : ∃ u, V2 = ovr W u := ⟨V2, ovr_of hb2⟩
          clear hb2
          go_upto_region 3 with fail
          have hbX := ovr_below W u1
          obtain ⟨X, hX⟩ : ∃ X, X = ovr W u1 := ⟨_, rfl⟩
          rw [← hX] at hbX
          rw [← hX]
          have hX' := Lib.hid hX
          clear hX
          have hbX' := Lib.hid hbX
          have reX : ∀ v, ∃ x, ovr X v = ovr W x := fun v => ovr_reB hbX v
          replace yW00 := tr_cell reX yW00
          replace yW01 := tr_cell reX yW01
          replace yW02 := tr_cell reX yW02
          replace yW03 := tr_cell reX yW03
          replace yW04 := tr_cell reX yW04
          replace yW05 := tr_cell reX yW05
          replace yW06 := tr_cell reX yW06
          replace yW07 := tr_cell reX yW07
          replace yW08 := tr_cell reX yW08
          replace RrowW0 := Lib.hid (tr_row reX RrowW0.out)
          replace yW10 := tr_cell reX yW10
          replace yW11 := tr_cell reX yW11
          replace RrowW1 := Lib.hid (tr_row reX RrowW1.out)
          replace yW20 := tr_cell reX yW20
          replace yW21 := tr_cell reX yW21
          replace RrowW2 := Lib.hid (tr_row reX RrowW2.out)
          have HUX : Hid (∀ u, Below w.heap.size w (ovr X u)) := fun u => by obtain ⟨x, hx⟩ := reX u; rw [hx]; exact HUW.out x
          clear reX hbX
          refine wp_region_below_lit (by kernel_rfl) (by kernel_rfl) ?_
          repeat (go_big_quiet_step (fail))
          refine wpQuiet_nil ?_
          intro V2 hb2
          obtain ⟨u2, rfl⟩ : ∃ u, V2 = ovr X u := ⟨V2, ovr_of hb2⟩
          clear hb2
          go_upto_region 5 with fail
          have hbY := ovr_below X u2
          obtain ⟨Y, hY⟩ : ∃ Y, Y = ovr X u2 := ⟨_, rfl⟩
          rw [← hY] at hbY
          rw [← hY]
          have hY' := Lib.hid hY
          clear hY
          have hbY' := Lib.hid hbY
          have reY : ∀ v, ∃ x, ovr Y v = ovr X x := fun v => ovr_reB hbY v
          replace yW00 := tr_cell reY yW00
          replace yW01 := tr_cell reY yW01
          replace yW02 := tr_cell reY yW02
          replace yW03 := tr_cell reY yW03
          replace yW04 := tr_cell reY yW04
          replace yW05 := tr_cell reY yW05
          replace yW06 := tr_cell reY yW06
          replace yW07 := tr_cell reY yW07
          replace yW08 := tr_cell reY yW08
          replace RrowW0 := Lib.hid (tr_row reY RrowW0.out)
          replace yW10 := tr_cell reY yW10
          replace yW11 := tr_cell reY yW11
          replace RrowW1 := Lib.hid (tr_row reY RrowW1.out)
          replace yW20 := tr_cell reY yW20
          replace yW21 := tr_cell reY yW21
          replace RrowW2 := Lib.hid (tr_row reY RrowW2.out)
          have HUY : Hid (∀ u, Below w.heap.size w (ovr Y u)) := fun u => by obtain ⟨x, hx⟩ := reY u; rw [hx]; exact HUX.out x
          clear reY hbY
          refine wp_region_below_lit (by kernel_rfl) (by kernel_rfl) ?_
          repeat (go_big_quiet_step (fail))
          refine wpQuiet_nil ?_
          intro V2 hb2
          obtain ⟨u3, rfl⟩ : ∃ u, V2 = ovr Y u := ⟨V2, ovr_of hb2⟩
          clear hb2
          go_wp2_with fail
          go_ret
          exact ⟨by rw [hf.out]; rfl, HUY.out _⟩
      · have hf : Hid (canB m ⟨rl, rh⟩ ⟨gl, gh⟩ 2 = false) := by show _ = _; rw [hf.out]; rfl
        go_enter Tryz.func67, Tryz.ntmps67
        go_upto_region 1 with (fail)
        rw [← HW.out]
        refine wp_region_below_lit (by kernel_rfl) (by kernel_rfl) ?_
        repeat (go_big_quiet_step (fail))
        refine wpQuiet_nil ?_
        intro V2 hb2
        obtain ⟨u1, rfl⟩ : ∃ u, V2 = ovr W u := ⟨V2, ovr_of hb2⟩
        clear hb2
        go_upto_region 3 with fail
        have hbX := ovr_below W u1
        obtain ⟨X, hX⟩ : ∃ X, X = ovr W u1 := ⟨_, rfl⟩
        rw [← hX] at hbX
        rw [← hX]
        have hX' := Lib.hid hX
        clear hX
        have hbX' := Lib.hid hbX
        have reX : ∀ v, ∃ x, ovr X v = ovr W x := fun v => ovr_reB hbX v
        replace yW00 := tr_cell reX yW00
        replace yW01 := tr_cell reX yW01
        replace yW02 := tr_cell reX yW02
        replace yW03 := tr_cell reX yW03
        replace yW04 := tr_cell reX yW04
        replace yW05 := tr_cell reX yW05
        replace yW06 := tr_cell reX yW06
        replace yW07 := tr_cell reX yW07
        replace yW08 := tr_cell reX yW08
        replace RrowW0 := Lib.hid (tr_row reX RrowW0.out)
        replace yW10 := tr_cell reX yW10
        replace yW11 := tr_cell reX yW11
        replace RrowW1 := Lib.hid (tr_row reX RrowW1.out)
        replace yW20 := tr_cell reX yW20
        replace yW21 := tr_cell reX yW21
        replace RrowW2 := Lib.hid (tr_row reX RrowW2.out)
        have HUX : Hid (∀ u, Below w.heap.size w (ovr X u)) := fun u => by obtain ⟨x, hx⟩ := reX u; rw [hx]; exact HUW.out x
        clear reX hbX
        refine wp_region_below_lit (by kernel_rfl) (by kernel_rfl) ?_
        repeat (go_big_quiet_step (fail))
        refine wpQuiet_nil ?_
        intro V2 hb2
        obtain ⟨u2, rfl⟩ : ∃ u, V2 = ovr X u := ⟨V2, ovr_of hb2⟩
        clear hb2
        go_wp2_with fail
        go_ret
        exact ⟨by rw [hf.out]; rfl, HUX.out _⟩
    · have hf : Hid (canB m ⟨rl, rh⟩ ⟨gl, gh⟩ 2 = false) := by show _ = _; rw [hf.out]; rfl
      go_enter Tryz.func67, Tryz.ntmps67
      go_upto_region 1 with (fail)
      rw [← HW.out]
      refine wp_region_below_lit (by kernel_rfl) (by kernel_rfl) ?_
      repeat (go_big_quiet_step (fail))
      refine wpQuiet_nil ?_
      intro V2 hb2
      obtain ⟨u1, rfl⟩ : ∃ u, V2 = ovr W u := ⟨V2, ovr_of hb2⟩
      clear hb2
      go_wp2_with fail
      go_ret
      exact ⟨by rw [hf.out]; rfl, HUW.out _⟩
  · skip
    have w4 := w4 (by omega)
    rcases h1 : decide (p1 ≤ q1) with _ | _ <;> rw [h1] at hf
    · rcases h2 : decide (q2 < p2) with _ | _ <;> rw [h2] at hf
      · rcases h3 : decide ((m.b 2).lo < (m.b 3).hi) with _ | _
        · have hf : Hid (canB m ⟨rl, rh⟩ ⟨gl, gh⟩ 3 = false) := by show _ = _; rw [hf.out, show decide ((m.b (3 - 1)).lo < (m.b 3).hi) = false from h3]; rfl
          go_enter Tryz.func67, Tryz.ntmps67
          go_upto_region 1 with (fail)
          rw [← HW.out]
          refine wp_region_below_lit (by kernel_rfl) (by kernel_rfl) ?_
          repeat (go_big_quiet_step (fail))
          refine wpQuiet_nil ?_
          intro V2 hb2
          obtain ⟨u1, rfl⟩ : ∃ u, V2 = ovr W u := ⟨V2, ovr_of hb2⟩
          clear hb2
          go_upto_region 3 with fail
          have hbX := ovr_below W u1
          obtain ⟨X, hX⟩ : ∃ X, X = ovr W u1 := ⟨_, rfl⟩
          rw [← hX] at hbX
          rw [← hX]
          have hX' := Lib.hid hX
          clear hX
          have hbX' := Lib.hid hbX
          have reX : ∀ v, ∃ x, ovr X v = ovr W x := fun v => ovr_reB hbX v
          replace yW00 := tr_cell reX yW00
          replace yW01 := tr_cell reX yW01
          replace yW02 := tr_cell reX yW02
          replace yW03 := tr_cell reX yW03
          replace yW04 := tr_cell reX yW04
          replace yW05 := tr_cell reX yW05
          replace yW06 := tr_cell reX yW06
          replace yW07 := tr_cell reX yW07
          replace yW08 := tr_cell reX yW08
          replace RrowW0 := Lib.hid (tr_row reX RrowW0.out)
          replace yW10 := tr_cell reX yW10
          replace yW11 := tr_cell reX yW11
          replace RrowW1 := Lib.hid (tr_row reX RrowW1.out)
          replace yW20 := tr_cell reX yW20
          replace yW21 := tr_cell reX yW21
          replace RrowW2 := Lib.hid (tr_row reX RrowW2.out)
          have HUX : Hid (∀ u, Below w.heap.size w (ovr X u)) := fun u => by obtain ⟨x, hx⟩ := reX u; rw [hx]; exact HUW.out x
          clear reX hbX
          refine wp_region_below_lit (by kernel_rfl) (by kernel_rfl) ?_
          repeat (go_big_quiet_step (fail))
          refine wpQuiet_nil ?_
          intro V2 hb2
          obtain ⟨u2, rfl⟩ : ∃ u, V2 = ovr X u := ⟨V2, ovr_of hb2⟩
          clear hb2
          go_upto_region 5 with fail
          have hbY := ovr_below X u2
          obtain ⟨Y, hY⟩ : ∃ Y, Y = ovr X u2 := ⟨_, rfl⟩
          rw [← hY] at hbY
          rw [← hY]
          have hY' := Lib.hid hY
          clear hY
          have hbY' := Lib.hid hbY
          have reY : ∀ v, ∃ x, ovr Y v = ovr X x := fun v => ovr_reB hbY v
          replace yW00 := tr_cell reY yW00
          replace yW01 := tr_cell reY yW01
          replace yW02 := tr_cell reY yW02
          replace yW03 := tr_cell reY yW03
          replace yW04 := tr_cell reY yW04
          replace yW05 := tr_cell reY yW05
          replace yW06 := tr_cell reY yW06
          replace yW07 := tr_cell reY yW07
          replace yW08 := tr_cell reY yW08
          replace RrowW0 := Lib.hid (tr_row reY RrowW0.out)
          replace yW10 := tr_cell reY yW10
          replace yW11 := tr_cell reY yW11
          replace RrowW1 := Lib.hid (tr_row reY RrowW1.out)
          replace yW20 := tr_cell reY yW20
          replace yW21 := tr_cell reY yW21
          replace RrowW2 := Lib.hid (tr_row reY RrowW2.out)
          have HUY : Hid (∀ u, Below w.heap.size w (ovr Y u)) := fun u => by obtain ⟨x, hx⟩ := reY u; rw [hx]; exact HUX.out x
          clear reY hbY
          refine wp_region_below_lit (by kernel_rfl) (by kernel_rfl) ?_
          repeat (go_big_quiet_step (fail))
          refine wpQuiet_nil ?_
          intro V2 hb2
          obtain ⟨u3, rfl⟩ : ∃ u, V2 = ovr Y u := ⟨V2, ovr_of hb2⟩
          clear hb2
          go_wp2_with fail
          go_ret
          exact ⟨by rw [hf.out]; rfl, HUY.out _⟩
        · have hf : Hid (canB m ⟨rl, rh⟩ ⟨gl, gh⟩ 3 = true) := by show _ = _; rw [hf.out, show decide ((m.b (3 - 1)).lo < (m.b 3).hi) = true from h3]; rfl
          go_enter Tryz.func67, Tryz.ntmps67
          go_upto_region 1 with (fail)
          rw [← HW.out]
          refine wp_region_below_lit (by kernel_rfl) (by kernel_rfl) ?_
          repeat (go_big_quiet_step (fail))
          refine wpQuiet_nil ?_
          intro V2 hb2
          obtain ⟨u1, rfl⟩ : ∃ u, V2 = ovr W u := ⟨V2, ovr_of hb2⟩
          clear hb2
          go_upto_region 3 with fail
          have hbX := ovr_below W u1
          obtain ⟨X, hX⟩ : ∃ X, X = ovr W u1 := ⟨_, rfl⟩
          rw [← hX] at hbX
          rw [← hX]
          have hX' := Lib.hid hX
          clear hX
          have hbX' := Lib.hid hbX
          have reX : ∀ v, ∃ x, ovr X v = ovr W x := fun v => ovr_reB hbX v
          replace yW00 := tr_cell reX yW00
          replace yW01 := tr_cell reX yW01
          replace yW02 := tr_cell reX yW02
          replace yW03 := tr_cell reX yW03
          replace yW04 := tr_cell reX yW04
          replace yW05 := tr_cell reX yW05
          replace yW06 := tr_cell reX yW06
          replace yW07 := tr_cell reX yW07
          replace yW08 := tr_cell reX yW08
          replace RrowW0 := Lib.hid (tr_row reX RrowW0.out)
          replace yW10 := tr_cell reX yW10
          replace yW11 := tr_cell reX yW11
          replace RrowW1 := Lib.hid (tr_row reX RrowW1.out)
          replace yW20 := tr_cell reX yW20
          replace yW21 := tr_cell reX yW21
          replace RrowW2 := Lib.hid (tr_row reX RrowW2.out)
          have HUX : Hid (∀ u, Below w.heap.size w (ovr X u)) := fun u => by obtain ⟨x, hx⟩ := reX u; rw [hx]; exact HUW.out x
          clear reX hbX
          refine wp_region_below_lit (by kernel_rfl) (by kernel_rfl) ?_
          repeat (go_big_quiet_step (fail))
          refine wpQuiet_nil ?_
          intro V2 hb2
          obtain ⟨u2, rfl⟩ : ∃ u, V2 = ovr X u := ⟨V2, ovr_of hb2⟩
          clear hb2
          go_upto_region 5 with fail
          have hbY := ovr_below X u2
          obtain ⟨Y, hY⟩ : ∃ Y, Y = ovr X u2 := ⟨_, rfl⟩
          rw [← hY] at hbY
          rw [← hY]
          have hY' := Lib.hid hY
          clear hY
          have hbY' := Lib.hid hbY
          have reY : ∀ v, ∃ x, ovr Y v = ovr X x := fun v => ovr_reB hbY v
          replace yW00 := tr_cell reY yW00
          replace yW01 := tr_cell reY yW01
          replace yW02 := tr_cell reY yW02
          replace yW03 := tr_cell reY yW03
          replace yW04 := tr_cell reY yW04
          replace yW05 := tr_cell reY yW05
          replace yW06 := tr_cell reY yW06
          replace yW07 := tr_cell reY yW07
          replace yW08 := tr_cell reY yW08
          replace RrowW0 := Lib.hid (tr_row reY RrowW0.out)
          replace yW10 := tr_cell reY yW10
          replace yW11 := tr_cell reY yW11
          replace RrowW1 := Lib.hid (tr_row reY RrowW1.out)
          replace yW20 := tr_cell reY yW20
          replace yW21 := tr_cell reY yW21
          replace RrowW2 := Lib.hid (tr_row reY RrowW2.out)
          have HUY : Hid (∀ u, Below w.heap.size w (ovr Y u)) := fun u => by obtain ⟨x, hx⟩ := reY u; rw [hx]; exact HUX.out x
          clear reY hbY
          refine wp_region_below_lit (by kernel_rfl) (by kernel_rfl) ?_
          repeat (go_big_quiet_step (fail))
          refine wpQuiet_nil ?_
          intro V2 hb2
          obtain ⟨u3, rfl⟩ : ∃ u, V2 = ovr Y u := ⟨V2, ovr_of hb2⟩
          clear hb2
          go_wp2_with fail
          go_ret
          exact ⟨by rw [hf.out]; rfl, HUY.out _⟩
      · have hf : Hid (canB m ⟨rl, rh⟩ ⟨gl, gh⟩ 3 = false) := by show _ = _; rw [hf.out]; rfl
        go_enter Tryz.func67, Tryz.ntmps67
        go_upto_region 1 with (fail)
        rw [← HW.out]
        refine wp_region_below_lit (by kernel_rfl) (by kernel_rfl) ?_
        repeat (go_big_quiet_step (fail))
        refine wpQuiet_nil ?_
        intro V2 hb2
        obtain ⟨u1, rfl⟩ : ∃ u, V2 = ovr W u := ⟨V2, ovr_of hb2⟩
        clear hb2
        go_upto_region 3 with fail
        have hbX := ovr_below W u1
        obtain ⟨X, hX⟩ : ∃ X, X = ovr W u1 := ⟨_, rfl⟩
        rw [← hX] at hbX
        rw [← hX]
        have hX' := Lib.hid hX
        clear hX
        have hbX' := Lib.hid hbX
        have reX : ∀ v, ∃ x, ovr X v = ovr W x := fun v => ovr_reB hbX v
        replace yW00 := tr_cell reX yW00
        replace yW01 := tr_cell reX yW01
        replace yW02 := tr_cell reX yW02
        replace yW03 := tr_cell reX yW03
        replace yW04 := tr_cell reX yW04
        replace yW05 := tr_cell reX yW05
        replace yW06 := tr_cell reX yW06
        replace yW07 := tr_cell reX yW07
        replace yW08 := tr_cell reX yW08
        replace RrowW0 := Lib.hid (tr_row reX RrowW0.out)
        replace yW10 := tr_cell reX yW10
        replace yW11 := tr_cell reX yW11
        replace RrowW1 := Lib.hid (tr_row reX RrowW1.out)
        replace yW20 := tr_cell reX yW20
        replace yW21 := tr_cell reX yW21
        replace RrowW2 := Lib.hid (tr_row reX RrowW2.out)
        have HUX : Hid (∀ u, Below w.heap.size w (ovr X u)) := fun u => by obtain ⟨x, hx⟩ := reX u; rw [hx]; exact HUW.out x
        clear reX hbX
        refine wp_region_below_lit (by kernel_rfl) (by kernel_rfl) ?_
        repeat (go_big_quiet_step (fail))
        refine wpQuiet_nil ?_
        intro V2 hb2
        obtain ⟨u2, rfl⟩ : ∃ u, V2 = ovr X u := ⟨V2, ovr_of hb2⟩
        clear hb2
        go_wp2_with fail
        go_ret
        exact ⟨by rw [hf.out]; rfl, HUX.out _⟩
    · have hf : Hid (canB m ⟨rl, rh⟩ ⟨gl, gh⟩ 3 = false) := by show _ = _; rw [hf.out]; rfl
      go_enter Tryz.func67, Tryz.ntmps67
      go_upto_region 1 with (fail)
      rw [← HW.out]
      refine wp_region_below_lit (by kernel_rfl) (by kernel_rfl) ?_
      repeat (go_big_quiet_step (fail))
      refine wpQuiet_nil ?_
      intro V2 hb2
      obtain ⟨u1, rfl⟩ : ∃ u, V2 = ovr W u := ⟨V2, ovr_of hb2⟩
      clear hb2
      go_wp2_with fail
      go_ret
      exact ⟨by rw [hf.out]; rfl, HUW.out _⟩
  · clear w4
    rcases h1 : decide (p1 ≤ q1) with _ | _ <;> rw [h1] at hf
    · have hf : Hid (canB m ⟨rl, rh⟩ ⟨gl, gh⟩ 4 = true) := by show _ = _; rw [hf.out]; rfl
      go_enter Tryz.func67, Tryz.ntmps67
      go_upto_region 1 with (fail)
      rw [← HW.out]
      refine wp_region_below_lit (by kernel_rfl) (by kernel_rfl) ?_
      repeat (go_big_quiet_step (fail))
      refine wpQuiet_nil ?_
      intro V2 hb2
      obtain ⟨u1, rfl⟩ : ∃ u, V2 = ovr W u := ⟨V2, ovr_of hb2⟩
      clear hb2
      go_upto_region 3 with fail
      have hbX := ovr_below W u1
      obtain ⟨X, hX⟩ : ∃ X, X = ovr W u1 := ⟨_, rfl⟩
      rw [← hX] at hbX
      rw [← hX]
      have hX' := Lib.hid hX
      clear hX
      have hbX' := Lib.hid hbX
      have reX : ∀ v, ∃ x, ovr X v = ovr W x := fun v => ovr_reB hbX v
      replace yW00 := tr_cell reX yW00
      replace yW01 := tr_cell reX yW01
      replace yW02 := tr_cell reX yW02
      replace yW03 := tr_cell reX yW03
      replace yW04 := tr_cell reX yW04
      replace yW05 := tr_cell reX yW05
      replace yW06 := tr_cell reX yW06
      replace yW07 := tr_cell reX yW07
      replace yW08 := tr_cell reX yW08
      replace RrowW0 := Lib.hid (tr_row reX RrowW0.out)
      replace yW10 := tr_cell reX yW10
      replace yW11 := tr_cell reX yW11
      replace RrowW1 := Lib.hid (tr_row reX RrowW1.out)
      replace yW20 := tr_cell reX yW20
      replace yW21 := tr_cell reX yW21
      replace RrowW2 := Lib.hid (tr_row reX RrowW2.out)
      have HUX : Hid (∀ u, Below w.heap.size w (ovr X u)) := fun u => by obtain ⟨x, hx⟩ := reX u; rw [hx]; exact HUW.out x
      clear reX hbX
      refine wp_region_below_lit (by kernel_rfl) (by kernel_rfl) ?_
      repeat (go_big_quiet_step (fail))
      refine wpQuiet_nil ?_
      intro V2 hb2
      obtain ⟨u2, rfl⟩ : ∃ u, V2 = ovr X u := ⟨V2, ovr_of hb2⟩
      clear hb2
      go_upto_region 5 with fail
      have hbY := ovr_below X u2
      obtain ⟨Y, hY⟩ : ∃ Y, Y = ovr X u2 := ⟨_, rfl⟩
      rw [← hY] at hbY
      rw [← hY]
      have hY' := Lib.hid hY
      clear hY
      have hbY' := Lib.hid hbY
      have reY : ∀ v, ∃ x, ovr Y v = ovr X x := fun v => ovr_reB hbY v
      replace yW00 := tr_cell reY yW00
      replace yW01 := tr_cell reY yW01
      replace yW02 := tr_cell reY yW02
      replace yW03 := tr_cell reY yW03
      replace yW04 := tr_cell reY yW04
      replace yW05 := tr_cell reY yW05
      replace yW06 := tr_cell reY yW06
      replace yW07 := tr_cell reY yW07
      replace yW08 := tr_cell reY yW08
      replace RrowW0 := Lib.hid (tr_row reY RrowW0.out)
      replace yW10 := tr_cell reY yW10
      replace yW11 := tr_cell reY yW11
      replace RrowW1 := Lib.hid (tr_row reY RrowW1.out)
      replace yW20 := tr_cell reY yW20
      replace yW21 := tr_cell reY yW21
      replace RrowW2 := Lib.hid (tr_row reY RrowW2.out)
      have HUY : Hid (∀ u, Below w.heap.size w (ovr Y u)) := fun u => by obtain ⟨x, hx⟩ := reY u; rw [hx]; exact HUX.out x
      clear reY hbY
      refine wp_region_below_lit (by kernel_rfl) (by kernel_rfl) ?_
      repeat (go_big_quiet_step (fail))
      refine wpQuiet_nil ?_
      intro V2 hb2
      obtain ⟨u3, rfl⟩ : ∃ u, V2 = ovr Y u := ⟨V2, ovr_of hb2⟩
      clear hb2
      go_wp2_with fail
      go_ret
      exact ⟨by rw [hf.out]; rfl, HUY.out _⟩
    · have hf : Hid (canB m ⟨rl, rh⟩ ⟨gl, gh⟩ 4 = false) := by show _ = _; rw [hf.out]; rfl
      go_enter Tryz.func67, Tryz.ntmps67
      go_upto_region 1 with (fail)
      rw [← HW.out]
      refine wp_region_below_lit (by kernel_rfl) (by kernel_rfl) ?_
      repeat (go_big_quiet_step (fail))
      refine wpQuiet_nil ?_
      intro V2 hb2
      obtain ⟨u1, rfl⟩ : ∃ u, V2 = ovr W u := ⟨V2, ovr_of hb2⟩
      clear hb2
      go_wp2_with fail
      go_ret
      exact ⟨by rw [hf.out]; rfl, HUW.out _⟩
  · omega
set_option maxRecDepth 100000 in
set_option maxHeartbeats 2000000 in
theorem refRegions_any (m : Mdl) (r g : Rng) (hp : PlOk m r g) (w : World) : Calls Tryz.prog 38 #[.agg (mdA m), r.val, g.val] w fun e w' => e = .returned (.int .u8 (regK (posB m r g) 5)) ∧ Below w.heap.size w w' := by
  have cp := Lib.hid fun k hk W => refCan_any m r g k hk hp W
  obtain ⟨rl, rh⟩ := r
  obtain ⟨gl, gh⟩ := g
  obtain ⟨P, hP⟩ : ∃ P, P = posB m ⟨rl, rh⟩ ⟨gl, gh⟩ := ⟨_, rfl⟩
  rw [← hP] at cp ⊢
  clear hP hp
  obtain ⟨W, hW⟩ : ∃ W, W = (((w.alloc (.cells #[I m.sc, I (m.b 0).lo, I (m.b 0).hi, I (m.b 1).lo, I (m.b 1).hi, I (m.b 2).lo, I (m.b 2).hi, I (m.b 3).lo, I (m.b 3).hi] 26)).alloc (.cells #[I rl, I rh] 23)).alloc (.cells #[I gl, I gh] 23)) := ⟨_, rfl⟩
  have rowW0 : W.heap[w.heap.size]? = some (.cells #[I m.sc, I (m.b 0).lo, I (m.b 0).hi, I (m.b 1).lo, I (m.b 1).hi, I (m.b 2).lo, I (m.b 2).hi, I (m.b 3).lo, I (m.b 3).hi] 26 (0, 0)) := by rw [hW]; exact heap_before (heap_before (heap_last _ _ _ rfl))
  have yW00 := ovr_cell (W := W) (b := w.heap.size) (o := 0) (v := I m.sc) (by rw [cell_of_row _ _ _ _ _ _ rowW0]; rfl)
  have yW01 := ovr_cell (W := W) (b := w.heap.size) (o := 1) (v := I (m.b 0).lo) (by rw [cell_of_row _ _ _ _ _ _ rowW0]; rfl)
  have yW02 := ovr_cell (W := W) (b := w.heap.size) (o := 2) (v := I (m.b 0).hi) (by rw [cell_of_row _ _ _ _ _ _ rowW0]; rfl)
  have yW03 := ovr_cell (W := W) (b := w.heap.size) (o := 3) (v := I (m.b 1).lo) (by rw [cell_of_row _ _ _ _ _ _ rowW0]; rfl)
  have yW04 := ovr_cell (W := W) (b := w.heap.size) (o := 4) (v := I (m.b 1).hi) (by rw [cell_of_row _ _ _ _ _ _ rowW0]; rfl)
  have yW05 := ovr_cell (W := W) (b := w.heap.size) (o := 5) (v := I (m.b 2).lo) (by rw [cell_of_row _ _ _ _ _ _ rowW0]; rfl)
  have yW06 := ovr_cell (W := W) (b := w.heap.size) (o := 6) (v := I (m.b 2).hi) (by rw [cell_of_row _ _ _ _ _ _ rowW0]; rfl)
  have yW07 := ovr_cell (W := W) (b := w.heap.size) (o := 7) (v := I (m.b 3).lo) (by rw [cell_of_row _ _ _ _ _ _ rowW0]; rfl)
  have yW08 := ovr_cell (W := W) (b := w.heap.size) (o := 8) (v := I (m.b 3).hi) (by rw [cell_of_row _ _ _ _ _ _ rowW0]; rfl)
  have RrowW0 := Lib.hid (ovr_row rowW0)
  clear rowW0
  have rowW1 : W.heap[w.heap.size + 1]? = some (.cells #[I rl, I rh] 23 (0, 0)) := by rw [hW]; exact heap_before (heap_last _ _ _ (by simp))
  have yW10 := ovr_cell (W := W) (b := w.heap.size + 1) (o := 0) (v := I rl) (by rw [cell_of_row _ _ _ _ _ _ rowW1]; rfl)
  have yW11 := ovr_cell (W := W) (b := w.heap.size + 1) (o := 1) (v := I rh) (by rw [cell_of_row _ _ _ _ _ _ rowW1]; rfl)
  have RrowW1 := Lib.hid (ovr_row rowW1)
  clear rowW1
  have rowW2 : W.heap[w.heap.size + 1 + 1]? = some (.cells #[I gl, I gh] 23 (0, 0)) := by rw [hW]; exact heap_last _ _ _ (by simp)
  have yW20 := ovr_cell (W := W) (b := w.heap.size + 1 + 1) (o := 0) (v := I gl) (by rw [cell_of_row _ _ _ _ _ _ rowW2]; rfl)
  have yW21 := ovr_cell (W := W) (b := w.heap.size + 1 + 1) (o := 1) (v := I gh) (by rw [cell_of_row _ _ _ _ _ _ rowW2]; rfl)
  have RrowW2 := Lib.hid (ovr_row rowW2)
  clear rowW2
  have HUW : Hid (∀ u, Below w.heap.size w (ovr W u)) := U3 hW
  have HW := Lib.hid hW
  clear hW
  go_enter Tryz.func38, Tryz.ntmps38
  go_upto_region 1 with (fail)
  rw [← HW.out]
  obtain ⟨u0, hu0⟩ := ovr_self W
  rw [hu0]
  clear hu0
  go_wp2_with fail
  go_loopw [7, 8] (fun s i wr => ∃ (k : Nat) (u : World), k ≤ 5 ∧ i = .int .i64 k ∧ s = .int .u8 (regK P k) ∧ wr = ovr W u) (fun _ i _ => 5 - (intOf i).toNat)
  case atStart => exact ⟨0, u0, by omega, rfl, rfl, rfl⟩
  case round =>
    obtain ⟨k, u, hk5, rfl, rfl, rfl⟩ := hrel
    by_cases hlt : k < 5
    · have CP := Lib.hid (cp.out k hlt (ovr W u))
      have hb5 := regK_bd P k
      have hs : regK P (k + 1) = regK P k + (if P k then 2 ^ k else 0) := rfl
      rcases hb : P k with _ | _
      · rw [hb] at CP hs
        have hs : regK P (k + 1) = regK P k := by rw [hs]; simp
        have HS := Lib.hid hs
        clear hs hb hb5
        go_wp2_with fail
        refine CP.out.mono ?_
        rintro e w1 ⟨rfl, hb1⟩
        obtain ⟨u1, rfl⟩ := ovr_next hb1
        clear hb1
        go_wp2_with fail
        exact ⟨⟨k + 1, u1, by omega, rfl, by rw [HS.out], rfl⟩, by simp [intOf]; omega⟩
      · rw [hb] at CP hs
        have hs : bits .or .u8 (regK P k) (2 ^ k % 256) = regK P (k + 1) := by rw [hs, or_bit hlt hb5]; simp
        have HS := Lib.hid hs
        clear hs hb hb5
        go_wp2_with fail
        refine CP.out.mono ?_
        rintro e w1 ⟨rfl, hb1⟩
        obtain ⟨u1, rfl⟩ := ovr_next hb1
        clear hb1
        go_wp2_with fail
        exact ⟨⟨k + 1, u1, by omega, rfl, by rw [HS.out], rfl⟩, by simp [intOf]; omega⟩
    · have hk : k = 5 := by omega
      subst hk
      go_wp2_with fail
      go_ret
      exact ⟨rfl, HUW.out u⟩
/-- What Judge of the reference answers. -/
def jrF (c v : Int) : Int × Int := if 31 < c ∨ 31 < v then (0, 2) else if bits .andNot .u8 c v = 0 then (1, 0) else if bits .and .u8 c v = 0 then (3, 0) else (2, 0)
theorem jr_eq {c v : Int} (hc : 0 ≤ c) (hv : 0 ≤ v) : jrF c v = jdF c v := by
  have key : ∀ (a : Fin 32) (b : Fin 32), (bits .andNot .u8 (a.val : Int) (b.val : Int) = 0) ↔ (bits .and .u8 (a.val : Int) (b.val : Int) = (a.val : Int)) := by decide +kernel
  unfold jrF jdF
  by_cases h : 31 < c ∨ 31 < v
  · rw [if_pos h, if_pos h]
  · rw [if_neg h, if_neg h]
    obtain ⟨a, rfl⟩ := Int.eq_ofNat_of_zero_le hc
    obtain ⟨b, rfl⟩ := Int.eq_ofNat_of_zero_le hv
    have k1 := key ⟨a, by omega⟩ ⟨b, by omega⟩
    by_cases h1 : bits .and .u8 (a : Int) (b : Int) = (a : Int)
    · rw [if_pos (k1.2 h1), if_pos h1]
    · rw [if_neg (fun h2 => h1 (k1.1 h2)), if_neg h1]
end Go.Proofs.YteibgenkklpoaaaGreat.Un
