/- Contracts of isRange, isRate, isGradient, CheckModel, bounds, possible, regions, Regions, Judge of package defect. -/
import Derived.Test.YtnkaoplgmglijaaDoorU3
import Derived.Test.YtnkaoplgmglijaaDoorHp
namespace Go.Proofs.YtnkaoplgmglijaaDoor.Un
open Go.RowKit
def spanB (r : Rng) (l h : Int) : Bool := decide (l ≤ r.lo) && (decide (r.lo ≤ r.hi) && decide (r.hi ≤ h))
theorem spanB_iff {r : Rng} {l h : Int} : spanB r l h = true ↔ l ≤ r.lo ∧ r.lo ≤ r.hi ∧ r.hi ≤ h := by
 unfold spanB
 rw [Bool.and_eq_true, Bool.and_eq_true, decide_eq_true_eq, decide_eq_true_eq, decide_eq_true_eq]
set_option maxRecDepth 100000 in
set_option maxHeartbeats 1000000 in
theorem isRange_any (r : Rng) (l h : Int) (w : World) : Calls Tryd.prog 36 #[r.val, I l, I h] w fun e w' => e = .returned (.bool (spanB r l h)) ∧ Below w.heap.size w w' := by
 obtain ⟨lo, hi⟩ := r
 obtain ⟨W, hW⟩ : ∃ W, W = (w.alloc (.cells #[I lo, I hi] 23)) := ⟨_, rfl⟩
 have rowW0 : W.heap[w.heap.size]? = some (.cells #[I lo, I hi] 23 (0, 0)) := by rw [hW]; exact heap_last _ _ _ rfl
 have yW00 := ovr_cell (W := W) (b := w.heap.size) (o := 0) (v := I lo) (by rw [cell_of_row _ _ _ _ _ _ rowW0]; rfl)
 have yW01 := ovr_cell (W := W) (b := w.heap.size) (o := 1) (v := I hi) (by rw [cell_of_row _ _ _ _ _ _ rowW0]; rfl)
 have RrowW0 := Lib.hid (ovr_row rowW0)
 clear rowW0
 have HUW : Hid (∀ u, Below w.heap.size w (ovr W u)) := U1 hW
 have HW := Lib.hid hW
 clear hW
 have hf : Hid (spanB ⟨lo, hi⟩ l h = (decide (l ≤ lo) && (decide (lo ≤ hi) && decide (hi ≤ h)))) := rfl
 by_cases h1 : l ≤ lo
 case neg =>
  rw [decide_eq_false h1] at hf
  go_enter Tryd.func36, Tryd.ntmps36
  go_upto_region 1 with (fail)
  rw [← HW.out]
  obtain ⟨u0, hu0⟩ := ovr_self W
  rw [hu0]
  clear hu0
  go_wp2_with fail
  go_ret
  exact ⟨by rw [hf.out]; rfl, HUW.out _⟩
 by_cases h2 : lo ≤ hi
 case neg =>
  rw [decide_eq_true h1, decide_eq_false h2] at hf
  go_enter Tryd.func36, Tryd.ntmps36
  go_upto_region 1 with (fail)
  rw [← HW.out]
  obtain ⟨u0, hu0⟩ := ovr_self W
  rw [hu0]
  clear hu0
  go_wp2_with fail
  go_ret
  exact ⟨by rw [hf.out]; rfl, HUW.out _⟩
 by_cases h3 : hi ≤ h
 case neg =>
  rw [decide_eq_true h1, decide_eq_true h2, decide_eq_false h3] at hf
  go_enter Tryd.func36, Tryd.ntmps36
  go_upto_region 1 with (fail)
  rw [← HW.out]
  obtain ⟨u0, hu0⟩ := ovr_self W
  rw [hu0]
  clear hu0
  go_wp2_with fail
  go_ret
  exact ⟨by rw [hf.out]; rfl, HUW.out _⟩
 rw [decide_eq_true h1, decide_eq_true h2, decide_eq_true h3] at hf
 go_enter Tryd.func36, Tryd.ntmps36
 go_upto_region 1 with (fail)
 rw [← HW.out]
 obtain ⟨u0, hu0⟩ := ovr_self W
 rw [hu0]
 clear hu0
 go_wp2_with fail
 go_ret
 exact ⟨by rw [hf.out]; rfl, HUW.out _⟩
set_option maxRecDepth 100000 in
set_option maxHeartbeats 1000000 in
theorem isGrad_any (r : Rng) (w : World) : Calls Tryd.prog 72 #[r.val] w fun e w' => e = .returned (.bool (spanB r 1 1000000)) ∧ Below w.heap.size w w' := by
 obtain ⟨lo, hi⟩ := r
 have c1 := Lib.hid fun W => isRange_any ⟨lo, hi⟩ 1 1000000 W
 obtain ⟨W, hW⟩ : ∃ W, W = (w.alloc (.cells #[I lo, I hi] 23)) := ⟨_, rfl⟩
 have rowW0 : W.heap[w.heap.size]? = some (.cells #[I lo, I hi] 23 (0, 0)) := by rw [hW]; exact heap_last _ _ _ rfl
 have yW00 := ovr_cell (W := W) (b := w.heap.size) (o := 0) (v := I lo) (by rw [cell_of_row _ _ _ _ _ _ rowW0]; rfl)
 have yW01 := ovr_cell (W := W) (b := w.heap.size) (o := 1) (v := I hi) (by rw [cell_of_row _ _ _ _ _ _ rowW0]; rfl)
 have RrowW0 := Lib.hid (ovr_row rowW0)
 clear rowW0
 have HUW : Hid (∀ u, Below w.heap.size w (ovr W u)) := U1 hW
 have HW := Lib.hid hW
 clear hW
 go_enter Tryd.func72, Tryd.ntmps72
 go_upto_region 1 with (fail)
 rw [← HW.out]
 obtain ⟨u0, hu0⟩ := ovr_self W
 rw [hu0]
 clear hu0
 go_wp2_with fail
 refine (c1.out _).mono ?_
 rintro e w1 ⟨rfl, hb1⟩
 obtain ⟨u1, rfl⟩ := ovr_next hb1
 clear hb1
 go_wp2_with fail
 go_ret
 exact ⟨rfl, HUW.out _⟩
structure Mdl where
 sc : Int
 b : Nat → Rng
abbrev mdA (m : Mdl) : Array Value := #[I m.sc, I (m.b 0).lo, I (m.b 0).hi, I (m.b 1).lo, I (m.b 1).hi, I (m.b 2).lo, I (m.b 2).hi, I (m.b 3).lo, I (m.b 3).hi]
def bfM (m : Mdl) : Nat → Rng
 | 0 => ⟨0, 0⟩
 | k + 1 => m.b k
def bdM (m : Mdl) (k : Nat) : Bool := spanB (m.b k) 0 1000000 && (decide ((bfM m k).lo ≤ (m.b k).lo) && decide ((bfM m k).hi ≤ (m.b k).hi))
def okMdl (m : Mdl) : Bool := decide (1 ≤ m.sc) && (decide (m.sc ≤ 1000000) && (List.range 4).all (bdM m))
def erA (ok : Bool) : Int := if ok then 0 else 2
theorem okMdl_iff {m : Mdl} : okMdl m = true ↔ 1 ≤ m.sc ∧ m.sc ≤ 1000000 ∧ ∀ k, k < 4 → bdM m k = true := by
 unfold okMdl
 rw [Bool.and_eq_true, Bool.and_eq_true, decide_eq_true_eq, decide_eq_true_eq, List.all_eq_true]
 simp
theorem okMdl_no {m : Mdl} {k : Nat} (hk : k < 4) (h : bdM m k = false) : okMdl m = false := by
 rcases hq : okMdl m with _ | _
 · rfl
 · have := (okMdl_iff.1 hq).2.2 k hk
   rw [h] at this; cases this
def bdV (m : Mdl) : Vec := fun j => if j % 2 = 0 then (m.b (j / 2)).lo else (m.b (j / 2)).hi
theorem bdV_at (m : Mdl) (k : Nat) : ia 2 (fun i => bdV m (k * 2 + i)) = #[I (m.b k).lo, I (m.b k).hi] := by
 show #[I (bdV m (k * 2 + 0)), I (bdV m (k * 2 + 1))] = _
 unfold bdV
 rw [if_pos (by omega), if_neg (by omega), show (k * 2 + 0) / 2 = k by omega, show (k * 2 + 1) / 2 = k by omega]
set_option maxRecDepth 100000 in
set_option maxHeartbeats 2000000 in
theorem checkModel_any (m : Mdl) (w : World) : Calls Tryd.prog 70 #[.agg (mdA m)] w fun e w' => e = .returned (I (erA (okMdl m))) ∧ Below w.heap.size w w' := by
 obtain ⟨W, hW⟩ : ∃ W, W = (w.alloc (.cells #[I m.sc, I (m.b 0).lo, I (m.b 0).hi, I (m.b 1).lo, I (m.b 1).hi, I (m.b 2).lo, I (m.b 2).hi, I (m.b 3).lo, I (m.b 3).hi] 79)) := ⟨_, rfl⟩
 have rowW0 : W.heap[w.heap.size]? = some (.cells #[I m.sc, I (m.b 0).lo, I (m.b 0).hi, I (m.b 1).lo, I (m.b 1).hi, I (m.b 2).lo, I (m.b 2).hi, I (m.b 3).lo, I (m.b 3).hi] 79 (0, 0)) := by rw [hW]; exact heap_last _ _ _ rfl
 have yW00 := ovr_cell (W := W) (b := w.heap.size) (o := 0) (v := I m.sc) (by rw [cell_of_row _ _ _ _ _ _ rowW0]; rfl)
 have yW01 := ovr_cell (W := W) (b := w.heap.size) (o := 1) (v := I (m.b 0).lo) (by rw [cell_of_row _ _ _ _ _ _ rowW0]; rfl)
 have yW02 := ovr_cell (W := W) (b := w.heap.size) (o := 2) (v := I (m.b 0).hi) (by rw [cell_of_row _ _ _ _ _ _ rowW0]; rfl)
 have yW03 := ovr_cell (W := W) (b := w.heap.size) (o := 3) (v := I (m.b 1).lo) (by rw [cell_of_row _ _ _ _ _ _ rowW0]; rfl)
 have yW04 := ovr_cell (W := W) (b := w.heap.size) (o := 4) (v := I (m.b 1).hi) (by rw [cell_of_row _ _ _ _ _ _ rowW0]; rfl)
 have yW05 := ovr_cell (W := W) (b := w.heap.size) (o := 5) (v := I (m.b 2).lo) (by rw [cell_of_row _ _ _ _ _ _ rowW0]; rfl)
 have yW06 := ovr_cell (W := W) (b := w.heap.size) (o := 6) (v := I (m.b 2).hi) (by rw [cell_of_row _ _ _ _ _ _ rowW0]; rfl)
 have yW07 := ovr_cell (W := W) (b := w.heap.size) (o := 7) (v := I (m.b 3).lo) (by rw [cell_of_row _ _ _ _ _ _ rowW0]; rfl)
 have yW08 := ovr_cell (W := W) (b := w.heap.size) (o := 8) (v := I (m.b 3).hi) (by rw [cell_of_row _ _ _ _ _ _ rowW0]; rfl)
 have RrowW0 := Lib.hid (ovr_row rowW0)
 clear rowW0
 have HUW : Hid (∀ u, Below w.heap.size w (ovr W u)) := U1 hW
 have HW := Lib.hid hW
 clear hW
 by_cases h1 : 1 ≤ m.sc
 case neg =>
  have hf : Hid (erA (okMdl m) = 2) := by show _ = _; unfold okMdl; rw [decide_eq_false h1]; rfl
  have d1 : decide (m.sc < 1) = true := decide_eq_true (by omega)
  go_enter Tryd.func70, Tryd.ntmps70
  go_upto_region 1 with (fail)
  rw [← HW.out]
  obtain ⟨u0, hu0⟩ := ovr_self W
  rw [hu0]
  clear hu0
  go_wp2_with fail
  go_ret
  exact ⟨by rw [hf.out]; rfl, HUW.out _⟩
 have d1 : decide (m.sc < 1) = false := decide_eq_false (by omega)
 by_cases h2 : m.sc ≤ 1000000
 case neg =>
  have hf : Hid (erA (okMdl m) = 2) := by show _ = _; unfold okMdl; rw [decide_eq_false h2, decide_eq_true h1]; rfl
  have d2 : decide (1000000 < m.sc) = true := decide_eq_true (by omega)
  go_enter Tryd.func70, Tryd.ntmps70
  go_upto_region 1 with (fail)
  rw [← HW.out]
  obtain ⟨u0, hu0⟩ := ovr_self W
  rw [hu0]
  clear hu0
  go_wp2_with fail
  go_ret
  exact ⟨by rw [hf.out]; rfl, HUW.out _⟩
 have d2 : decide (1000000 < m.sc) = false := decide_eq_false (by omega)
 have H12 : Hid (1 ≤ m.sc ∧ m.sc ≤ 1000000) := ⟨h1, h2⟩
 clear h1 h2
 go_enter Tryd.func70, Tryd.ntmps70
 go_upto_region 1 with (fail)
 rw [← HW.out]
 obtain ⟨u0, hu0⟩ := ovr_self W
 rw [hu0]
 clear hu0
 go_upto_region 3 with fail
 go_upto_region 4 with fail
 obtain ⟨B, hB⟩ : ∃ B, B = (ovr W u0).heap.size := ⟨_, rfl⟩
 rw [← hB]
 refine name_w fun V hV => ?_
 have rB : V.heap[B]? = some (.cells #[I 0, I 0] 23 (0, 0)) := by rw [hV]; exact heap_last _ _ _ hB
 have bV : Below W.heap.size W V := by rw [hV]; exact (ovr_below W u0).alloc (ovr_below W u0).size _
 have hBW : Hid (W.heap.size ≤ B) := by rw [hB]; exact (ovr_below W u0).size
 clear hV hB
 obtain ⟨u1, rfl⟩ : ∃ u, V = ovr W u := ⟨V, ovr_of bV⟩
 have RB := Lib.hid rB
 clear rB bV d1 d2
 go_wp2_with fail
 go_loopw [16] (fun i wr => ∃ (k : Nat) (u : World), k ≤ 4 ∧ i = .int .i64 k ∧ wr = ovr W u ∧ (ovr W u).heap[B]? = some (.cells #[I (bfM m k).lo, I (bfM m k).hi] 23 (0, 0)) ∧ ∀ j, j < k → bdM m j = true) (fun i _ => 4 - (intOf i).toNat)
 case atStart => exact ⟨0, u1, by omega, rfl, rfl, RB.out, fun j hj => absurd hj (by omega)⟩
 case round =>
  obtain ⟨k, u, hk4, rfl, rfl, hrow, hall⟩ := hrel
  have HALL := Lib.hid hall
  clear hall
  by_cases hlt : k < 4
  · have HEQ : Hid (ia 2 (fun i => bdV m (k * 2 + i)) = #[I (m.b k).lo, I (m.b k).hi]) := bdV_at m k
    have hbX := ovr_below W u
    obtain ⟨X, hX⟩ : ∃ X, X = ovr W u := ⟨_, rfl⟩
    rw [← hX] at hbX
    rw [← hX]
    have hX' := Lib.hid hX
    clear hX
    have hbX' := Lib.hid hbX
    have reX : ∀ v, ∃ x, ovr X v = ovr W x := fun v => ovr_reB hbX v
    replace yW00 := tr_cell reX yW00
    replace yW01 := tr_cell reX yW01
    replace yW02 := tr_cell reX yW02
    replace yW03 := tr_cell reX yW03
    replace yW04 := tr_cell reX yW04
    replace yW05 := tr_cell reX yW05
    replace yW06 := tr_cell reX yW06
    replace yW07 := tr_cell reX yW07
    replace yW08 := tr_cell reX yW08
    replace RrowW0 := Lib.hid (tr_row reX RrowW0.out)
    have HUX : Hid (∀ u, Below w.heap.size w (ovr X u)) := fun u => by obtain ⟨x, hx⟩ := reX u; rw [hx]; exact HUW.out x
    clear reX hbX
    rw [← hX'.out] at hrow
    have yX500 := ovr_cell (W := X) (b := B) (o := 0) (v := I (bfM m k).lo) (by rw [cell_of_row _ _ _ _ _ _ hrow]; rfl)
    have zX500 : ∀ u, (ovr X u).frozen? ⟨B, 0, none⟩ = false := fun u => frozen_of_row _ _ _ _ _ (ovr_row hrow u)
    have yX501 := ovr_cell (W := X) (b := B) (o := 1) (v := I (bfM m k).hi) (by rw [cell_of_row _ _ _ _ _ _ hrow]; rfl)
    have zX501 : ∀ u, (ovr X u).frozen? ⟨B, 1, none⟩ = false := fun u => frozen_of_row _ _ _ _ _ (ovr_row hrow u)
    have RrowX50 := Lib.hid (ovr_row hrow)
    clear hrow
    obtain ⟨u2, hu2⟩ := ovr_self X
    rw [hu2]
    clear hu2
    go_upto_region 7 with (with_reducible show wpList _ _ _ _ _ _; refine wpList_index_ia rfl 77 _ _ rfl 8 (bdV m) rfl k rfl 4 2 23 _ Tryd.underlying77 hlt Tryd.underlying23 rfl (by kernel_rfl) (by omega) ?_; rw [HEQ.out])
    obtain ⟨X1, hX1⟩ : ∃ X1, X1 = ((ovr X u2).alloc (.cells #[I (m.b k).lo, I (m.b k).hi] 23)) := ⟨_, rfl⟩
    have reX1 : ∀ v, ∃ x, ovr X1 v = ovr X x := fun v => ovr_re1 hX1
    replace yW00 := tr_cell reX1 yW00
    replace yW01 := tr_cell reX1 yW01
    replace yW02 := tr_cell reX1 yW02
    replace yW03 := tr_cell reX1 yW03
    replace yW04 := tr_cell reX1 yW04
    replace yW05 := tr_cell reX1 yW05
    replace yW06 := tr_cell reX1 yW06
    replace yW07 := tr_cell reX1 yW07
    replace yW08 := tr_cell reX1 yW08
    replace RrowW0 := Lib.hid (tr_row reX1 RrowW0.out)
    replace yX500 := tr_cell reX1 yX500
    replace zX500 := tr_froz reX1 zX500
    replace yX501 := tr_cell reX1 yX501
    replace zX501 := tr_froz reX1 zX501
    replace RrowX50 := Lib.hid (tr_row reX1 RrowX50.out)
    have rowX10 : X1.heap[(ovr X u2).heap.size]? = some (.cells #[I (m.b k).lo, I (m.b k).hi] 23 (0, 0)) := by rw [hX1]; exact heap_last _ _ _ rfl
    have yX100 := ovr_cell (W := X1) (b := (ovr X u2).heap.size) (o := 0) (v := I (m.b k).lo) (by rw [cell_of_row _ _ _ _ _ _ rowX10]; rfl)
    have yX101 := ovr_cell (W := X1) (b := (ovr X u2).heap.size) (o := 1) (v := I (m.b k).hi) (by rw [cell_of_row _ _ _ _ _ _ rowX10]; rfl)
    have RrowX10 := Lib.hid (ovr_row rowX10)
    clear rowX10
    have HBX1 : Hid (∀ u, Below X.heap.size X (ovr X1 u)) := fun u => by obtain ⟨x, hx⟩ := reX1 u; rw [hx]; exact ovr_below _ _
    have HUX1 : Hid (∀ u, Below w.heap.size w (ovr X1 u)) := fun u => by obtain ⟨x, hx⟩ := reX1 u; rw [hx]; exact HUX.out x
    clear reX1
    have HX1 := Lib.hid hX1
    clear hX1
    rw [← HX1.out]
    obtain ⟨u3, hu3⟩ := ovr_self X1
    rw [hu3]
    clear hu3
    by_cases hb1 : spanB (m.b k) 0 1000000 = true
    case neg =>
        have hq : spanB (m.b k) 0 1000000 = false := by simpa using hb1
        have hf : Hid (erA (okMdl m) = 2) := by show _ = _; rw [okMdl_no hlt (by unfold bdM; rw [hq]; rfl)]; rfl
        have cs := isRange_any (m.b k) 0 1000000 (ovr X1 u3)
        rw [hq] at cs
        clear hq hb1
        have CS := Lib.hid cs
        clear cs
        go_wp2_with fail
        refine CS.out.mono ?_
        rintro e w1 ⟨rfl, hb1⟩
        obtain ⟨u4, rfl⟩ := ovr_next hb1
        clear hb1
        go_wp2_with fail
        go_ret
        exact ⟨by rw [hf.out]; rfl, HUX1.out u4⟩
    have cs := isRange_any (m.b k) 0 1000000 (ovr X1 u3)
    rw [hb1] at cs
    have CS := Lib.hid cs
    have HB1 := Lib.hid hb1
    clear cs hb1
    by_cases hb2 : (bfM m k).lo ≤ (m.b k).lo
    case neg =>
        have hf : Hid (erA (okMdl m) = 2) := by show _ = _; rw [okMdl_no hlt (by unfold bdM; rw [HB1.out, decide_eq_false hb2]; rfl)]; rfl
        have d1 : decide ((m.b k).lo < (bfM m k).lo) = true := decide_eq_true (by omega)
        go_wp2_with fail
        refine CS.out.mono ?_
        rintro e w1 ⟨rfl, hb1⟩
        obtain ⟨u4, rfl⟩ := ovr_next hb1
        clear hb1
        go_wp2_with fail
        go_ret
        exact ⟨by rw [hf.out]; rfl, HUX1.out u4⟩
    have d1 : decide ((m.b k).lo < (bfM m k).lo) = false := decide_eq_false (by omega)
    by_cases hb3 : (bfM m k).hi ≤ (m.b k).hi
    case neg =>
        have hf : Hid (erA (okMdl m) = 2) := by show _ = _; rw [okMdl_no hlt (by unfold bdM; rw [HB1.out, decide_eq_true hb2, decide_eq_false hb3]; rfl)]; rfl
        have d2 : decide ((m.b k).hi < (bfM m k).hi) = true := decide_eq_true (by omega)
        go_wp2_with fail
        refine CS.out.mono ?_
        rintro e w1 ⟨rfl, hb1⟩
        obtain ⟨u4, rfl⟩ := ovr_next hb1
        clear hb1
        go_wp2_with fail
        go_ret
        exact ⟨by rw [hf.out]; rfl, HUX1.out u4⟩
    have d2 : decide ((m.b k).hi < (bfM m k).hi) = false := decide_eq_false (by omega)
    have hk : Hid (bdM m k = true) := by show _ = _; unfold bdM; rw [HB1.out, decide_eq_true hb2, decide_eq_true hb3]; rfl
    clear hb2 hb3
    go_wp2_with fail
    refine CS.out.mono ?_
    rintro e w1 ⟨rfl, hb1⟩
    obtain ⟨u4, rfl⟩ := ovr_next hb1
    clear hb1
    go_wp2_with (with_reducible show wpList _ _ _ (⟨none, Op.store _ _ _, _, _, _, _⟩ :: _) _ _; refine Hid.out ?_)
    refine Lib.hid ?_
    refine wpList_store_row rfl 23 _ _ rfl B rfl _ _ (RrowX50.out u4) _ rfl (one2 rfl rfl) rfl (by kernel_rfl) ?_
    go_wp2_with fail
    have bV4 : Below W.heap.size W ((ovr X1 u4).setRow B #[I (m.b k).lo, I (m.b k).hi]) := below_setRow (hbX'.out.trans ((HBX1.out u4).mono hbX'.out.size)) hBW.out _
    refine ⟨⟨k + 1, _, by omega, rfl, ovr_of bV4, by rw [← ovr_of bV4]; exact setRow_same (RrowX50.out u4), fun j hj => ?_⟩, by simp [intOf]; omega⟩
    rcases Nat.lt_or_eq_of_le (Nat.le_of_lt_succ hj) with h | h
    · exact HALL.out j h
    · rw [h]; exact hk.out
  · have hk : k = 4 := by omega
    subst hk
    have hf : Hid (erA (okMdl m) = 0) := by show _ = _; rw [okMdl_iff.2 ⟨H12.out.1, H12.out.2, HALL.out⟩]; rfl
    go_wp2_with fail
    go_ret
    exact ⟨by rw [hf.out]; rfl, HUW.out u⟩
def abv (m : Mdl) (k : Nat) : Int := if k = 0 then -1 else (m.b (k - 1)).lo
def upt (m : Mdl) (k : Nat) : Int := if k < 4 then (m.b k).hi else 1099511627776
set_option maxRecDepth 100000 in
set_option maxHeartbeats 2000000 in
theorem bounds_any (m : Mdl) (k : Nat) (hk : k < 5) (w : World) : Calls Tryd.prog 50 #[.agg (mdA m), I k] w fun e w' => e = .returned (.tuple #[I (abv m k), I (upt m k)]) ∧ Below w.heap.size w w' := by
 obtain ⟨W, hW⟩ : ∃ W, W = (w.alloc (.cells #[I m.sc, I (m.b 0).lo, I (m.b 0).hi, I (m.b 1).lo, I (m.b 1).hi, I (m.b 2).lo, I (m.b 2).hi, I (m.b 3).lo, I (m.b 3).hi] 79)) := ⟨_, rfl⟩
 have rowW0 : W.heap[w.heap.size]? = some (.cells #[I m.sc, I (m.b 0).lo, I (m.b 0).hi, I (m.b 1).lo, I (m.b 1).hi, I (m.b 2).lo, I (m.b 2).hi, I (m.b 3).lo, I (m.b 3).hi] 79 (0, 0)) := by rw [hW]; exact heap_last _ _ _ rfl
 have yW00 := ovr_cell (W := W) (b := w.heap.size) (o := 0) (v := I m.sc) (by rw [cell_of_row _ _ _ _ _ _ rowW0]; rfl)
 have yW01 := ovr_cell (W := W) (b := w.heap.size) (o := 1) (v := I (m.b 0).lo) (by rw [cell_of_row _ _ _ _ _ _ rowW0]; rfl)
 have yW02 := ovr_cell (W := W) (b := w.heap.size) (o := 2) (v := I (m.b 0).hi) (by rw [cell_of_row _ _ _ _ _ _ rowW0]; rfl)
 have yW03 := ovr_cell (W := W) (b := w.heap.size) (o := 3) (v := I (m.b 1).lo) (by rw [cell_of_row _ _ _ _ _ _ rowW0]; rfl)
 have yW04 := ovr_cell (W := W) (b := w.heap.size) (o := 4) (v := I (m.b 1).hi) (by rw [cell_of_row _ _ _ _ _ _ rowW0]; rfl)
 have yW05 := ovr_cell (W := W) (b := w.heap.size) (o := 5) (v := I (m.b 2).lo) (by rw [cell_of_row _ _ _ _ _ _ rowW0]; rfl)
 have yW06 := ovr_cell (W := W) (b := w.heap.size) (o := 6) (v := I (m.b 2).hi) (by rw [cell_of_row _ _ _ _ _ _ rowW0]; rfl)
 have yW07 := ovr_cell (W := W) (b := w.heap.size) (o := 7) (v := I (m.b 3).lo) (by rw [cell_of_row _ _ _ _ _ _ rowW0]; rfl)
 have yW08 := ovr_cell (W := W) (b := w.heap.size) (o := 8) (v := I (m.b 3).hi) (by rw [cell_of_row _ _ _ _ _ _ rowW0]; rfl)
 have RrowW0 := Lib.hid (ovr_row rowW0)
 clear rowW0
 have HUW : Hid (∀ u, Below w.heap.size w (ovr W u)) := U1 hW
 have HW := Lib.hid hW
 clear hW
 rcases k with _ | _ | _ | _ | _ | k
 · skip
   go_enter Tryd.func50, Tryd.ntmps50
   go_upto_region 1 with (fail)
   rw [← HW.out]
   obtain ⟨u0, hu0⟩ := ovr_self W
   rw [hu0]
   clear hu0
   go_wp2_with fail
   go_ret2
   exact ⟨rfl, HUW.out _⟩
 · skip
   go_enter Tryd.func50, Tryd.ntmps50
   go_upto_region 1 with (fail)
   rw [← HW.out]
   obtain ⟨u0, hu0⟩ := ovr_self W
   rw [hu0]
   clear hu0
   go_wp2_with fail
   go_ret2
   exact ⟨rfl, HUW.out _⟩
 · skip
   go_enter Tryd.func50, Tryd.ntmps50
   go_upto_region 1 with (fail)
   rw [← HW.out]
   obtain ⟨u0, hu0⟩ := ovr_self W
   rw [hu0]
   clear hu0
   go_wp2_with fail
   go_ret2
   exact ⟨rfl, HUW.out _⟩
 · skip
   go_enter Tryd.func50, Tryd.ntmps50
   go_upto_region 1 with (fail)
   rw [← HW.out]
   obtain ⟨u0, hu0⟩ := ovr_self W
   rw [hu0]
   clear hu0
   go_wp2_with fail
   go_ret2
   exact ⟨rfl, HUW.out _⟩
 · skip
   go_enter Tryd.func50, Tryd.ntmps50
   go_upto_region 1 with (fail)
   rw [← HW.out]
   obtain ⟨u0, hu0⟩ := ovr_self W
   rw [hu0]
   clear hu0
   go_wp2_with fail
   go_ret2
   exact ⟨rfl, HUW.out _⟩
 · omega
def posB (m : Mdl) (r g : Rng) (k : Nat) : Bool := decide (abv m k < upt m k) && (decide (abv m k * g.lo < r.hi * m.sc) && decide (r.lo * m.sc ≤ upt m k * g.hi))
structure PlOk (m : Mdl) (r g : Rng) : Prop where
 m : okMdl m = true
 r : spanB r 0 1000000 = true
 g : spanB g 1 1000000 = true
theorem bdM_bd {m : Mdl} (h : okMdl m = true) {k : Nat} (hk : k < 4) : 0 ≤ (m.b k).lo ∧ (m.b k).lo ≤ (m.b k).hi ∧ (m.b k).hi ≤ 1000000 ∧ (bfM m k).lo ≤ (m.b k).lo ∧ (bfM m k).hi ≤ (m.b k).hi := by
 have := (okMdl_iff.1 h).2.2 k hk
 unfold bdM at this
 rw [Bool.and_eq_true, Bool.and_eq_true, decide_eq_true_eq, decide_eq_true_eq, spanB_iff] at this
 omega
theorem abv_bd {m : Mdl} (h : okMdl m = true) {k : Nat} (hk : k < 5) : -1 ≤ abv m k ∧ abv m k ≤ 1000000 ∧ 0 ≤ upt m k ∧ upt m k ≤ 1099511627776 := by
 unfold abv upt
 refine ⟨?_, ?_, ?_, ?_⟩
 all_goals split
 all_goals first | omega | (have := bdM_bd h (k := k - 1) (by omega); omega) | (have := bdM_bd h (k := k) (by omega); omega)
theorem mul_bd {a b A B : Int} (h1 : 0 ≤ a ∧ a ≤ A) (h2 : 0 ≤ b ∧ b ≤ B) : 0 ≤ a * b ∧ a * b ≤ A * B := ⟨Int.mul_nonneg h1.1 h2.1, Int.mul_le_mul h1.2 h2.2 h2.1 (by omega)⟩
def regK (p : Nat → Bool) : Nat → Int
 | 0 => 0
 | k + 1 => regK p k + (if p k then 2 ^ k else 0)
theorem regK_bd (p : Nat → Bool) : ∀ k, 0 ≤ regK p k ∧ regK p k < 2 ^ k
 | 0 => by simp [regK]
 | k + 1 => by
   have := regK_bd p k
   have e : (2 : Int) ^ (k + 1) = 2 ^ k * 2 := Int.pow_succ 2 k
   unfold regK
   split <;> omega
theorem or_bit {k : Nat} (hk : k < 5) {s : Int} (h : 0 ≤ s ∧ s < 2 ^ k) : bits .or .u8 s (2 ^ k % 256) = s + 2 ^ k := by
 have key : ∀ (k : Fin 5) (s : Fin 16), s.val < 2 ^ k.val → bits .or .u8 (s.val : Int) (2 ^ k.val % 256) = (s.val : Int) + 2 ^ k.val := by decide +kernel
 obtain ⟨n, rfl⟩ := Int.eq_ofNat_of_zero_le h.1
 have h2 : n < 2 ^ k := by have := h.2; norm_cast at this
 have h16 : (2 : Nat) ^ k ≤ 2 ^ 4 := Nat.pow_le_pow_right (by omega) (by omega)
 exact key ⟨k, hk⟩ ⟨n, by omega⟩ h2
def rgsF (m : Mdl) (r g : Rng) : Int × Int := if okMdl m && (spanB r 0 1000000 && spanB g 1 1000000) then (regK (posB m r g) 5, 0) else (0, 2)
end Go.Proofs.YtnkaoplgmglijaaDoor.Un
