/- The walk of the law UnitsLists. -/
import Derived.Test.YtmadlmmfbpmebaaU8
import Derived.Test.YtmadlmmfbpmebaaJo
import Derived.Test.YtmadlmmfbpmebaaJc
namespace Go.Proofs.Ytmadlmmfbpmebaa
open Go.RowKit
set_option maxRecDepth 100000 in
set_option maxHeartbeats 4000000 in
theorem unitsLists_any (A : Option Addr) (c : Nat) (xs : List Rng) (w : World) (hc : xs.length ≤ c) (hm : c ≤ maxLen) (hx : Rd w w.heap.size 2 A xs.length (rR xs))
    (_ : ∀ j, j < xs.length → (-9223372036854775808 ≤ (at0 xs j).lo ∧ (at0 xs j).lo ≤ 9223372036854775807) ∧ (-9223372036854775808 ≤ (at0 xs j).hi ∧ (at0 xs j).hi ≤ 9223372036854775807)) :
    Calls Try.prog 18 #[.slice A xs.length c] w fun e w' => e = .returned (.bool true) ∧ Below w.heap.size w w' := by
  have ck := Lib.hid fun W => known_any W
  by_cases hl : 110 < xs.length
  · have hb : decide (110 < (xs.length : Int)) = true := decide_eq_true (by omega)
    clear hx hc hm hl
    have HUw : Hid (∀ u, Below w.heap.size w (ovr w u)) := fun u => ovr_below _ _
    go_enter Try.func18, Try.ntmps18
    go_wp2_with fail
    refine (ck.out _).mono ?_
    rintro e w1 ⟨rfl, hb⟩
    have HB := Lib.hid hb
    clear hb
    go_wp2_with fail
    go_ret
    exact ⟨rfl, HB.out⟩
  have hb : decide (110 < (xs.length : Int)) = false := decide_eq_false (by omega)
  have hlm : xs.length ≤ maxLen := by omega
  have co := Lib.hid (ownRanges_any A xs.length c (rR xs) w w.heap.size (by omega) (Nat.le_refl _) hx)
  go_enter Try.func18, Try.ntmps18
  go_wp2_with fail
  refine co.out.mono ?_
  rintro e X0 ⟨A', c', rfl, h1, h2, h3, hb0⟩
  have HX : Hid (∀ W', Below X0.heap.size X0 W' → Rd W' w.heap.size 2 A xs.length (rR xs) ∧ Rd W' X0.heap.size 2 A' xs.length (rR xs) ∧ w.heap.size ≤ W'.heap.size ∧ X0.heap.size ≤ W'.heap.size) := fun W' h =>
    ⟨(hx.below hb0).below (h.mono hb0.size), h3.below h, Nat.le_trans hb0.size h.size, h.size⟩
  have H0 : Hid (∀ W', Below X0.heap.size X0 W' → Below w.heap.size w W') := fun W' h => hb0.trans (h.mono hb0.size)
  have c1 : Hid (∀ W', Below X0.heap.size X0 W' → Calls Try.prog 61 #[.slice A' xs.length c'] W' (RetRn W' (suF xs))) := fun W' h => sum_any A' xs.length c' xs W' X0.heap.size rfl hlm (HX.out W' h).2.2.2 (HX.out W' h).2.1
  have c2 : Hid (∀ W', Below X0.heap.size X0 W' → Calls Try.prog 62 #[.slice A' xs.length c'] W' (RetRn W' (foF cuF xs))) := fun W' h => meet_any A' xs.length c' xs W' X0.heap.size rfl h1 h2 (HX.out W' h).2.2.2 (HX.out W' h).2.1
  have c3 : Hid (∀ W', Below X0.heap.size X0 W' → Calls Try.prog 63 #[.slice A' xs.length c'] W' (RetRn W' (foF huF xs))) := fun W' h => hull_any A' xs.length c' xs W' X0.heap.size rfl h1 h2 (HX.out W' h).2.2.2 (HX.out W' h).2.1
  have c4 : Hid (∀ W', Below X0.heap.size X0 W' → Calls Try.prog 64 #[.slice A xs.length c] W' (RetRn W' (suF xs))) := fun W' h => refSum_any A c xs W' w.heap.size hlm (HX.out W' h).2.2.1 (HX.out W' h).1
  have c5 : Hid (∀ W', Below X0.heap.size X0 W' → Calls Try.prog 65 #[.slice A xs.length c] W' (RetRn W' (foF cuF xs))) := fun W' h => refMeet_any A c xs W' w.heap.size hlm (HX.out W' h).2.2.1 (HX.out W' h).1
  have c6 : Hid (∀ W', Below X0.heap.size X0 W' → Calls Try.prog 66 #[.slice A xs.length c] W' (RetRn W' (foF huF xs))) := fun W' h => refHull_any A c xs W' w.heap.size hlm (HX.out W' h).2.2.1 (HX.out W' h).1
  have cs : Hid (∀ W', Below X0.heap.size X0 W' → Calls Try.prog 30 #[.slice A' xs.length c', .slice A xs.length c] W' fun e w' => e = .returned (.bool true) ∧ Below W'.heap.size W' w') := fun W' h => sameR_yes A' A xs.length c' c xs W' X0.heap.size w.heap.size rfl (by omega) (HX.out W' h).2.2.2 (HX.out W' h).2.2.1 (HX.out W' h).2.1 (HX.out W' h).1
  clear hb0 h1 h2 h3 hx hc hm hlm hl co
  obtain ⟨⟨⟨x1, y1⟩, z1⟩, hq⟩ : ∃ q, suF xs = q := ⟨_, rfl⟩
  rw [hq] at c1 c4
  clear hq
  obtain ⟨⟨⟨x2, y2⟩, z2⟩, hq⟩ : ∃ q, foF cuF xs = q := ⟨_, rfl⟩
  rw [hq] at c2 c5
  clear hq
  obtain ⟨⟨⟨x3, y3⟩, z3⟩, hq⟩ : ∃ q, foF huF xs = q := ⟨_, rfl⟩
  rw [hq] at c3 c6
  clear hq
  have HUX0 : Hid (∀ u, Below X0.heap.size X0 (ovr X0 u)) := fun u => ovr_below _ _
  replace HUX0 : Hid (∀ u, Below w.heap.size w (ovr X0 u)) := fun u => H0.out _ (ovr_below _ u)
  have G0 : Hid (∀ u, Below X0.heap.size X0 (ovr X0 u)) := fun u => ovr_below _ u
  obtain ⟨v0, hv0⟩ := ovr_self X0
  rw [hv0]
  clear hv0
  go_wp2_with fail
  refine (c1.out _ (G0.out _)).mono ?_
  rintro e w1 ⟨rfl, hb1⟩
  obtain ⟨u1, rfl⟩ := ovr_next hb1
  clear hb1
  go_upto_region 5 with (fail)
  obtain ⟨X1, hX1⟩ : ∃ X1, X1 = ((ovr X0 u1).alloc (.cells #[I x1, I y1] 38)) := ⟨_, rfl⟩
  have reX1 : ∀ v, ∃ x, ovr X1 v = ovr X0 x := fun v => ovr_re1 hX1
  have rowX10 : X1.heap[(ovr X0 u1).heap.size]? = some (.cells #[I x1, I y1] 38 (0, 0)) := by rw [hX1]; exact heap_last _ _ _ rfl
  have yX100 := ovr_cell (W := X1) (b := (ovr X0 u1).heap.size) (o := 0) (v := I x1) (by rw [cell_of_row _ _ _ _ _ _ rowX10]; rfl)
  have yX101 := ovr_cell (W := X1) (b := (ovr X0 u1).heap.size) (o := 1) (v := I y1) (by rw [cell_of_row _ _ _ _ _ _ rowX10]; rfl)
  have RrowX10 := Lib.hid (ovr_row rowX10)
  clear rowX10
  have HBX1 : Hid (∀ u, Below X0.heap.size X0 (ovr X1 u)) := fun u => by obtain ⟨x, hx⟩ := reX1 u; rw [hx]; exact ovr_below _ _
  have HUX1 : Hid (∀ u, Below w.heap.size w (ovr X1 u)) := fun u => by obtain ⟨x, hx⟩ := reX1 u; rw [hx]; exact HUX0.out x
  clear reX1
  have HX1 := Lib.hid hX1
  clear hX1
  have G1 := Lib.hid (below_chain G0.out HBX1.out)
  rw [← HX1.out]
  obtain ⟨v1, hv1⟩ := ovr_self X1
  rw [hv1]
  clear hv1
  go_wp2_with fail
  refine (c2.out _ (G1.out _)).mono ?_
  rintro e w1 ⟨rfl, hb1⟩
  obtain ⟨u2, rfl⟩ := ovr_next hb1
  clear hb1
  go_upto_region 6 with (fail)
  obtain ⟨X2, hX2⟩ : ∃ X2, X2 = ((ovr X1 u2).alloc (.cells #[I x2, I y2] 38)) := ⟨_, rfl⟩
  have reX2 : ∀ v, ∃ x, ovr X2 v = ovr X1 x := fun v => ovr_re1 hX2
  replace yX100 := tr_cell reX2 yX100
  replace yX101 := tr_cell reX2 yX101
  replace RrowX10 := Lib.hid (tr_row reX2 RrowX10.out)
  have rowX20 : X2.heap[(ovr X1 u2).heap.size]? = some (.cells #[I x2, I y2] 38 (0, 0)) := by rw [hX2]; exact heap_last _ _ _ rfl
  have yX200 := ovr_cell (W := X2) (b := (ovr X1 u2).heap.size) (o := 0) (v := I x2) (by rw [cell_of_row _ _ _ _ _ _ rowX20]; rfl)
  have yX201 := ovr_cell (W := X2) (b := (ovr X1 u2).heap.size) (o := 1) (v := I y2) (by rw [cell_of_row _ _ _ _ _ _ rowX20]; rfl)
  have RrowX20 := Lib.hid (ovr_row rowX20)
  clear rowX20
  have HBX2 : Hid (∀ u, Below X1.heap.size X1 (ovr X2 u)) := fun u => by obtain ⟨x, hx⟩ := reX2 u; rw [hx]; exact ovr_below _ _
  have HUX2 : Hid (∀ u, Below w.heap.size w (ovr X2 u)) := fun u => by obtain ⟨x, hx⟩ := reX2 u; rw [hx]; exact HUX1.out x
  clear reX2
  have HX2 := Lib.hid hX2
  clear hX2
  have G2 := Lib.hid (below_chain G1.out HBX2.out)
  rw [← HX2.out]
  obtain ⟨v2, hv2⟩ := ovr_self X2
  rw [hv2]
  clear hv2
  go_wp2_with fail
  refine (c3.out _ (G2.out _)).mono ?_
  rintro e w1 ⟨rfl, hb1⟩
  obtain ⟨u3, rfl⟩ := ovr_next hb1
  clear hb1
  go_upto_region 7 with (fail)
  obtain ⟨X3, hX3⟩ : ∃ X3, X3 = ((ovr X2 u3).alloc (.cells #[I x3, I y3] 38)) := ⟨_, rfl⟩
  have reX3 : ∀ v, ∃ x, ovr X3 v = ovr X2 x := fun v => ovr_re1 hX3
  replace yX100 := tr_cell reX3 yX100
  replace yX101 := tr_cell reX3 yX101
  replace RrowX10 := Lib.hid (tr_row reX3 RrowX10.out)
  replace yX200 := tr_cell reX3 yX200
  replace yX201 := tr_cell reX3 yX201
  replace RrowX20 := Lib.hid (tr_row reX3 RrowX20.out)
  have rowX30 : X3.heap[(ovr X2 u3).heap.size]? = some (.cells #[I x3, I y3] 38 (0, 0)) := by rw [hX3]; exact heap_last _ _ _ rfl
  have yX300 := ovr_cell (W := X3) (b := (ovr X2 u3).heap.size) (o := 0) (v := I x3) (by rw [cell_of_row _ _ _ _ _ _ rowX30]; rfl)
  have yX301 := ovr_cell (W := X3) (b := (ovr X2 u3).heap.size) (o := 1) (v := I y3) (by rw [cell_of_row _ _ _ _ _ _ rowX30]; rfl)
  have RrowX30 := Lib.hid (ovr_row rowX30)
  clear rowX30
  have HBX3 : Hid (∀ u, Below X2.heap.size X2 (ovr X3 u)) := fun u => by obtain ⟨x, hx⟩ := reX3 u; rw [hx]; exact ovr_below _ _
  have HUX3 : Hid (∀ u, Below w.heap.size w (ovr X3 u)) := fun u => by obtain ⟨x, hx⟩ := reX3 u; rw [hx]; exact HUX2.out x
  clear reX3
  have HX3 := Lib.hid hX3
  clear hX3
  have G3 := Lib.hid (below_chain G2.out HBX3.out)
  rw [← HX3.out]
  obtain ⟨v3, hv3⟩ := ovr_self X3
  rw [hv3]
  clear hv3
  go_wp2_with fail
  refine (c4.out _ (G3.out _)).mono ?_
  rintro e w1 ⟨rfl, hb1⟩
  obtain ⟨u4, rfl⟩ := ovr_next hb1
  clear hb1
  go_upto_region 8 with (fail)
  obtain ⟨X4, hX4⟩ : ∃ X4, X4 = ((ovr X3 u4).alloc (.cells #[I x1, I y1] 38)) := ⟨_, rfl⟩
  have reX4 : ∀ v, ∃ x, ovr X4 v = ovr X3 x := fun v => ovr_re1 hX4
  replace yX100 := tr_cell reX4 yX100
  replace yX101 := tr_cell reX4 yX101
  replace RrowX10 := Lib.hid (tr_row reX4 RrowX10.out)
  replace yX200 := tr_cell reX4 yX200
  replace yX201 := tr_cell reX4 yX201
  replace RrowX20 := Lib.hid (tr_row reX4 RrowX20.out)
  replace yX300 := tr_cell reX4 yX300
  replace yX301 := tr_cell reX4 yX301
  replace RrowX30 := Lib.hid (tr_row reX4 RrowX30.out)
  have rowX40 : X4.heap[(ovr X3 u4).heap.size]? = some (.cells #[I x1, I y1] 38 (0, 0)) := by rw [hX4]; exact heap_last _ _ _ rfl
  have yX400 := ovr_cell (W := X4) (b := (ovr X3 u4).heap.size) (o := 0) (v := I x1) (by rw [cell_of_row _ _ _ _ _ _ rowX40]; rfl)
  have yX401 := ovr_cell (W := X4) (b := (ovr X3 u4).heap.size) (o := 1) (v := I y1) (by rw [cell_of_row _ _ _ _ _ _ rowX40]; rfl)
  have RrowX40 := Lib.hid (ovr_row rowX40)
  clear rowX40
  have HBX4 : Hid (∀ u, Below X3.heap.size X3 (ovr X4 u)) := fun u => by obtain ⟨x, hx⟩ := reX4 u; rw [hx]; exact ovr_below _ _
  have HUX4 : Hid (∀ u, Below w.heap.size w (ovr X4 u)) := fun u => by obtain ⟨x, hx⟩ := reX4 u; rw [hx]; exact HUX3.out x
  clear reX4
  have HX4 := Lib.hid hX4
  clear hX4
  have G4 := Lib.hid (below_chain G3.out HBX4.out)
  rw [← HX4.out]
  obtain ⟨v4, hv4⟩ := ovr_self X4
  rw [hv4]
  clear hv4
  go_wp2_with fail
  refine (c5.out _ (G4.out _)).mono ?_
  rintro e w1 ⟨rfl, hb1⟩
  obtain ⟨u5, rfl⟩ := ovr_next hb1
  clear hb1
  go_upto_region 9 with (fail)
  obtain ⟨X5, hX5⟩ : ∃ X5, X5 = ((ovr X4 u5).alloc (.cells #[I x2, I y2] 38)) := ⟨_, rfl⟩
  have reX5 : ∀ v, ∃ x, ovr X5 v = ovr X4 x := fun v => ovr_re1 hX5
  replace yX100 := tr_cell reX5 yX100
  replace yX101 := tr_cell reX5 yX101
  replace RrowX10 := Lib.hid (tr_row reX5 RrowX10.out)
  replace yX200 := tr_cell reX5 yX200
  replace yX201 := tr_cell reX5 yX201
  replace RrowX20 := Lib.hid (tr_row reX5 RrowX20.out)
  replace yX300 := tr_cell reX5 yX300
  replace yX301 := tr_cell reX5 yX301
  replace RrowX30 := Lib.hid (tr_row reX5 RrowX30.out)
  replace yX400 := tr_cell reX5 yX400
  replace yX401 := tr_cell reX5 yX401
  replace RrowX40 := Lib.hid (tr_row reX5 RrowX40.out)
  have rowX50 : X5.heap[(ovr X4 u5).heap.size]? = some (.cells #[I x2, I y2] 38 (0, 0)) := by rw [hX5]; exact heap_last _ _ _ rfl
  have yX500 := ovr_cell (W := X5) (b := (ovr X4 u5).heap.size) (o := 0) (v := I x2) (by rw [cell_of_row _ _ _ _ _ _ rowX50]; rfl)
  have yX501 := ovr_cell (W := X5) (b := (ovr X4 u5).heap.size) (o := 1) (v := I y2) (by rw [cell_of_row _ _ _ _ _ _ rowX50]; rfl)
  have RrowX50 := Lib.hid (ovr_row rowX50)
  clear rowX50
  have HBX5 : Hid (∀ u, Below X4.heap.size X4 (ovr X5 u)) := fun u => by obtain ⟨x, hx⟩ := reX5 u; rw [hx]; exact ovr_below _ _
  have HUX5 : Hid (∀ u, Below w.heap.size w (ovr X5 u)) := fun u => by obtain ⟨x, hx⟩ := reX5 u; rw [hx]; exact HUX4.out x
  clear reX5
  have HX5 := Lib.hid hX5
  clear hX5
  have G5 := Lib.hid (below_chain G4.out HBX5.out)
  rw [← HX5.out]
  obtain ⟨v5, hv5⟩ := ovr_self X5
  rw [hv5]
  clear hv5
  go_wp2_with fail
  refine (c6.out _ (G5.out _)).mono ?_
  rintro e w1 ⟨rfl, hb1⟩
  obtain ⟨u6, rfl⟩ := ovr_next hb1
  clear hb1
  go_upto_region 10 with (fail)
  obtain ⟨X6, hX6⟩ : ∃ X6, X6 = ((ovr X5 u6).alloc (.cells #[I x3, I y3] 38)) := ⟨_, rfl⟩
  have reX6 : ∀ v, ∃ x, ovr X6 v = ovr X5 x := fun v => ovr_re1 hX6
  replace yX100 := tr_cell reX6 yX100
  replace yX101 := tr_cell reX6 yX101
  replace RrowX10 := Lib.hid (tr_row reX6 RrowX10.out)
  replace yX200 := tr_cell reX6 yX200
  replace yX201 := tr_cell reX6 yX201
  replace RrowX20 := Lib.hid (tr_row reX6 RrowX20.out)
  replace yX300 := tr_cell reX6 yX300
  replace yX301 := tr_cell reX6 yX301
  replace RrowX30 := Lib.hid (tr_row reX6 RrowX30.out)
  replace yX400 := tr_cell reX6 yX400
  replace yX401 := tr_cell reX6 yX401
  replace RrowX40 := Lib.hid (tr_row reX6 RrowX40.out)
  replace yX500 := tr_cell reX6 yX500
  replace yX501 := tr_cell reX6 yX501
  replace RrowX50 := Lib.hid (tr_row reX6 RrowX50.out)
  have rowX60 : X6.heap[(ovr X5 u6).heap.size]? = some (.cells #[I x3, I y3] 38 (0, 0)) := by rw [hX6]; exact heap_last _ _ _ rfl
  have yX600 := ovr_cell (W := X6) (b := (ovr X5 u6).heap.size) (o := 0) (v := I x3) (by rw [cell_of_row _ _ _ _ _ _ rowX60]; rfl)
  have yX601 := ovr_cell (W := X6) (b := (ovr X5 u6).heap.size) (o := 1) (v := I y3) (by rw [cell_of_row _ _ _ _ _ _ rowX60]; rfl)
  have RrowX60 := Lib.hid (ovr_row rowX60)
  clear rowX60
  have HBX6 : Hid (∀ u, Below X5.heap.size X5 (ovr X6 u)) := fun u => by obtain ⟨x, hx⟩ := reX6 u; rw [hx]; exact ovr_below _ _
  have HUX6 : Hid (∀ u, Below w.heap.size w (ovr X6 u)) := fun u => by obtain ⟨x, hx⟩ := reX6 u; rw [hx]; exact HUX5.out x
  clear reX6
  have HX6 := Lib.hid hX6
  clear hX6
  have G6 := Lib.hid (below_chain G5.out HBX6.out)
  rw [← HX6.out]
  obtain ⟨v6, hv6⟩ := ovr_self X6
  rw [hv6]
  clear hv6
  go_wp2_with fail
  refine (cs.out _ (G6.out _)).mono ?_
  rintro e w1 ⟨rfl, hb1⟩
  obtain ⟨u7, rfl⟩ := ovr_next hb1
  clear hb1
  go_wp2_with fail
  refine (ck.out _).mono ?_
  rintro e w1 ⟨rfl, hb1⟩
  obtain ⟨u8, rfl⟩ := ovr_next hb1
  clear hb1
  go_wp2_with fail
  go_ret
  exact ⟨rfl, H0.out _ (G6.out _)⟩
end Go.Proofs.Ytmadlmmfbpmebaa
