/- The walk of the law UnitsBalances. -/
import Derived.Test.YtmadlmmfbpmebaaU8
import Derived.Test.YtmadlmmfbpmebaaJd
namespace Go.Proofs.Ytmadlmmfbpmebaa
open Go.RowKit
theorem baF_len (xs : List Rng) (r : Rng) : (baF xs r).1.length ≤ xs.length := by
  unfold baF
  split
  · split
    · split
      · exact Nat.zero_le _
      · rw [mk_len]; exact Nat.le_refl _
    · exact Nat.zero_le _
  · exact Nat.zero_le _
set_option maxRecDepth 100000 in
set_option maxHeartbeats 4000000 in
theorem unitsBalances_any (A : Option Addr) (c : Nat) (xs : List Rng) (r : Rng) (w : World) (hc : xs.length ≤ c) (hm : c ≤ maxLen) (hx : Rd w w.heap.size 2 A xs.length (rR xs))
    (_ : ∀ j, j < xs.length → (-9223372036854775808 ≤ (at0 xs j).lo ∧ (at0 xs j).lo ≤ 9223372036854775807) ∧ (-9223372036854775808 ≤ (at0 xs j).hi ∧ (at0 xs j).hi ≤ 9223372036854775807)) :
    Calls Try.prog 5 #[.slice A xs.length c, r.val] w fun e w' => e = .returned (.bool true) ∧ Below w.heap.size w w' := by
  have ck := Lib.hid fun W => known_any W
  have hxW : ∀ u, Rd (ovr (w.alloc (.cells #[I r.lo, I r.hi] 38)) u) w.heap.size 2 A xs.length (rR xs) := fun u => hx.below (under2 (ovr_below _ u))
  have HXW := Lib.hid hxW
  clear hxW
  obtain ⟨W, hW⟩ : ∃ W, W = (w.alloc (.cells #[I r.lo, I r.hi] 38)) := ⟨_, rfl⟩
  have rowW0 : W.heap[w.heap.size]? = some (.cells #[I r.lo, I r.hi] 38 (0, 0)) := by rw [hW]; exact heap_last _ _ _ rfl
  have yW00 := ovr_cell (W := W) (b := w.heap.size) (o := 0) (v := I r.lo) (by rw [cell_of_row _ _ _ _ _ _ rowW0]; rfl)
  have yW01 := ovr_cell (W := W) (b := w.heap.size) (o := 1) (v := I r.hi) (by rw [cell_of_row _ _ _ _ _ _ rowW0]; rfl)
  have RrowW0 := Lib.hid (ovr_row rowW0)
  clear rowW0
  have HUW : Hid (∀ u, Below w.heap.size w (ovr W u)) := U1 hW
  have HW := Lib.hid hW
  clear hW
  rw [← HW.out] at HXW
  by_cases hl : 110 < xs.length
  · have hb : decide (110 < (xs.length : Int)) = true := decide_eq_true (by omega)
    clear hx hc hm hl
    go_enter Try.func5, Try.ntmps5
    go_upto_region 1 with (fail)
    rw [← HW.out]
    obtain ⟨u0, hu0⟩ := ovr_self W
    rw [hu0]
    clear hu0
    go_wp2_with fail
    refine (ck.out _).mono ?_
    rintro e w1 ⟨rfl, hb1⟩
    obtain ⟨u1, rfl⟩ := ovr_next hb1
    clear hb1
    go_wp2_with fail
    go_ret
    exact ⟨rfl, HUW.out _⟩
  have hb : decide (110 < (xs.length : Int)) = false := decide_eq_false (by omega)
  have hlm : xs.length ≤ maxLen := by omega
  have co : Hid (∀ u, Calls Try.prog 27 #[.slice A xs.length c] (ovr W u) (RetLc (ovr W u) 2 xs.length (rR xs))) := fun u => ownRanges_any A xs.length c (rR xs) (ovr W u) w.heap.size (by omega) (HUW.out u).size (HXW.out u)
  go_enter Try.func5, Try.ntmps5
  go_upto_region 1 with (fail)
  rw [← HW.out]
  obtain ⟨u0, hu0⟩ := ovr_self W
  rw [hu0]
  clear hu0
  go_wp2_with fail
  refine (co.out _).mono ?_
  rintro e w1 ⟨A', c', rfl, h1, h2, h3, hb0⟩
  obtain ⟨v1, rfl⟩ := ovr_next hb0
  clear hb0
  have hbX0 := ovr_below W v1
  obtain ⟨X0, hX0⟩ : ∃ X0, X0 = ovr W v1 := ⟨_, rfl⟩
  rw [← hX0] at hbX0
  rw [← hX0]
  have hX0' := Lib.hid hX0
  clear hX0
  have hbX0' := Lib.hid hbX0
  have reX0 : ∀ v, ∃ x, ovr X0 v = ovr W x := fun v => ovr_reB hbX0 v
  replace yW00 := tr_cell reX0 yW00
  replace yW01 := tr_cell reX0 yW01
  replace RrowW0 := Lib.hid (tr_row reX0 RrowW0.out)
  have HUX0 : Hid (∀ u, Below w.heap.size w (ovr X0 u)) := fun u => by obtain ⟨x, hx⟩ := reX0 u; rw [hx]; exact HUW.out x
  clear reX0 hbX0
  rw [← hX0'.out] at h3
  have hw0 : Below w.heap.size w X0 := below_self HUX0.out
  have HX : Hid (∀ W', Below X0.heap.size X0 W' → Rd W' w.heap.size 2 A xs.length (rR xs) ∧ Rd W' X0.heap.size 2 A' xs.length (rR xs) ∧ w.heap.size ≤ W'.heap.size ∧ X0.heap.size ≤ W'.heap.size) := fun W' h =>
    ⟨(hx.below hw0).below (h.mono hw0.size), h3.below h, Nat.le_trans hw0.size h.size, h.size⟩
  have c1 : Hid (∀ W', Below X0.heap.size X0 W' → Calls Try.prog 28 #[.slice A' xs.length c', r.val] W' (RetB W' (baF xs r))) := fun W' h => balance_any A' xs.length c' xs r W' X0.heap.size rfl hlm (HX.out W' h).2.2.2 (HX.out W' h).2.1
  have c2 : Hid (∀ W', Below X0.heap.size X0 W' → Calls Try.prog 29 #[.slice A xs.length c, r.val] W' (RetB W' (baF xs r))) := fun W' h => refBalance_any A c xs r W' w.heap.size hlm (HX.out W' h).2.2.1 (HX.out W' h).1
  have cs : Hid (∀ W', Below X0.heap.size X0 W' → Calls Try.prog 30 #[.slice A' xs.length c', .slice A xs.length c] W' fun e w' => e = .returned (.bool true) ∧ Below W'.heap.size W' w') := fun W' h => sameR_yes A' A xs.length c' c xs W' X0.heap.size w.heap.size rfl (by omega) (HX.out W' h).2.2.2 (HX.out W' h).2.2.1 (HX.out W' h).2.1 (HX.out W' h).1
  have hql := Lib.hid (Nat.le_trans (baF_len xs r) (show xs.length ≤ 1000000 by omega))
  clear h1 h2 h3 hx hc hm hlm hl co hw0
  obtain ⟨⟨l, ⟨sx, sy⟩, z⟩, hq⟩ : ∃ q, baF xs r = q := ⟨_, rfl⟩
  rw [hq] at c1 c2 hql
  clear hq
  have G0 : Hid (∀ u, Below X0.heap.size X0 (ovr X0 u)) := fun u => ovr_below _ u
  obtain ⟨v0, hv0⟩ := ovr_self X0
  rw [hv0]
  clear hv0
  go_wp2_with fail
  refine (c1.out _ (G0.out _)).mono ?_
  rintro e w1 ⟨A1, n1, d1, rfl, rfl, _, hr1, hb1⟩
  obtain ⟨u1, rfl⟩ := ovr_next hb1
  clear hb1
  go_upto_region 5 with (fail)
  obtain ⟨X1, hX1⟩ : ∃ X1, X1 = ((ovr X0 u1).alloc (.cells #[I sx, I sy] 38)) := ⟨_, rfl⟩
  have reX1 : ∀ v, ∃ x, ovr X1 v = ovr X0 x := fun v => ovr_re1 hX1
  replace yW00 := tr_cell reX1 yW00
  replace yW01 := tr_cell reX1 yW01
  replace RrowW0 := Lib.hid (tr_row reX1 RrowW0.out)
  have rowX10 : X1.heap[(ovr X0 u1).heap.size]? = some (.cells #[I sx, I sy] 38 (0, 0)) := by rw [hX1]; exact heap_last _ _ _ rfl
  have yX100 := ovr_cell (W := X1) (b := (ovr X0 u1).heap.size) (o := 0) (v := I sx) (by rw [cell_of_row _ _ _ _ _ _ rowX10]; rfl)
  have yX101 := ovr_cell (W := X1) (b := (ovr X0 u1).heap.size) (o := 1) (v := I sy) (by rw [cell_of_row _ _ _ _ _ _ rowX10]; rfl)
  have RrowX10 := Lib.hid (ovr_row rowX10)
  clear rowX10
  have HBX1 : Hid (∀ u, Below X0.heap.size X0 (ovr X1 u)) := fun u => by obtain ⟨x, hx⟩ := reX1 u; rw [hx]; exact ovr_below _ _
  have HUX1 : Hid (∀ u, Below w.heap.size w (ovr X1 u)) := fun u => by obtain ⟨x, hx⟩ := reX1 u; rw [hx]; exact HUX0.out x
  clear reX1
  have HX1 := Lib.hid hX1
  clear hX1
  have G1 := Lib.hid (below_chain G0.out HBX1.out)
  have HR1 : Hid (Rd X1 X1.heap.size 2 A1 l.length (rR l)) := by show Rd _ _ _ _ _ _; rw [HX1.out]; exact (hr1.alloc (Nat.le_refl _) _).more (by simp)
  clear hr1
  rw [← HX1.out]
  obtain ⟨v1, hv1⟩ := ovr_self X1
  rw [hv1]
  clear hv1
  go_wp2_with fail
  refine (c2.out _ (G1.out _)).mono ?_
  rintro e w1 ⟨A2, n2, d2, rfl, rfl, _, hr2, hb1⟩
  obtain ⟨u2, rfl⟩ := ovr_next hb1
  clear hb1
  go_upto_region 6 with (fail)
  obtain ⟨X2, hX2⟩ : ∃ X2, X2 = ((ovr X1 u2).alloc (.cells #[I sx, I sy] 38)) := ⟨_, rfl⟩
  have reX2 : ∀ v, ∃ x, ovr X2 v = ovr X1 x := fun v => ovr_re1 hX2
  replace yW00 := tr_cell reX2 yW00
  replace yW01 := tr_cell reX2 yW01
  replace RrowW0 := Lib.hid (tr_row reX2 RrowW0.out)
  replace yX100 := tr_cell reX2 yX100
  replace yX101 := tr_cell reX2 yX101
  replace RrowX10 := Lib.hid (tr_row reX2 RrowX10.out)
  have rowX20 : X2.heap[(ovr X1 u2).heap.size]? = some (.cells #[I sx, I sy] 38 (0, 0)) := by rw [hX2]; exact heap_last _ _ _ rfl
  have yX200 := ovr_cell (W := X2) (b := (ovr X1 u2).heap.size) (o := 0) (v := I sx) (by rw [cell_of_row _ _ _ _ _ _ rowX20]; rfl)
  have yX201 := ovr_cell (W := X2) (b := (ovr X1 u2).heap.size) (o := 1) (v := I sy) (by rw [cell_of_row _ _ _ _ _ _ rowX20]; rfl)
  have RrowX20 := Lib.hid (ovr_row rowX20)
  clear rowX20
  have HBX2 : Hid (∀ u, Below X1.heap.size X1 (ovr X2 u)) := fun u => by obtain ⟨x, hx⟩ := reX2 u; rw [hx]; exact ovr_below _ _
  have HUX2 : Hid (∀ u, Below w.heap.size w (ovr X2 u)) := fun u => by obtain ⟨x, hx⟩ := reX2 u; rw [hx]; exact HUX1.out x
  clear reX2
  have HX2 := Lib.hid hX2
  clear hX2
  have G2 := Lib.hid (below_chain G1.out HBX2.out)
  have HR2 : Hid (Rd X2 X2.heap.size 2 A2 l.length (rR l)) := by show Rd _ _ _ _ _ _; rw [HX2.out]; exact (hr2.alloc (Nat.le_refl _) _).more (by simp)
  clear hr2
  have cl : Hid (∀ u, Calls Try.prog 30 #[.slice A1 l.length d1, .slice A2 l.length d2] (ovr X2 u) fun e w' => e = .returned (.bool true) ∧ Below (ovr X2 u).heap.size (ovr X2 u) w') := fun u => sameR_yes A1 A2 l.length d1 d2 l (ovr X2 u) X1.heap.size X2.heap.size rfl hql.out (HBX2.out u).size (ovr_below X2 u).size (HR1.out.below (HBX2.out u)) (HR2.out.below (ovr_below X2 u))
  rw [← HX2.out]
  obtain ⟨v2, hv2⟩ := ovr_self X2
  rw [hv2]
  clear hv2
  go_wp2_with fail
  refine (cl.out _).mono ?_
  rintro e w1 ⟨rfl, hb1⟩
  obtain ⟨u3, rfl⟩ := ovr_next hb1
  clear hb1
  go_wp2_with fail
  refine (cs.out _ (G2.out _)).mono ?_
  rintro e w1 ⟨rfl, hb1⟩
  obtain ⟨u7, rfl⟩ := ovr_next hb1
  clear hb1
  go_wp2_with fail
  refine (ck.out _).mono ?_
  rintro e w1 ⟨rfl, hb1⟩
  obtain ⟨u8, rfl⟩ := ovr_next hb1
  clear hb1
  go_wp2_with fail
  go_ret
  exact ⟨rfl, HUX2.out _⟩
end Go.Proofs.Ytmadlmmfbpmebaa
