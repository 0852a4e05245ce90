/- The walk of the law UnitsTables. -/
import Derived.Test.YtmadlmmfbpmebaaU8
import Derived.Test.YtmadlmmfbpmebaaJo
import Derived.Test.YtmadlmmfbpmebaaJi
namespace Go.Proofs.Ytmadlmmfbpmebaa
open Go.RowKit
set_option maxRecDepth 100000 in
set_option maxHeartbeats 4000000 in
theorem unitsTables_any (A : Option Addr) (c : Nat) (t : List Rng) (x : Rng) (w : World) (hc : t.length ≤ c) (hm : c ≤ maxLen) (hx : Rd w w.heap.size 2 A t.length (rR t))
    (hz : ∀ j, j < t.length → (-9223372036854775808 ≤ (at0 t j).lo ∧ (at0 t j).lo ≤ 9223372036854775807) ∧ (-9223372036854775808 ≤ (at0 t j).hi ∧ (at0 t j).hi ≤ 9223372036854775807)) :
    Calls Try.prog 6 #[.slice A t.length c, x.val] w fun e w' => e = .returned (.bool true) ∧ Below w.heap.size w w' := by
  have ck := Lib.hid fun W => known_any W
  have hxW : ∀ u, Rd (ovr (w.alloc (.cells #[I x.lo, I x.hi] 38)) u) w.heap.size 2 A t.length (rR t) := fun u => hx.below (under2 (ovr_below _ u))
  have HXW := Lib.hid hxW
  clear hxW
  obtain ⟨W, hW⟩ : ∃ W, W = (w.alloc (.cells #[I x.lo, I x.hi] 38)) := ⟨_, rfl⟩
  have rowW0 : W.heap[w.heap.size]? = some (.cells #[I x.lo, I x.hi] 38 (0, 0)) := by rw [hW]; exact heap_last _ _ _ rfl
  have yW00 := ovr_cell (W := W) (b := w.heap.size) (o := 0) (v := I x.lo) (by rw [cell_of_row _ _ _ _ _ _ rowW0]; rfl)
  have yW01 := ovr_cell (W := W) (b := w.heap.size) (o := 1) (v := I x.hi) (by rw [cell_of_row _ _ _ _ _ _ rowW0]; rfl)
  have RrowW0 := Lib.hid (ovr_row rowW0)
  clear rowW0
  have HUW : Hid (∀ u, Below w.heap.size w (ovr W u)) := U1 hW
  have HW := Lib.hid hW
  clear hW
  rw [← HW.out] at HXW
  by_cases hl : 70 < t.length
  · have hb : decide (70 < (t.length : Int)) = true := decide_eq_true (by omega)
    clear hx hc hm hl hz
    go_enter Try.func6, Try.ntmps6
    go_upto_region 1 with (fail)
    rw [← HW.out]
    obtain ⟨u0, hu0⟩ := ovr_self W
    rw [hu0]
    clear hu0
    go_wp2_with fail
    refine (ck.out _).mono ?_
    rintro e w1 ⟨rfl, hb1⟩
    obtain ⟨u1, rfl⟩ := ovr_next hb1
    clear hb1
    go_wp2_with fail
    go_ret
    exact ⟨rfl, HUW.out _⟩
  have hb : decide (70 < (t.length : Int)) = false := decide_eq_false (by omega)
  have hlm : t.length ≤ maxLen := by omega
  have hl70 : t.length ≤ 70 := by omega
  have co : Hid (∀ u, Calls Try.prog 31 #[.slice A t.length c] (ovr W u) (RetLc (ovr W u) 2 t.length (rR t))) := fun u => ownKnots_any A t.length c (rR t) (ovr W u) w.heap.size (by omega) (HUW.out u).size (HXW.out u)
  go_enter Try.func6, Try.ntmps6
  go_upto_region 1 with (fail)
  rw [← HW.out]
  obtain ⟨u0, hu0⟩ := ovr_self W
  rw [hu0]
  clear hu0
  go_wp2_with fail
  refine (co.out _).mono ?_
  rintro e w1 ⟨A', c', rfl, h1, h2, h3, hb0⟩
  obtain ⟨v1, rfl⟩ := ovr_next hb0
  clear hb0
  have hbX0 := ovr_below W v1
  obtain ⟨X0, hX0⟩ : ∃ X0, X0 = ovr W v1 := ⟨_, rfl⟩
  rw [← hX0] at hbX0
  rw [← hX0]
  have hX0' := Lib.hid hX0
  clear hX0
  have hbX0' := Lib.hid hbX0
  have reX0 : ∀ v, ∃ x, ovr X0 v = ovr W x := fun v => ovr_reB hbX0 v
  replace yW00 := tr_cell reX0 yW00
  replace yW01 := tr_cell reX0 yW01
  replace RrowW0 := Lib.hid (tr_row reX0 RrowW0.out)
  have HUX0 : Hid (∀ u, Below w.heap.size w (ovr X0 u)) := fun u => by obtain ⟨x, hx⟩ := reX0 u; rw [hx]; exact HUW.out x
  clear reX0 hbX0
  rw [← hX0'.out] at h3
  have hw0 : Below w.heap.size w X0 := below_self HUX0.out
  have HX : Hid (∀ W', Below X0.heap.size X0 W' → Rd W' w.heap.size 2 A t.length (rR t) ∧ Rd W' X0.heap.size 2 A' t.length (rR t) ∧ w.heap.size ≤ W'.heap.size ∧ X0.heap.size ≤ W'.heap.size) := fun W' h =>
    ⟨(hx.below hw0).below (h.mono hw0.size), h3.below h, Nat.le_trans hw0.size h.size, h.size⟩
  have c0 : Hid (∀ W', Below X0.heap.size X0 W' → Calls Try.prog 32 #[.slice A' t.length c'] W' fun e w' => e = .returned (I (ctF t)) ∧ Below W'.heap.size W' w') := fun W' h => table_any A' t.length c' t W' X0.heap.size rfl hlm (HX.out W' h).2.2.2 (HX.out W' h).2.1
  have c1 : Hid (∀ W', Below X0.heap.size X0 W' → Calls Try.prog 33 #[.slice A' t.length c', x.val] W' (RetRn W' (vaF t x))) := fun W' h => value2_any A' t.length c' t x W' X0.heap.size rfl hlm (HX.out W' h).2.2.2 (HX.out W' h).2.1
  have c2 : Hid (∀ W', Below X0.heap.size X0 W' → Calls Try.prog 34 #[.slice A t.length c, x.val] W' (RetRn W' (vaF t x))) := fun W' h => refValue_any A c t x W' w.heap.size hlm (HX.out W' h).2.2.1 (HX.out W' h).1 hz
  have c3 : Hid (∀ W', Below X0.heap.size X0 W' → Calls Try.prog 35 #[.slice A t.length c] W' fun e w' => e = .returned (.bool (tabB t)) ∧ Below W'.heap.size W' w') := fun W' h => refTable_any A c t W' w.heap.size hlm (HX.out W' h).2.2.1 (HX.out W' h).1 hz
  have hct : Hid (ctF t = if tabB t then 0 else 2) := rfl
  clear h1 h2 h3 hx hc hm hlm hl co hw0 hz
  obtain ⟨⟨⟨sx, sy⟩, z⟩, hq⟩ : ∃ q, vaF t x = q := ⟨_, rfl⟩
  rw [hq] at c1 c2
  clear hq
  have G0 : Hid (∀ u, Below X0.heap.size X0 (ovr X0 u)) := fun u => ovr_below _ u
  obtain ⟨v0, hv0⟩ := ovr_self X0
  rw [hv0]
  clear hv0
  go_wp2_with fail
  refine (c0.out _ (G0.out _)).mono ?_
  rintro e w1 ⟨rfl, hb1⟩
  obtain ⟨u0, rfl⟩ := ovr_next hb1
  clear hb1
  go_wp2_with fail
  refine (c1.out _ (G0.out _)).mono ?_
  rintro e w1 ⟨rfl, hb1⟩
  obtain ⟨u1, rfl⟩ := ovr_next hb1
  clear hb1
  go_upto_region 6 with (fail)
  obtain ⟨X1, hX1⟩ : ∃ X1, X1 = ((ovr X0 u1).alloc (.cells #[I sx, I sy] 38)) := ⟨_, rfl⟩
  have reX1 : ∀ v, ∃ x, ovr X1 v = ovr X0 x := fun v => ovr_re1 hX1
  replace yW00 := tr_cell reX1 yW00
  replace yW01 := tr_cell reX1 yW01
  replace RrowW0 := Lib.hid (tr_row reX1 RrowW0.out)
  have rowX10 : X1.heap[(ovr X0 u1).heap.size]? = some (.cells #[I sx, I sy] 38 (0, 0)) := by rw [hX1]; exact heap_last _ _ _ rfl
  have yX100 := ovr_cell (W := X1) (b := (ovr X0 u1).heap.size) (o := 0) (v := I sx) (by rw [cell_of_row _ _ _ _ _ _ rowX10]; rfl)
  have yX101 := ovr_cell (W := X1) (b := (ovr X0 u1).heap.size) (o := 1) (v := I sy) (by rw [cell_of_row _ _ _ _ _ _ rowX10]; rfl)
  have RrowX10 := Lib.hid (ovr_row rowX10)
  clear rowX10
  have HBX1 : Hid (∀ u, Below X0.heap.size X0 (ovr X1 u)) := fun u => by obtain ⟨x, hx⟩ := reX1 u; rw [hx]; exact ovr_below _ _
  have HUX1 : Hid (∀ u, Below w.heap.size w (ovr X1 u)) := fun u => by obtain ⟨x, hx⟩ := reX1 u; rw [hx]; exact HUX0.out x
  clear reX1
  have HX1 := Lib.hid hX1
  clear hX1
  have G1 := Lib.hid (below_chain G0.out HBX1.out)
  rw [← HX1.out]
  obtain ⟨v1, hv1⟩ := ovr_self X1
  rw [hv1]
  clear hv1
  go_wp2_with fail
  refine (c2.out _ (G1.out _)).mono ?_
  rintro e w1 ⟨rfl, hb1⟩
  obtain ⟨u2, rfl⟩ := ovr_next hb1
  clear hb1
  go_upto_region 7 with (fail)
  obtain ⟨X2, hX2⟩ : ∃ X2, X2 = ((ovr X1 u2).alloc (.cells #[I sx, I sy] 38)) := ⟨_, rfl⟩
  have reX2 : ∀ v, ∃ x, ovr X2 v = ovr X1 x := fun v => ovr_re1 hX2
  replace yW00 := tr_cell reX2 yW00
  replace yW01 := tr_cell reX2 yW01
  replace RrowW0 := Lib.hid (tr_row reX2 RrowW0.out)
  replace yX100 := tr_cell reX2 yX100
  replace yX101 := tr_cell reX2 yX101
  replace RrowX10 := Lib.hid (tr_row reX2 RrowX10.out)
  have rowX20 : X2.heap[(ovr X1 u2).heap.size]? = some (.cells #[I sx, I sy] 38 (0, 0)) := by rw [hX2]; exact heap_last _ _ _ rfl
  have yX200 := ovr_cell (W := X2) (b := (ovr X1 u2).heap.size) (o := 0) (v := I sx) (by rw [cell_of_row _ _ _ _ _ _ rowX20]; rfl)
  have yX201 := ovr_cell (W := X2) (b := (ovr X1 u2).heap.size) (o := 1) (v := I sy) (by rw [cell_of_row _ _ _ _ _ _ rowX20]; rfl)
  have RrowX20 := Lib.hid (ovr_row rowX20)
  clear rowX20
  have HBX2 : Hid (∀ u, Below X1.heap.size X1 (ovr X2 u)) := fun u => by obtain ⟨x, hx⟩ := reX2 u; rw [hx]; exact ovr_below _ _
  have HUX2 : Hid (∀ u, Below w.heap.size w (ovr X2 u)) := fun u => by obtain ⟨x, hx⟩ := reX2 u; rw [hx]; exact HUX1.out x
  clear reX2
  have HX2 := Lib.hid hX2
  clear hX2
  have G2 := Lib.hid (below_chain G1.out HBX2.out)
  rw [← HX2.out]
  obtain ⟨v2, hv2⟩ := ovr_self X2
  rw [hv2]
  clear hv2
  go_wp2_with fail
  go_loopw [11] (fun i wr => ∃ k : Nat, k ≤ t.length ∧ i = .int .i64 k ∧ ∃ u, wr = ovr X2 u) (fun i _ => t.length - (intOf i).toNat)
  case atStart => exact ⟨0, by omega, rfl, v2, rfl⟩
  case round =>
    obtain ⟨k, hk, rfl, u, rfl⟩ := hrel
    by_cases hlt : k < t.length
    · have hltb : decide ((k : Int) < (t.length : Int)) = true := decide_eq_true (by omega)
      obtain ⟨b, o, rfl, _, e0, e1⟩ := (HX.out _ (G2.out u)).1.rng hlt
      obtain ⟨b', o', rfl, _, e2, e3⟩ := (HX.out _ (G2.out u)).2.1.rng hlt
      have f0 := ovr_cell e0
      have f1 := ovr_cell e1
      have f2 := ovr_cell e2
      have f3 := ovr_cell e3
      obtain ⟨y, hy⟩ : ∃ y, at0 t k = y := ⟨_, rfl⟩
      rw [hy] at f0 f1 f2 f3
      clear hy e0 e1 e2 e3
      go_upto_region 10 with (fail)
      refine wp_region_below_lit (by kernel_rfl) (by kernel_rfl) ?_
      repeat (go_big_quiet_step (fail))
      refine wpQuiet_nil ?_
      intro w1 hb1
      obtain ⟨u3, rfl⟩ := ovr_next hb1
      clear hb1 f0 f1 f2 f3
      go_wp2_with fail
      go_roundw
      case rel => exact ⟨k + 1, by omega, by go_num, u3, rfl⟩
      case measure => simp [intOf]; omega
    · obtain rfl : k = t.length := by omega
      have hltb : decide ((t.length : Int) < (t.length : Int)) = false := decide_eq_false (by omega)
      rcases h : tabB t with _ | _
      all_goals
        rw [h] at hct c3
        rw [hct.out]
        go_wp2_with fail
        refine (c3.out _ (G2.out _)).mono ?_
        rintro e w1 ⟨rfl, hb1⟩
        obtain ⟨u4, rfl⟩ := ovr_next hb1
        clear hb1
        go_wp2_with fail
        refine (ck.out _).mono ?_
        rintro e w1 ⟨rfl, hb1⟩
        obtain ⟨u5, rfl⟩ := ovr_next hb1
        clear hb1
        go_wp2_with fail
        go_ret
        exact ⟨rfl, HUX2.out _⟩
end Go.Proofs.Ytmadlmmfbpmebaa
