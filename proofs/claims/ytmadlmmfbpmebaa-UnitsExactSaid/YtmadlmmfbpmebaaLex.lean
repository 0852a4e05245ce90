/- The walk of the law UnitsExact. -/
import Derived.Test.YtmadlmmfbpmebaaXb
namespace Go.Proofs.Ytmadlmmfbpmebaa
open Go.RowKit
set_option maxRecDepth 100000 in
set_option maxHeartbeats 2000000 in
theorem unitsExact_any (a b c how : Int) (w : World) (hq : (-9223372036854775808 ≤ a ∧ a ≤ 9223372036854775807) ∧ (-9223372036854775808 ≤ b ∧ b ≤ 9223372036854775807) ∧ (-9223372036854775808 ≤ c ∧ c ≤ 9223372036854775807) ∧ (0 ≤ how ∧ how ≤ 255)) :
    Calls Try.prog 7 #[.agg #[I a, I b, I c, .int .u8 how]] w fun e w' => e = .returned (.bool true) ∧ Below w.heap.size w w' := by
  have m := fun W => muldiv_any a b c how W hq.1 hq.2.1 hq.2.2.2
  have ck := Lib.hid fun W => known_any W
  have md := md_cases a b c how
  obtain ⟨W, hW⟩ : ∃ W, W = (w.alloc (.cells #[I a, I b, I c, .int .u8 how] 23)) := ⟨_, rfl⟩
  have rowW0 : W.heap[w.heap.size]? = some (.cells #[I a, I b, I c, .int .u8 how] 23 (0, 0)) := by rw [hW]; exact heap_last _ _ _ rfl
  have yW00 := ovr_cell (W := W) (b := w.heap.size) (o := 0) (v := I a) (by rw [cell_of_row _ _ _ _ _ _ rowW0]; rfl)
  have yW01 := ovr_cell (W := W) (b := w.heap.size) (o := 1) (v := I b) (by rw [cell_of_row _ _ _ _ _ _ rowW0]; rfl)
  have yW02 := ovr_cell (W := W) (b := w.heap.size) (o := 2) (v := I c) (by rw [cell_of_row _ _ _ _ _ _ rowW0]; rfl)
  have yW03 := ovr_cell (W := W) (b := w.heap.size) (o := 3) (v := .int .u8 how) (by rw [cell_of_row _ _ _ _ _ _ rowW0]; rfl)
  have RrowW0 := Lib.hid (ovr_row rowW0)
  clear rowW0
  have HUW : Hid (∀ u, Below w.heap.size w (ovr W u)) := U1 hW
  have HW := Lib.hid hW
  clear hW
  rcases md with ⟨z, hz, hx⟩ | ⟨hh, na, nb, hc, nn, hx⟩
  · rw [hx] at m
    have M : Hid (∀ W : World, Calls Try.prog 20 #[I a, I b, I c, .int .u8 how] W fun e w' => e = .returned (.tuple #[I 0, I 0, I z]) ∧ Below W.heap.size W w') := m
    clear m hx hq
    rcases hz with rfl | rfl | rfl
    all_goals
      go_enter Try.func7, Try.ntmps7
      go_upto_region 1 with (fail)
      rw [← HW.out]
      obtain ⟨u0, hu0⟩ := ovr_self W
      rw [hu0]
      clear hu0
      go_wp2_with fail
      refine (M.out _).mono ?_
      rintro e w1 ⟨rfl, hb1⟩
      obtain ⟨u1, rfl⟩ := ovr_next hb1
      clear hb1
      go_wp2_with fail
      refine (ck.out _).mono ?_
      rintro e w1 ⟨rfl, hb1⟩
      obtain ⟨u2, rfl⟩ := ovr_next hb1
      clear hb1
      go_wp2_with fail
      go_ret
      exact ⟨rfl, HUW.out _⟩
  · rw [hx] at m
    have mt := md_turn hh na nb hc nn
    have hl := @rnd_law (a * b) c how
    have hw := @rnd_how (a * b) c how (by omega)
    have ka := numB_iff.1 na
    have kb := numB_iff.1 nb
    have kn := numB_iff.1 nn
    generalize rnd (a * b) c how = X at *
    obtain ⟨x, y⟩ := X
    simp only at *
    have ey : -1000000000000000 < y ∧ y < 1000000000000000 := by omega
    have E := Lib.hid fun W => exactly_any a b x c y W hl (by omega) (by omega) (by omega) (by omega) (by omega)
    have m2 := fun W => muldiv_any (-a) b c (turnK how) W (by omega) (by omega) (by unfold turnK; split <;> (try split) <;> omega)
    rw [mt] at m2
    have M : Hid (∀ W : World, Calls Try.prog 20 #[I a, I b, I c, .int .u8 how] W fun e w' => e = .returned (.tuple #[I x, I y, I 0]) ∧ Below W.heap.size W w') := m
    have k1 : decide (x < -1000000000000000) = false := decide_eq_false (by omega)
    have k2 : decide (1000000000000000 < x) = false := decide_eq_false (by omega)
    have k3 : decide (y ≤ -1000000000000000) = false := decide_eq_false (by omega)
    have k4 : decide (1000000000000000 ≤ y) = false := decide_eq_false (by omega)
    have k5 : decide (c < 1) = false := decide_eq_false (by omega)
    have k6 : decide (1000000000000000 < c) = false := decide_eq_false (by omega)
    have t : how = 1 ∨ how = 2 ∨ how = 3 := by omega
    clear m hx hq mt hl na nb nn hh
    rcases t with rfl | rfl | rfl
    · have h1 := hw.1 rfl
      have j1 : decide (y < 0) = false := decide_eq_false (by omega)
      have j2 : decide (c ≤ y) = false := decide_eq_false (by omega)
      have N : Hid (∀ W : World, Calls Try.prog 20 #[I (-a), I b, I c, .int .u8 2] W fun e w' => e = .returned (.tuple #[I (-x), I (-y), I 0]) ∧ Below W.heap.size W w') := m2
      clear m2 hw
      go_enter Try.func7, Try.ntmps7
      go_upto_region 1 with (fail)
      rw [← HW.out]
      obtain ⟨u0, hu0⟩ := ovr_self W
      rw [hu0]
      clear hu0
      go_wp2_with fail
      refine (M.out _).mono ?_
      rintro e w1 ⟨rfl, hb1⟩
      obtain ⟨u1, rfl⟩ := ovr_next hb1
      clear hb1
      go_wp2_with fail
      refine (E.out _).mono ?_
      rintro e w1 ⟨rfl, hb1⟩
      obtain ⟨u2, rfl⟩ := ovr_next hb1
      clear hb1
      go_wp2_with fail
      refine (N.out _).mono ?_
      rintro e w1 ⟨rfl, hb1⟩
      obtain ⟨u3, rfl⟩ := ovr_next hb1
      clear hb1
      go_wp2_with fail
      refine (ck.out _).mono ?_
      rintro e w1 ⟨rfl, hb1⟩
      obtain ⟨u4, rfl⟩ := ovr_next hb1
      clear hb1
      go_wp2_with fail
      go_ret
      exact ⟨rfl, HUW.out _⟩
    · have h1 := hw.2.1 rfl
      have j1 : decide (0 < y) = false := decide_eq_false (by omega)
      have j2 : decide (c ≤ -y) = false := decide_eq_false (by omega)
      have N : Hid (∀ W : World, Calls Try.prog 20 #[I (-a), I b, I c, .int .u8 1] W fun e w' => e = .returned (.tuple #[I (-x), I (-y), I 0]) ∧ Below W.heap.size W w') := m2
      clear m2 hw
      go_enter Try.func7, Try.ntmps7
      go_upto_region 1 with (fail)
      rw [← HW.out]
      obtain ⟨u0, hu0⟩ := ovr_self W
      rw [hu0]
      clear hu0
      go_wp2_with fail
      refine (M.out _).mono ?_
      rintro e w1 ⟨rfl, hb1⟩
      obtain ⟨u1, rfl⟩ := ovr_next hb1
      clear hb1
      go_wp2_with fail
      refine (E.out _).mono ?_
      rintro e w1 ⟨rfl, hb1⟩
      obtain ⟨u2, rfl⟩ := ovr_next hb1
      clear hb1
      go_wp2_with fail
      refine (N.out _).mono ?_
      rintro e w1 ⟨rfl, hb1⟩
      obtain ⟨u3, rfl⟩ := ovr_next hb1
      clear hb1
      go_wp2_with fail
      refine (ck.out _).mono ?_
      rintro e w1 ⟨rfl, hb1⟩
      obtain ⟨u4, rfl⟩ := ovr_next hb1
      clear hb1
      go_wp2_with fail
      go_ret
      exact ⟨rfl, HUW.out _⟩
    · have h1 := hw.2.2 rfl
      have j1 : decide (c < 2 * y) = false := decide_eq_false (by omega)
      have j2 : decide (c < -2 * y) = false := decide_eq_false (by omega)
      have j3 : ((2 * y == c) = true ∧ (x.tmod 2 == 0) = true) ∨ ((2 * y == c) = false ∧ (-2 * y == c) = true ∧ (x.tmod 2 == 0) = true) ∨ ((2 * y == c) = false ∧ (-2 * y == c) = false) := by
        by_cases g1 : 2 * y = c
        · exact .inl ⟨beq_iff_eq.2 g1, beq_iff_eq.2 (Int.tmod_eq_zero_of_dvd (by have := h1.2.2 (.inl g1); omega))⟩
        · by_cases g2 : -2 * y = c
          · exact .inr (.inl ⟨beq_eq_false_iff_ne.2 g1, beq_iff_eq.2 g2, beq_iff_eq.2 (Int.tmod_eq_zero_of_dvd (by have := h1.2.2 (.inr g2); omega))⟩)
          · exact .inr (.inr ⟨beq_eq_false_iff_ne.2 g1, beq_eq_false_iff_ne.2 g2⟩)
      have N : Hid (∀ W : World, Calls Try.prog 20 #[I (-a), I b, I c, .int .u8 3] W fun e w' => e = .returned (.tuple #[I (-x), I (-y), I 0]) ∧ Below W.heap.size W w') := m2
      clear m2 hw h1
      rcases j3 with ⟨j3, j4⟩ | ⟨j3, j4, j5⟩ | ⟨j3, j4⟩
      all_goals
        go_enter Try.func7, Try.ntmps7
        go_upto_region 1 with (fail)
        rw [← HW.out]
        obtain ⟨u0, hu0⟩ := ovr_self W
        rw [hu0]
        clear hu0
        go_wp2_with fail
        refine (M.out _).mono ?_
        rintro e w1 ⟨rfl, hb1⟩
        obtain ⟨u1, rfl⟩ := ovr_next hb1
        clear hb1
        go_wp2_with fail
        refine (E.out _).mono ?_
        rintro e w1 ⟨rfl, hb1⟩
        obtain ⟨u2, rfl⟩ := ovr_next hb1
        clear hb1
        go_wp2_with fail
        refine (N.out _).mono ?_
        rintro e w1 ⟨rfl, hb1⟩
        obtain ⟨u3, rfl⟩ := ovr_next hb1
        clear hb1
        go_wp2_with fail
        refine (ck.out _).mono ?_
        rintro e w1 ⟨rfl, hb1⟩
        obtain ⟨u4, rfl⟩ := ovr_next hb1
        clear hb1
        go_wp2_with fail
        go_ret
        exact ⟨rfl, HUW.out _⟩
end Go.Proofs.Ytmadlmmfbpmebaa
