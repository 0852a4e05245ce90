/- UnitsOrder returns true: comparing fractions is an order. -/
import Derived.Test.YtmadlmmfbpmebaaKb
namespace Go.Proofs.Ytmadlmmfbpmebaa
open Go.RowKit
theorem fcm_ge {a b : Frc} : 0 ≤ fcm a b ↔ b.n * a.d ≤ a.n * b.d := by
  unfold fcm cmpI
  constructor
  · intro h; split at h
    · omega
    · omega
  · intro h
    rw [if_neg (by omega)]
    split <;> omega
theorem fcm_gt {a b : Frc} : 0 < fcm a b ↔ b.n * a.d < a.n * b.d := by
  unfold fcm cmpI
  constructor
  · intro h; split at h
    · omega
    · split at h <;> omega
  · intro h
    rw [if_neg (by omega), if_neg (by omega)]
    omega
theorem fcm_rev (a b : Frc) : fcm b a = -fcm a b := by
  unfold fcm cmpI
  rcases Int.lt_trichotomy (a.n * b.d) (b.n * a.d) with h | h | h
  · rw [if_neg (by omega), if_neg (by omega), if_pos h]; rfl
  · rw [if_neg (by omega), if_pos h.symm, if_neg (by omega), if_pos h]; rfl
  · rw [if_pos h, if_neg (by omega), if_neg (by omega)]
theorem fcm_rng (a b : Frc) : -1 ≤ fcm a b ∧ fcm a b ≤ 1 := by
  unfold fcm cmpI
  split
  · omega
  · split <;> omega
theorem fcm_trans {a b c : Frc} (hb : 1 ≤ b.d) (ha : 1 ≤ a.d) (hc : 1 ≤ c.d) (h1 : 0 ≤ fcm a b) (h2 : 0 ≤ fcm b c) : 0 ≤ fcm a c ∧ (0 < fcm a b + fcm b c → 0 < fcm a c) := by
  have e1 := fcm_ge.1 h1
  have e2 := fcm_ge.1 h2
  have m1 := Int.mul_le_mul_of_nonneg_right e1 (show 0 ≤ c.d by omega)
  have m2 := Int.mul_le_mul_of_nonneg_right e2 (show 0 ≤ a.d by omega)
  have r1 : c.n * b.d * a.d = c.n * a.d * b.d := Int.mul_right_comm _ _ _
  have r2 : a.n * b.d * c.d = a.n * c.d * b.d := Int.mul_right_comm _ _ _
  have r3 : b.n * a.d * c.d = b.n * c.d * a.d := Int.mul_right_comm _ _ _
  rw [r3, r2] at m1
  rw [r1] at m2
  have hle : c.n * a.d * b.d ≤ a.n * c.d * b.d := by omega
  refine ⟨fcm_ge.2 (Int.le_of_mul_le_mul_right hle (by omega)), fun hs => fcm_gt.2 ?_⟩
  have hlt : c.n * a.d * b.d < a.n * c.d * b.d := by
    rcases Int.lt_or_le 0 (fcm a b) with h | h
    · have m3 := Int.mul_lt_mul_of_pos_right (fcm_gt.1 h) (show 0 < c.d by omega)
      rw [r3, r2] at m3
      omega
    · have m3 := Int.mul_lt_mul_of_pos_right (fcm_gt.1 (show 0 < fcm b c by omega)) (show 0 < a.d by omega)
      rw [r1] at m3
      omega
  exact Int.lt_of_mul_lt_mul_right hlt (by omega)
theorem fcm_seven (a : Frc) : fcm ⟨a.n * 7, 7 * a.d⟩ a = 0 := by
  have e : a.n * 7 * a.d = a.n * (7 * a.d) := by rw [Int.mul_assoc]
  unfold fcm cmpI
  simp only
  rw [if_neg (by omega), if_pos e]
theorem md_seven {n : Int} (h : -1000000 ≤ n ∧ n ≤ 1000000) : mdF n 7 1 1 = (n * 7, 0, 0) := by
  have h1 : numB n = true := numB_iff.2 (by omega)
  have h2 : rnd (n * 7) 1 1 = (n * 7, 0) := by rw [rnd_no (v := n * 7) (c := 1) (how := 1) (by omega), Int.ediv_one, Int.emod_one]
  have h3 : numB (n * 7) = true := numB_iff.2 (by omega)
  unfold mdF
  have h4 : ¬ ((1 : Int) < 1 ∨ (3 : Int) < 1) := by omega
  have h5 : ¬ ((numB n && numB 7) = false ∨ (1 : Int) < 1 ∨ (1000000000000000 : Int) < 1) := by
    have : numB 7 = true := by decide
    rw [h1, this]
    simp
  rw [if_neg h4, if_neg h5, h2]
  simp only
  rw [if_pos h3]
set_option maxRecDepth 100000 in
set_option maxHeartbeats 8000000 in
theorem unitsOrder_any (a b c : Frc) (w : World) : Calls Try.prog 12 #[a.val, b.val, c.val] w fun e w' => e = .returned (.bool true) ∧ Below w.heap.size w w' := by
  have ck := Lib.hid fun w => known_any w
  have cab := Lib.hid fun w => compare_any a b w
  have cbc := Lib.hid fun w => compare_any b c w
  have cac := Lib.hid fun w => compare_any a c w
  have cba := Lib.hid fun w => compare_any b a w
  obtain ⟨W, hW⟩ : ∃ W, W = (((w.alloc (.cells #[I a.n, I a.d] 71)).alloc (.cells #[I b.n, I b.d] 71)).alloc (.cells #[I c.n, I c.d] 71)) := ⟨_, rfl⟩
  have rowW0 : W.heap[w.heap.size]? = some (.cells #[I a.n, I a.d] 71 (0, 0)) := by rw [hW]; exact heap_before (heap_before (heap_last _ _ _ rfl))
  have yW00 := ovr_cell (W := W) (b := w.heap.size) (o := 0) (v := I a.n) (by rw [cell_of_row _ _ _ _ _ _ rowW0]; rfl)
  have yW01 := ovr_cell (W := W) (b := w.heap.size) (o := 1) (v := I a.d) (by rw [cell_of_row _ _ _ _ _ _ rowW0]; rfl)
  have RrowW0 := Lib.hid (ovr_row rowW0)
  clear rowW0
  have rowW1 : W.heap[w.heap.size + 1]? = some (.cells #[I b.n, I b.d] 71 (0, 0)) := by rw [hW]; exact heap_before (heap_last _ _ _ (by simp))
  have yW10 := ovr_cell (W := W) (b := w.heap.size + 1) (o := 0) (v := I b.n) (by rw [cell_of_row _ _ _ _ _ _ rowW1]; rfl)
  have yW11 := ovr_cell (W := W) (b := w.heap.size + 1) (o := 1) (v := I b.d) (by rw [cell_of_row _ _ _ _ _ _ rowW1]; rfl)
  have RrowW1 := Lib.hid (ovr_row rowW1)
  clear rowW1
  have rowW2 : W.heap[w.heap.size + 1 + 1]? = some (.cells #[I c.n, I c.d] 71 (0, 0)) := by rw [hW]; exact heap_last _ _ _ (by simp)
  have yW20 := ovr_cell (W := W) (b := w.heap.size + 1 + 1) (o := 0) (v := I c.n) (by rw [cell_of_row _ _ _ _ _ _ rowW2]; rfl)
  have yW21 := ovr_cell (W := W) (b := w.heap.size + 1 + 1) (o := 1) (v := I c.d) (by rw [cell_of_row _ _ _ _ _ _ rowW2]; rfl)
  have RrowW2 := Lib.hid (ovr_row rowW2)
  clear rowW2
  have HUW : Hid (∀ u, Below w.heap.size w (ovr W u)) := U3 hW
  have HW := Lib.hid hW
  clear hW
  rcases ha : fok a with _ | _
  case false =>
    have e1 : coF a b = (0, 2) := by rw [coF, ha]; rfl
    have e2 : coF a c = (0, 2) := by rw [coF, ha]; rfl
    obtain ⟨q, hq⟩ : ∃ q, coF b c = q := ⟨_, rfl⟩
    rw [e1] at cab
    rw [e2] at cac
    rw [hq] at cbc
    clear e1 e2 hq
    go_enter Try.func12, Try.ntmps12
    go_upto_region 1 with (fail)
    rw [← HW.out]
    obtain ⟨u0, hu0⟩ := ovr_self W
    rw [hu0]
    clear hu0
    go_wp2_with fail
    refine (cab.out _).mono ?_
    rintro e w1 ⟨rfl, hb1⟩
    obtain ⟨u1, rfl⟩ := ovr_next hb1
    clear hb1
    go_wp2_with fail
    refine (cbc.out _).mono ?_
    rintro e w1 ⟨rfl, hb1⟩
    obtain ⟨u2, rfl⟩ := ovr_next hb1
    clear hb1
    go_wp2_with fail
    refine (cac.out _).mono ?_
    rintro e w1 ⟨rfl, hb1⟩
    obtain ⟨u3, rfl⟩ := ovr_next hb1
    clear hb1
    go_wp2_with fail
    refine (ck.out _).mono ?_
    rintro e w1 ⟨rfl, hb1⟩
    obtain ⟨u4, rfl⟩ := ovr_next hb1
    clear hb1
    go_wp2_with fail
    go_ret
    exact ⟨rfl, HUW.out _⟩
  rcases hb : fok b with _ | _
  case false =>
    have e1 : coF a b = (0, 2) := by rw [coF, hb]; simp
    have e2 : coF b c = (0, 2) := by rw [coF, hb]; rfl
    obtain ⟨q, hq⟩ : ∃ q, coF a c = q := ⟨_, rfl⟩
    rw [e1] at cab
    rw [e2] at cbc
    rw [hq] at cac
    clear e1 e2 hq
    go_enter Try.func12, Try.ntmps12
    go_upto_region 1 with (fail)
    rw [← HW.out]
    obtain ⟨u0, hu0⟩ := ovr_self W
    rw [hu0]
    clear hu0
    go_wp2_with fail
    refine (cab.out _).mono ?_
    rintro e w1 ⟨rfl, hb1⟩
    obtain ⟨u1, rfl⟩ := ovr_next hb1
    clear hb1
    go_wp2_with fail
    refine (cbc.out _).mono ?_
    rintro e w1 ⟨rfl, hb1⟩
    obtain ⟨u2, rfl⟩ := ovr_next hb1
    clear hb1
    go_wp2_with fail
    refine (cac.out _).mono ?_
    rintro e w1 ⟨rfl, hb1⟩
    obtain ⟨u3, rfl⟩ := ovr_next hb1
    clear hb1
    go_wp2_with fail
    refine (ck.out _).mono ?_
    rintro e w1 ⟨rfl, hb1⟩
    obtain ⟨u4, rfl⟩ := ovr_next hb1
    clear hb1
    go_wp2_with fail
    go_ret
    exact ⟨rfl, HUW.out _⟩
  have e1 : coF a b = (fcm a b, 0) := by rw [coF, ha, hb]; rfl
  have e4 : coF b a = (-fcm a b, 0) := by rw [coF, ha, hb, fcm_rev a b]; rfl
  rw [e1] at cab
  rw [e4] at cba
  rcases hc : fok c with _ | _
  case false =>
    have e2 : coF a c = (0, 2) := by rw [coF, hc]; simp
    have e3 : coF b c = (0, 2) := by rw [coF, hc]; simp
    rw [e2] at cac
    rw [e3] at cbc
    obtain ⟨x, hx⟩ : ∃ x, fcm a b = x := ⟨_, rfl⟩
    rw [hx] at cab
    clear e1 e2 e3 e4 hx
    go_enter Try.func12, Try.ntmps12
    go_upto_region 1 with (fail)
    rw [← HW.out]
    obtain ⟨u0, hu0⟩ := ovr_self W
    rw [hu0]
    clear hu0
    go_wp2_with fail
    refine (cab.out _).mono ?_
    rintro e w1 ⟨rfl, hb1⟩
    obtain ⟨u1, rfl⟩ := ovr_next hb1
    clear hb1
    go_wp2_with fail
    refine (cbc.out _).mono ?_
    rintro e w1 ⟨rfl, hb1⟩
    obtain ⟨u2, rfl⟩ := ovr_next hb1
    clear hb1
    go_wp2_with fail
    refine (cac.out _).mono ?_
    rintro e w1 ⟨rfl, hb1⟩
    obtain ⟨u3, rfl⟩ := ovr_next hb1
    clear hb1
    go_wp2_with fail
    refine (ck.out _).mono ?_
    rintro e w1 ⟨rfl, hb1⟩
    obtain ⟨u4, rfl⟩ := ovr_next hb1
    clear hb1
    go_wp2_with fail
    go_ret
    exact ⟨rfl, HUW.out _⟩
  have e2 : coF a c = (fcm a c, 0) := by rw [coF, ha, hc]; rfl
  have e3 : coF b c = (fcm b c, 0) := by rw [coF, hb, hc]; rfl
  rw [e2] at cac
  rw [e3] at cbc
  have va := fok_iff.1 ha
  have vb := fok_iff.1 hb
  have vc := fok_iff.1 hc
  have htr := fun h1 h2 => fcm_trans (a := a) (b := b) (c := c) vb.2.1 va.2.1 vc.2.1 h1 h2
  have r1 := fcm_rng a b
  have r2 := fcm_rng b c
  have r3 := fcm_rng a c
  have c7 : Hid (-1000000 ≤ a.n ∧ a.n ≤ 1000000 → a.d ≤ 1000000 → (∀ w, Calls Try.prog 20 #[I a.n, I 7, I 1, .int .u8 1] w fun e w' => e = .returned (.tuple #[I (a.n * 7), I 0, I 0]) ∧ Below w.heap.size w w') ∧ ∀ w, Calls Try.prog 43 #[.agg #[I (a.n * 7), I (7 * a.d)], a.val] w fun e w' => e = .returned (.tuple #[I 0, I 0]) ∧ Below w.heap.size w w') := fun h1 h2 =>
    ⟨fun w => by have h := muldiv_any a.n 7 1 1 w (by omega) (by omega) (by omega); rw [md_seven h1] at h; exact h, fun w => by
      have h := compare_any ⟨a.n * 7, 7 * a.d⟩ a w
      have hok : fok ⟨a.n * 7, 7 * a.d⟩ = true := fok_iff.2 ⟨by simp only; omega, by simp only; omega, by simp only; omega⟩
      rw [coF, hok, ha, fcm_seven] at h
      exact h⟩
  have VA := Lib.hid va
  clear e1 e2 e3 e4 va vb vc
  obtain ⟨x, hx⟩ : ∃ x, fcm a b = x := ⟨_, rfl⟩
  obtain ⟨y, hy⟩ : ∃ y, fcm b c = y := ⟨_, rfl⟩
  obtain ⟨z, hz⟩ : ∃ z, fcm a c = z := ⟨_, rfl⟩
  rw [hx] at cab cba htr r1
  rw [hy] at cbc htr r2
  rw [hz] at cac htr r3
  clear hx hy hz
  have key : (decide (0 ≤ x) = false) ∨ (decide (0 ≤ x) = true ∧ decide (0 ≤ y) = false) ∨ (decide (0 ≤ x) = true ∧ decide (0 ≤ y) = true ∧ decide (z < 0) = false ∧ decide (0 < x + y) = false) ∨ (decide (0 ≤ x) = true ∧ decide (0 ≤ y) = true ∧ decide (z < 0) = false ∧ decide (0 < x + y) = true ∧ decide (z ≤ 0) = false) := by
    simp only [decide_eq_true_eq, decide_eq_false_iff_not]
    rcases Int.lt_or_le x 0 with h | h
    · left; omega
    · rcases Int.lt_or_le y 0 with h2 | h2
      · right; left; omega
      · have := htr h h2
        omega
  have w1 : IntKind.i64.wrap (-x) = -x := IntWalk.i64_in _ (by omega)
  have w2 : IntKind.i64.wrap (x + y) = x + y := IntWalk.i64_in _ (by omega)
  have w3 : (-x != -x) = false := by simp
  have R := Lib.hid (And.intro r1 (And.intro r2 r3))
  clear htr r3
  go_enter Try.func12, Try.ntmps12
  go_upto_region 1 with (fail)
  rw [← HW.out]
  obtain ⟨u0, hu0⟩ := ovr_self W
  rw [hu0]
  clear hu0
  go_wp2_with fail
  refine (cab.out _).mono ?_
  rintro e w1 ⟨rfl, hb1⟩
  obtain ⟨u1, rfl⟩ := ovr_next hb1
  clear hb1
  go_wp2_with fail
  refine (cbc.out _).mono ?_
  rintro e w1 ⟨rfl, hb1⟩
  obtain ⟨u2, rfl⟩ := ovr_next hb1
  clear hb1
  go_wp2_with fail
  refine (cac.out _).mono ?_
  rintro e w1 ⟨rfl, hb1⟩
  obtain ⟨u3, rfl⟩ := ovr_next hb1
  clear hb1
  go_wp2_with fail
  refine (cba.out _).mono ?_
  rintro e w1 ⟨rfl, hb1⟩
  obtain ⟨u4, rfl⟩ := ovr_next hb1
  clear hb1
  rcases key with k1 | ⟨k1, k2⟩ | ⟨k1, k2, k3, k4⟩ | ⟨k1, k2, k3, k4, k5⟩
  all_goals
    go_upto_region 9 with (fail)
    by_cases hs : (-1000000 ≤ a.n ∧ a.n ≤ 1000000) ∧ a.d ≤ 1000000
    · obtain ⟨m1, m2⟩ := c7.out hs.1 hs.2
      have M1 := Lib.hid m1
      have M2 := Lib.hid m2
      have t1 : decide (1000000 < a.n) = false := decide_eq_false (by omega)
      have t2 : decide (a.n < -1000000) = false := decide_eq_false (by omega)
      have t3 : decide (1000000 < a.d) = false := decide_eq_false (by omega)
      have t4 : IntKind.i64.wrap (7 * a.d) = 7 * a.d := IntWalk.i64_in _ (by have := VA.out; omega)
      clear m1 m2 hs
      go_wp2_with fail
      refine (M1.out _).mono ?_
      rintro e w1 ⟨rfl, hb1⟩
      obtain ⟨u5, rfl⟩ := ovr_next hb1
      clear hb1
      go_wp2_with fail
      refine (M2.out _).mono ?_
      rintro e w1 ⟨rfl, hb1⟩
      obtain ⟨u6, rfl⟩ := ovr_next hb1
      clear hb1
      go_wp2_with fail
      refine (ck.out _).mono ?_
      rintro e w1 ⟨rfl, hb1⟩
      obtain ⟨u7, rfl⟩ := ovr_next hb1
      clear hb1
      go_wp2_with fail
      go_ret
      exact ⟨rfl, HUW.out _⟩
    · have t0 : decide (1000000 < a.n) = true ∨ (decide (1000000 < a.n) = false ∧ decide (a.n < -1000000) = true) ∨ (decide (1000000 < a.n) = false ∧ decide (a.n < -1000000) = false ∧ decide (1000000 < a.d) = true) := by
        simp only [decide_eq_true_eq, decide_eq_false_iff_not]; omega
      clear hs
      rcases t0 with t1 | ⟨t1, t2⟩ | ⟨t1, t2, t3⟩
      all_goals
        go_wp2_with fail
        refine (ck.out _).mono ?_
        rintro e w1 ⟨rfl, hb1⟩
        obtain ⟨u5, rfl⟩ := ovr_next hb1
        clear hb1
        go_wp2_with fail
        go_ret
        exact ⟨rfl, HUW.out _⟩
end Go.Proofs.Ytmadlmmfbpmebaa
