/- The reference's checks of chapter 3. -/
import Derived.Test.YtfifdfagikbahaaDoorNg
namespace Go.Proofs.YtfifdfagikbahaaDoor
open Go.RowKit
attribute [local go_sem] Oper.semAt_some
theorem refIn_any (n a b : Int) (w : World) : Calls Tryd.prog 54 #[I n, I a, I b] w fun e w' => e = .returned (.bool (wiB n a b)) ∧ Below w.heap.size w w' := by
  unfold wiB
  rcases h1 : decide (a ≤ n) with _ | _
  · go_enter Tryd.func54, Tryd.ntmps54
    go_wp2_with fail
    go_ret
    exact ⟨rfl, Below.refl _ _⟩
  · rcases h2 : decide (n ≤ b) with _ | _
    · go_enter Tryd.func54, Tryd.ntmps54
      go_wp2_with fail
      go_ret
      exact ⟨rfl, Below.refl _ _⟩
    · go_enter Tryd.func54, Tryd.ntmps54
      go_wp2_with fail
      go_ret
      exact ⟨rfl, Below.refl _ _⟩
theorem refRange_any (r : Rng) (m : Int) (w : World) : Calls Tryd.prog 22 #[.agg #[I r.lo, I r.hi], I m] w fun e w' => e = .returned (.bool (rgB r m)) ∧ Below w.heap.size w w' := by
  have hB : Hid (Below w.heap.size w (w.alloc (.cells #[I r.lo, I r.hi] 23))) := (Below.refl _ _).alloc (Nat.le_refl _) _
  unfold rgB
  rcases h1 : decide (0 ≤ r.lo) with _ | _
  · go_enter Tryd.func22, Tryd.ntmps22
    go_wp2_with fail
    go_ret
    exact ⟨rfl, hB.out⟩
  · rcases h2 : decide (r.lo ≤ r.hi) with _ | _
    · go_enter Tryd.func22, Tryd.ntmps22
      go_wp2_with fail
      go_ret
      exact ⟨rfl, hB.out⟩
    · rcases h3 : decide (r.hi ≤ m) with _ | _
      · go_enter Tryd.func22, Tryd.ntmps22
        go_wp2_with fail
        go_ret
        exact ⟨rfl, hB.out⟩
      · go_enter Tryd.func22, Tryd.ntmps22
        go_wp2_with fail
        go_ret
        exact ⟨rfl, hB.out⟩
theorem refBounds_any (b : Nat → Int) (m : Int) (w : World) : Calls Tryd.prog 55 #[.agg (bdArr b), I m] w fun e w' => e = .returned (.bool (bdB b m)) ∧ Below w.heap.size w w' := by
  obtain ⟨W, hW⟩ : ∃ W, W = w.alloc (.cells (bdArr b) 25) := ⟨_, rfl⟩
  have hb0 : Below w.heap.size w W := by rw [hW]; exact (Below.refl _ _).alloc (Nat.le_refl _) _
  have r0 : W.heap[w.heap.size]? = some (.cells (bdArr b) 25 (0, 0)) := by rw [hW]; exact heap_last _ _ _ rfl
  have y := fun k (v : Value) (h : (bdArr b)[k]? = some v) => ovr_cell (show W.cell? ⟨w.heap.size, k, none⟩ = some v by rw [cell_of_row _ _ _ _ _ _ r0]; exact h)
  have y0 := y 0 _ rfl
  have y1 := y 1 _ rfl
  have y2 := y 2 _ rfl
  have y3 := y 3 _ rfl
  have y4 := y 4 _ rfl
  have y5 := y 5 _ rfl
  have HU : Hid (∀ u, Below w.heap.size w (ovr W u)) := fun u => hb0.trans ((ovr_below W u).mono hb0.size)
  have HW := Lib.hid hW
  obtain ⟨u0, hu0⟩ := ovr_self W
  have Hu0 := Lib.hid hu0
  have c1 : Hid (∀ w', Calls Tryd.prog 22 #[.agg #[I (b 0), I (b 1)], I m] w' fun e w'' => e = .returned (.bool (rgB ⟨b 0, b 1⟩ m)) ∧ Below w'.heap.size w' w'') := fun w' => refRange_any ⟨b 0, b 1⟩ m w'
  have c2 : Hid (∀ w', Calls Tryd.prog 22 #[.agg #[I (b 2), I (b 3)], I m] w' fun e w'' => e = .returned (.bool (rgB ⟨b 2, b 3⟩ m)) ∧ Below w'.heap.size w' w'') := fun w' => refRange_any ⟨b 2, b 3⟩ m w'
  have c3 : Hid (∀ w', Calls Tryd.prog 22 #[.agg #[I (b 4), I (b 5)], I m] w' fun e w'' => e = .returned (.bool (rgB ⟨b 4, b 5⟩ m)) ∧ Below w'.heap.size w' w'') := fun w' => refRange_any ⟨b 4, b 5⟩ m w'
  unfold bdB
  generalize rgB ⟨b 0, b 1⟩ m = r1 at *
  generalize rgB ⟨b 2, b 3⟩ m = r2 at *
  generalize rgB ⟨b 4, b 5⟩ m = r3 at *
  clear y hW hb0 r0 hu0
  go_enter Tryd.func55, Tryd.ntmps55
  go_upto_region 1 with (fail)
  rw [← HW.out, Hu0.out]
  go_wp2_with fail
  refine (c1.out _).mono ?_
  rintro e w1 ⟨rfl, hb⟩
  obtain ⟨u1, rfl⟩ := ovr_next hb
  clear hb
  rcases r1 with _ | _
  · go_wp2_with fail
    go_ret
    exact ⟨rfl, HU.out _⟩
  go_wp2_with fail
  refine (c2.out _).mono ?_
  rintro e w1 ⟨rfl, hb⟩
  obtain ⟨u2, rfl⟩ := ovr_next hb
  clear hb
  rcases r2 with _ | _
  · go_wp2_with fail
    go_ret
    exact ⟨rfl, HU.out _⟩
  go_wp2_with fail
  refine (c3.out _).mono ?_
  rintro e w1 ⟨rfl, hb⟩
  obtain ⟨u3, rfl⟩ := ovr_next hb
  clear hb
  rcases r3 with _ | _
  · go_wp2_with fail
    go_ret
    exact ⟨rfl, HU.out _⟩
  · go_wp2_with fail
    go_ret
    exact ⟨rfl, HU.out _⟩
theorem refMelt_any (m : Mlt) (w : World) : Calls Tryd.prog 21 #[.agg (mltArr m)] w fun e w' => e = .returned (.bool (isM m)) ∧ Below w.heap.size w w' := by
  obtain ⟨W, hW⟩ : ∃ W, W = w.alloc (.cells (mltArr m) 27) := ⟨_, rfl⟩
  have hb0 : Below w.heap.size w W := by rw [hW]; exact (Below.refl _ _).alloc (Nat.le_refl _) _
  have r0 : W.heap[w.heap.size]? = some (.cells (mltArr m) 27 (0, 0)) := by rw [hW]; exact heap_last _ _ _ rfl
  have y := fun k (v : Value) (h : (mltArr m)[k]? = some v) => ovr_cell (show W.cell? ⟨w.heap.size, k, none⟩ = some v by rw [cell_of_row _ _ _ _ _ _ r0]; exact h)
  have y0 := y 0 _ rfl
  have y1 := y 1 _ rfl
  have y2 := y 2 _ rfl
  have y3 := y 3 _ rfl
  have y4 := y 4 _ rfl
  have y5 := y 5 _ rfl
  have y6 := y 6 _ rfl
  have HU : Hid (∀ u, Below w.heap.size w (ovr W u)) := fun u => hb0.trans ((ovr_below W u).mono hb0.size)
  have HW := Lib.hid hW
  obtain ⟨u0, hu0⟩ := ovr_self W
  have Hu0 := Lib.hid hu0
  clear y hW hb0 r0 hu0
  unfold isM
  have c1 : Hid (∀ w', Calls Tryd.prog 54 #[I m.ms, I 0, I 1000000000] w' fun e w'' => e = .returned (.bool (wiB m.ms 0 1000000000)) ∧ Below w'.heap.size w' w'') := fun w' => refIn_any _ _ _ w'
  have c2 : Hid (∀ w', Calls Tryd.prog 55 #[.agg (bdArr m.ct), I 1000000000000] w' fun e w'' => e = .returned (.bool (bdB m.ct 1000000000000)) ∧ Below w'.heap.size w' w'') := fun w' => refBounds_any m.ct _ w'
  generalize wiB m.ms 0 1000000000 = b1 at *
  generalize bdB m.ct 1000000000000 = b2 at *
  go_enter Tryd.func21, Tryd.ntmps21
  go_upto_region 1 with (fail)
  rw [← HW.out, Hu0.out]
  go_wp2_with fail
  refine (c1.out _).mono ?_
  rintro e w1 ⟨rfl, hb⟩
  obtain ⟨u1, rfl⟩ := ovr_next hb
  clear hb
  rcases b1 with _ | _
  · go_wp2_with fail
    go_ret
    exact ⟨rfl, HU.out _⟩
  go_wp2_with fail
  refine (c2.out _).mono ?_
  rintro e w1 ⟨rfl, hb⟩
  obtain ⟨u2, rfl⟩ := ovr_next hb
  clear hb
  rcases b2 with _ | _
  · go_wp2_with fail
    go_ret
    exact ⟨rfl, HU.out _⟩
  · go_wp2_with fail
    go_ret
    exact ⟨rfl, HU.out _⟩
/-- The reference's step of one kind. -/
theorem refStep_1 (x : Stp) (w : World) (hk : x.kd = 1) : Calls Tryd.prog 44 #[.agg (stpArr x)] w fun e w' => e = .returned (.bool (wiB x.ms 1 1000000000 && bdB x.b 20000)) ∧ Below w.heap.size w w' := by
  obtain ⟨W, hW⟩ : ∃ W, W = w.alloc (.cells (stpArr x) 58) := ⟨_, rfl⟩
  have hb0 : Below w.heap.size w W := by rw [hW]; exact (Below.refl _ _).alloc (Nat.le_refl _) _
  have r0 : W.heap[w.heap.size]? = some (.cells (stpArr x) 58 (0, 0)) := by rw [hW]; exact heap_last _ _ _ rfl
  have y := fun k (v : Value) (h : (stpArr x)[k]? = some v) => ovr_cell (show W.cell? ⟨w.heap.size, k, none⟩ = some v by rw [cell_of_row _ _ _ _ _ _ r0]; exact h)
  have y0 := y 0 _ rfl
  have y1 := y 1 _ rfl
  have y2 := y 2 _ rfl
  have y3 := y 3 _ rfl
  have y4 := y 4 _ rfl
  have y5 := y 5 _ rfl
  have y6 := y 6 _ rfl
  have y7 := y 7 _ rfl
  clear y0
  have y0 : ∀ u, (ovr W u).cell? ⟨w.heap.size, 0, none⟩ = some (.int .u8 1) := by rw [← hk]; exact y 0 _ rfl
  have HU : Hid (∀ u, Below w.heap.size w (ovr W u)) := fun u => hb0.trans ((ovr_below W u).mono hb0.size)
  have HW := Lib.hid hW
  obtain ⟨u0, hu0⟩ := ovr_self W
  have Hu0 := Lib.hid hu0
  clear y hW hb0 r0 hu0 hk
  have c1 : Hid (∀ w', Calls Tryd.prog 54 #[I x.ms, I 1, I 1000000000] w' fun e w'' => e = .returned (.bool (wiB x.ms 1 1000000000)) ∧ Below w'.heap.size w' w'') := fun w' => refIn_any _ _ _ w'
  have c2 : Hid (∀ w', Calls Tryd.prog 55 #[.agg (bdArr x.b), I 20000] w' fun e w'' => e = .returned (.bool (bdB x.b 20000)) ∧ Below w'.heap.size w' w'') := fun w' => refBounds_any x.b _ w'
  generalize wiB x.ms 1 1000000000 = b1 at *
  generalize bdB x.b 20000 = b2 at *
  go_enter Tryd.func44, Tryd.ntmps44
  go_upto_region 1 with (fail)
  rw [← HW.out, Hu0.out]
  go_wp2_with fail
  refine (c1.out _).mono ?_
  rintro e w1 ⟨rfl, hb⟩
  obtain ⟨u1, rfl⟩ := ovr_next hb
  clear hb
  rcases b1 with _ | _
  · go_wp2_with fail
    go_ret
    exact ⟨rfl, HU.out _⟩
  go_wp2_with fail
  refine (c2.out _).mono ?_
  rintro e w1 ⟨rfl, hb⟩
  obtain ⟨u2, rfl⟩ := ovr_next hb
  clear hb
  rcases b2 with _ | _
  · go_wp2_with fail
    go_ret
    exact ⟨rfl, HU.out _⟩
  · go_wp2_with fail
    go_ret
    exact ⟨rfl, HU.out _⟩
theorem refStep_2 (x : Stp) (w : World) (hk : x.kd = 2) : Calls Tryd.prog 44 #[.agg (stpArr x)] w fun e w' => e = .returned (.bool (wiB x.ms 1 1000000000 && bdB x.b 1000000000000)) ∧ Below w.heap.size w w' := by
  obtain ⟨W, hW⟩ : ∃ W, W = w.alloc (.cells (stpArr x) 58) := ⟨_, rfl⟩
  have hb0 : Below w.heap.size w W := by rw [hW]; exact (Below.refl _ _).alloc (Nat.le_refl _) _
  have r0 : W.heap[w.heap.size]? = some (.cells (stpArr x) 58 (0, 0)) := by rw [hW]; exact heap_last _ _ _ rfl
  have y := fun k (v : Value) (h : (stpArr x)[k]? = some v) => ovr_cell (show W.cell? ⟨w.heap.size, k, none⟩ = some v by rw [cell_of_row _ _ _ _ _ _ r0]; exact h)
  have y0 := y 0 _ rfl
  have y1 := y 1 _ rfl
  have y2 := y 2 _ rfl
  have y3 := y 3 _ rfl
  have y4 := y 4 _ rfl
  have y5 := y 5 _ rfl
  have y6 := y 6 _ rfl
  have y7 := y 7 _ rfl
  clear y0
  have y0 : ∀ u, (ovr W u).cell? ⟨w.heap.size, 0, none⟩ = some (.int .u8 2) := by rw [← hk]; exact y 0 _ rfl
  have HU : Hid (∀ u, Below w.heap.size w (ovr W u)) := fun u => hb0.trans ((ovr_below W u).mono hb0.size)
  have HW := Lib.hid hW
  obtain ⟨u0, hu0⟩ := ovr_self W
  have Hu0 := Lib.hid hu0
  clear y hW hb0 r0 hu0 hk
  have c1 : Hid (∀ w', Calls Tryd.prog 54 #[I x.ms, I 1, I 1000000000] w' fun e w'' => e = .returned (.bool (wiB x.ms 1 1000000000)) ∧ Below w'.heap.size w' w'') := fun w' => refIn_any _ _ _ w'
  have c2 : Hid (∀ w', Calls Tryd.prog 55 #[.agg (bdArr x.b), I 1000000000000] w' fun e w'' => e = .returned (.bool (bdB x.b 1000000000000)) ∧ Below w'.heap.size w' w'') := fun w' => refBounds_any x.b _ w'
  generalize wiB x.ms 1 1000000000 = b1 at *
  generalize bdB x.b 1000000000000 = b2 at *
  go_enter Tryd.func44, Tryd.ntmps44
  go_upto_region 1 with (fail)
  rw [← HW.out, Hu0.out]
  go_wp2_with fail
  refine (c1.out _).mono ?_
  rintro e w1 ⟨rfl, hb⟩
  obtain ⟨u1, rfl⟩ := ovr_next hb
  clear hb
  rcases b1 with _ | _
  · go_wp2_with fail
    go_ret
    exact ⟨rfl, HU.out _⟩
  go_wp2_with fail
  refine (c2.out _).mono ?_
  rintro e w1 ⟨rfl, hb⟩
  obtain ⟨u2, rfl⟩ := ovr_next hb
  clear hb
  rcases b2 with _ | _
  · go_wp2_with fail
    go_ret
    exact ⟨rfl, HU.out _⟩
  · go_wp2_with fail
    go_ret
    exact ⟨rfl, HU.out _⟩
theorem refStep_3 (x : Stp) (w : World) (hk : x.kd = 3) : Calls Tryd.prog 44 #[.agg (stpArr x)] w fun e w' => e = .returned (.bool ((x.ms == 0) && bdB x.b 1000000000000)) ∧ Below w.heap.size w w' := by
  obtain ⟨W, hW⟩ : ∃ W, W = w.alloc (.cells (stpArr x) 58) := ⟨_, rfl⟩
  have hb0 : Below w.heap.size w W := by rw [hW]; exact (Below.refl _ _).alloc (Nat.le_refl _) _
  have r0 : W.heap[w.heap.size]? = some (.cells (stpArr x) 58 (0, 0)) := by rw [hW]; exact heap_last _ _ _ rfl
  have y := fun k (v : Value) (h : (stpArr x)[k]? = some v) => ovr_cell (show W.cell? ⟨w.heap.size, k, none⟩ = some v by rw [cell_of_row _ _ _ _ _ _ r0]; exact h)
  have y0 := y 0 _ rfl
  have y1 := y 1 _ rfl
  have y2 := y 2 _ rfl
  have y3 := y 3 _ rfl
  have y4 := y 4 _ rfl
  have y5 := y 5 _ rfl
  have y6 := y 6 _ rfl
  have y7 := y 7 _ rfl
  clear y0
  have y0 : ∀ u, (ovr W u).cell? ⟨w.heap.size, 0, none⟩ = some (.int .u8 3) := by rw [← hk]; exact y 0 _ rfl
  have HU : Hid (∀ u, Below w.heap.size w (ovr W u)) := fun u => hb0.trans ((ovr_below W u).mono hb0.size)
  have HW := Lib.hid hW
  obtain ⟨u0, hu0⟩ := ovr_self W
  have Hu0 := Lib.hid hu0
  clear y hW hb0 r0 hu0 hk
  have c1 : Hid (∀ w', Calls Tryd.prog 54 #[I x.ms, I 1, I 1000000000] w' fun e w'' => e = .returned (.bool (wiB x.ms 1 1000000000)) ∧ Below w'.heap.size w' w'') := fun w' => refIn_any _ _ _ w'
  have c2 : Hid (∀ w', Calls Tryd.prog 55 #[.agg (bdArr x.b), I 1000000000000] w' fun e w'' => e = .returned (.bool (bdB x.b 1000000000000)) ∧ Below w'.heap.size w' w'') := fun w' => refBounds_any x.b _ w'
  generalize wiB x.ms 1 1000000000 = b1 at *
  generalize bdB x.b 1000000000000 = b2 at *
  go_enter Tryd.func44, Tryd.ntmps44
  go_upto_region 1 with (fail)
  rw [← HW.out, Hu0.out]
  have hc : ∃ b, (x.ms == 0) = b := ⟨_, rfl⟩
  obtain ⟨b3, hb3⟩ := hc
  have Hb3 := Lib.hid hb3
  rcases b3 with _ | _
  · go_wp2_with fail
    go_ret
    exact ⟨by rw [Hb3.out]; rfl, HU.out _⟩
  go_wp2_with fail
  refine (c2.out _).mono ?_
  rintro e w1 ⟨rfl, hb⟩
  obtain ⟨u2, rfl⟩ := ovr_next hb
  clear hb
  rcases b2 with _ | _
  · go_wp2_with fail
    go_ret
    exact ⟨by rw [Hb3.out]; rfl, HU.out _⟩
  · go_wp2_with fail
    go_ret
    exact ⟨by rw [Hb3.out]; rfl, HU.out _⟩
theorem refStep_4 (x : Stp) (w : World) (hk : x.kd = 4) : Calls Tryd.prog 44 #[.agg (stpArr x)] w fun e w' => e = .returned (.bool ((x.ms == 0) && bdB x.b 10000)) ∧ Below w.heap.size w w' := by
  obtain ⟨W, hW⟩ : ∃ W, W = w.alloc (.cells (stpArr x) 58) := ⟨_, rfl⟩
  have hb0 : Below w.heap.size w W := by rw [hW]; exact (Below.refl _ _).alloc (Nat.le_refl _) _
  have r0 : W.heap[w.heap.size]? = some (.cells (stpArr x) 58 (0, 0)) := by rw [hW]; exact heap_last _ _ _ rfl
  have y := fun k (v : Value) (h : (stpArr x)[k]? = some v) => ovr_cell (show W.cell? ⟨w.heap.size, k, none⟩ = some v by rw [cell_of_row _ _ _ _ _ _ r0]; exact h)
  have y0 := y 0 _ rfl
  have y1 := y 1 _ rfl
  have y2 := y 2 _ rfl
  have y3 := y 3 _ rfl
  have y4 := y 4 _ rfl
  have y5 := y 5 _ rfl
  have y6 := y 6 _ rfl
  have y7 := y 7 _ rfl
  clear y0
  have y0 : ∀ u, (ovr W u).cell? ⟨w.heap.size, 0, none⟩ = some (.int .u8 4) := by rw [← hk]; exact y 0 _ rfl
  have HU : Hid (∀ u, Below w.heap.size w (ovr W u)) := fun u => hb0.trans ((ovr_below W u).mono hb0.size)
  have HW := Lib.hid hW
  obtain ⟨u0, hu0⟩ := ovr_self W
  have Hu0 := Lib.hid hu0
  clear y hW hb0 r0 hu0 hk
  have c1 : Hid (∀ w', Calls Tryd.prog 54 #[I x.ms, I 1, I 1000000000] w' fun e w'' => e = .returned (.bool (wiB x.ms 1 1000000000)) ∧ Below w'.heap.size w' w'') := fun w' => refIn_any _ _ _ w'
  have c2 : Hid (∀ w', Calls Tryd.prog 55 #[.agg (bdArr x.b), I 10000] w' fun e w'' => e = .returned (.bool (bdB x.b 10000)) ∧ Below w'.heap.size w' w'') := fun w' => refBounds_any x.b _ w'
  generalize wiB x.ms 1 1000000000 = b1 at *
  generalize bdB x.b 10000 = b2 at *
  go_enter Tryd.func44, Tryd.ntmps44
  go_upto_region 1 with (fail)
  rw [← HW.out, Hu0.out]
  have hc : ∃ b, (x.ms == 0) = b := ⟨_, rfl⟩
  obtain ⟨b3, hb3⟩ := hc
  have Hb3 := Lib.hid hb3
  rcases b3 with _ | _
  · go_wp2_with fail
    go_ret
    exact ⟨by rw [Hb3.out]; rfl, HU.out _⟩
  go_wp2_with fail
  refine (c2.out _).mono ?_
  rintro e w1 ⟨rfl, hb⟩
  obtain ⟨u2, rfl⟩ := ovr_next hb
  clear hb
  rcases b2 with _ | _
  · go_wp2_with fail
    go_ret
    exact ⟨by rw [Hb3.out]; rfl, HU.out _⟩
  · go_wp2_with fail
    go_ret
    exact ⟨by rw [Hb3.out]; rfl, HU.out _⟩
theorem refStep_any (x : Stp) (w : World) : Calls Tryd.prog 44 #[.agg (stpArr x)] w fun e w' => e = .returned (.bool (isS x)) ∧ Below w.heap.size w w' := by
  unfold isS
  by_cases h1 : x.kd = 1
  · rw [if_pos h1]; exact refStep_1 x w h1
  by_cases h2 : x.kd = 2
  · rw [if_neg h1, if_pos h2]; exact refStep_2 x w h2
  by_cases h3 : x.kd = 3
  · rw [if_neg h1, if_neg h2, if_pos h3]; exact refStep_3 x w h3
  by_cases h4 : x.kd = 4
  · rw [if_neg h1, if_neg h2, if_neg h3, if_pos h4]; exact refStep_4 x w h4
  rw [if_neg h1, if_neg h2, if_neg h3, if_neg h4]
  obtain ⟨W, hW⟩ : ∃ W, W = w.alloc (.cells (stpArr x) 58) := ⟨_, rfl⟩
  have hb0 : Below w.heap.size w W := by rw [hW]; exact (Below.refl _ _).alloc (Nat.le_refl _) _
  have r0 : W.heap[w.heap.size]? = some (.cells (stpArr x) 58 (0, 0)) := by rw [hW]; exact heap_last _ _ _ rfl
  have y0 : W.cell? ⟨w.heap.size, 0, none⟩ = some (.int .u8 x.kd) := by rw [cell_of_row _ _ _ _ _ _ r0]; rfl
  have HW := Lib.hid hW
  have HB := Lib.hid hb0
  have d1 : (x.kd == 1) = false := by simpa using h1
  have d2 : (x.kd == 2) = false := by simpa using h2
  have d3 : (x.kd == 3) = false := by simpa using h3
  have d4 : (x.kd == 4) = false := by simpa using h4
  clear hW hb0 r0 h1 h2 h3 h4
  go_enter Tryd.func44, Tryd.ntmps44
  go_upto_region 1 with (fail)
  rw [← HW.out]
  go_wp2_with fail
  go_ret
  exact ⟨rfl, HB.out⟩
set_option maxRecDepth 100000 in
set_option maxHeartbeats 1000000 in
theorem refCheck_any (m : Mlt) (A : Option Addr) (c : Nat) (l : List Stp) (w : World) (B : Nat) (hB : B ≤ w.heap.size) (hx : Rd w B 8 A l.length (rT l)) (hk : ∀ j, j < l.length → 0 ≤ (at0 l j).kd ∧ (at0 l j).kd ≤ 255) (hn : l.length ≤ maxLen) :
    Calls Tryd.prog 16 #[.agg (mltArr m), .slice A l.length c] w fun e w' => e = .returned (I (ckF m l)) ∧ Below w.heap.size w w' := by
  obtain ⟨W, hW⟩ : ∃ W, W = w.alloc (.cells (mltArr m) 27) := ⟨_, rfl⟩
  have hb0 : Below w.heap.size w W := by rw [hW]; exact (Below.refl _ _).alloc (Nat.le_refl _) _
  have HB : Hid (Below w.heap.size w W ∧ w.heap.size ≤ W.heap.size) := ⟨hb0, hb0.size⟩
  have r0 : W.heap[w.heap.size]? = some (.cells (mltArr m) 27 (0, 0)) := by rw [hW]; exact heap_last _ _ _ rfl
  have y := fun k (v : Value) (h : (mltArr m)[k]? = some v) => (show W.cell? ⟨w.heap.size, k, none⟩ = some v by rw [cell_of_row _ _ _ _ _ _ r0]; exact h)
  have y0 := y 0 _ rfl
  have y1 := y 1 _ rfl
  have y2 := y 2 _ rfl
  have y3 := y 3 _ rfl
  have y4 := y 4 _ rfl
  have y5 := y 5 _ rfl
  have y6 := y 6 _ rfl
  have HU : Hid (∀ W', Below W.heap.size W W' → Below w.heap.size w W') := fun W' h => HB.out.1.trans (h.mono HB.out.2)
  have HX : Hid (∀ W', Below W.heap.size W W' → Rd W' B 8 A l.length (rT l)) := fun W' h => hx.below ((HU.out W' h).mono hB)
  have Hr0 := Lib.hid r0
  have HW := Lib.hid hW
  have Hk := Lib.hid hk
  have Hn := Lib.hid hn
  clear y hW hb0 r0 hx hk hn
  go_enter Tryd.func16, Tryd.ntmps16
  go_upto_region 1 with (fail)
  rw [← HW.out]
  go_wp2_with fail
  refine (refMelt_any m W).mono ?_
  rintro e w1 ⟨rfl, hb1⟩
  have HB1 := Lib.hid hb1
  clear hb1 y0 y1 y2 y3 y4 y5 y6
  rcases hm : isM m with _ | _
  · have Hf : Hid (ckF m l = 2) := if_pos hm
    clear hm
    go_wp2_with fail
    go_ret
    exact ⟨by rw [Hf.out]; rfl, HU.out _ HB1.out⟩
  have Hm := Lib.hid hm
  by_cases h200 : 200 < l.length
  · have d1 : decide (200 < (l.length : Int)) = true := decide_eq_true (by omega)
    have Hf : Hid (ckF m l = 5) := by show ckF m l = 5; unfold ckF; rw [if_neg (by rw [hm]; decide), if_pos h200]
    clear hm h200
    go_wp2_with fail
    go_ret
    exact ⟨by rw [Hf.out]; rfl, HU.out _ HB1.out⟩
  have d1 : decide (200 < (l.length : Int)) = false := decide_eq_false (by omega)
  have Hf : Hid (ckF m l = ckK m l l.length) := by show ckF m l = _; unfold ckF; rw [if_neg (by rw [hm]; decide), if_neg h200]
  have H200 : Hid (l.length ≤ 200) := by show _ ≤ _; omega
  have y0 : w1.cell? ⟨w.heap.size, 0, none⟩ = some (I m.ms) := by rw [cell_of_row _ _ _ _ _ _ ((HB1.out.block _ (Array.getElem?_eq_some_iff.1 Hr0.out).1).trans Hr0.out)]; rfl
  clear hm h200
  go_wp2_with fail
  clear y0 d1
  go_loopw [5, 6] (fun ms i wr => ∃ k : Nat, k ≤ l.length ∧ i = .int .i64 k ∧ ms = I (msK m l k) ∧ (∀ j, j < k → stE m l j = 0) ∧ Below w1.heap.size w1 wr) (fun _ i _ => l.length - (intOf i).toNat)
  case atStart => exact ⟨0, by omega, rfl, rfl, fun j hj => by omega, Below.refl _ _⟩
  case round =>
    rename World => X0
    obtain ⟨k, hk, rfl, rfl, h0, hbw⟩ := hrel
    have H0 := Lib.hid h0
    have hb := msK_bd Hm.out k h0
    have LX : Hid (Below W.heap.size W X0) := HB1.out.trans (hbw.mono HB1.out.size)
    have LX1 := Lib.hid hbw
    clear h0 hbw
    have h200 := H200.out
    by_cases hlt : k < l.length
    · have hki : decide ((k : Int) < (l.length : Int)) = true := decide_eq_true (by omega)
      have hkn : decide (k < l.length) = true := decide_eq_true hlt
      obtain ⟨b, o, rfl, hbB, x0, x1, x2, x3, x4, x5, x6, x7⟩ := (HX.out X0 LX.out).stp hlt
      have hE : Hid (stE m l k = if isS (at0 l k) = false then 2 else if grF (msK m l k) (at0 l k) < 0 then 31 else if 1000000000 < grF (msK m l k) (at0 l k) then 8 else 0) := rfl
      have hS : Hid (msK m l (k + 1) = grF (msK m l k) (at0 l k)) := rfl
      have Hne : Hid (stE m l k ≠ 0 → ckF m l = stE m l k) := fun h => by
        rw [Hf.out]
        have := ckK_err H0.out h (l.length - (k + 1))
        rwa [show k + 1 + (l.length - (k + 1)) = l.length by omega] at this
      have Hok : Hid (stE m l k = 0 → ∀ j, j < k + 1 → stE m l j = 0) := fun h j hj => by
        rcases Nat.lt_or_ge j k with hjk | hjk
        · exact H0.out j hjk
        · obtain rfl : j = k := by omega
          exact h
      obtain ⟨x, hx⟩ : ∃ x, at0 l k = x := ⟨_, rfl⟩
      obtain ⟨mk, hmk⟩ : ∃ mk, msK m l k = mk := ⟨_, rfl⟩
      have Hxx := Lib.hid hx
      rw [hx] at x0 x1 x2 x3 x4 x5 x6 x7 hE hS
      rw [hmk] at hb hE hS ⊢
      clear hx hmk
      go_wp2_with fail
      refine (refStep_any x X0).mono ?_
      rintro e w3 ⟨rfl, hb3⟩
      have L3 : Hid (Below W.heap.size W w3) := LX.out.trans (hb3.mono LX.out.size)
      have L31 : Hid (Below w1.heap.size w1 w3) := LX1.out.trans (hb3.mono LX1.out.size)
      clear hb3 x0 x1 x2 x3 x4 x5 x6 x7
      rcases hsx : isS x with _ | _
      · have he2 : stE m l k = 2 := by rw [hE.out, hsx]; rfl
        have Hz : Hid (ckF m l = 2) := by show ckF m l = 2; rw [Hne.out (by omega), he2]
        clear hsx he2
        go_wp2_with fail
        go_ret
        exact ⟨by rw [Hz.out]; rfl, HU.out _ L3.out⟩
      have hxm := isS_ms hsx
      have hE3 : Hid (stE m l k = if grF mk x < 0 then 31 else if 1000000000 < grF mk x then 8 else 0) := by show _ = _; rw [hE.out, hsx]; rfl
      obtain ⟨b', o', he', _, x0, x1, x2, x3, x4, x5, x6, x7⟩ := (HX.out w3 L3.out).stp hlt
      obtain ⟨rfl, rfl⟩ : b = b' ∧ o = o' := by simp at he'; exact he'
      rw [Hxx.out] at x0 x1 x2 x3 x4 x5 x6 x7
      clear hsx he'
      go_wp2_with fail
      refine (mass_any mk x w3 (by omega) (fun h => by have := hxm h; omega)).mono ?_
      rintro e w4 ⟨rfl, hb4⟩
      have L4 : Hid (Below W.heap.size W w4) := L3.out.trans (hb4.mono L3.out.size)
      have L41 : Hid (Below w1.heap.size w1 w4) := L31.out.trans (hb4.mono L31.out.size)
      clear hb4 x0 x1 x2 x3 x4 x5 x6 x7 hxm
      have hg := hE3.out
      generalize grF mk x = gm at *
      by_cases c1 : gm < 0
      · have d1 : decide (gm < 0) = true := decide_eq_true c1
        have Hz : Hid (ckF m l = 31) := by show ckF m l = 31; rw [if_pos c1] at hg; rw [Hne.out (by omega), hg]
        clear c1 hg
        go_wp2_with fail
        go_ret
        exact ⟨by rw [Hz.out]; rfl, HU.out _ L4.out⟩
      have d1 : decide (gm < 0) = false := decide_eq_false c1
      rw [if_neg c1] at hg
      by_cases c2 : 1000000000 < gm
      · have d2 : decide (1000000000 < gm) = true := decide_eq_true c2
        have Hz : Hid (ckF m l = 8) := by show ckF m l = 8; rw [if_pos c2] at hg; rw [Hne.out (by omega), hg]
        clear c1 c2 hg
        go_wp2_with fail
        go_ret
        exact ⟨by rw [Hz.out]; rfl, HU.out _ L4.out⟩
      have d2 : decide (1000000000 < gm) = false := decide_eq_false c2
      rw [if_neg c2] at hg
      have Hall := Lib.hid (Hok.out hg)
      have w9 : IntKind.i64.wrap ((k : Int) + 1) = (k : Int) + 1 := IntWalk.i64_in _ (by omega)
      clear c1 c2 hg
      go_wp2_with fail
      go_roundw
      case rel => exact ⟨k + 1, by omega, by go_num, by rw [hS.out], Hall.out, L41.out⟩
      case measure => simp [intOf]; omega
    · obtain rfl : k = l.length := by omega
      have hki : decide ((l.length : Int) < (l.length : Int)) = false := decide_eq_false (by omega)
      have Hz : Hid (ckF m l = 0) := by show ckF m l = 0; rw [Hf.out]; exact ckK_at H0.out
      go_wp2_with fail
      go_ret
      exact ⟨by rw [Hz.out]; rfl, HU.out _ LX.out⟩
end Go.Proofs.YtfifdfagikbahaaDoor
