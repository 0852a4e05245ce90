/- Fits of the reference. -/
import Derived.Test.YtfifdfagikbahaaDoorNw
namespace Go.Proofs.YtfifdfagikbahaaDoor
open Go.RowKit
attribute [local go_sem] Oper.semAt_some
set_option maxHeartbeats 2000000 in
set_option maxRecDepth 6000 in
theorem fitsD_any (ms x : Nat) (a1 b1 a2 b2 a3 b3 a4 b4 : Nat) (w : World) (h1 : a1 ≤ 1000000000000 ∧ b1 ≤ 1000000000000) (h2 : a2 ≤ 1000000000 ∧ b2 ≤ 1000000000) (h3 : a3 ≤ 1000000000 ∧ b3 ≤ 1000000000) (h4 : a4 ≤ 1000000000 ∧ b4 ≤ 1000000000) (h5 : ms ≤ 1000000000) (h6 : x ≤ 1000000000) :
    Calls Tryd.prog 24 #[I (ms : Int), .agg #[I (a1 : Int), I (b1 : Int)], .agg #[I (a2 : Int), I (b2 : Int)], .agg #[I (a3 : Int), I (b3 : Int)], .agg #[I (a4 : Int), I (b4 : Int)], I (x : Int)] w fun e w' => e = .returned (.bool (decide (cm2 ((b1 * 1000000 + b2 * x) * b3) (b4 * (ms + x) * 10000) ≤ 0) && decide (cm2 ((a1 * 1000000 + a2 * x) * a3) (a4 * (ms + x) * 10000) ≥ 0))) ∧ Below w.heap.size w w' := by
  have C1 : Hid (∀ W, Calls Tryd.prog 56 #[I (b3 : Int), I (b1 : Int), I (b2 : Int), I (b4 : Int), I (ms : Int), I (x : Int)] W fun e w' => e = .returned (I (cm2 ((b1 * 1000000 + b2 * x) * b3) (b4 * (ms + x) * 10000))) ∧ Below W.heap.size W w') := fun W => feedsD_any b3 b1 b2 b4 ms x W h3.2 h1.2 h2.2 h4.2 h5 h6
  have C2 : Hid (∀ W, Calls Tryd.prog 56 #[I (a3 : Int), I (a1 : Int), I (a2 : Int), I (a4 : Int), I (ms : Int), I (x : Int)] W fun e w' => e = .returned (I (cm2 ((a1 * 1000000 + a2 * x) * a3) (a4 * (ms + x) * 10000))) ∧ Below W.heap.size W w') := fun W => feedsD_any a3 a1 a2 a4 ms x W h3.1 h1.1 h2.1 h4.1 h5 h6
  obtain ⟨q1, hq1⟩ : ∃ q, cm2 ((b1 * 1000000 + b2 * x) * b3) (b4 * (ms + x) * 10000) = q := ⟨_, rfl⟩
  obtain ⟨q2, hq2⟩ : ∃ q, cm2 ((a1 * 1000000 + a2 * x) * a3) (a4 * (ms + x) * 10000) = q := ⟨_, rfl⟩
  rw [hq1] at C1
  rw [hq2] at C2
  rw [hq1, hq2]
  clear hq1 hq2 h1 h2 h3 h4 h5 h6
  have hB := Lib.hid (Below.refl w.heap.size w)
  go_enter Tryd.func24, Tryd.ntmps24
  go_wp2_with fail
  refine (C1.out _).mono ?_
  rintro e W1 ⟨rfl, hb1⟩
  have Hb1 : Hid (Below w.heap.size w W1) := (((((Below.refl _ _).alloc (Nat.le_refl _) _).alloc (by simp) _).alloc (by simp; omega) _).alloc (by simp; omega) _).trans (hb1.mono (by simp; omega))
  have x1 := (hb1.block w.heap.size (by simp; omega)).trans (heap_before (heap_before (heap_before (heap_last _ _ _ rfl))))
  have x2 := (hb1.block (w.heap.size + 1) (by simp)).trans (heap_before (heap_before (heap_last _ _ _ (by simp))))
  have x3 := (hb1.block (w.heap.size + 1 + 1) (by simp)).trans (heap_before (heap_last _ _ _ (by simp)))
  have x4 := (hb1.block (w.heap.size + 1 + 1 + 1) (by simp)).trans (heap_last _ _ _ (by simp))
  have z1 : W1.cell? ⟨w.heap.size, 0, none⟩ = some (I (a1 : Int)) := by rw [cell_of_row _ _ _ _ _ _ x1]; rfl
  have z2 : W1.cell? ⟨w.heap.size + 1, 0, none⟩ = some (I (a2 : Int)) := by rw [cell_of_row _ _ _ _ _ _ x2]; rfl
  have z3 : W1.cell? ⟨w.heap.size + 1 + 1, 0, none⟩ = some (I (a3 : Int)) := by rw [cell_of_row _ _ _ _ _ _ x3]; rfl
  have z4 : W1.cell? ⟨w.heap.size + 1 + 1 + 1, 0, none⟩ = some (I (a4 : Int)) := by rw [cell_of_row _ _ _ _ _ _ x4]; rfl
  clear x1 x2 x3 x4
  have hs1 := Hb1.out.size
  clear hb1 C1
  by_cases hq : q1 ≤ 0
  · have g1 : decide (q1 ≤ 0) = true := decide_eq_true hq
    go_wp2_with fail
    refine (C2.out _).mono ?_
    rintro e W2 ⟨rfl, hb2⟩
    have Hb2 : Hid (Below w.heap.size w W2) := Hb1.out.trans (hb2.mono hs1)
    clear hb2 z1 z2 z3 z4
    go_wp2_with fail
    go_ret
    exact ⟨by rw [g1]; rfl, Hb2.out⟩
  · have g1 : decide (q1 ≤ 0) = false := decide_eq_false hq
    go_wp2_with fail
    go_ret
    exact ⟨by rw [g1]; rfl, Hb1.out⟩
end Go.Proofs.YtfifdfagikbahaaDoor
