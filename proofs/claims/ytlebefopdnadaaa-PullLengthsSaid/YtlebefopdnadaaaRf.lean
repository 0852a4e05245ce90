/- The contracts of within, span, values and Puller of the reference. -/
import Derived.Test.YtlebefopdnadaaaOw
namespace Go.Proofs.Ytlebefopdnadaaa
open Go.RowKit
def wiB (n a b : Int) : Bool := decide (a ≤ n) && decide (n ≤ b)
def spnB (lo hi m : Int) : Bool := decide (0 ≤ lo) && decide (lo ≤ hi) && decide (hi ≤ m)
theorem wiB_iff {n a b : Int} : wiB n a b = true ↔ a ≤ n ∧ n ≤ b := by simp [wiB]
theorem spnB_iff {lo hi m : Int} : spnB lo hi m = true ↔ 0 ≤ lo ∧ lo ≤ hi ∧ hi ≤ m := by simp [spnB, and_assoc]
theorem within_any (n a b : Int) (w : World) : Calls Try.prog 47 #[I n, I a, I b] w fun e w' => e = .returned (.bool (wiB n a b)) ∧ Below w.heap.size w w' := by
  by_cases h1 : a ≤ n
  · by_cases h2 : n ≤ b
    · have hf : Hid (wiB n a b = true) := wiB_iff.2 ⟨h1, h2⟩
      go_enter Try.func47, Try.ntmps47
      go_wp2_with fail
      go_ret
      exact ⟨by rw [hf.out]; rfl, Below.refl _ _⟩
    · have hf : Hid (wiB n a b = false) := by show _ = _; simp [wiB, h2]
      go_enter Try.func47, Try.ntmps47
      go_wp2_with fail
      go_ret
      exact ⟨by rw [hf.out]; rfl, Below.refl _ _⟩
  · have hf : Hid (wiB n a b = false) := by show _ = _; simp [wiB, h1]
    go_enter Try.func47, Try.ntmps47
    go_wp2_with fail
    go_ret
    exact ⟨by rw [hf.out]; rfl, Below.refl _ _⟩
theorem span_any (lo hi m : Int) (w : World) : Calls Try.prog 46 #[.agg #[I lo, I hi], I m] w fun e w' => e = .returned (.bool (spnB lo hi m)) ∧ Below w.heap.size w w' := by
  have HB : Hid (∀ x, Below w.heap.size w (w.alloc x)) := fun x => (Below.refl _ _).alloc (Nat.le_refl _) x
  by_cases h1 : 0 ≤ lo
  · by_cases h2 : lo ≤ hi
    · by_cases h3 : hi ≤ m
      · have hf : Hid (spnB lo hi m = true) := spnB_iff.2 ⟨h1, h2, h3⟩
        go_enter Try.func46, Try.ntmps46
        go_wp2_with fail
        go_ret
        exact ⟨by rw [hf.out]; rfl, HB.out _⟩
      · have hf : Hid (spnB lo hi m = false) := by show _ = _; simp [spnB, h3]
        go_enter Try.func46, Try.ntmps46
        go_wp2_with fail
        go_ret
        exact ⟨by rw [hf.out]; rfl, HB.out _⟩
    · have hf : Hid (spnB lo hi m = false) := by show _ = _; simp [spnB, h2]
      go_enter Try.func46, Try.ntmps46
      go_wp2_with fail
      go_ret
      exact ⟨by rw [hf.out]; rfl, HB.out _⟩
  · have hf : Hid (spnB lo hi m = false) := by show _ = _; simp [spnB, h1]
    go_enter Try.func46, Try.ntmps46
    go_wp2_with fail
    go_ret
    exact ⟨by rw [hf.out]; rfl, HB.out _⟩
theorem okSet_no {s : Stg} {g : Nat} (hg : g < 6) (h : wiB (s.v g) 0 1000000 = false) : okSet s = false := by
  cases hq : okSet s with
  | false => rfl
  | true =>
    have := ((okSet_iff s).1 hq).2 g hg
    rw [wiB_iff.2 this] at h; cases h
set_option maxHeartbeats 1000000 in
theorem values_any (s : Stg) (w : World) : Calls Try.prog 48 #[s.val] w fun e w' => e = .returned (.bool (okSet s)) ∧ Below w.heap.size w w' := by
  have hb : Hid (Below w.heap.size w (w.alloc (.cells #[I s.t, I s.ph, I (s.v 0), I (s.v 1), I (s.v 2), I (s.v 3), I (s.v 4), I (s.v 5)] 73))) := (Below.refl _ _).alloc (Nat.le_refl _) _
  obtain ⟨W1, hW1⟩ : ∃ W1, W1 = w.alloc (.cells #[I s.t, I s.ph, I (s.v 0), I (s.v 1), I (s.v 2), I (s.v 3), I (s.v 4), I (s.v 5)] 73) := ⟨_, rfl⟩
  have HC : Hid (∀ g, g < 6 → W1.cell? ⟨w.heap.size, 2 + g, none⟩ = some (I (s.v g))) := by rw [hW1]; exact all6 (by simp) (by simp) (by simp) (by simp) (by simp) (by simp)
  have HP : Hid (W1.cell? ⟨w.heap.size, 1, none⟩ = some (I s.ph)) := by show _ = _; rw [hW1]; simp
  rw [← hW1] at hb
  have HW := Lib.hid hW1
  clear hW1
  go_enter Try.func48, Try.ntmps48
  go_wp2_with fail
  rw [← HW.out]
  go_loopw [3] (fun i wr => ∃ g : Nat, g ≤ 6 ∧ i = .int .i64 g ∧ (∀ j, j < g → wiB (s.v j) 0 1000000 = true) ∧ Below W1.heap.size W1 wr) (fun i _ => 6 - (intOf i).toNat)
  case atStart => exact ⟨0, by omega, rfl, fun j hj => absurd hj (by omega), Below.refl _ _⟩
  case round =>
    obtain ⟨g, hg, rfl, hs, hbw⟩ := hrel
    have Hs := Lib.hid hs
    have HB := Lib.hid hbw
    have hg6 : (g : Int) ≤ 6 := by omega
    have hfin : Hid (Below w.heap.size w wr) := hb.out.trans (hbw.mono hb.out.size)
    clear hs hbw
    by_cases hlt : g < 6
    · have x0 : wr.cell? ⟨w.heap.size, 2 + g, none⟩ = some (I (s.v g)) := (HB.out.cell (p := ⟨_, _, none⟩) (block_lt_of_cell (HC.out g hlt))).trans (HC.out g hlt)
      go_wp2_with fail
      refine (within_any _ _ _ _).mono ?_
      rintro e w1 ⟨rfl, hb1⟩
      have hb2 : Hid (Below W1.heap.size W1 w1) := HB.out.trans (hb1.mono HB.out.size)
      have hb3 : Hid (Below w.heap.size w w1) := hfin.out.trans (hb1.mono hfin.out.size)
      rcases hq : wiB (s.v g) 0 1000000 with _ | _
      · have hf : Hid (okSet s = false) := okSet_no hlt hq
        clear hq hb1
        go_wp2_with fail
        go_ret
        exact ⟨by rw [hf.out]; rfl, hb3.out⟩
      · have hcase : Hid (∀ j, j < g + 1 → wiB (s.v j) 0 1000000 = true) := succ_case Hs.out hq
        clear hq hb1
        go_wp2_with fail
        go_roundw
        case rel => exact ⟨g + 1, by omega, by go_num, hcase.out, hb2.out⟩
        case measure => simp [intOf]; omega
    · obtain rfl : g = 6 := by omega
      have x0 : wr.cell? ⟨w.heap.size, 1, none⟩ = some (I s.ph) := (HB.out.cell (p := ⟨_, _, none⟩) (block_lt_of_cell HP.out)).trans HP.out
      have hv : Hid (∀ g, g < 6 → 0 ≤ s.v g ∧ s.v g ≤ 1000000) := fun g hg => wiB_iff.1 (Hs.out g hg)
      by_cases h1 : 1 ≤ s.ph
      · by_cases h2 : s.ph ≤ 5
        · have hf : Hid (okSet s = true) := (okSet_iff s).2 ⟨⟨h1, h2⟩, hv.out⟩
          go_wp2_with fail
          go_ret
          exact ⟨by rw [hf.out]; rfl, hfin.out⟩
        · have hf : Hid (okSet s = false) := by show _ = _; simp [okSet, h2]
          go_wp2_with fail
          go_ret
          exact ⟨by rw [hf.out]; rfl, hfin.out⟩
      · have hf : Hid (okSet s = false) := by show _ = _; simp [okSet, h1]
        go_wp2_with fail
        go_ret
        exact ⟨by rw [hf.out]; rfl, hfin.out⟩
end Go.Proofs.Ytlebefopdnadaaa
