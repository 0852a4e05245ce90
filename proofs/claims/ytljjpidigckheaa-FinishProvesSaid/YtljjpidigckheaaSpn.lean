/- Contract of bouleref09: span. -/
import Derived.Test.YtljjpidigckheaaFf
namespace Go.Proofs.Ytljjpidigckheaa.Un
open Go.RowKit
set_option maxHeartbeats 1000000 in
theorem span_any (r : Rng) (l h : Int) (w : World) :
    Calls Try.prog 58 #[.agg #[I r.lo, I r.hi], I l, I h] w fun e w' => e = .returned (.bool (spn9 r l h)) ∧ Below w.heap.size w w' := by
  have hf : Hid (spn9 r l h = (decide (l ≤ r.lo) && (decide (r.lo ≤ r.hi) && decide (r.hi ≤ h)))) := rfl
  obtain ⟨W, hW⟩ : ∃ W, W = (w.alloc (.cells #[I r.lo, I r.hi] 24)) := ⟨_, rfl⟩
  have rowW0 : W.heap[w.heap.size]? = some (.cells #[I r.lo, I r.hi] 24 (0, 0)) := by rw [hW]; exact heap_last _ _ _ rfl
  have yW00 := ovr_cell (W := W) (b := w.heap.size) (o := 0) (v := I r.lo) (by rw [cell_of_row _ _ _ _ _ _ rowW0]; rfl)
  have yW01 := ovr_cell (W := W) (b := w.heap.size) (o := 1) (v := I r.hi) (by rw [cell_of_row _ _ _ _ _ _ rowW0]; rfl)
  have RrowW0 := Lib.hid (ovr_row rowW0)
  clear rowW0
  have HUW : Hid (∀ u, Below w.heap.size w (ovr W u)) := U1 hW
  have HW := Lib.hid hW
  clear hW
  go_enter Try.func58, Try.ntmps58
  go_upto_region 1 with (fail)
  rw [← HW.out]
  obtain ⟨u0, hu0⟩ := ovr_self W
  rw [hu0]
  clear hu0
  rcases h1 : decide (l ≤ r.lo) with _ | _ <;> rw [h1] at hf
  · go_wp2_with fail
    go_ret
    exact ⟨by rw [hf.out]; rfl, HUW.out _⟩
  rcases h2 : decide (r.lo ≤ r.hi) with _ | _ <;> rw [h2] at hf
  · go_wp2_with fail
    go_ret
    exact ⟨by rw [hf.out]; rfl, HUW.out _⟩
  rcases h3 : decide (r.hi ≤ h) with _ | _ <;> rw [h3] at hf
  all_goals
    go_wp2_with fail
    go_ret
    exact ⟨by rw [hf.out]; rfl, HUW.out _⟩
end Go.Proofs.Ytljjpidigckheaa.Un
