/- The contract of quotient of the reference of chapter 1. -/
import Derived.Test.YtljjpidigckheaaU5
namespace Go.Proofs.Ytljjpidigckheaa.Un
open Go.RowKit
end Go.Proofs.Ytljjpidigckheaa.Un
/- Contracts of Number, Floor and MulDiv of the reference of chapter 1. -/
namespace Go.Proofs.Ytljjpidigckheaa.Un
open Go.RowKit
set_option maxRecDepth 100000 in
set_option maxHeartbeats 4000000 in
theorem refNumber_any (n : Int) (w : World) :
 Calls Try.prog 96 #[I n] w fun e w' => e = .returned (.bool (numB n)) ∧ w' = w := by
 unfold numB
 go_enter Try.func96, Try.ntmps96
 go_wp2_with fail
 all_goals
  go_ret
  exact ⟨by first | (simp_all; done) | (simp_all; intros; omega), rfl⟩
end Go.Proofs.Ytljjpidigckheaa.Un
/- The contract of MulDiv of the reference of chapter 1. -/
namespace Go.Proofs.Ytljjpidigckheaa.Un
open Go.RowKit
end Go.Proofs.Ytljjpidigckheaa.Un
/- Contracts of Range, Frac and fits of the reference of chapter 1. -/
namespace Go.Proofs.Ytljjpidigckheaa.Un
open Go.RowKit
set_option maxRecDepth 100000 in
set_option maxHeartbeats 2000000 in
theorem refFrac_any (f : Frc) (w : World) :
 Calls Try.prog 70 #[f.val] w fun e w' => e = .returned (.bool (fok f)) ∧ Below w.heap.size w w' := by
 have hf : Hid (fok f = (numB f.n && (decide (1 ≤ f.d) && decide (f.d ≤ 1000000000000000)))) := rfl
 have na := Lib.hid fun W => refNumber_any f.n W
 obtain ⟨x, y⟩ := f
 obtain ⟨W, hW⟩ : ∃ W, W = (w.alloc (.cells #[I x, I y] 49)) := ⟨_, rfl⟩
 have rowW0 : W.heap[w.heap.size]? = some (.cells #[I x, I y] 49 (0, 0)) := by rw [hW]; exact heap_last _ _ _ rfl
 have yW00 := ovr_cell (W := W) (b := w.heap.size) (o := 0) (v := I x) (by rw [cell_of_row _ _ _ _ _ _ rowW0]; rfl)
 have yW01 := ovr_cell (W := W) (b := w.heap.size) (o := 1) (v := I y) (by rw [cell_of_row _ _ _ _ _ _ rowW0]; rfl)
 have RrowW0 := Lib.hid (ovr_row rowW0)
 clear rowW0
 have HUW : Hid (∀ u, Below w.heap.size w (ovr W u)) := U1 hW
 have HW := Lib.hid hW
 clear hW
 rcases h1 : numB x with _ | _ <;> rcases h2 : decide (1 ≤ y) with _ | _ <;> rcases h3 : decide (y ≤ 1000000000000000) with _ | _
 all_goals
  simp only [h1, h2, h3] at hf na
  go_enter Try.func70, Try.ntmps70
  go_upto_region 1 with (fail)
  rw [← HW.out]
  obtain ⟨u0, hu0⟩ := ovr_self W
  rw [hu0]
  clear hu0
  go_wp2_with fail
  refine (na.out _).mono ?_
  rintro e w' ⟨rfl, rfl⟩
  go_wp2_with fail
  go_ret
  exact ⟨by rw [hf.out]; rfl, HUW.out _⟩
end Go.Proofs.Ytljjpidigckheaa.Un
