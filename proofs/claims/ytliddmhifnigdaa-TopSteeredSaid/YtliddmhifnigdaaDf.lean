/- The sort of the bad rates of Window: slices.SortFunc with Window$1. -/
import Derived.Test.YtliddmhifnigdaaSf
import Derived.Test.YtliddmhifnigdaaDd
namespace Go.Proofs.Ytliddmhifnigdaa.Un
open Go.RowKit Go.Shelf Go.Lib Go.Sort
/-- A range's two cells. -/
def encR (r : Rng) : List Value := [I r.lo, I r.hi]
def cfR (x y : Rng) : Int := Lib.compareInt x.lo y.lo
theorem ltR (x y : Rng) : ltOf cfR x y = decide (x.lo < y.lo) := by
  unfold ltOf cfR Lib.compareInt
  by_cases h1 : x.lo < y.lo
  · simp [h1]
  · by_cases h2 : y.lo < x.lo <;> simp [h1, h2]
theorem swoR : SWO (ltOf cfR) where
  irrefl x := by rw [ltR]; simp
  trans x y z h1 h2 := by rw [ltR] at *; simp at *; omega
  ntrans x y z h1 h2 := by rw [ltR] at *; simp at *; omega
set_option maxHeartbeats 1000000 in
theorem window1_any (x y : Rng) (W : World) : Calls Try.prog 25 #[x.val, y.val] W fun e w' => e = .returned (.int .i64 (Lib.compareInt x.lo y.lo)) ∧ ∃ q os', w' = grow (W.drewN q) os' := by
  have hcon := fun W' => AnyG.cmp_Compare_int cmpInt x.lo y.lo W'
  change ∀ W', Calls Try.prog 26 _ _ _ at hcon
  generalize Lib.compareInt x.lo y.lo = r at hcon ⊢
  go_enter Try.func25, Try.ntmps25
  go_wp2_with (go_at_call 26; refine (hcon _).mono ?_; rintro e w' ⟨rfl, rfl⟩)
  go_ret
  exact ⟨rfl, 0, _, by rw [alloc_eq_grow, alloc_eq_grow, grow_grow]; rfl⟩
theorem lays_R (blk off size : Nat) (w : World) : CmpLays Try.prog 25 #[] encR 2 cfR blk off size w := fun _ _ _ _ x y => window1_any x y _
end Go.Proofs.Ytliddmhifnigdaa.Un
