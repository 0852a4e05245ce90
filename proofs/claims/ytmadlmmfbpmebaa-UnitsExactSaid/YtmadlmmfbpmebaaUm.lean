/- The sizes of the simplest fraction, a of any sign. -/
import Derived.Test.YtmadlmmfbpmebaaUl
namespace Go.Proofs.Ytmadlmmfbpmebaa
theorem simF_den : ∀ (m : Nat) (a b : Frc), 1 ≤ a.d → 1 ≤ b.d → fle a b → b.d + a.d ≤ m →
    1 ≤ (simF m a b).d ∧ (simF m a b).d ≤ a.d ∧ (simF m a b).d ≤ b.d
  | 0, a, b, ha, hb, _, hm => by omega
  | m + 1, a, b, ha, hb, hab, hm => by
    have h2 := Int.emod_lt_of_pos a.n (show 0 < a.d by omega)
    have h4 := Int.emod_lt_of_pos b.n (show 0 < b.d by omega)
    simp only [simF]
    split
    · simp only; omega
    · split
      · simp only; omega
      · rename_i h0 h5
        obtain ⟨i1, i2, i3, i4⟩ := fle_inv ha hb hab h0 h5
        obtain ⟨_, j4, j5, j6⟩ := simF_small m ⟨b.d, b.n % b.d⟩ ⟨a.d, a.n % a.d⟩ i3 i2 i4 (by simp only; omega) (by simp only; omega)
        simp only at j4 j5 j6 ⊢
        omega
/-- The numerator lies between the bounds of any range round nothing that holds both. -/
theorem simF_num {m : Nat} {a b : Frc} {K : Int} (ha : 1 ≤ a.d) (hb : 1 ≤ b.d) (hab : fle a b) (hm : b.d + a.d ≤ m) (hK : 0 ≤ K) (h1 : -K ≤ a.n) (h2 : b.n ≤ K) :
    -K ≤ (simF m a b).n ∧ (simF m a b).n ≤ K := by
  obtain ⟨d1, d2, d3⟩ := simF_den m a b ha hb hab hm
  obtain ⟨f1, f2⟩ := simF_between m a b ha hb hab hm
  generalize simF m a b = f at *
  unfold fle at f1 f2
  constructor
  · have x1 : -K * a.d ≤ f.n * a.d := by
      refine Int.le_trans ?_ f1
      have y1 := Int.mul_le_mul_of_nonneg_right h1 (show 0 ≤ f.d by omega)
      have y2 := Int.mul_le_mul_of_nonneg_left d2 hK
      rw [Int.neg_mul] at y1 ⊢
      omega
    exact Int.le_of_mul_le_mul_right x1 (by omega)
  · have x1 : f.n * b.d ≤ K * b.d := by
      refine Int.le_trans f2 ?_
      have y1 := Int.mul_le_mul_of_nonneg_right h2 (show 0 ≤ f.d by omega)
      have y2 := Int.mul_le_mul_of_nonneg_left d3 hK
      omega
    exact Int.le_of_mul_le_mul_right x1 (by omega)
end Go.Proofs.Ytmadlmmfbpmebaa
