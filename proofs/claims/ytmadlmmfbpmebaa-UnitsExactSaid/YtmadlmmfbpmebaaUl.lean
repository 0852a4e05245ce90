/- The simplest fraction lies between the two. -/
import Derived.Test.YtmadlmmfbpmebaaUk
namespace Go.Proofs.Ytmadlmmfbpmebaa
theorem simF_between : ∀ (m : Nat) (a b : Frc), 1 ≤ a.d → 1 ≤ b.d → fle a b → b.d + a.d ≤ m → fle a (simF m a b) ∧ fle (simF m a b) b
  | 0, a, b, ha, hb, _, hm => by omega
  | m + 1, a, b, ha, hb, hab, hm => by
    have h1 := Int.emod_nonneg a.n (show a.d ≠ 0 by omega)
    have h2 := Int.emod_lt_of_pos a.n (show 0 < a.d by omega)
    have h3 := Int.emod_nonneg b.n (show b.d ≠ 0 by omega)
    have h4 := Int.emod_lt_of_pos b.n (show 0 < b.d by omega)
    have e1 := Int.mul_ediv_add_emod a.n a.d
    have e2 := Int.mul_ediv_add_emod b.n b.d
    simp only [simF]
    split
    · rename_i h0
      have hq : a.n / a.d * a.d = a.n := by rw [Int.mul_comm]; omega
      unfold fle at hab ⊢
      simp only
      refine ⟨by omega, ?_⟩
      have x3 : a.n / a.d * b.d * a.d ≤ b.n * a.d := by rw [Int.mul_right_comm, hq]; exact hab
      have := Int.le_of_mul_le_mul_right x3 (show 0 < a.d by omega)
      omega
    · split
      · rename_i h0 h5
        unfold fle
        simp only
        have y := Int.mul_le_mul_of_nonneg_right (show a.n / a.d + 1 ≤ b.n / b.d by omega) (show 0 ≤ b.d by omega)
        rw [Int.mul_comm b.d] at e2
        rw [Int.mul_comm a.d] at e1
        refine ⟨by rw [Int.add_mul]; omega, by omega⟩
      · rename_i h0 h5
        obtain ⟨i1, i2, i3, i4⟩ := fle_inv ha hb hab h0 h5
        obtain ⟨j1, j2⟩ := simF_between m ⟨b.d, b.n % b.d⟩ ⟨a.d, a.n % a.d⟩ i3 i2 i4 (by simp only; omega)
        generalize simF m ⟨b.d, b.n % b.d⟩ ⟨a.d, a.n % a.d⟩ = s at *
        unfold fle at j1 j2 ⊢
        simp only at j1 j2 ⊢
        rw [← i1] at e2
        generalize a.n % a.d = r at *
        generalize b.n % b.d = r2 at *
        generalize a.n / a.d = q at *
        rw [← e1, ← e2, Int.add_mul, Int.add_mul, Int.add_mul, Int.add_mul, Int.mul_right_comm a.d q s.n, Int.mul_right_comm b.d q s.n, Int.mul_right_comm q s.n a.d, Int.mul_right_comm q s.n b.d, Int.mul_comm a.d s.n, Int.mul_comm b.d s.n]
        have k1 : s.n * a.d * q = q * a.d * s.n := by rw [Int.mul_comm (s.n * a.d), Int.mul_comm s.n, Int.mul_assoc]
        have k2 : s.n * b.d * q = q * b.d * s.n := by rw [Int.mul_comm (s.n * b.d), Int.mul_comm s.n, Int.mul_assoc]
        rw [k1, k2]
        rw [Int.mul_comm s.n r, Int.mul_comm a.d] at j2
        rw [Int.mul_comm s.n r2, Int.mul_comm b.d] at j1
        omega
end Go.Proofs.Ytmadlmmfbpmebaa
