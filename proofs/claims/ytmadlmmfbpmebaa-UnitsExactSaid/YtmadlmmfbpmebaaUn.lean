/- The simplest fraction has the least denominator, and is in lowest terms. -/
import Derived.Test.YtmadlmmfbpmebaaUm
namespace Go.Proofs.Ytmadlmmfbpmebaa
theorem simF_min : ∀ (m : Nat) (a b g : Frc), 1 ≤ a.d → 1 ≤ b.d → fle a b → b.d + a.d ≤ m → 1 ≤ g.d → fle a g → fle g b →
    (simF m a b).d ≤ g.d ∧ (0 < a.n → (simF m a b).n ≤ g.n)
  | 0, a, b, g, ha, hb, _, hm, _, _, _ => by omega
  | m + 1, a, b, g, ha, hb, hab, hm, hg, hag, hgb => by
    have h1 := Int.emod_nonneg a.n (show a.d ≠ 0 by omega)
    have h2 := Int.emod_lt_of_pos a.n (show 0 < a.d by omega)
    have h3 := Int.emod_nonneg b.n (show b.d ≠ 0 by omega)
    have h4 := Int.emod_lt_of_pos b.n (show 0 < b.d by omega)
    have e1 := Int.mul_ediv_add_emod a.n a.d
    have e2 := Int.mul_ediv_add_emod b.n b.d
    have hq0 : 0 < a.n → 0 ≤ a.n / a.d := fun h => Int.ediv_nonneg (by omega) (by omega)
    have hqg : a.n / a.d ≤ g.n / g.d := by
      rw [Int.le_ediv_iff_mul_le (by omega)]
      have x3 : a.n / a.d * g.d * a.d ≤ g.n * a.d := by
        rw [Int.mul_right_comm]
        refine Int.le_trans (Int.mul_le_mul_of_nonneg_right (Int.ediv_mul_le _ (by omega)) (by omega)) hag
      exact Int.le_of_mul_le_mul_right x3 (by omega)
    have h5 := Int.emod_nonneg g.n (show g.d ≠ 0 by omega)
    have h6 := Int.emod_lt_of_pos g.n (show 0 < g.d by omega)
    have e3 := Int.mul_ediv_add_emod g.n g.d
    have mono : ∀ x d : Int, 0 ≤ x → 1 ≤ d → x ≤ d * x := fun x d hx hd => by
      have := Int.mul_le_mul_of_nonneg_right hd hx; omega
    simp only [simF]
    split
    · rename_i h0
      simp only
      refine ⟨hg, fun hp => ?_⟩
      have := mono _ _ (Int.le_trans (hq0 hp) hqg) hg
      omega
    · rename_i h0
      split
      · rename_i hlt
        simp only
        refine ⟨hg, fun hp => ?_⟩
        have y := mono _ _ (hq0 hp) hg
        rcases Int.lt_or_le (a.n / a.d) (g.n / g.d) with hl | hl
        · have := mono _ _ (Int.le_trans (hq0 hp) hqg) hg; omega
        · have hgq : g.n / g.d = a.n / a.d := by omega
          rw [hgq] at e3
          by_cases hz : g.n % g.d = 0
          · exfalso
            rw [hz] at e3
            unfold fle at hag
            rw [← e1, ← e3, Int.add_mul, Int.add_mul, Int.mul_right_comm a.d _ g.d, Int.mul_right_comm g.d _ a.d, Int.mul_comm g.d a.d] at hag
            have := Int.mul_pos (show 0 < a.n % a.d by omega) (show 0 < g.d by omega)
            omega
          · omega
      · rename_i hlt
        obtain ⟨i1, i2, i3, i4⟩ := fle_inv ha hb hab h0 hlt
        obtain ⟨j1, j2, j3, j4⟩ := fle_inv ha hg hag h0 (by
          have : g.n / g.d ≤ b.n / b.d := by
            rw [Int.le_ediv_iff_mul_le (by omega)]
            have x3 : g.n / g.d * b.d * g.d ≤ b.n * g.d := by
              rw [Int.mul_right_comm]
              refine Int.le_trans (Int.mul_le_mul_of_nonneg_right (Int.ediv_mul_le _ (by omega)) (by omega)) hgb
            exact Int.le_of_mul_le_mul_right x3 (by omega)
          omega)
        have hgz : g.n % g.d ≠ 0 := by omega
        obtain ⟨k1, k2, k3, k4⟩ := fle_inv hg hb hgb hgz (by omega)
        have ih := simF_min m ⟨b.d, b.n % b.d⟩ ⟨a.d, a.n % a.d⟩ ⟨g.d, g.n % g.d⟩ i3 i2 i4 (by simp only; omega) (by simp only; omega) k4 j4
        simp only at ih ⊢
        generalize simF m ⟨b.d, b.n % b.d⟩ ⟨a.d, a.n % a.d⟩ = s at *
        refine ⟨ih.2 (by omega), fun hp => ?_⟩
        have z1 := ih.1
        have z2 := ih.2 (by omega)
        rw [← j1] at e3
        have z3 := Int.mul_le_mul_of_nonneg_left z2 (hq0 hp)
        rw [Int.mul_comm g.d] at e3
        omega
theorem simF_gcd : ∀ (m : Nat) (a b : Frc), 1 ≤ a.d → 1 ≤ b.d → fle a b → b.d + a.d ≤ m → Int.gcd (simF m a b).n (simF m a b).d = 1
  | 0, a, b, ha, hb, _, hm => by omega
  | m + 1, a, b, ha, hb, hab, hm => by
    have h2 := Int.emod_lt_of_pos a.n (show 0 < a.d by omega)
    have h4 := Int.emod_lt_of_pos b.n (show 0 < b.d by omega)
    simp only [simF]
    split
    · simp
    · split
      · simp
      · rename_i h0 h5
        obtain ⟨i1, i2, i3, i4⟩ := fle_inv ha hb hab h0 h5
        have ih := simF_gcd m ⟨b.d, b.n % b.d⟩ ⟨a.d, a.n % a.d⟩ i3 i2 i4 (by simp only; omega)
        simp only
        generalize simF m ⟨b.d, b.n % b.d⟩ ⟨a.d, a.n % a.d⟩ = s at *
        rw [Int.gcd_comm] at ih
        rw [← ih, Int.add_comm, Int.gcd_comm, Int.gcd_comm s.d]
        simp
end Go.Proofs.Ytmadlmmfbpmebaa
