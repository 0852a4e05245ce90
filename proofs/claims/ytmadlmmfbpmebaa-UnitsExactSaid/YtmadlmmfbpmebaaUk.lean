/- The simplest fraction between two: plain law. -/
import Derived.Test.YtmadlmmfbpmebaaUj
namespace Go.Proofs.Ytmadlmmfbpmebaa
/-- The simplest fraction between a and b (m: a bound of the steps). -/
def simF : Nat → Frc → Frc → Frc
  | 0, a, _ => ⟨a.n / a.d, 1⟩
  | m + 1, a, b => if a.n % a.d = 0 then ⟨a.n / a.d, 1⟩ else if a.n / a.d < b.n / b.d then ⟨a.n / a.d + 1, 1⟩ else
    ⟨a.n / a.d * (simF m ⟨b.d, b.n % b.d⟩ ⟨a.d, a.n % a.d⟩).n + (simF m ⟨b.d, b.n % b.d⟩ ⟨a.d, a.n % a.d⟩).d, (simF m ⟨b.d, b.n % b.d⟩ ⟨a.d, a.n % a.d⟩).n⟩
/-- a is no more than b. -/
def fle (a b : Frc) : Prop := a.n * b.d ≤ b.n * a.d
/-- What is inverted when the whole parts are alike. -/
theorem fle_inv {a b : Frc} (ha : 1 ≤ a.d) (hb : 1 ≤ b.d) (hab : fle a b) (hr : a.n % a.d ≠ 0) (hq : ¬ a.n / a.d < b.n / b.d) :
    a.n / a.d = b.n / b.d ∧ 1 ≤ a.n % a.d ∧ 1 ≤ b.n % b.d ∧ fle ⟨b.d, b.n % b.d⟩ ⟨a.d, a.n % a.d⟩ := by
  have h1 := Int.emod_nonneg a.n (show a.d ≠ 0 by omega)
  have h2 := Int.emod_lt_of_pos a.n (show 0 < a.d by omega)
  have h3 := Int.emod_nonneg b.n (show b.d ≠ 0 by omega)
  have h4 := Int.emod_lt_of_pos b.n (show 0 < b.d by omega)
  have e1 := Int.mul_ediv_add_emod a.n a.d
  have e2 := Int.mul_ediv_add_emod b.n b.d
  have hqq : a.n / a.d = b.n / b.d := by
    refine Int.le_antisymm ?_ (by omega)
    rw [Int.le_ediv_iff_mul_le (by omega)]
    have x1 : a.n / a.d * a.d ≤ a.n := Int.ediv_mul_le _ (by omega)
    have x2 : a.n / a.d * a.d * b.d ≤ a.n * b.d := Int.mul_le_mul_of_nonneg_right x1 (by omega)
    have x3 : a.n / a.d * b.d * a.d ≤ b.n * a.d := by rw [Int.mul_right_comm]; exact Int.le_trans x2 hab
    exact Int.le_of_mul_le_mul_right x3 (by omega)
  unfold fle at hab ⊢
  rw [← hqq] at e2
  simp only
  generalize a.n % a.d = r at *
  generalize b.n % b.d = s at *
  generalize a.n / a.d = q at *
  have hrs : r * b.d ≤ s * a.d := by
    rw [← e1, ← e2, Int.add_mul, Int.add_mul, Int.mul_right_comm a.d q b.d, Int.mul_right_comm b.d q a.d, Int.mul_comm b.d a.d] at hab
    omega
  have hs : 1 ≤ s := by
    rcases Int.lt_or_le 0 s with h | h
    · omega
    · exfalso
      have : s = 0 := by omega
      rw [this, Int.zero_mul] at hrs
      have := Int.mul_pos (show 0 < r by omega) (show 0 < b.d by omega)
      omega
  exact ⟨hqq, by omega, hs, by rw [Int.mul_comm b.d, Int.mul_comm a.d]; exact hrs⟩
/-- The simplest fraction's size: of a positive a. -/
theorem simF_small : ∀ (m : Nat) (a b : Frc), 1 ≤ a.d → 1 ≤ b.d → fle a b → b.d + a.d ≤ m → 0 < a.n →
    (1 ≤ (simF m a b).d ∧ (simF m a b).d ≤ a.d ∧ (simF m a b).d ≤ b.d) ∧ 1 ≤ (simF m a b).n ∧ (simF m a b).n ≤ a.n ∧ (simF m a b).n ≤ b.n
  | 0, a, b, ha, hb, _, hm, _ => by omega
  | m + 1, a, b, ha, hb, hab, hm, hn => by
    have h1 := Int.emod_nonneg a.n (show a.d ≠ 0 by omega)
    have h2 := Int.emod_lt_of_pos a.n (show 0 < a.d by omega)
    have h3 := Int.emod_nonneg b.n (show b.d ≠ 0 by omega)
    have h4 := Int.emod_lt_of_pos b.n (show 0 < b.d by omega)
    have e1 := Int.mul_ediv_add_emod a.n a.d
    have e2 := Int.mul_ediv_add_emod b.n b.d
    have q0 : 0 ≤ a.n / a.d := Int.ediv_nonneg (by omega) (by omega)
    have hbn : 0 < b.n := by
      unfold fle at hab
      rcases Int.lt_or_le 0 b.n with h | h
      · exact h
      · have := Int.mul_pos hn (show 0 < b.d by omega)
        have := Int.mul_nonneg (show 0 ≤ -b.n by omega) (show 0 ≤ a.d by omega)
        rw [Int.neg_mul] at this
        omega
    have mono : ∀ x d : Int, 0 ≤ x → 1 ≤ d → x ≤ d * x := fun x d hx hd => by
      have := Int.mul_le_mul_of_nonneg_right hd hx; omega
    have hqa := mono _ _ q0 ha
    simp only [simF]
    split
    · rename_i h0
      have hqb : a.n / a.d ≤ b.n / b.d := by
        rw [Int.le_ediv_iff_mul_le (by omega)]
        have x3 : a.n / a.d * b.d * a.d ≤ b.n * a.d := by
          rw [Int.mul_right_comm]; refine Int.le_trans (Int.le_of_eq ?_) hab
          rw [show a.n / a.d * a.d = a.n by rw [Int.mul_comm]; omega]
        exact Int.le_of_mul_le_mul_right x3 (by omega)
      have hqb2 := mono _ _ (Int.le_trans q0 hqb) hb
      have hq1 : 1 ≤ a.n / a.d := by
        rcases Int.lt_or_le 0 (a.n / a.d) with h | h
        · omega
        · have h' : a.n / a.d = 0 := by omega
          rw [h', Int.mul_zero] at e1
          omega
      simp only
      omega
    · split
      · rename_i h0 h5
        have hqb2 := mono _ _ (show 0 ≤ b.n / b.d by omega) hb
        have hqa2 := mono _ _ q0 (show 1 ≤ a.d by omega)
        simp only
        omega
      · rename_i h0 h5
        obtain ⟨i1, i2, i3, i4⟩ := fle_inv ha hb hab h0 h5
        obtain ⟨⟨j1, j2, j3⟩, j4, j5, j6⟩ := simF_small m ⟨b.d, b.n % b.d⟩ ⟨a.d, a.n % a.d⟩ i3 i2 i4 (by simp only; omega) (by simp only; omega)
        generalize simF m ⟨b.d, b.n % b.d⟩ ⟨a.d, a.n % a.d⟩ = s at *
        simp only at j1 j2 j3 j4 j5 j6 ⊢
        rw [← i1] at e2
        have k1 := Int.mul_le_mul_of_nonneg_left j6 q0
        have k2 := Int.mul_le_mul_of_nonneg_left j5 q0
        have k3 := Int.mul_nonneg q0 (show 0 ≤ s.n by omega)
        rw [Int.mul_comm] at e1 e2
        generalize a.n / a.d * s.n = t at *
        generalize a.n / a.d * a.d = ta at *
        generalize a.n / a.d * b.d = tb at *
        exact ⟨⟨by omega, by omega, by omega⟩, by omega, by omega, by omega⟩
end Go.Proofs.Ytmadlmmfbpmebaa
