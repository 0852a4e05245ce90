/- Plain laws of the place: it is the sum over the settings, it never falls, and the time at which a length is reached is the first one. -/
import Derived.Test.YtlebefopdnadaaaSo
namespace Go.Proofs.Ytlebefopdnadaaa
open Go.RowKit
theorem ixOf_before {α : Type} [Inhabited α] (f : α → Bool) : ∀ xs : List α, 0 ≤ ixOf f xs → ∀ j : Nat, (j : Int) < ixOf f xs → f (at0 xs j) = false
  | [], hx, _, _ => by simp [ixOf] at hx
  | x :: r, hx, j, hj => by
    simp only [ixOf] at hx hj
    cases hq : f x with
    | true => rw [hq] at hj; simp at hj; omega
    | false =>
      simp only [hq, Bool.false_eq_true, if_false] at hx hj
      cases j with
      | zero => simpa [at0] using hq
      | succ j =>
        have hr : 0 ≤ ixOf f r := by split at hx <;> omega
        rw [if_neg (by omega)] at hj
        exact ixOf_before f r hr j (by omega)
/-- The place, as the sum over the first k settings. -/
def sumP (R : Run) (t : Int) : Nat → Int
  | 0 => 0 | k + 1 => sumP R t k + (at0 R.ss k).v 0 * max 0 (min t (untS R k) - (at0 R.ss k).t)
theorem sumP_past {R : Run} {t : Int} {j : Nat} : ∀ {k : Nat}, j ≤ k → (∀ i, j ≤ i → i < k → t ≤ (at0 R.ss i).t) → sumP R t k = sumP R t j
  | 0, hj, _ => by obtain rfl : j = 0 := by omega
                   rfl
  | k + 1, hj, hi => by
    rcases Nat.lt_or_ge k j with hl | hl
    · obtain rfl : j = k + 1 := by omega
      rfl
    · have h1 := hi k hl (by omega)
      simp only [sumP]
      rw [sumP_past hl (fun i h1 h2 => hi i h1 (by omega)), show max 0 (min t (untS R k) - (at0 R.ss k).t) = 0 by omega]
      simp
section
variable {R : Run} (h : VRun R)
include h
theorem unt_lt {k : Nat} (hk : k < R.ss.length) : (at0 R.ss k).t < untS R k := by
  unfold untS
  split
  · rename_i h1; exact h.tup k h1
  · exact h.tlt k hk
theorem t_mono {j : Nat} : ∀ {k : Nat}, j ≤ k → k < R.ss.length → (at0 R.ss j).t ≤ (at0 R.ss k).t
  | 0, hj, _ => by obtain rfl : j = 0 := by omega
                   exact Int.le_refl _
  | k + 1, hj, hk => by
    rcases Nat.lt_or_ge k j with hl | hl
    · obtain rfl : j = k + 1 := by omega
      exact Int.le_refl _
    · have h1 := t_mono hl (show k < R.ss.length by omega)
      have h2 := h.tup k hk
      omega
theorem unt_le {j k : Nat} (hj : j < k) (hk : k < R.ss.length) : untS R j ≤ (at0 R.ss k).t := by
  unfold untS
  rw [if_pos (by omega)]
  exact t_mono h (by omega) hk
theorem unt_e {j : Nat} : untS R j ≤ R.e := by
  unfold untS
  split
  · rename_i h1; exact Int.le_of_lt (h.tlt _ h1)
  · exact Int.le_refl _
theorem sumP_pl {t : Int} : ∀ {k : Nat}, k ≤ R.ss.length → (∀ j, j < k → untS R j ≤ t) → sumP R t k = plS R k
  | 0, _, _ => rfl
  | k + 1, hk, hj => by
    have h1 := hj k (by omega)
    have h2 := unt_lt h (k := k) (by omega)
    simp only [sumP, plS]
    rw [sumP_pl (k := k) (by omega) (fun j hjk => hj j (by omega)), show max 0 (min t (untS R k) - (at0 R.ss k).t) = untS R k - (at0 R.ss k).t by omega]
/-- The setting that holds at a time, and the place there. -/
theorem placeF_at {t : Int} (ht : 0 ≤ t) : ∀ i, i < R.ss.length → ∃ j, j ≤ i ∧ (at0 R.ss j).t ≤ t ∧ (∀ k, j < k → k ≤ i → t < (at0 R.ss k).t) ∧ placeF (pcs R) t i = plS R j + (at0 R.ss j).v 0 * (t - (at0 R.ss j).t)
  | 0, hi => ⟨0, Nat.le_refl _, by rw [h.first]; exact ht, fun k h1 h2 => by omega, by simp only [placeF, at0_pcs R hi]; rfl⟩
  | i + 1, hi => by
    simp only [placeF, at0_pcs R hi]
    split
    · rename_i hle
      exact ⟨i + 1, Nat.le_refl _, hle, fun k h1 h2 => by omega, rfl⟩
    · rename_i hle
      obtain ⟨j, h1, h2, h3, h4⟩ := placeF_at ht i (by omega)
      refine ⟨j, by omega, h2, fun k k1 k2 => ?_, h4⟩
      rcases Nat.lt_or_ge i k with hl | hl
      · obtain rfl : k = i + 1 := by omega
        have hle' : ¬ (at0 R.ss (i + 1)).t ≤ t := hle
        omega
      · exact h3 k k1 hl
theorem place_spot {t : Int} (ht : 0 ≤ t) (hte : t ≤ R.e) : ∃ j, j < R.ss.length ∧ (at0 R.ss j).t ≤ t ∧ t ≤ untS R j ∧ (∀ k, j < k → k < R.ss.length → t < (at0 R.ss k).t) ∧ placeR R t = plS R j + (at0 R.ss j).v 0 * (t - (at0 R.ss j).t) := by
  have hn := h.n1
  obtain ⟨j, h1, h2, h3, h4⟩ := placeF_at h ht (R.ss.length - 1) (by omega)
  refine ⟨j, by omega, h2, ?_, fun k k1 k2 => h3 k k1 (by omega), h4⟩
  unfold untS
  split
  · rename_i hj; exact Int.le_of_lt (h3 (j + 1) (by omega) (by omega))
  · exact hte
/-- The place is the sum. -/
theorem placeR_sum {t : Int} (ht : 0 ≤ t) (hte : t ≤ R.e) : placeR R t = sumP R t R.ss.length := by
  obtain ⟨j, hj, h1, h2, h3, h4⟩ := place_spot h ht hte
  rw [h4, sumP_past (j := j + 1) (by omega) (fun i i1 i2 => Int.le_of_lt (h3 i (by omega) i2))]
  simp only [sumP]
  rw [sumP_pl h (by omega) (fun i hi => Int.le_trans (unt_le h hi hj) h1), show max 0 (min t (untS R j) - (at0 R.ss j).t) = t - (at0 R.ss j).t by omega]
theorem sumP_mono {s t : Int} (hst : s ≤ t) : ∀ k, k ≤ R.ss.length → sumP R s k ≤ sumP R t k
  | 0, _ => Int.le_refl _
  | k + 1, hk => by
    have ih := sumP_mono hst k (by omega)
    have hv := (h.v k (by omega) 0 (by omega)).1
    simp only [sumP]
    have := Int.mul_le_mul_of_nonneg_left (show max 0 (min s (untS R k) - (at0 R.ss k).t) ≤ max 0 (min t (untS R k) - (at0 R.ss k).t) by omega) hv
    omega
/-- The place never falls. -/
theorem placeR_mono {s t : Int} (hs : 0 ≤ s) (hst : s ≤ t) (hte : t ≤ R.e) : placeR R s ≤ placeR R t := by
  rw [placeR_sum h hs (by omega), placeR_sum h (by omega) hte]
  exact sumP_mono h hst _ (Nat.le_refl _)
theorem placeR_zero : placeR R 0 = 0 := by
  have hn := h.n1
  have he := h.tlt 0 (by omega)
  rw [h.first] at he
  rw [placeR_sum h (Int.le_refl _) (by omega), sumP_past (j := 0) (by omega) (fun i _ hi => by have := t_mono h (Nat.zero_le i) hi; rwa [h.first] at this)]
  rfl
theorem place_in {k : Nat} (hk : k < R.ss.length) {t : Int} (h1 : (at0 R.ss k).t ≤ t) (h2 : t ≤ untS R k) : placeR R t = plS R k + (at0 R.ss k).v 0 * (t - (at0 R.ss k).t) := by
  have h0 : 0 ≤ (at0 R.ss k).t := by have := t_mono h (Nat.zero_le k) hk; rwa [h.first] at this
  have he := unt_e h (j := k)
  rw [placeR_sum h (by omega) (by omega), sumP_past (j := k + 1) (by omega) (fun i i1 i2 => Int.le_trans h2 (unt_le h (by omega) i2))]
  simp only [sumP]
  rw [sumP_pl h (by omega) (fun i hi => Int.le_trans (unt_le h hi hk) h1), show max 0 (min t (untS R k) - (at0 R.ss k).t) = t - (at0 R.ss k).t by omega]
theorem place_end : placeR R R.e = plS R R.ss.length := by
  have hn := h.n1
  have he := h.tlt 0 (by omega)
  rw [h.first] at he
  rw [placeR_sum h (by omega) (Int.le_refl _), sumP_pl h (Nat.le_refl _) (fun j _ => unt_e h)]
/-- No piece reaches the length: it is not reached by the end. -/
theorem reach_none {L : Int} (hL : 1 ≤ L) (hx : ixOf (hits L) (pcs R) < 0) {t : Int} (ht : 0 ≤ t) (hte : t ≤ R.e) : placeR R t < L := by
  have hall : ∀ j, j < R.ss.length → hits L (pcS R j) = false := by
    intro j hj
    cases hq : hits L (pcS R j) with
    | false => rfl
    | true =>
      have h1 : (pcs R).any (hits L) = true := List.any_eq_true.2 ⟨pcS R j, List.mem_map.2 ⟨j, List.mem_range.2 hj, rfl⟩, hq⟩
      rw [← ixOf_any] at h1
      have := of_decide_eq_true h1
      omega
  have h1 := plS_lt h hL (Nat.le_refl R.ss.length) hall
  have h2 := placeR_mono h ht hte (Int.le_refl _)
  rw [place_end h] at h2
  omega
/-- What is found is the first time at which the length is reached. -/
theorem reach_first {L : Int} (hL : 1 ≤ L) (hx : ¬ ixOf (hits L) (pcs R) < 0) : 0 ≤ reachAt L (at0 (pcs R) (ixOf (hits L) (pcs R)).toNat) ∧ reachAt L (at0 (pcs R) (ixOf (hits L) (pcs R)).toNat) ≤ R.e ∧
    L ≤ placeR R (reachAt L (at0 (pcs R) (ixOf (hits L) (pcs R)).toNat)) ∧ ∀ s, 0 ≤ s → s < reachAt L (at0 (pcs R) (ixOf (hits L) (pcs R)).toNat) → placeR R s < L := by
  obtain ⟨k, hk⟩ : ∃ k : Nat, ixOf (hits L) (pcs R) = k := ⟨(ixOf (hits L) (pcs R)).toNat, by omega⟩
  have hlt := ixOf_lt (hits L) (pcs R)
  rw [hk, pcs_len] at hlt
  have hkl : k < R.ss.length := by omega
  have hsat := ixOf_sat (hits L) (pcs R) (by omega)
  rw [hk, show (k : Int).toNat = k by omega, at0_pcs R hkl] at hsat
  have hbefore : ∀ j, j < k → hits L (pcS R j) = false := by
    intro j hj
    have := ixOf_before (hits L) (pcs R) (by omega) j (by omega)
    rwa [at0_pcs R (by omega)] at this
  rw [hk, show (k : Int).toNat = k by omega, at0_pcs R hkl]
  have h1 := plS_lt h hL (show k ≤ R.ss.length by omega) hbefore
  unfold hits at hsat
  rw [Bool.and_eq_true, decide_eq_true_eq, decide_eq_true_eq] at hsat
  simp only [pcS] at hsat
  obtain ⟨hv, hs⟩ := hsat
  have hu := unt_lt h hkl
  have h0 : 0 ≤ (at0 R.ss k).t := by have := t_mono h (Nat.zero_le k) hkl; rwa [h.first] at this
  have he := unt_e h (j := k)
  simp only [reachAt, pcS]
  generalize hvv : (at0 R.ss k).v 0 = v at *
  generalize htt : (at0 R.ss k).t = tk at *
  generalize huu : untS R k = u at *
  generalize hpp : plS R k = pk at *
  generalize hqq : (L - pk + v - 1) / v = q
  have q1 : v * q ≤ L - pk + v - 1 := by rw [← hqq]; exact Int.mul_ediv_self_le (by omega)
  have q2 : L - pk + v - 1 < v * q + v := by rw [← hqq]; exact Int.lt_mul_ediv_self_add hv
  have q3 : 1 ≤ q := by
    rcases Int.lt_or_le q 1 with hq | hq
    · have := Int.mul_le_mul_of_nonneg_left (show q ≤ 0 by omega) (show 0 ≤ v by omega)
      omega
    · exact hq
  have q4 : q ≤ u - tk := by
    rcases Int.lt_or_le (u - tk) q with hq | hq
    · have := Int.mul_le_mul_of_nonneg_left (show u - tk + 1 ≤ q by omega) (show 0 ≤ v by omega)
      rw [Int.mul_add] at this
      omega
    · exact hq
  have hin : ∀ t, tk ≤ t → t ≤ u → placeR R t = pk + v * (t - tk) := by
    intro t t1 t2
    have := place_in h hkl (t := t) (by omega) (by omega)
    rw [this, hvv, htt, hpp]
  refine ⟨by omega, by omega, ?_, fun s s1 s2 => ?_⟩
  · rw [hin (tk + q) (by omega) (by omega), show tk + q - tk = q by omega]
    omega
  · have h2 := placeR_mono h s1 (show s ≤ tk + q - 1 by omega) (by omega)
    rw [hin (tk + q - 1) (by omega) (by omega), show tk + q - 1 - tk = q - 1 by omega, Int.mul_sub] at h2
    omega
end
end Go.Proofs.Ytlebefopdnadaaa
