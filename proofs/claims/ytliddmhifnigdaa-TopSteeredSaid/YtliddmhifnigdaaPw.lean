/- The plain law of the values and the runs of a piece of a table. -/
import Derived.Test.YtliddmhifnigdaaU7
namespace Go.Proofs.Ytliddmhifnigdaa.Un
open Go.RowKit
/-- A quotient rounded up is no more than n just if the dividend is no more than n times the divisor. -/
theorem up_le {v c n : Int} (hc : 0 < c) : (if 0 < v % c then v / c + 1 else v / c) ≤ n ↔ v ≤ n * c := by
  have h1 := Int.mul_ediv_add_emod v c
  have h2 := Int.emod_nonneg v (show c ≠ 0 by omega)
  have h3 := Int.emod_lt_of_pos v hc
  rw [Int.mul_comm] at h1
  generalize v / c = q at *
  generalize v % c = r at *
  constructor
  · intro h
    have h4 : (if 0 < r then q + 1 else q) * c ≤ n * c := Int.mul_le_mul_of_nonneg_right h (by omega)
    split at h4
    · rw [Int.add_mul] at h4; omega
    · omega
  · intro h
    by_cases hr : 0 < r
    · rw [if_pos hr]
      have : q * c < n * c := by omega
      have := Int.lt_of_mul_lt_mul_right this (by omega)
      omega
    · rw [if_neg hr]
      have : q * c ≤ n * c := by omega
      exact Int.le_of_mul_le_mul_right this hc
theorem lo_ge {v c n : Int} (hc : 0 < c) : n ≤ v / c ↔ n * c ≤ v := Int.le_ediv_iff_mul_le hc
/-- The upper end of a value. -/
theorem at_hi (p q : Rng) (x : Int) : (atF p q x).hi = p.hi + (if 0 < (q.hi - p.hi) * (x - p.lo) % (q.lo - p.lo) then (q.hi - p.hi) * (x - p.lo) / (q.lo - p.lo) + 1 else (q.hi - p.hi) * (x - p.lo) / (q.lo - p.lo)) := by
  unfold atF
  simp only
  split <;> omega
theorem at_lo (p q : Rng) (x : Int) : (atF p q x).lo = p.hi + (q.hi - p.hi) * (x - p.lo) / (q.lo - p.lo) := rfl
theorem rise_bd {D u c : Int} (hD : 0 ≤ D) (h0 : 0 ≤ u) (h1 : u ≤ c) : 0 ≤ D * u ∧ D * u ≤ D * c := ⟨Int.mul_nonneg hD h0, Int.mul_le_mul_of_nonneg_left h1 hD⟩
theorem from_law {p q : Rng} {y x : Int} (hup : p.lo < q.lo) (hr : p.hi ≤ q.hi) (hx : p.lo ≤ x ∧ x ≤ q.lo) : y ≤ (atF p q x).lo ↔ frF p q y ≤ x := by
  rw [at_lo]
  have hb := rise_bd (D := q.hi - p.hi) (u := x - p.lo) (c := q.lo - p.lo) (by omega) (by omega) (by omega)
  unfold frF
  by_cases h1 : y ≤ p.hi
  · rw [if_pos h1]
    have := Int.ediv_nonneg hb.1 (show 0 ≤ q.lo - p.lo by omega)
    constructor
    · intro _; exact hx.1
    · intro _; omega
  · rw [if_neg h1]
    by_cases h2 : q.hi < y
    · rw [if_pos h2]
      constructor
      · intro h
        have h3 := (lo_ge (show 0 < q.lo - p.lo by omega)).1 (show y - p.hi ≤ (q.hi - p.hi) * (x - p.lo) / (q.lo - p.lo) by omega)
        have h4 : (q.hi - p.hi) * (q.lo - p.lo) < (y - p.hi) * (q.lo - p.lo) := Int.mul_lt_mul_of_pos_right (by omega) (by omega)
        omega
      · intro h; omega
    · rw [if_neg h2]
      have e : (if 0 < (y - p.hi) * (q.lo - p.lo) % (q.hi - p.hi) then p.lo + ((y - p.hi) * (q.lo - p.lo) / (q.hi - p.hi) + 1) else p.lo + (y - p.hi) * (q.lo - p.lo) / (q.hi - p.hi)) ≤ x ↔ (if 0 < (y - p.hi) * (q.lo - p.lo) % (q.hi - p.hi) then (y - p.hi) * (q.lo - p.lo) / (q.hi - p.hi) + 1 else (y - p.hi) * (q.lo - p.lo) / (q.hi - p.hi)) ≤ x - p.lo := by
        split <;> constructor <;> intro h <;> omega
      rw [e, up_le (by omega), Int.mul_comm (x - p.lo), ← lo_ge (show 0 < q.lo - p.lo by omega)]
      constructor <;> intro h <;> omega
theorem upto_law {p q : Rng} {y x : Int} (hup : p.lo < q.lo) (hr : p.hi ≤ q.hi) (hx : p.lo ≤ x ∧ x ≤ q.lo) : (atF p q x).hi ≤ y ↔ x ≤ utF p q y := by
  rw [at_hi]
  have hb := rise_bd (D := q.hi - p.hi) (u := x - p.lo) (c := q.lo - p.lo) (by omega) (by omega) (by omega)
  have hu := @up_le ((q.hi - p.hi) * (x - p.lo)) (q.lo - p.lo) (y - p.hi) (by omega)
  have e : p.hi + (if 0 < (q.hi - p.hi) * (x - p.lo) % (q.lo - p.lo) then (q.hi - p.hi) * (x - p.lo) / (q.lo - p.lo) + 1 else (q.hi - p.hi) * (x - p.lo) / (q.lo - p.lo)) ≤ y ↔ (if 0 < (q.hi - p.hi) * (x - p.lo) % (q.lo - p.lo) then (q.hi - p.hi) * (x - p.lo) / (q.lo - p.lo) + 1 else (q.hi - p.hi) * (x - p.lo) / (q.lo - p.lo)) ≤ y - p.hi := by
    constructor <;> intro h <;> omega
  rw [e, hu]
  unfold utF
  by_cases h1 : q.hi ≤ y
  · rw [if_pos h1]
    have h4 : (q.hi - p.hi) * (q.lo - p.lo) ≤ (y - p.hi) * (q.lo - p.lo) := Int.mul_le_mul_of_nonneg_right (by omega) (by omega)
    constructor
    · intro _; exact hx.2
    · intro _; omega
  · rw [if_neg h1]
    by_cases h2 : y < p.hi
    · rw [if_pos h2]
      have h4 : (y - p.hi) * (q.lo - p.lo) < 0 := Int.mul_neg_of_neg_of_pos (by omega) (by omega)
      constructor
      · intro h; omega
      · intro h; omega
    · rw [if_neg h2]
      have e2 : x ≤ p.lo + (y - p.hi) * (q.lo - p.lo) / (q.hi - p.hi) ↔ x - p.lo ≤ (y - p.hi) * (q.lo - p.lo) / (q.hi - p.hi) := by
        constructor <;> intro h <;> omega
      rw [e2, lo_ge (show 0 < q.hi - p.hi by omega), Int.mul_comm (x - p.lo)]
/-- A piece turned over has the opposite values. -/
theorem at_turn (p q : Rng) (x : Int) (hup : p.lo < q.lo) : atF ⟨p.lo, -p.hi⟩ ⟨q.lo, -q.hi⟩ x = ⟨-(atF p q x).hi, -(atF p q x).lo⟩ := by
  have key : ∀ v c : Int, 0 < c → (-v) / c = -(if 0 < v % c then v / c + 1 else v / c) := fun v c hc => by
    apply Int.le_antisymm
    · have h : v ≤ -((-v) / c) * c := by have := Int.ediv_mul_le (-v) (show c ≠ 0 by omega); rw [Int.neg_mul]; omega
      have := (up_le (n := -((-v) / c)) hc).2 h
      omega
    · have h := (up_le (v := v) (n := (if 0 < v % c then v / c + 1 else v / c)) hc).1 (Int.le_refl _)
      rw [lo_ge hc, Int.neg_mul]
      omega
  have hc : 0 < q.lo - p.lo := by omega
  have e : (-q.hi - -p.hi) * (x - p.lo) = -((q.hi - p.hi) * (x - p.lo)) := by rw [← Int.neg_mul]; congr 1; omega
  have k1 := key ((q.hi - p.hi) * (x - p.lo)) (q.lo - p.lo) hc
  have k2 := key (-((q.hi - p.hi) * (x - p.lo))) (q.lo - p.lo) hc
  rw [Int.neg_neg] at k2
  have l1 : (atF ⟨p.lo, -p.hi⟩ ⟨q.lo, -q.hi⟩ x).lo = -(atF p q x).hi := by
    rw [at_lo, at_hi]
    simp only
    rw [e, k1]; omega
  have l2 : (atF ⟨p.lo, -p.hi⟩ ⟨q.lo, -q.hi⟩ x).hi = -(atF p q x).lo := by
    rw [at_lo, at_hi]
    simp only
    rw [e, k2]; omega
  generalize atF ⟨p.lo, -p.hi⟩ ⟨q.lo, -q.hi⟩ x = g at *
  obtain ⟨g1, g2⟩ := g
  simp only at l1 l2
  rw [l1, l2]
theorem fr_rng {p q : Rng} {y : Int} (hup : p.lo < q.lo) (hr : p.hi ≤ q.hi) : p.lo ≤ frF p q y ∧ frF p q y ≤ q.lo + 1 := by
  have h1 := from_law (y := y) (x := q.lo) hup hr ⟨by omega, by omega⟩
  constructor
  · unfold frF
    split
    · omega
    · split
      · omega
      · have := Int.ediv_nonneg (show 0 ≤ (y - p.hi) * (q.lo - p.lo) from Int.mul_nonneg (by omega) (by omega)) (show 0 ≤ q.hi - p.hi by omega)
        split <;> omega
  · by_cases h2 : q.hi < y
    · unfold frF
      rw [if_neg (by omega), if_pos h2]; omega
    · have h3 : y ≤ (atF p q q.lo).lo := by
        rw [at_lo, Int.mul_ediv_cancel _ (by omega)]; omega
      have := h1.1 h3
      omega
theorem ut_rng {p q : Rng} {y : Int} (hup : p.lo < q.lo) (hr : p.hi ≤ q.hi) : p.lo - 1 ≤ utF p q y ∧ utF p q y ≤ q.lo := by
  unfold utF
  split
  · omega
  · split
    · omega
    · have h1 := Int.ediv_nonneg (show 0 ≤ (y - p.hi) * (q.lo - p.lo) from Int.mul_nonneg (by omega) (by omega)) (show 0 ≤ q.hi - p.hi by omega)
      have h2 := part_le (a := q.lo - p.lo) (b := y - p.hi) (c := q.hi - p.hi) (by omega) (by omega) (by omega)
      rw [Int.mul_comm] at h2
      omega
/-- An integer of a piece is in the run just if its value is in the range. -/
theorem wh_law {p q y : Rng} {x : Int} (hup : p.lo < q.lo) (hx : p.lo ≤ x ∧ x ≤ q.lo) : ((whF p q y).lo ≤ x ↔ (if q.hi < p.hi then (atF p q x).hi ≤ y.hi else y.lo ≤ (atF p q x).lo)) ∧ (x ≤ (whF p q y).hi ↔ (if q.hi < p.hi then y.lo ≤ (atF p q x).lo else (atF p q x).hi ≤ y.hi)) := by
  unfold whF
  by_cases h : q.hi < p.hi
  · rw [if_pos h, if_pos h, if_pos h]
    have h1 := from_law (p := ⟨p.lo, -p.hi⟩) (q := ⟨q.lo, -q.hi⟩) (y := -y.hi) (x := x) hup (by simp only; omega) hx
    have h2 := upto_law (p := ⟨p.lo, -p.hi⟩) (q := ⟨q.lo, -q.hi⟩) (y := -y.lo) (x := x) hup (by simp only; omega) hx
    rw [at_turn p q x hup] at h1 h2
    simp only at h1 h2 ⊢
    rw [← h1, ← h2]
    constructor <;> constructor <;> intro h <;> omega
  · rw [if_neg h, if_neg h, if_neg h]
    have h1 := from_law (y := y.lo) (x := x) hup (show p.hi ≤ q.hi by omega) hx
    have h2 := upto_law (y := y.hi) (x := x) hup (show p.hi ≤ q.hi by omega) hx
    exact ⟨h1.symm, h2.symm⟩
theorem wh_rng {p q y : Rng} (hup : p.lo < q.lo) : (p.lo ≤ (whF p q y).lo ∧ (whF p q y).lo ≤ q.lo + 1) ∧ p.lo - 1 ≤ (whF p q y).hi ∧ (whF p q y).hi ≤ q.lo := by
  unfold whF
  split
  · exact ⟨fr_rng (p := ⟨p.lo, -p.hi⟩) (q := ⟨q.lo, -q.hi⟩) hup (by simp only; omega), ut_rng (p := ⟨p.lo, -p.hi⟩) (q := ⟨q.lo, -q.hi⟩) hup (by simp only; omega)⟩
  · exact ⟨fr_rng hup (by omega), ut_rng hup (by omega)⟩
/-- Within a piece the value of the table is that of the piece. -/
theorem val_piece {t : List Rng} (ht : Tab t) {i : Nat} (hi : i + 1 < t.length) {x : Int} (hx : (at0 t i).lo ≤ x ∧ x ≤ (at0 t (i + 1)).lo) : valF t x = atF (at0 t i) (at0 t (i + 1)) x := by
  have hup := ht.asc i (i + 1) (by omega) hi
  by_cases h : (at0 t i).lo < x
  · have hp : plc t x = i + 1 := plc_of ⟨by omega, fun j hj => by
      rcases Nat.lt_or_ge j i with h1 | h1
      · have := ht.asc j i h1 (by omega); omega
      · obtain rfl : j = i := by omega
        exact h, fun j hj hl => by
      rcases Nat.lt_or_ge (i + 1) j with h1 | h1
      · have := ht.asc (i + 1) j h1 hl; omega
      · obtain rfl : j = i + 1 := by omega
        exact hx.2⟩
    unfold valF
    rw [hp, show max (i + 1) 1 = i + 1 by omega]; rfl
  · have e : x = (at0 t i).lo := by omega
    subst e
    have hp : plc t (at0 t i).lo = i := plc_of ⟨by omega, fun j hj => ht.asc j i hj (by omega), fun j hj hl => by
      rcases Nat.lt_or_ge i j with h1 | h1
      · have := ht.asc i j h1 hl; omega
      · obtain rfl : j = i := by omega
        exact Int.le_refl _⟩
    have ep : atF (at0 t i) (at0 t (i + 1)) (at0 t i).lo = ⟨(at0 t i).hi, (at0 t i).hi⟩ := by
      unfold atF
      simp only [Int.sub_self, Int.mul_zero, Int.zero_ediv, Int.zero_emod, Int.add_zero]
      rfl
    unfold valF
    rw [hp]
    rcases Nat.eq_zero_or_pos i with rfl | h0
    · rfl
    · rw [show max i 1 = i by omega, ep]
      have h2 := ht.asc (i - 1) i (by omega) (by omega)
      unfold atF
      rw [Int.mul_ediv_cancel _ (by omega), Int.mul_emod_left, if_neg (by omega)]
      congr 1 <;> omega
end Go.Proofs.Ytliddmhifnigdaa.Un
