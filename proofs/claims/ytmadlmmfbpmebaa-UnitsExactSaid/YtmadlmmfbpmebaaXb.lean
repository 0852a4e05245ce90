/- Plain laws of MulDiv: nothing is lost; the opposite factor. -/
import Derived.Test.YtmadlmmfbpmebaaXa
namespace Go.Proofs.Ytmadlmmfbpmebaa
open Go.RowKit
theorem div_uni {v c n r : Int} (hc : 0 < c) (h : v = n * c + r) (h0 : 0 ≤ r) (h1 : r < c) : v / c = n ∧ v % c = r := by
  apply (Int.ediv_emod_unique hc).2
  refine ⟨?_, h0, h1⟩
  rw [Int.mul_comm c n]; omega
theorem div_neg {v c : Int} (hc : 0 < c) : (v % c = 0 ∧ (-v) / c = -(v / c) ∧ (-v) % c = 0) ∨ (0 < v % c ∧ (-v) / c = -(v / c) - 1 ∧ (-v) % c = c - v % c) := by
  have h0 := Int.emod_nonneg v (show c ≠ 0 by omega)
  have h1 := Int.emod_lt_of_pos v hc
  have h2 := Int.mul_ediv_add_emod v c
  rw [Int.mul_comm] at h2
  generalize v / c = n at *
  generalize v % c = r at *
  rcases (show r = 0 ∨ 0 < r by omega) with h | h
  · left
    have := div_uni (v := -v) (n := -n) (r := 0) hc (by rw [Int.neg_mul]; omega) (by omega) hc
    exact ⟨h, this.1, this.2⟩
  · right
    have := div_uni (v := -v) (n := -n - 1) (r := c - r) hc (by rw [Int.sub_mul, Int.neg_mul]; omega) (by omega) (by omega)
    exact ⟨h, this.1, this.2⟩
def turnK (how : Int) : Int := if how = 1 then 2 else if how = 2 then 1 else 3
theorem rnd_turn {v c how : Int} (hc : 0 < c) (hh : 1 ≤ how ∧ how ≤ 3) : rnd (-v) c (turnK how) = (-(rnd v c how).1, -(rnd v c how).2) := by
  have h0 := Int.emod_nonneg v (show c ≠ 0 by omega)
  have h1 := Int.emod_lt_of_pos v hc
  have hd := @div_neg v c hc
  have e1 := @rnd_no v c how
  have e2 := @rnd_up v c how
  have e3 := @rnd_no (-v) c (turnK how)
  have e4 := @rnd_up (-v) c (turnK how)
  generalize rnd v c how = X at *
  generalize rnd (-v) c (turnK how) = Y at *
  generalize v / c = n at *
  generalize v % c = r at *
  generalize -v / c = n' at *
  generalize -v % c = r' at *
  have t : (how = 1 ∧ turnK how = 2) ∨ (how = 2 ∧ turnK how = 1) ∨ (how = 3 ∧ turnK how = 3) := by
    rcases (show how = 1 ∨ how = 2 ∨ how = 3 by omega) with rfl | rfl | rfl
    · exact .inl ⟨rfl, rfl⟩
    · exact .inr (.inl ⟨rfl, rfl⟩)
    · exact .inr (.inr ⟨rfl, rfl⟩)
  generalize turnK how = h2 at *
  by_cases A : 0 < r ∧ (how = 2 ∨ (how = 3 ∧ (c - r < r ∨ (r = c - r ∧ n % 2 = 1))))
  · by_cases B : 0 < r' ∧ (h2 = 2 ∨ (h2 = 3 ∧ (c - r' < r' ∨ (r' = c - r' ∧ n' % 2 = 1))))
    · rw [e2 A, e4 B, Prod.mk.injEq]; omega
    · rw [e2 A, e3 B, Prod.mk.injEq]; omega
  · by_cases B : 0 < r' ∧ (h2 = 2 ∨ (h2 = 3 ∧ (c - r' < r' ∨ (r' = c - r' ∧ n' % 2 = 1))))
    · rw [e1 A, e4 B, Prod.mk.injEq]; omega
    · rw [e1 A, e3 B, Prod.mk.injEq]; omega
theorem rnd_law {v c how : Int} : v = (rnd v c how).1 * c + (rnd v c how).2 := by
  have h2 := Int.mul_ediv_add_emod v c
  rw [Int.mul_comm] at h2
  unfold rnd
  split
  · show v = (v / c + 1) * c + (v % c - c)
    rw [Int.add_mul]; omega
  · show v = v / c * c + v % c
    omega
theorem rnd_how {v c how : Int} (hc : 0 < c) : (how = 1 → 0 ≤ (rnd v c how).2 ∧ (rnd v c how).2 < c) ∧ (how = 2 → (rnd v c how).2 ≤ 0 ∧ -(rnd v c how).2 < c) ∧ (how = 3 → 2 * (rnd v c how).2 ≤ c ∧ -2 * (rnd v c how).2 ≤ c ∧ (2 * (rnd v c how).2 = c ∨ -2 * (rnd v c how).2 = c → (rnd v c how).1 % 2 = 0)) := by
  have h0 := Int.emod_nonneg v (show c ≠ 0 by omega)
  have h1 := Int.emod_lt_of_pos v hc
  have e1 := @rnd_no v c how
  have e2 := @rnd_up v c how
  generalize rnd v c how = X at *
  generalize v / c = n at *
  generalize v % c = r at *
  by_cases A : 0 < r ∧ (how = 2 ∨ (how = 3 ∧ (c - r < r ∨ (r = c - r ∧ n % 2 = 1))))
  · rw [e2 A]; refine ⟨fun h => ?_, fun h => ?_, fun h => ⟨?_, ?_, fun h3 => ?_⟩⟩ <;> simp only at * <;> omega
  · rw [e1 A]; refine ⟨fun h => ?_, fun h => ?_, fun h => ⟨?_, ?_, fun h3 => ?_⟩⟩ <;> simp only at * <;> omega
theorem md_cases (a b c how : Int) : (∃ z, (z = 2 ∨ z = 3 ∨ z = 10) ∧ mdF a b c how = (0, 0, z)) ∨
    ((1 ≤ how ∧ how ≤ 3) ∧ numB a = true ∧ numB b = true ∧ (1 ≤ c ∧ c ≤ 1000000000000000) ∧ numB (rnd (a * b) c how).1 = true ∧ mdF a b c how = ((rnd (a * b) c how).1, (rnd (a * b) c how).2, 0)) := by
  unfold mdF
  by_cases h1 : how < 1 ∨ 3 < how
  · exact .inl ⟨2, .inl rfl, if_pos h1⟩
  rw [if_neg h1]
  by_cases h2 : (numB a && numB b) = false ∨ c < 1 ∨ 1000000000000000 < c
  · exact .inl ⟨3, .inr (.inl rfl), if_pos h2⟩
  rw [if_neg h2]
  by_cases h3 : numB (rnd (a * b) c how).1 = true
  · rw [if_pos h3]
    have h4 : (numB a && numB b) = true := by
      cases h : (numB a && numB b)
      · exact absurd (.inl h) h2
      · rfl
    rw [Bool.and_eq_true] at h4
    exact .inr ⟨by omega, h4.1, h4.2, by omega, h3, rfl⟩
  · exact .inl ⟨10, .inr (.inr rfl), if_neg h3⟩
theorem numB_neg {a : Int} (h : numB a = true) : numB (-a) = true := by
  have := numB_iff.1 h
  exact numB_iff.2 (by omega)
theorem md_turn {a b c how : Int} (hh : 1 ≤ how ∧ how ≤ 3) (ha : numB a = true) (hb : numB b = true) (hc : 1 ≤ c ∧ c ≤ 1000000000000000) (hn : numB (rnd (a * b) c how).1 = true) : mdF (-a) b c (turnK how) = (-(rnd (a * b) c how).1, -(rnd (a * b) c how).2, 0) := by
  have ht : 1 ≤ turnK how ∧ turnK how ≤ 3 := by unfold turnK; split <;> (try split) <;> omega
  have e := @rnd_turn (a * b) c how (by omega) hh
  unfold mdF
  rw [if_neg (by omega), if_neg (by rw [numB_neg ha, hb]; simp; omega), Int.neg_mul, e]
  simp only
  rw [numB_neg hn]
  rfl
end Go.Proofs.Ytmadlmmfbpmebaa
