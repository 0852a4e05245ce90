/- Plain law of DefectReached: a region is possible just if some ratio is above its lower border and not above its upper one. -/
import Derived.Test.YteibgenkklpoaaaDt1
import Derived.Test.YteibgenkklpoaaaU2
namespace Go.Proofs.Yteibgenkklpoaaa.Un
open Go.RowKit
def slowF (m : Mdl) (r g : Rng) : Frc := ⟨r.lo * m.sc, g.hi⟩
def fastF (m : Mdl) (r g : Rng) : Frc := ⟨r.hi * m.sc, g.lo⟩
def lowF (m : Mdl) (k : Nat) : Frc := ⟨abv m k, 1⟩
def topF (m : Mdl) (r g : Rng) (k : Nat) : Frc := if k < 4 then ⟨upt m k, 1⟩ else fastF m r g
def highF (m : Mdl) (r g : Rng) (k : Nat) : Frc := if 0 < fcm (topF m r g k) (fastF m r g) then fastF m r g else topF m r g k
theorem cmp_pos (x y : Int) : 0 < cmpI x y ↔ y < x := by
  unfold cmpI
  split
  · omega
  · split <;> omega
theorem cmp_ge (x y : Int) : 0 ≤ cmpI x y ↔ y ≤ x := by
  unfold cmpI
  split
  · omega
  · split <;> omega
theorem reach_law {m : Mdl} {r g : Rng} (hp : PlOk m r g) {k : Nat} (hk : k < 5) : (0 ≤ fcm (highF m r g k) (slowF m r g) ∧ 0 < fcm (highF m r g k) (lowF m k)) ↔ posB m r g k = true := by
  obtain ⟨hs1, hs2, _⟩ := okMdl_iff.1 hp.m
  obtain ⟨r1, r2, r3⟩ := spanB_iff.1 hp.r
  obtain ⟨g1, g2, g3⟩ := spanB_iff.1 hp.g
  obtain ⟨a1, a2, a3, a4⟩ := abv_bd hp.m hk
  have m1 : 0 ≤ r.lo * m.sc := Int.mul_nonneg r1 (by omega)
  have m2 : r.lo * m.sc ≤ r.hi * m.sc := Int.mul_le_mul_of_nonneg_right r2 (by omega)
  have m3 : r.hi * m.sc ≤ 1000000 * 1000000 := Int.mul_le_mul r3 hs2 (by omega) (by decide)
  have m4 : upt m k * g.lo ≤ upt m k * g.hi := Int.mul_le_mul_of_nonneg_left g2 a3
  have fs : 0 ≤ fcm (fastF m r g) (slowF m r g) := by
    unfold fcm fastF slowF
    rw [cmp_ge]
    simp only
    have e1 : r.lo * m.sc * g.lo ≤ r.hi * m.sc * g.lo := Int.mul_le_mul_of_nonneg_right m2 (by omega)
    have e2 : r.hi * m.sc * g.lo ≤ r.hi * m.sc * g.hi := Int.mul_le_mul_of_nonneg_left g2 (by omega)
    omega
  have fl : 0 < fcm (fastF m r g) (lowF m k) ↔ abv m k * g.lo < r.hi * m.sc := by
    unfold fcm fastF lowF
    rw [cmp_pos]
    simp only [Int.mul_one]
  unfold posB
  simp only [Bool.and_eq_true, decide_eq_true_eq]
  by_cases h4 : k < 4
  · have ht : topF m r g k = ⟨upt m k, 1⟩ := if_pos h4
    have hc : 0 < fcm (topF m r g k) (fastF m r g) ↔ r.hi * m.sc < upt m k * g.lo := by
      rw [ht]
      unfold fcm fastF
      rw [cmp_pos]
      simp only [Int.mul_one]
    by_cases hb : r.hi * m.sc < upt m k * g.lo
    · have hh : highF m r g k = fastF m r g := if_pos (hc.2 hb)
      rw [hh, fl]
      constructor
      · rintro ⟨_, h⟩
        exact ⟨Int.lt_of_mul_lt_mul_right (Int.lt_trans h hb) (by omega), h, by omega⟩
      · rintro ⟨_, h, _⟩
        exact ⟨fs, h⟩
    · have hh : highF m r g k = ⟨upt m k, 1⟩ := by unfold highF; rw [if_neg (fun h => hb (hc.1 h)), ht]
      rw [hh]
      have e1 : 0 ≤ fcm ⟨upt m k, 1⟩ (slowF m r g) ↔ r.lo * m.sc ≤ upt m k * g.hi := by
        unfold fcm slowF
        rw [cmp_ge]
        simp only [Int.mul_one]
      have e2 : 0 < fcm ⟨upt m k, 1⟩ (lowF m k) ↔ abv m k < upt m k := by
        unfold fcm lowF
        rw [cmp_pos]
        simp only [Int.mul_one]
      rw [e1, e2]
      constructor
      · rintro ⟨h1, h2⟩
        have := Int.mul_lt_mul_of_pos_right h2 (show 0 < g.lo by omega)
        exact ⟨h2, by omega, h1⟩
      · rintro ⟨h1, _, h3⟩
        exact ⟨h3, h1⟩
  · have hh : highF m r g k = fastF m r g := by
      unfold highF topF
      rw [if_neg h4]
      split <;> rfl
    have hu : upt m k = 1099511627776 := if_neg h4
    rw [hh, fl]
    constructor
    · rintro ⟨_, h⟩
      refine ⟨by omega, h, ?_⟩
      rw [hu]
      omega
    · rintro ⟨_, h, _⟩
      exact ⟨fs, h⟩
theorem fracs_ok {m : Mdl} {r g : Rng} (hp : PlOk m r g) {k : Nat} (hk : k < 5) : fok (slowF m r g) = true ∧ fok (fastF m r g) = true ∧ fok (lowF m k) = true ∧ (k < 4 → fok ⟨upt m k, 1⟩ = true) := by
  obtain ⟨hs1, hs2, _⟩ := okMdl_iff.1 hp.m
  obtain ⟨r1, r2, r3⟩ := spanB_iff.1 hp.r
  obtain ⟨g1, g2, g3⟩ := spanB_iff.1 hp.g
  obtain ⟨a1, a2, a3, a4⟩ := abv_bd hp.m hk
  have m1 : 0 ≤ r.lo * m.sc := Int.mul_nonneg r1 (by omega)
  have m2 : r.lo * m.sc ≤ r.hi * m.sc := Int.mul_le_mul_of_nonneg_right r2 (by omega)
  have m3 : r.hi * m.sc ≤ 1000000 * 1000000 := Int.mul_le_mul r3 hs2 (by omega) (by decide)
  rw [fok_iff, fok_iff, fok_iff]
  unfold slowF fastF lowF
  simp only
  refine ⟨by omega, by omega, by omega, fun h4 => ?_⟩
  have := bdM_bd hp.m h4
  have hu : upt m k = (m.b k).hi := if_pos h4
  rw [fok_iff, hu]
  simp only
  omega
theorem co_ok {a b : Frc} (ha : fok a = true) (hb : fok b = true) : coF a b = (fcm a b, 0) := by
  unfold coF
  rw [ha, hb]
  rfl
end Go.Proofs.Yteibgenkklpoaaa.Un
