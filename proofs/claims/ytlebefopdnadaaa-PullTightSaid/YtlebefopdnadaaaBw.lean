/- Plain laws of what is known from a second to the next one: the reference's fractions, rounded, are what is computed. No program in sight. -/
import Derived.Test.YtlebefopdnadaaaSd
namespace Go.Proofs.Ytlebefopdnadaaa
open Go.RowKit
/-- The peak as a fraction: numerator and denominator. -/
def peakR (a up b dn : Int) : Int × Int := if a + up ≤ b then (a + up, 1) else if b + dn ≤ a then (b + dn, 1) else (a * dn + (b + dn) * up, up + dn)
theorem peakR_den {a up b dn : Int} : 1 ≤ (peakR a up b dn).2 := by
  unfold peakR
  split
  · exact Int.le_refl _
  · split
    · exact Int.le_refl _
    · show 1 ≤ up + dn; omega
theorem mul_one_le {d x : Int} (hd : 1 ≤ d) (hx : 1 ≤ x) : d ≤ d * x := by
  have := Int.mul_le_mul_of_nonneg_left hx (show 0 ≤ d by omega)
  rwa [Int.mul_one] at this
/-- Rounded up: minus the floor of the opposite. -/
theorem neg_floor {x d : Int} (hd : 1 ≤ d) : -((-x) / d) = (x + d - 1) / d := by
  have a1 := Int.mul_ediv_self_le (x := -x) (k := d) (by omega)
  have a2 := Int.lt_mul_ediv_self_add (x := -x) (k := d) (by omega)
  have b1 := Int.mul_ediv_self_le (x := x + d - 1) (k := d) (by omega)
  have b2 := Int.lt_mul_ediv_self_add (x := x + d - 1) (k := d) (by omega)
  generalize (-x) / d = q at *
  generalize (x + d - 1) / d = r at *
  have e : d * (q + r) = d * q + d * r := Int.mul_add _ _ _
  rcases Int.lt_trichotomy (q + r) 0 with h | h | h
  · have := mul_one_le hd (show 1 ≤ -(q + r) by omega)
    rw [Int.mul_neg] at this
    omega
  · omega
  · have := mul_one_le hd (show 1 ≤ q + r by omega)
    omega
theorem ceilF_floor {x d : Int} (hx : 0 ≤ x) (hd : 1 ≤ d) : ceilF x d = -((-x) / d) := by
  unfold ceilF
  split
  · exact (neg_floor hd).symm
  · obtain rfl : x = 0 := by omega
    simp
theorem peak_floor {a up b dn : Int} (h1 : 0 ≤ up) (h2 : 0 ≤ dn) : -((-(peakR a up b dn).1) / (peakR a up b dn).2) = peakF a up b dn := by
  unfold peakR peakF
  by_cases t1 : a + up ≤ b
  · rw [if_pos t1]
    by_cases t2 : b + dn ≤ a
    · rw [if_pos t2]; simp; omega
    · rw [if_neg t2, if_pos t1]; simp
  · rw [if_neg t1]
    by_cases t2 : b + dn ≤ a
    · rw [if_pos t2, if_pos t2]; simp
    · rw [if_neg t2, if_neg t2, if_neg t1]
      simp only
      have hd : 1 ≤ up + dn := by omega
      rw [ceilF_floor (Int.mul_nonneg h1 (by omega)) hd]
      have e : -(a * dn + (b + dn) * up) = -(up * (b + dn - a)) + (-a) * (up + dn) := by
        rw [Int.mul_sub, Int.mul_add, Int.mul_add, Int.add_mul, Int.neg_mul, Int.neg_mul, Int.mul_comm b up, Int.mul_comm dn up, Int.mul_comm up a]
        omega
      rw [e, Int.add_mul_ediv_right _ _ (by omega)]
      omega
theorem peak_floor_low {a up b dn : Int} (h1 : 0 ≤ up) (h2 : 0 ≤ dn) : (-(peakR a up b dn).1) / (peakR a up b dn).2 = -peakF a up b dn := by
  have := peak_floor (a := a) (up := up) (b := b) (dn := dn) h1 h2
  omega
/-- The diameters of the reference, out of what both sides say. -/
def diaR (a b : Kn) : Rng :=
  let a' := if a.some = false then b else a
  let b' := if b.some = false then a' else b
  ⟨max a'.lo b'.lo, min a'.hi b'.hi⟩
theorem diaR_meet {a b : Kn} (h : (a.some || b.some) = true) : diaR a b = ⟨(meetK a b).lo, (meetK a b).hi⟩ := by
  unfold diaR
  cases ha : a.some with
  | false =>
    have hb : b.some = true := by rw [ha] at h; simpa using h
    rw [meetK_left hb ha]
    simp [hb]
  | true => cases hb : b.some with
    | false => rw [meetK_none hb]; simp
    | true => rw [meetK_both hb ha]; simp
/-- The greatest and the least diameter of the reference, as fractions: high, low. -/
def topR (p : Vec) (a b : Kn) : (Int × Int) × (Int × Int) :=
  if a.some = false then ((b.hi + p 111, 1), (b.lo - p 110, 1)) else if b.some = false then ((a.hi + p 110, 1), (a.lo - p 111, 1))
  else (peakR a.hi (p 110) b.hi (p 111), (-(peakR (-a.lo) (p 111) (-b.lo) (p 110)).1, (peakR (-a.lo) (p 111) (-b.lo) (p 110)).2))
def betR (p : Vec) (a b : Kn) : Rng := ⟨(topR p a b).2.1 / (topR p a b).2.2, -((-(topR p a b).1.1) / (topR p a b).1.2)⟩
theorem betR_bet {p : Vec} {a b : Kn} (h1 : 0 ≤ p 110) (h2 : 0 ≤ p 111) : betR p a b = ⟨(betK p a b).lo, (betK p a b).hi⟩ := by
  unfold betR topR betK
  by_cases ha : a.some = false
  · rw [if_pos ha, if_pos ha]; simp [laterK]
  · rw [if_neg ha, if_neg ha]
    by_cases hb : b.some = false
    · rw [if_pos hb, if_pos hb]; simp [laterK]
    · rw [if_neg hb, if_neg hb]
      simp only
      rw [peak_floor h1 h2, peak_floor_low h2 h1]
theorem sdA_some {p : Vec} {R : Run} {u : Int} : ∀ {k : Nat}, (∃ j, j < k ∧ (at0 R.ms j).t ≤ u) → (sdA p R u k).some = true
  | 0, ⟨j, hj, _⟩ => by omega
  | k + 1, ⟨j, hj, ht⟩ => by
    rw [sdA]
    split
    · rw [meetK_some]; simp [tellA]
    · rename_i hn
      refine sdA_some ⟨j, ?_, ht⟩
      rcases Nat.lt_or_ge j k with hl | hl
      · exact hl
      · obtain rfl : j = k := by omega
        exact absurd ht hn
theorem sdB_some {p : Vec} {R : Run} {f : Int} : ∀ {k : Nat}, (∃ j, j < k ∧ f ≤ (at0 R.ms j).t) → (sdB p R f k).some = true
  | 0, ⟨j, hj, _⟩ => by omega
  | k + 1, ⟨j, hj, ht⟩ => by
    rw [sdB]
    split
    · rw [meetK_some]; simp [tellB]
    · rename_i hn
      refine sdB_some ⟨j, ?_, ht⟩
      rcases Nat.lt_or_ge j k with hl | hl
      · exact hl
      · obtain rfl : j = k := by omega
        exact absurd ht hn
theorem sd_some {p : Vec} {R : Run} {u f : Int} (hn : 0 < R.ms.length) (hf : f ≤ u + 1) : ((sdA p R u R.ms.length).some || (sdB p R f R.ms.length).some) = true := by
  rcases Int.lt_or_le u (at0 R.ms 0).t with h | h
  · rw [sdB_some ⟨0, hn, by omega⟩]; simp
  · rw [sdA_some ⟨0, hn, h⟩]; rfl
theorem betK_some {p : Vec} {a b : Kn} : (betK p a b).some = (a.some || b.some) := by
  unfold betK
  by_cases ha : a.some = false
  · rw [if_pos ha, ha]; rfl
  · rw [if_neg ha]
    have ha' : a.some = true := by simpa using ha
    by_cases hb : b.some = false
    · rw [if_pos hb, hb]; simp [laterK]
    · rw [if_neg hb, ha']; rfl
section
variable {R : Run} (h : VRun R)
include h
theorem dia_ref (p : Vec) (hn : 0 < R.ms.length) {t : Nat} (ht : (t : Int) ≤ R.e) : diaR (sdA p R (t : Int) R.ms.length) (sdB p R (t : Int) R.ms.length) = ⟨(atK p R t).lo, (atK p R t).hi⟩ := by
  rw [diaR_meet (sd_some hn (by omega)), atK, bef_all h p t, frmF_all h p ht]
theorem bet_ref {p : Vec} (hp : VPul p) {t : Nat} (ht : (t : Int) + 1 ≤ R.e) : betR p (sdA p R (t : Int) R.ms.length) (sdB p R ((t : Int) + 1) R.ms.length) = ⟨(fromK p R t).lo, (fromK p R t).hi⟩ := by
  rw [betR_bet hp.grow.1 hp.shrink.1, fromK, bef_all h p t, frmF_all h p (t := t + 1) (by omega)]
  rfl
theorem from_some (p : Vec) {t : Nat} (ht : (t : Int) + 1 ≤ R.e) : (fromK p R t).some = decide (0 < R.ms.length) := by
  rw [fromK, betK_some, bef_all h p t, frmF_all h p (t := t + 1) (by omega)]
  rcases Nat.eq_zero_or_pos R.ms.length with h0 | h0
  · rw [h0]; rfl
  · rw [sd_some h0 (by omega)]; simp [h0]
/-- Is a second accepted, as the reference asks. -/
theorem good_ref {p : Vec} (hp : VPul p) {t : Nat} (ht : (t : Int) + 1 ≤ R.e) : goodB p R t = (decide (0 < R.ms.length) && decide (p 112 ≤ (betR p (sdA p R (t : Int) R.ms.length) (sdB p R ((t : Int) + 1) R.ms.length)).lo) && decide ((betR p (sdA p R (t : Int) R.ms.length) (sdB p R ((t : Int) + 1) R.ms.length)).hi ≤ p 113)) := by
  rw [bet_ref h hp ht, goodB, accB, from_some h p ht]
end
/-- Runs of seconds: the last one is open just if the second before is in it. -/
theorem rnK_shut (f : Nat → Bool) : ∀ k, ((rnK f k).2 = true → (((rnK f k).1.getLastD ⟨0, 0⟩).hi = (k : Int) - 1)) ∧ ((rnK f k).2 = false → ∀ r ∈ (rnK f k).1, r.hi < (k : Int) - 1)
  | 0 => by simp [rnK]
  | k + 1 => by
    have ih := rnK_shut f k
    have hb := rnK_bd f k
    simp only [rnK, rnStep]
    split
    · split
      · refine ⟨fun _ => ?_, fun hq => (by cases hq)⟩
        simp
      · refine ⟨fun _ => ?_, fun hq => (by cases hq)⟩
        simp
    · refine ⟨fun hq => (by cases hq), fun _ r hr => ?_⟩
      have := hb r hr
      omega
end Go.Proofs.Ytlebefopdnadaaa
