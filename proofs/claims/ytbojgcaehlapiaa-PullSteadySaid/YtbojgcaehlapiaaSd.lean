/- The plain law of PullSteady: what Steer answers keeps bounds and ramps, and grows with the diameter. -/
import Derived.Test.YtbojgcaehlapiaaSk
import Derived.Test.YtbojgcaehlapiaaOba
namespace Go.Proofs.Ytbojgcaehlapiaa.Un
open Go.RowKit
theorem rnd_mono {v v' c : Int} (hc : 0 < c) (h : v ≤ v') : (rnd v c 3).1 ≤ (rnd v' c 3).1 := by
  have a1 := Int.emod_nonneg v (Int.ne_of_gt hc)
  have a2 := Int.emod_lt_of_pos v hc
  have a3 := Int.mul_ediv_add_emod v c
  have b1 := Int.emod_nonneg v' (Int.ne_of_gt hc)
  have b2 := Int.emod_lt_of_pos v' hc
  have b3 := Int.mul_ediv_add_emod v' c
  have hle : v / c ≤ v' / c := Int.ediv_le_ediv hc h
  by_cases h1 : 0 < v % c ∧ ((3 : Int) = 2 ∨ ((3 : Int) = 3 ∧ (c - v % c < v % c ∨ (v % c = c - v % c ∧ (v / c) % 2 = 1))))
  · rw [rnd_up h1]
    by_cases h2 : 0 < v' % c ∧ ((3 : Int) = 2 ∨ ((3 : Int) = 3 ∧ (c - v' % c < v' % c ∨ (v' % c = c - v' % c ∧ (v' / c) % 2 = 1))))
    · rw [rnd_up h2]; show v / c + 1 ≤ v' / c + 1; omega
    · rw [rnd_no h2]
      show v / c + 1 ≤ v' / c
      rcases Int.lt_or_eq_of_le hle with hlt | heq
      · omega
      · exfalso
        rw [← heq] at b3 h2
        omega
  · rw [rnd_no h1]
    by_cases h2 : 0 < v' % c ∧ ((3 : Int) = 2 ∨ ((3 : Int) = 3 ∧ (c - v' % c < v' % c ∨ (v' % c = c - v' % c ∧ (v' / c) % 2 = 1))))
    · rw [rnd_up h2]; show v / c ≤ v' / c + 1; omega
    · rw [rnd_no h2]; exact hle
theorem rnd_near (v c : Int) : v / c ≤ (rnd v c 3).1 ∧ (rnd v c 3).1 ≤ v / c + 1 := by
  by_cases h1 : 0 < v % c ∧ ((3 : Int) = 2 ∨ ((3 : Int) = 3 ∧ (c - v % c < v % c ∨ (v % c = c - v % c ∧ (v / c) % 2 = 1))))
  · rw [rnd_up h1]; show v / c ≤ v / c + 1 ∧ v / c + 1 ≤ v / c + 1; omega
  · rw [rnd_no h1]; show v / c ≤ v / c ∧ v / c ≤ v / c + 1; omega
theorem mdN_eq {tw : Int} {g : Rng} (ht : -4000000 ≤ tw ∧ tw ≤ 4000000) (hg : badG g = false) : mdN tw g = (rnd (tw * g.lo) (2 * g.hi) 3).1 := by
  obtain ⟨g1, g2, g3, g4⟩ := badG_not.1 hg
  have hm : (tw * g.lo).natAbs ≤ 4000000 * 1000000 := by
    rw [Int.natAbs_mul]
    exact Nat.mul_le_mul (by omega) (by omega)
  have h1 : -4000000000000 ≤ tw * g.lo / (2 * g.hi) := by
    rw [Int.le_ediv_iff_mul_le (by omega)]
    omega
  have h2 : tw * g.lo / (2 * g.hi) < 4000000000001 := by
    rw [Int.ediv_lt_iff_lt_mul (by omega)]
    omega
  have h3 := rnd_near (tw * g.lo) (2 * g.hi)
  unfold mdN mdF
  rw [if_neg (by omega), if_neg, if_pos]
  · rw [numB_iff]; omega
  · rintro (h | h | h)
    · have n1 : numB tw = true := numB_iff.2 (by omega)
      have n2 : numB g.lo = true := numB_iff.2 (by omega)
      rw [n1, n2] at h
      cases h
    · omega
    · omega
theorem mdN_mono {tw tw' : Int} {g : Rng} (ht : -4000000 ≤ tw) (h : tw ≤ tw') (ht' : tw' ≤ 4000000) (hg : badG g = false) (h0 : 0 ≤ g.lo) : mdN tw g ≤ mdN tw' g := by
  rw [mdN_eq ⟨ht, by omega⟩ hg, mdN_eq ⟨by omega, ht'⟩ hg]
  have := (badG_not.1 hg).2.2
  exact rnd_mono (by omega) (Int.mul_le_mul_of_nonneg_right h h0)
theorem nx_between {p : Vec} {g h : Rng} {s : Stg} {at_ : Int} {x : Rng} (hk : StOk p s at_ x) {k : Nat} (hk6 : k < 6) :
    p (k * 2) ≤ (nxSt p g h s at_ x).v k ∧ (nxSt p g h s at_ x).v k ≤ p (k * 2 + 1) ∧ s.v k - p (12 + k) * (at_ - s.t) ≤ (nxSt p g h s at_ x).v k ∧ (nxSt p g h s at_ x).v k ≤ s.v k + p (12 + k) * (at_ - s.t) := by
  have hr := (vPul_of hk.pul).rm 0 (by omega) k hk6
  rw [show 0 * 22 + 12 + k = 12 + k by omega] at hr
  have hf : 0 ≤ p (12 + k) * (at_ - s.t) := Int.mul_nonneg hr.1 (by have := hk.t; omega)
  have hb := hk.bd k hk6
  show p (k * 2) ≤ min (max _ (max (s.v k - p (12 + k) * (at_ - s.t)) (p (k * 2)))) (min (s.v k + p (12 + k) * (at_ - s.t)) (p (k * 2 + 1))) ∧ min (max _ (max (s.v k - p (12 + k) * (at_ - s.t)) (p (k * 2)))) (min (s.v k + p (12 + k) * (at_ - s.t)) (p (k * 2 + 1))) ≤ p (k * 2 + 1) ∧ s.v k - p (12 + k) * (at_ - s.t) ≤ min (max _ (max (s.v k - p (12 + k) * (at_ - s.t)) (p (k * 2)))) (min (s.v k + p (12 + k) * (at_ - s.t)) (p (k * 2 + 1))) ∧ min (max _ (max (s.v k - p (12 + k) * (at_ - s.t)) (p (k * 2)))) (min (s.v k + p (12 + k) * (at_ - s.t)) (p (k * 2 + 1))) ≤ s.v k + p (12 + k) * (at_ - s.t)
  omega
theorem nx_mono {p : Vec} {g h : Rng} {s : Stg} {at_ : Int} {x y : Rng} (hk : StOk p s at_ x) (hg : badG g = false) (h0 : 0 ≤ g.lo) (hy : rangeB 1000000 [y] = true) (h1 : x.lo ≤ y.lo) (h2 : x.hi ≤ y.hi) :
    (nxSt p g h s at_ x).v 0 ≤ (nxSt p g h s at_ y).v 0 := by
  have hx := (rangeB_iff 1000000 [x]).1 hk.rng x (by simp)
  have hy := (rangeB_iff 1000000 [y]).1 hy y (by simp)
  have hl := (vPul_of hk.pul).lim
  have hm : mdN (twF p x) g ≤ mdN (twF p y) g := mdN_mono (by unfold twF; omega) (by unfold twF; omega) (by unfold twF; omega) hg h0
  show min (max (xSt s (twF p x) g h true true 0) (loS p s at_ 0)) (hiS p s at_ 0) ≤ min (max (xSt s (twF p y) g h true true 0) (loS p s at_ 0)) (hiS p s at_ 0)
  have e : ∀ t, xSt s t g h true true 0 = s.v 0 + mdN t g := fun t => by unfold xSt; simp
  rw [e, e]
  omega
end Go.Proofs.Ytbojgcaehlapiaa.Un
