/- What a valid run and a valid puller satisfy: bounds of their numbers. No program in sight. -/
import Derived.Test.YtlebefopdnadaaaPc
namespace Go.Proofs.Ytlebefopdnadaaa
open Go.RowKit
theorem inB_iff (m : Int) (xs : List Int) : inB m xs = true ↔ ∀ x ∈ xs, 0 ≤ x ∧ x ≤ m := by
  simp only [inB, outB, Bool.not_eq_true', List.any_eq_false]
  constructor
  · intro h x hx
    have := h x hx
    simp at this
    omega
  · intro h x hx
    have := h x hx
    simp; omega
theorem rangeB_iff (m : Int) (xs : List Rng) : rangeB m xs = true ↔ ∀ r ∈ xs, 0 ≤ r.lo ∧ r.lo ≤ r.hi ∧ r.hi ≤ m := by
  have hq : ∀ r, badR m r = false ↔ 0 ≤ r.lo ∧ r.lo ≤ r.hi ∧ r.hi ≤ m := by
    intro r
    have := inB_iff m [r.lo, r.hi]
    simp at this
    simp [badR, this]
    omega
  simp only [rangeB, Bool.not_eq_true', List.any_eq_false]
  constructor
  · intro h r hr
    exact (hq r).1 (by simpa using h r hr)
  · intro h r hr
    have := (hq r).2 (h r hr)
    simp [this]
/-- A valid run. -/
structure VRun (R : Run) : Prop where
  n1 : 1 ≤ R.ss.length
  n60 : R.ss.length ≤ 60
  m100 : R.ms.length ≤ 100
  e20 : R.es.length ≤ 20
  last : R.e ≤ 100000
  first : (at0 R.ss 0).t = 0
  tlt : ∀ k, k < R.ss.length → (at0 R.ss k).t < R.e
  tup : ∀ k, k + 1 < R.ss.length → (at0 R.ss k).t < (at0 R.ss (k + 1)).t
  ph : ∀ k, k < R.ss.length → 1 ≤ (at0 R.ss k).ph ∧ (at0 R.ss k).ph ≤ 5
  v : ∀ k, k < R.ss.length → ∀ g, g < 6 → 0 ≤ (at0 R.ss k).v g ∧ (at0 R.ss k).v g ≤ 1000000
  mt : ∀ k, k < R.ms.length → 0 ≤ (at0 R.ms k).t ∧ (at0 R.ms k).t ≤ R.e
  mup : ∀ k, k + 1 < R.ms.length → (at0 R.ms k).t < (at0 R.ms (k + 1)).t
  mr : ∀ k, k < R.ms.length → 0 ≤ (at0 R.ms k).lo ∧ (at0 R.ms k).lo ≤ (at0 R.ms k).hi ∧ (at0 R.ms k).hi ≤ 1000000
  et : ∀ k, k < R.es.length → 0 ≤ (at0 R.es k).t ∧ (at0 R.es k).t ≤ R.e
  eup : ∀ k, k + 1 < R.es.length → (at0 R.es k).t ≤ (at0 R.es (k + 1)).t
  ek : ∀ k, k < R.es.length → 1 ≤ (at0 R.es k).kd ∧ (at0 R.es k).kd ≤ 5
theorem okSet_iff (s : Stg) : okSet s = true ↔ (1 ≤ s.ph ∧ s.ph ≤ 5) ∧ ∀ g, g < 6 → 0 ≤ s.v g ∧ s.v g ≤ 1000000 := by
  have := inB_iff 1000000 [s.v 0, s.v 1, s.v 2, s.v 3, s.v 4, s.v 5]
  simp at this
  simp only [okSet, Bool.and_eq_true, decide_eq_true_eq, this]
  constructor
  · rintro ⟨h, h0, h1, h2, h3, h4, h5⟩
    exact ⟨h, all6 h0 h1 h2 h3 h4 h5⟩
  · rintro ⟨h, hv⟩
    exact ⟨h, hv 0 (by omega), hv 1 (by omega), hv 2 (by omega), hv 3 (by omega), hv 4 (by omega), hv 5 (by omega)⟩
theorem vRun_iff (R : Run) : okRun R = true ↔ VRun R := by
  have hr := fun k => rangeB_iff 1000000 [⟨(at0 R.ms k).lo, (at0 R.ms k).hi⟩]
  simp at hr
  simp only [okRun, Bool.and_eq_true, List.all_eq_true, List.mem_range]
  constructor
  · rintro ⟨⟨⟨hh, hs⟩, hm⟩, he⟩
    have hh' : 1 ≤ R.ss.length ∧ R.ss.length ≤ 60 ∧ R.ms.length ≤ 100 ∧ R.es.length ≤ 20 ∧ R.e ≤ 100000 := by simp [headB] at hh; omega
    have hs' : ∀ k, k < R.ss.length → okSet (at0 R.ss k) = true ∧ nxS R.ss k ≤ (at0 R.ss k).t ∧ (k = 0 → (at0 R.ss k).t ≤ 0) ∧ (at0 R.ss k).t < R.e := fun k hk => by
      have := hs k hk
      simp [setAt] at this
      refine ⟨this.1.1.1, this.1.1.2, fun h => ?_, this.2⟩
      rcases this.1.2 with h1 | h1
      · exact absurd h h1
      · exact h1
    have hm' : ∀ k, k < R.ms.length → nxM R.ms k ≤ (at0 R.ms k).t ∧ (at0 R.ms k).t ≤ R.e ∧ _ := fun k hk => by
      have := hm k hk
      simp [smpAt, hr k] at this
      exact ⟨this.1.1, this.1.2, this.2⟩
    have he' : ∀ k, k < R.es.length → nxE R.es k ≤ (at0 R.es k).t ∧ (at0 R.es k).t ≤ R.e ∧ 1 ≤ (at0 R.es k).kd ∧ (at0 R.es k).kd ≤ 5 := fun k hk => by
      have := he k hk
      simp [evtAt] at this
      exact ⟨this.1.1.1, this.1.1.2, this.1.2, this.2⟩
    obtain ⟨a1, a2, a3, a4, a5⟩ := hh'
    refine ⟨a1, a2, a3, a4, a5, ?_, fun k hk => (hs' k hk).2.2.2, fun k hk => ?_, fun k hk => ((okSet_iff _).1 (hs' k hk).1).1, fun k hk => ((okSet_iff _).1 (hs' k hk).1).2, ?_, fun k hk => ?_, fun k hk => (hm' k hk).2.2, ?_, fun k hk => ?_, fun k hk => (he' k hk).2.2⟩
    · have h0 := hs' 0 (by omega)
      have : nxS R.ss 0 = 0 := rfl
      have := h0.2.2.1 rfl
      omega
    · have := (hs' (k + 1) hk).2.1
      simp [nxS] at this
      omega
    · intro k
      induction k with
      | zero => intro hk; have := hm' 0 hk; simp [nxM] at this; omega
      | succ k ih => intro hk; have := hm' (k + 1) hk; have := ih (by omega); simp [nxM] at *; omega
    · have := (hm' (k + 1) hk).1
      simp [nxM] at this
      omega
    · intro k
      induction k with
      | zero => intro hk; have := he' 0 hk; simp [nxE] at this; omega
      | succ k ih => intro hk; have := he' (k + 1) hk; have := ih (by omega); simp [nxE] at *; omega
    · have := (he' (k + 1) hk).1
      simp [nxE] at this
      omega
  · intro h
    have t0 : ∀ k, k < R.ss.length → 0 ≤ (at0 R.ss k).t := by
      intro k
      induction k with
      | zero => intro _; rw [h.first]; omega
      | succ k ih => intro hk; have := h.tup k hk; have := ih (by omega); omega
    refine ⟨⟨⟨?_, fun k hk => ?_⟩, fun k hk => ?_⟩, fun k hk => ?_⟩
    · have := h.n1; have := h.n60; have := h.m100; have := h.e20; have := h.last
      simp [headB]; omega
    · have h1 := (okSet_iff (at0 R.ss k)).2 ⟨h.ph k hk, h.v k hk⟩
      have h2 := h.tlt k hk
      cases k with
      | zero => have e : nxS R.ss 0 = 0 := rfl; have := h.first; simp [setAt, h1]; omega
      | succ k => have e : nxS R.ss (k + 1) = (at0 R.ss k).t + 1 := rfl; have := h.tup k hk; simp [setAt, h1]; omega
    · have h1 := h.mt k hk
      have h2 := h.mr k hk
      have h3 : rangeB 1000000 [⟨(at0 R.ms k).lo, (at0 R.ms k).hi⟩] = true := (hr k).2 h2
      cases k with
      | zero => have e : nxM R.ms 0 = 0 := rfl; simp [smpAt, h3]; omega
      | succ k => have e : nxM R.ms (k + 1) = (at0 R.ms k).t + 1 := rfl; have := h.mup k hk; simp [smpAt, h3]; omega
    · have h1 := h.et k hk
      have h2 := h.ek k hk
      cases k with
      | zero => have e : nxE R.es 0 = 0 := rfl; simp [evtAt]; omega
      | succ k => have e : nxE R.es (k + 1) = (at0 R.es k).t := rfl; have := h.eup k hk; simp [evtAt]; omega
section
variable {R : Run}
theorem VRun.t0 (h : VRun R) : ∀ k, k < R.ss.length → 0 ≤ (at0 R.ss k).t := by
  intro k
  induction k with
  | zero => intro _; rw [h.first]; omega
  | succ k ih => intro hk; have := h.tup k hk; have := ih (by omega); omega
theorem VRun.unt (h : VRun R) {k : Nat} (hk : k < R.ss.length) : (at0 R.ss k).t < untS R k ∧ untS R k ≤ R.e := by
  unfold untS
  split
  · rename_i h1; exact ⟨h.tup k h1, by have := h.tlt (k + 1) h1; omega⟩
  · exact ⟨h.tlt k hk, by omega⟩
theorem VRun.pl (h : VRun R) : ∀ k, k ≤ R.ss.length → 0 ≤ plS R k ∧ plS R k ≤ 1000000 * (if k < R.ss.length then (at0 R.ss k).t else R.e) := by
  intro k
  induction k with
  | zero => intro _; have := h.n1; rw [if_pos (by omega), h.first]; simp [plS]
  | succ k ih =>
    intro hk
    have i1 := ih (by omega)
    rw [if_pos (by omega)] at i1
    have hu := h.unt (k := k) (by omega)
    have hv := h.v k (by omega) 0 (by omega)
    have m1 : 0 ≤ (at0 R.ss k).v 0 * (untS R k - (at0 R.ss k).t) := Int.mul_nonneg hv.1 (by omega)
    have m2 : (at0 R.ss k).v 0 * (untS R k - (at0 R.ss k).t) ≤ 1000000 * (untS R k - (at0 R.ss k).t) := Int.mul_le_mul_of_nonneg_right hv.2 (by omega)
    have e : untS R k = if k + 1 < R.ss.length then (at0 R.ss (k + 1)).t else R.e := rfl
    rw [← e, plS]
    omega
theorem VRun.pcb (h : VRun R) : ∀ k, k < R.ss.length → 0 ≤ (at0 R.ss k).t ∧ (at0 R.ss k).t ≤ untS R k ∧ untS R k ≤ 1000000 ∧ 0 ≤ (at0 R.ss k).v 0 ∧ (at0 R.ss k).v 0 ≤ 1000000 ∧ 0 ≤ plS R k ∧ plS R k ≤ 1000000000000 := fun k hk => by
  have h1 := h.unt hk
  have h2 := h.t0 k hk
  have h3 := h.v k hk 0 (by omega)
  have h4 := h.pl k (by omega)
  rw [if_pos hk] at h4
  have := h.last
  omega
end
end Go.Proofs.Ytlebefopdnadaaa
