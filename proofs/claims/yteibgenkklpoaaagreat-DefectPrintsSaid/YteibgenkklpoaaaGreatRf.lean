/- What a hull gathers and what spread of the reference finds are the same: the plain law. -/
import Derived.Test.YteibgenkklpoaaaGreatRe
namespace Go.Proofs.YteibgenkklpoaaaGreat.Un
open Go.RowKit
/-- What a hull has gathered and what spread has found agree. -/
def RS (h : Hul) (s : Spr) : Prop := (h.f = false ∧ h.s = true ∧ s.ok = true ∧ h.lo = s.lo ∧ h.hi = s.hi) ∨ (h.f = true ∧ (s.ok = false ∨ s.lo < -1000000000000000 ∨ 1000000000000000 < s.hi))
theorem far_quo {v c : Int} (hc : 1 ≤ c) (h : 1000000000000000 < v.natAbs / c.toNat) : v / c < -1000000000000000 ∨ 1000000000000000 < v / c := by
  obtain ⟨C, rfl⟩ : ∃ C : Nat, c = C := ⟨c.toNat, by omega⟩
  rw [Int.toNat_natCast] at h
  rcases Int.lt_or_le v 0 with hv | hv
  · have f := floor_neg (m := v.natAbs) (C := C) (by omega)
    rw [show (-((v.natAbs : Nat) : Int)) = v by omega] at f
    rw [f]
    generalize v.natAbs / C = q at *
    split <;> omega
  · have e : v / (C : Int) = ((v.natAbs / C : Nat) : Int) := by rw [Int.natCast_ediv]; congr 1; omega
    rw [e]
    generalize v.natAbs / C = q at *
    omega
theorem rs_up (v c : Int) (h : v.natAbs / c.toNat ≤ 2000000000000000) : flR v c = (v / c, v % c, true) ∧ spUp (flR v c) = upF v c := by
  have e : flR v c = (v / c, v % c, true) := if_pos h
  exact ⟨e, by rw [e]; rfl⟩
theorem le_up (v c : Int) : v / c ≤ upF v c := by unfold upF; split <;> omega
theorem rs_first (x : Int) (f : Rng) (hc : 1 ≤ f.hi) : RS (addH hul0 (x * f.lo) f.hi) (spK ⟨0, 0, true⟩ x f true) := by
  unfold spK
  simp only [if_true]
  by_cases h : (x * f.lo).natAbs / f.hi.toNat ≤ 1000000000000000
  · obtain ⟨e1, e2⟩ := rs_up (x * f.lo) f.hi (by omega)
    rw [e2, e1]
    unfold addH
    rw [if_pos h]
    exact .inl ⟨rfl, rfl, rfl, by simp [hul0], by simp [hul0]⟩
  · unfold addH
    rw [if_neg h]
    refine .inr ⟨rfl, ?_⟩
    by_cases h2 : (x * f.lo).natAbs / f.hi.toNat ≤ 2000000000000000
    · obtain ⟨e1, e2⟩ := rs_up (x * f.lo) f.hi h2
      rw [e2, e1]
      have := far_quo hc (by omega : 1000000000000000 < (x * f.lo).natAbs / f.hi.toNat)
      have := le_up (x * f.lo) f.hi
      simp only
      omega
    · left
      rw [show flR (x * f.lo) f.hi = (0, 0, false) from if_neg h2]
      rfl
theorem rs_next {h : Hul} {s : Spr} (hh : RS h s) (x : Int) (f : Rng) (hc : 1 ≤ f.hi) : RS (addH h (x * f.lo) f.hi) (spK s x f false) := by
  unfold spK
  simp only [Bool.false_eq_true, if_false]
  by_cases hn : (x * f.lo).natAbs / f.hi.toNat ≤ 1000000000000000
  · obtain ⟨e1, e2⟩ := rs_up (x * f.lo) f.hi (by omega)
    rw [e2, e1]
    unfold addH
    rw [if_pos hn]
    rcases hh with ⟨h1, h2, h3, h4, h5⟩ | ⟨h1, h2⟩
    · rw [if_pos h2]
      exact .inl ⟨h1, rfl, by rw [h3]; rfl, by rw [h4], by rw [h5]⟩
    · refine .inr ⟨by split <;> exact h1, ?_⟩
      rcases h2 with h2 | h2 | h2
      · left; rw [h2]; rfl
      · right; left; simp only; omega
      · right; right; simp only; omega
  · unfold addH
    rw [if_neg hn]
    refine .inr ⟨rfl, ?_⟩
    by_cases h2 : (x * f.lo).natAbs / f.hi.toNat ≤ 2000000000000000
    · obtain ⟨e1, e2⟩ := rs_up (x * f.lo) f.hi h2
      rw [e2, e1]
      have := far_quo hc (by omega : 1000000000000000 < (x * f.lo).natAbs / f.hi.toNat)
      have := le_up (x * f.lo) f.hi
      simp only
      omega
    · left
      rw [show flR (x * f.lo) f.hi = (0, 0, false) from if_neg h2]
      simp
theorem rs_end {h : Hul} {s : Spr} (hh : RS h s) : reH h = fiR s.lo s.hi s.ok := by
  unfold reH fiR
  rcases hh with ⟨h1, h2, h3, h4, h5⟩ | ⟨h1, h2⟩
  · rw [h1, h3, h4, h5, if_neg (by decide)]
    rfl
  · rw [h1, if_pos rfl, if_neg]
    intro h
    simp only [Bool.and_eq_true, numB_iff] at h
    rcases h2 with h2 | h2 | h2
    · rw [h2] at h; exact absurd h.1 (by decide)
    · omega
    · omega
/-- What the reference's Scale, Times and Over return. -/
def scR (r : Rng) (f : Frc) : Rng × Int := if rngOk r && fok f then fiR (spO [r.lo, r.hi] [⟨f.n, f.d⟩] 2).lo (spO [r.lo, r.hi] [⟨f.n, f.d⟩] 2).hi (spO [r.lo, r.hi] [⟨f.n, f.d⟩] 2).ok else (⟨0, 0⟩, 2)
theorem scR_eq (r : Rng) (f : Frc) : scR r f = scF r f := by
  unfold scR scF
  by_cases h : (rngOk r && fok f) = true
  · rw [if_pos h, if_pos h]
    have hf := fok_iff.1 (Bool.and_eq_true_iff.1 h).2
    exact (rs_end (rs_next (rs_first r.lo ⟨f.n, f.d⟩ hf.2.1) r.hi ⟨f.n, f.d⟩ hf.2.1)).symm
  · rw [if_neg h, if_neg h]
def tmR (a b : Rng) (c : Int) : Rng × Int := if rngOk a && rngOk b then (if 1 ≤ c ∧ c ≤ 1000000000000000 then (fiR (spO [a.lo, a.hi] [⟨b.lo, c⟩, ⟨b.hi, c⟩] 2).lo (spO [a.lo, a.hi] [⟨b.lo, c⟩, ⟨b.hi, c⟩] 2).hi (spO [a.lo, a.hi] [⟨b.lo, c⟩, ⟨b.hi, c⟩] 2).ok) else (⟨0, 0⟩, 3)) else (⟨0, 0⟩, 2)
theorem tmR_eq (a b : Rng) (c : Int) : tmR a b c = tmF a b c := by
  unfold tmR tmF
  by_cases h : (rngOk a && rngOk b) = true
  · rw [if_pos h, if_pos h]
    by_cases h2 : 1 ≤ c ∧ c ≤ 1000000000000000
    · rw [if_pos h2, if_pos h2]
      exact (rs_end (rs_next (rs_next (rs_next (rs_first a.lo ⟨b.lo, c⟩ h2.1) a.lo ⟨b.hi, c⟩ h2.1) a.hi ⟨b.lo, c⟩ h2.1) a.hi ⟨b.hi, c⟩ h2.1)).symm
    · rw [if_neg h2, if_neg h2]
  · rw [if_neg h, if_neg h]
def oeR (a b : Rng) (c : Int) : Rng × Int := if rngOk a && rngOk b then (if 1 ≤ c ∧ c ≤ 1000000000000000 ∧ 1 ≤ b.lo then (fiR (spO [a.lo, a.hi] [⟨c, b.lo⟩, ⟨c, b.hi⟩] 2).lo (spO [a.lo, a.hi] [⟨c, b.lo⟩, ⟨c, b.hi⟩] 2).hi (spO [a.lo, a.hi] [⟨c, b.lo⟩, ⟨c, b.hi⟩] 2).ok) else (⟨0, 0⟩, 3)) else (⟨0, 0⟩, 2)
theorem oeR_eq (a b : Rng) (c : Int) : oeR a b c = oeF a b c := by
  unfold oeR oeF
  by_cases h : (rngOk a && rngOk b) = true
  · rw [if_pos h, if_pos h]
    have hb := rngOk_iff.1 (Bool.and_eq_true_iff.1 h).2
    by_cases h2 : 1 ≤ c ∧ c ≤ 1000000000000000 ∧ 1 ≤ b.lo
    · rw [if_pos h2, if_pos h2]
      have h3 : 1 ≤ b.hi := by omega
      exact (rs_end (rs_next (rs_next (rs_next (rs_first a.lo ⟨c, b.lo⟩ h2.2.2) a.lo ⟨c, b.hi⟩ h3) a.hi ⟨c, b.lo⟩ h2.2.2) a.hi ⟨c, b.hi⟩ h3)).symm
    · rw [if_neg h2, if_neg h2]
  · rw [if_neg h, if_neg h]
def leR (a b : Rng) : Rng × Int := if rngOk a && rngOk b then fiR (a.lo - b.hi) (a.hi - b.lo) true else (⟨0, 0⟩, 2)
theorem leR_eq (a b : Rng) : leR a b = leF a b := rfl
end Go.Proofs.YteibgenkklpoaaaGreat.Un
