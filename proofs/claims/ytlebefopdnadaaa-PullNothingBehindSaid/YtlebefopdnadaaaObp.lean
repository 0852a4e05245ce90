/- Plain laws of the rules: phase by phase is what is asked stretch by stretch. No program in sight. -/
import Derived.Test.YtlebefopdnadaaaOba
import Derived.Test.YtlebefopdnadaaaPla
namespace Go.Proofs.Ytlebefopdnadaaa
open Go.RowKit
/-- From when to when a phase lasts: the first setting of it, the first one of a later phase. -/
def flS (k e : Int) : List Stg → Int × Int
  | [] => (-1, e)
  | s :: r => (if s.ph = k then s.t else (flS k e r).1, if k < s.ph then s.t else (flS k e r).2)
theorem flS_drop {k e : Int} {ss : List Stg} {a : Nat} (h : a < ss.length) : flS k e (ss.drop a) = (if (at0 ss a).ph = k then (at0 ss a).t else (flS k e (ss.drop (a + 1))).1, if k < (at0 ss a).ph then (at0 ss a).t else (flS k e (ss.drop (a + 1))).2) := by
  rw [List.drop_eq_getElem_cons h, at0_get h]; rfl
theorem fl_from {k e : Int} {ss : List Stg} {i : Nat} (hi : i < ss.length) (hk : (at0 ss i).ph = k) (hb : ∀ j, j < i → (at0 ss j).ph ≠ k) : ∀ d a, a + d = i → (flS k e (ss.drop a)).1 = (at0 ss i).t
  | 0, a, h => by
    obtain rfl : a = i := by omega
    rw [flS_drop hi]
    simp only
    rw [if_pos hk]
  | d + 1, a, h => by
    rw [flS_drop (by omega)]
    simp only
    rw [if_neg (hb a (by omega))]
    exact fl_from hi hk hb d (a + 1) (by omega)
theorem fl_to {k e : Int} {ss : List Stg} {m : Nat} (hm : m ≤ ss.length) (hb : ∀ j, j < m → ¬ k < (at0 ss j).ph) : ∀ d a, a + d = m → (flS k e (ss.drop a)).2 = (flS k e (ss.drop m)).2
  | 0, a, h => by
    obtain rfl : a = m := by omega
    rfl
  | d + 1, a, h => by
    rw [flS_drop (by omega)]
    simp only
    rw [if_neg (hb a (by omega))]
    exact fl_to hm hb d (a + 1) (by omega)
/-- The last phase of a run. -/
def lastPh (R : Run) : Int := (at0 R.ss (R.ss.length - 1)).ph
/-- What a phase breaks. -/
def phK (p : Vec) (R : Run) (k : Int) : Option Brk :=
  if outsideB (decide (¬ k < lastPh R)) ((flS k R.e R.ss).2 - (flS k R.e R.ss).1) ⟨p (rlAt k + 18), p (rlAt k + 19)⟩ then some ⟨4, k, 0⟩
  else if outsideB (decide (¬ k < lastPh R)) (placeR R (flS k R.e R.ss).2 - placeR R (flS k R.e R.ss).1) ⟨p (rlAt k + 20), p (rlAt k + 21)⟩ then some ⟨5, k, 0⟩ else none
def brkAt (p : Vec) (b : Bool) (k n1 n2 : Int) : Option Brk :=
  if outsideB b n1 ⟨p (rlAt k + 18), p (rlAt k + 19)⟩ then some ⟨4, k, 0⟩
  else if outsideB b n2 ⟨p (rlAt k + 20), p (rlAt k + 21)⟩ then some ⟨5, k, 0⟩ else none
/-- The phases begin with the first one and go up by one at the most. -/
structure Steps (R : Run) : Prop where
  one : (at0 R.ss 0).ph = 1
  up : ∀ k, k + 1 < R.ss.length → (at0 R.ss k).ph ≤ (at0 R.ss (k + 1)).ph ∧ (at0 R.ss (k + 1)).ph ≤ (at0 R.ss k).ph + 1
theorem steps_of {R : Run} (hv : VRun R) (h : ∀ k, k < R.ss.length → stepB R k = false) : Steps R where
  one := by
    have h0 := h 0 hv.n1
    have := hv.ph 0 hv.n1
    simp [stepB, bfS] at h0
    omega
  up := fun k hk => by
    have h0 := h (k + 1) hk
    have e : (bfS R (k + 1)).s = at0 R.ss k := rfl
    simp only [stepB, e, Bool.or_eq_false_iff, decide_eq_false_iff_not] at h0
    obtain ⟨⟨h1, h2⟩, _⟩ := h0
    omega
theorem none_step {p : Vec} {R : Run} {k : Nat} (h : setBr p R k = none) : stepB R k = false := by
  cases hq : stepB R k with
  | false => rfl
  | true => rw [setBr, if_pos hq] at h; cases h
section
variable {R : Run} (h : VRun R) (hs : Steps R)
include h hs
omit h in
theorem ph_mono {j : Nat} : ∀ {k : Nat}, j ≤ k → k < R.ss.length → (at0 R.ss j).ph ≤ (at0 R.ss k).ph
  | 0, hj, _ => by obtain rfl : j = 0 := by omega
                   exact Int.le_refl _
  | k + 1, hj, hk => by
    rcases Nat.lt_or_ge k j with hl | hl
    · obtain rfl : j = k + 1 := by omega
      exact Int.le_refl _
    · have h1 := ph_mono hl (show k < R.ss.length by omega)
      have h2 := hs.up k hk
      omega
/-- Setting i is the first one of phase k. -/
structure Seg (R : Run) (i : Nat) (k : Int) : Prop where
  lt : i < R.ss.length
  ph : (at0 R.ss i).ph = k
  bef : ∀ j, j < i → (at0 R.ss j).ph < k
omit hs in
theorem place_t {i : Nat} (hi : i < R.ss.length) : placeR R (at0 R.ss i).t = plS R i := by
  rw [place_in h hi (Int.le_refl _) (Int.le_of_lt (unt_lt h hi)), Int.sub_self, Int.mul_zero, Int.add_zero]
omit hs in
theorem place_u {i : Nat} (hi : i < R.ss.length) : placeR R (untS R i) = plS R i + (at0 R.ss i).v 0 * (untS R i - (at0 R.ss i).t) :=
  place_in h hi (Int.le_of_lt (unt_lt h hi)) (Int.le_refl _)
theorem seg_step (p : Vec) {i : Nat} {k : Int} (g : Seg R i k) : phBr p (at0 (pcs R) i) (at0 (pcs R) (i + phM R i - 1)) (decide (phJ R i < 0)) = phK p R k ∧
    ((phJ R i < 0 ∧ i + phM R i = R.ss.length ∧ k = lastPh R) ∨ (¬ phJ R i < 0 ∧ Seg R (i + phM R i) (k + 1) ∧ k < lastPh R)) := by
  have hn := h.n1
  have hi := g.lt
  have hM := phM_pos hi
  have hPi : at0 (pcs R) i = pcS R i := at0_pcs R hi
  have hlen : ((pcs R).drop i).length = R.ss.length - i := by rw [List.length_drop, pcs_len]
  have hge : ∀ j, i ≤ j → j < R.ss.length → k ≤ (at0 R.ss j).ph := fun j h1 h2 => by have := ph_mono hs h1 h2; rw [g.ph] at this; exact this
  have hoth : ∀ j, i + j < R.ss.length → otherB (at0 (pcs R) i).s.ph (at0 ((pcs R).drop i) j) = !((at0 R.ss (i + j)).ph == k) := fun j hj => by
    rw [at0_drop, at0_pcs R hj, hPi]
    show (!((at0 R.ss (i + j)).ph == (at0 R.ss i).ph)) = _
    rw [g.ph]
  have hfrom : (flS k R.e R.ss).1 = (at0 R.ss i).t := fl_from hi g.ph (fun j hj => by have := g.bef j hj; omega) i 0 (by omega)
  have key : ∀ m, i + m ≤ R.ss.length → 1 ≤ m → (∀ j, j < m → (at0 R.ss (i + j)).ph = k) → untS R (i + m - 1) = (flS k R.e R.ss).2 → ∀ b : Bool, b = decide (¬ k < lastPh R) → phBr p (at0 (pcs R) i) (at0 (pcs R) (i + m - 1)) b = phK p R k := by
    intro m h1 h2 h3 h4 b hb
    have hq := place_u h (i := i + m - 1) (by omega)
    have hq0 := place_t h hi
    have e1 : phBr p (at0 (pcs R) i) (at0 (pcs R) (i + m - 1)) b = brkAt p b (at0 R.ss i).ph (untS R (i + m - 1) - (at0 R.ss i).t) (plS R (i + m - 1) + (at0 R.ss (i + m - 1)).v 0 * (untS R (i + m - 1) - (at0 R.ss (i + m - 1)).t) - plS R i) := by
      rw [hPi, at0_pcs R (show i + m - 1 < R.ss.length by omega)]; rfl
    have e2 : phK p R k = brkAt p (decide (¬ k < lastPh R)) k ((flS k R.e R.ss).2 - (flS k R.e R.ss).1) (placeR R (flS k R.e R.ss).2 - placeR R (flS k R.e R.ss).1) := rfl
    rw [e1, e2, ← hq, ← hq0, g.ph, hb, hfrom, h4]
  by_cases hx : phJ R i < 0
  · have hm : phM R i = R.ss.length - i := by rw [phM, if_pos hx]
    have hall : ∀ j, j < R.ss.length - i → (at0 R.ss (i + j)).ph = k := fun j hj => by
      have h1 : ((pcs R).drop i).any (otherB (at0 (pcs R) i).s.ph) = false := by
        rw [← ixOf_any]; exact decide_eq_false (by unfold phJ at hx; omega)
      rw [List.any_eq_false] at h1
      have h2 := h1 (at0 ((pcs R).drop i) j) (at0_in (by omega))
      rw [hoth j (by omega)] at h2
      simpa using h2
    have hlast : k = lastPh R := by
      have := hall (R.ss.length - 1 - i) (by omega)
      rw [show i + (R.ss.length - 1 - i) = R.ss.length - 1 by omega] at this
      exact this.symm
    refine ⟨?_, Or.inl ⟨hx, by omega, hlast⟩⟩
    refine key (phM R i) hM.2 hM.1 (fun j hj => hall j (by omega)) ?_ _ ?_
    · have h1 := fl_to (k := k) (e := R.e) (ss := R.ss) (m := R.ss.length) (Nat.le_refl _) (fun j hj => by
        rcases Nat.lt_or_ge j i with h2 | h2
        · have := g.bef j h2; omega
        · have := hall (j - i) (by omega); rw [show i + (j - i) = j by omega] at this; omega) R.ss.length 0 (by omega)
      rw [List.drop_length] at h1
      rw [show (flS k R.e R.ss).2 = R.e from h1, hm, untS, if_neg (by omega)]
    · rw [decide_eq_true hx, decide_eq_true (by omega)]
  · obtain ⟨m, hj⟩ : ∃ m : Nat, phJ R i = m := ⟨(phJ R i).toNat, by omega⟩
    have hm : phM R i = m := by rw [phM, if_neg hx, hj]; omega
    rw [hm] at hM
    have hlt := ixOf_lt (otherB (at0 (pcs R) i).s.ph) ((pcs R).drop i)
    have hsat := ixOf_sat (otherB (at0 (pcs R) i).s.ph) ((pcs R).drop i) (by unfold phJ at hx; omega)
    have hbef := ixOf_before (otherB (at0 (pcs R) i).s.ph) ((pcs R).drop i) (by unfold phJ at hx; omega)
    have hj' : ixOf (otherB (at0 (pcs R) i).s.ph) ((pcs R).drop i) = m := hj
    rw [hj'] at hlt hsat hbef
    rw [hlen] at hlt
    rw [Int.toNat_natCast, hoth m (by omega)] at hsat
    have hne : (at0 R.ss (i + m)).ph ≠ k := by simpa using hsat
    have hall : ∀ j, j < m → (at0 R.ss (i + j)).ph = k := fun j hjm => by
      have h2 := hbef j (by omega)
      rw [hoth j (by omega)] at h2
      simpa using h2
    have h1 := hs.up (i + m - 1) (by omega)
    rw [show i + m - 1 + 1 = i + m by omega] at h1
    have h2 := hall (m - 1) (by omega)
    rw [show i + (m - 1) = i + m - 1 by omega] at h2
    have h3 := hge (i + m) (by omega) (by omega)
    have hph : (at0 R.ss (i + m)).ph = k + 1 := by omega
    have hseg : Seg R (i + m) (k + 1) := ⟨by omega, hph, fun j hjm => by
      have := ph_mono hs (show j ≤ i + m - 1 by omega) (by omega)
      omega⟩
    have hll : k < lastPh R := by
      have := ph_mono hs (show i + m ≤ R.ss.length - 1 by omega) (by omega)
      unfold lastPh
      omega
    rw [hm]
    refine ⟨?_, Or.inr ⟨hx, hseg, hll⟩⟩
    refine key m hM.2 hM.1 hall ?_ _ ?_
    · have h4 := fl_to (k := k) (e := R.e) (ss := R.ss) (m := i + m) (by omega) (fun j hj => by
        have := hseg.bef j hj; omega) (i + m) 0 (by omega)
      rw [show (flS k R.e R.ss).2 = (flS k R.e (R.ss.drop (i + m))).2 from h4, flS_drop (by omega), untS, if_pos (by omega), show i + m - 1 + 1 = i + m by omega]
      simp only
      rw [if_pos (by omega)]
    · rw [decide_eq_false hx, decide_eq_false (by omega)]
theorem ph_none (p : Vec) : ∀ f i k, R.ss.length - i ≤ f → Seg R i k → (∀ j : Int, k ≤ j → j ≤ lastPh R → phK p R j = none) → phBrs p R f i = none
  | 0, i, k, hf, g, _ => by have := g.lt; omega
  | f + 1, i, k, hf, g, hj => by
    obtain ⟨h1, h2⟩ := seg_step h hs p g
    have hi := g.lt
    have hM := phM_pos hi
    have hk : k ≤ lastPh R := by rcases h2 with ⟨_, _, h3⟩ | ⟨_, _, h3⟩ <;> omega
    rw [phBrs, if_neg (by omega), h1, hj k (Int.le_refl _) hk]
    simp only
    rcases h2 with ⟨_, h3, _⟩ | ⟨_, h3, _⟩
    · rw [phBrs_fuel p R f 0 _ (by omega) (by omega)]; rfl
    · exact ph_none p f _ (k + 1) (by omega) h3 fun j j1 j2 => hj j (by omega) j2
theorem ph_some (p : Vec) {b : Brk} {c : Int} (hc : c ≤ lastPh R) (hb : phK p R c = some b) : ∀ f i k, R.ss.length - i ≤ f → Seg R i k → k ≤ c → (∀ j : Int, k ≤ j → j < c → phK p R j = none) → phBrs p R f i = some b
  | 0, i, k, hf, g, _, _ => by have := g.lt; omega
  | f + 1, i, k, hf, g, hkc, hj => by
    obtain ⟨h1, h2⟩ := seg_step h hs p g
    have hi := g.lt
    have hM := phM_pos hi
    rw [phBrs, if_neg (by omega), h1]
    by_cases he : k = c
    · rw [he, hb]
    · rw [hj k (Int.le_refl _) (by omega)]
      simp only
      rcases h2 with ⟨_, _, h3⟩ | ⟨_, h3, _⟩
      · omega
      · exact ph_some p hc hb f _ (k + 1) (by omega) h3 (by omega) fun j j1 j2 => hj j (by omega) j2
omit h in
theorem seg_zero (hn : 0 < R.ss.length) : Seg R 0 1 := ⟨hn, hs.one, fun j hj => by omega⟩
end
/-- A run is stopped just if something stopped it. -/
theorem stopF_kind {p : Vec} {R : Run} (h : VRun R) (hh : 0 ≤ p 115) : ((stopF p R).2 = 0 ↔ (stopF p R).1 < 0) := by
  have h0 : ((stop0 R).2 = 0 ↔ (stop0 R).1 < 0) := by
    unfold stop0
    split
    · rename_i hx
      have h2 := ixOf_lt lostB R.es
      have := h.et (ixOf lostB R.es).toNat (by omega)
      simp; omega
    · simp
  have hb := strs_bd h 4 5
  unfold stopF
  simp only
  split
  · rename_i hx
    have hlt := ixOf_lt (longB (p 115)) (strs R 4 5)
    have := hb _ (at0_in (l := strs R 4 5) (k := (ixOf (longB (p 115)) (strs R 4 5)).toNat) (by omega))
    split
    · simp; omega
    · exact h0
  · exact h0
end Go.Proofs.Ytlebefopdnadaaa
