/- Plain laws of what is known at a time: second by second is what all samples say. No program in sight. -/
import Derived.Test.YtlebefopdnadaaaNxa
import Derived.Test.YtlebefopdnadaaaSoa
namespace Go.Proofs.Ytlebefopdnadaaa
open Go.RowKit
theorem kn_ext {a b : Kn} (h1 : a.lo = b.lo) (h2 : a.hi = b.hi) (h3 : a.some = b.some) : a = b := by
  cases a; cases b; simp_all
theorem meetK_none {k o : Kn} (h : o.some = false) : meetK k o = k := by rw [meetK, if_pos h]
theorem meetK_left {k o : Kn} (h : o.some = true) (hk : k.some = false) : meetK k o = o := by rw [meetK, if_neg (by rw [h]; decide), if_pos hk]
theorem meetK_both {k o : Kn} (h : o.some = true) (hk : k.some = true) : meetK k o = ⟨max k.lo o.lo, min k.hi o.hi, true⟩ := by rw [meetK, if_neg (by rw [h]; decide), if_neg (by rw [hk]; decide)]
theorem meetK_some (k o : Kn) : (meetK k o).some = (k.some || o.some) := by
  cases ho : o.some with
  | false => rw [meetK_none ho]; simp
  | true => cases hk : k.some with
    | false => rw [meetK_left ho hk, ho]; rfl
    | true => rw [meetK_both ho hk]; rfl
theorem meetK_assoc (a b c : Kn) : meetK (meetK a b) c = meetK a (meetK b c) := by
  cases hc : c.some with
  | false => rw [meetK_none hc, meetK_none hc]
  | true => cases hb : b.some with
    | false => rw [meetK_none hb, meetK_left hc hb]
    | true => cases ha : a.some with
      | false => rw [meetK_left hb ha, meetK_left (by rw [meetK_some, hb]; rfl) ha]
      | true =>
        rw [meetK_both hb ha, meetK_both hc hb, meetK_both hc rfl, meetK_both rfl ha]
        simp only [Int.max_assoc, Int.min_assoc]
theorem laterK_meet (a b : Kn) (g s : Int) : laterK (meetK a b) g s = meetK (laterK a g s) (laterK b g s) := by
  cases hb : b.some with
  | false => rw [meetK_none hb, meetK_none (show (laterK b g s).some = false from hb)]
  | true => cases ha : a.some with
    | false => rw [meetK_left hb ha, meetK_left (show (laterK b g s).some = true from hb) (show (laterK a g s).some = false from ha)]
    | true =>
      rw [meetK_both hb ha, meetK_both (show (laterK b g s).some = true from hb) (show (laterK a g s).some = true from ha)]
      simp only [laterK]
      refine kn_ext ?_ ?_ rfl
      · simp only; omega
      · simp only; omega
theorem kn0_some : kn0.some = false := rfl
theorem meetK_kn0 {k : Kn} (h : k.some = false → k = kn0) : meetK kn0 k = k := by
  cases hk : k.some with
  | false => rw [meetK_none hk, h hk]
  | true => rw [meetK_left hk kn0_some]
/-- What a sample says of a later time, of an earlier time. -/
def tellA (p : Vec) (s : Smp) (u : Int) : Kn := ⟨s.lo - p 111 * (u - s.t), s.hi + p 110 * (u - s.t), true⟩
def tellB (p : Vec) (s : Smp) (f : Int) : Kn := ⟨s.lo - p 110 * (s.t - f), s.hi + p 111 * (s.t - f), true⟩
theorem tellA_succ (p : Vec) (s : Smp) (u : Int) : tellA p s (u + 1) = laterK (tellA p s u) (p 110) (p 111) := by
  have e : u + 1 - s.t = (u - s.t) + 1 := by omega
  simp only [tellA, laterK, e, Int.mul_add, Int.mul_one]
  refine kn_ext ?_ ?_ rfl
  · simp only; omega
  · simp only; omega
theorem tellB_succ (p : Vec) (s : Smp) (f : Int) : tellB p s f = laterK (tellB p s (f + 1)) (p 111) (p 110) := by
  have e : s.t - f = (s.t - (f + 1)) + 1 := by omega
  simp only [tellB, laterK]
  rw [e]
  simp only [Int.mul_add, Int.mul_one]
  refine kn_ext ?_ ?_ rfl
  · simp only; omega
  · simp only; omega
/-- What the first k samples say, those up to a time, those from a time on. -/
def sdA (p : Vec) (R : Run) (u : Int) : Nat → Kn
  | 0 => kn0 | k + 1 => if (at0 R.ms k).t ≤ u then meetK (sdA p R u k) (tellA p (at0 R.ms k) u) else sdA p R u k
def sdB (p : Vec) (R : Run) (f : Int) : Nat → Kn
  | 0 => kn0 | k + 1 => if f ≤ (at0 R.ms k).t then meetK (sdB p R f k) (tellB p (at0 R.ms k) f) else sdB p R f k
theorem sdA_kn0 {p : Vec} {R : Run} {u : Int} : ∀ k, (sdA p R u k).some = false → sdA p R u k = kn0
  | 0, _ => rfl
  | k + 1, h => by
    simp only [sdA] at h ⊢
    split at h
    · rw [meetK_some] at h; simp [tellA] at h
    · rename_i hn; rw [if_neg hn]; exact sdA_kn0 k h
theorem sdB_no {p : Vec} {R : Run} {f : Int} : ∀ k, (∀ j, j < k → (at0 R.ms j).t < f) → sdB p R f k = kn0
  | 0, _ => rfl
  | k + 1, h => by
    have := h k (by omega)
    rw [sdB, if_neg (by omega)]
    exact sdB_no k fun j hj => h j (by omega)
theorem mt_lt {R : Run} (h : VRun R) {j : Nat} : ∀ {k : Nat}, j < k → k < R.ms.length → (at0 R.ms j).t < (at0 R.ms k).t
  | 0, hj, _ => by omega
  | k + 1, hj, hk => by
    have h2 := h.mup k hk
    rcases Nat.lt_or_ge j k with hl | hl
    · have h1 := mt_lt h hl (show k < R.ms.length by omega)
      omega
    · obtain rfl : j = k := by omega
      exact h2
theorem seen_none {R : Run} {t : Nat} : ∀ k, (∀ j, j < k → (at0 R.ms j).t.toNat ≠ t) → seenK R k t = kn0
  | 0, _ => rfl
  | k + 1, h => by
    have := h k (by omega)
    show updK (seenK R k) _ _ t = _
    rw [updK, if_neg (by omega)]
    exact seen_none k fun j hj => h j (by omega)
theorem seen_skip {R : Run} {t k : Nat} (h : (at0 R.ms k).t.toNat ≠ t) : seenK R (k + 1) t = seenK R k t := by
  show updK (seenK R k) _ _ t = _
  rw [updK, if_neg (by omega)]
theorem seen_here {R : Run} {t k : Nat} (h : (at0 R.ms k).t.toNat = t) : seenK R (k + 1) t = ⟨(at0 R.ms k).lo, (at0 R.ms k).hi, true⟩ := by
  show updK (seenK R k) _ _ t = _
  rw [updK, if_pos (by omega)]
section
variable {R : Run} (h : VRun R)
include h
omit h in
theorem tellA_here (p : Vec) {k : Nat} {t : Int} (e : (at0 R.ms k).t = t) : tellA p (at0 R.ms k) t = ⟨(at0 R.ms k).lo, (at0 R.ms k).hi, true⟩ := by
  rw [tellA, e, Int.sub_self, Int.mul_zero, Int.mul_zero, Int.sub_zero, Int.add_zero]
omit h in
theorem tellB_here (p : Vec) {k : Nat} {t : Int} (e : (at0 R.ms k).t = t) : tellB p (at0 R.ms k) t = ⟨(at0 R.ms k).lo, (at0 R.ms k).hi, true⟩ := by
  rw [tellB, e, Int.sub_self, Int.mul_zero, Int.mul_zero, Int.sub_zero, Int.add_zero]
theorem seen_old {k t : Nat} (hk : k < R.ms.length) (e : (at0 R.ms k).t = (t : Int)) : seenK R k t = kn0 :=
  seen_none k fun j hj => by
    have h1 := mt_lt h hj hk
    have h2 := (h.mt j (by omega)).1
    omega
theorem sdA_zero (p : Vec) : ∀ k, k ≤ R.ms.length → sdA p R 0 k = seenK R k 0
  | 0, _ => rfl
  | k + 1, hk => by
    have ht := (h.mt k (by omega)).1
    have ih := sdA_zero p k (by omega)
    rw [sdA, ih]
    by_cases h0 : (at0 R.ms k).t = 0
    · rw [if_pos (by omega), seen_old h (t := 0) (by omega) (by omega), seen_here (by omega), tellA_here p h0, meetK_left rfl rfl]
    · rw [if_neg (by omega), seen_skip (by omega)]
theorem sdA_step (p : Vec) (t : Nat) : ∀ k, k ≤ R.ms.length → sdA p R ((t + 1 : Nat) : Int) k = meetK (seenK R k (t + 1)) (laterK (sdA p R (t : Int) k) (p 110) (p 111))
  | 0, _ => rfl
  | k + 1, hk => by
    have ht := (h.mt k (by omega)).1
    have ih := sdA_step p t k (by omega)
    rw [sdA, sdA, ih]
    rcases Int.lt_trichotomy (at0 R.ms k).t ((t + 1 : Nat) : Int) with hq | hq | hq
    · rw [if_pos (by omega), if_pos (by omega), seen_skip (by omega), laterK_meet, ← tellA_succ, meetK_assoc]
      rfl
    · rw [if_pos (by omega), if_neg (by omega), seen_old h (t := t + 1) (by omega) hq, seen_here (by omega), tellA_here p hq]
      cases hs : (sdA p R (t : Int) k).some with
      | false =>
        rw [meetK_none (o := laterK _ _ _) (show (laterK _ _ _).some = false from hs), meetK_none (o := laterK _ _ _) (show (laterK _ _ _).some = false from hs), meetK_left rfl rfl]
      | true =>
        have hs' : (laterK (sdA p R (t : Int) k) (p 110) (p 111)).some = true := hs
        rw [meetK_left hs' rfl, meetK_both rfl hs', meetK_both hs' rfl]
        simp only [Int.max_comm, Int.min_comm]
    · rw [if_neg (by omega), if_neg (by omega), seen_skip (by omega)]
theorem bef_all (p : Vec) : ∀ t : Nat, befF p R t = sdA p R (t : Int) R.ms.length
  | 0 => (sdA_zero h p _ (Nat.le_refl _)).symm
  | t + 1 => by
    rw [sdA_step h p t _ (Nat.le_refl _), ← bef_all p t]
    rfl
theorem sdB_end (p : Vec) {e : Nat} (he : R.e = (e : Int)) : ∀ k, k ≤ R.ms.length → sdB p R R.e k = seenK R k e
  | 0, _ => rfl
  | k + 1, hk => by
    have ht := h.mt k (by omega)
    have ih := sdB_end p he k (by omega)
    rw [sdB, ih]
    by_cases h0 : (at0 R.ms k).t = R.e
    · rw [if_pos (by omega), seen_old h (t := e) (by omega) (by omega), seen_here (by omega), tellB_here p h0, meetK_left rfl rfl]
    · rw [if_neg (by omega), seen_skip (by omega)]
theorem sdB_step (p : Vec) (t : Nat) : ∀ k, k ≤ R.ms.length → sdB p R (t : Int) k = meetK (seenK R k t) (laterK (sdB p R ((t + 1 : Nat) : Int) k) (p 111) (p 110))
  | 0, _ => rfl
  | k + 1, hk => by
    have ht := (h.mt k (by omega)).1
    have ih := sdB_step p t k (by omega)
    have hcast : ((t + 1 : Nat) : Int) = (t : Int) + 1 := by omega
    rcases Int.lt_trichotomy (at0 R.ms k).t (t : Int) with hq | hq | hq
    · rw [sdB, sdB, if_neg (by omega), if_neg (by omega), seen_skip (by omega), ih]
    · have hno : sdB p R ((t + 1 : Nat) : Int) k = kn0 := sdB_no k fun j hj => by have := mt_lt h hj (show k < R.ms.length by omega); omega
      have hno2 : sdB p R (t : Int) k = kn0 := sdB_no k fun j hj => by have := mt_lt h hj (show k < R.ms.length by omega); omega
      rw [sdB, sdB, if_pos (by omega), if_neg (by omega), seen_here (by omega), hno, hno2, tellB_here p hq, meetK_left rfl rfl, meetK_none rfl]
    · rw [sdB, sdB, if_pos (by omega), if_pos (by omega), seen_skip (by omega), ih, laterK_meet, hcast, ← tellB_succ, meetK_assoc]
theorem frm_all (p : Vec) {e : Nat} (he : R.e = (e : Int)) : ∀ d, d ≤ e → frmD p R d = sdB p R ((e - d : Nat) : Int) R.ms.length
  | 0, _ => by
    rw [Nat.sub_zero, ← he, sdB_end h p he _ (Nat.le_refl _)]
    show seenF R R.e.toNat = _
    rw [show R.e.toNat = e by omega]; rfl
  | d + 1, hd => by
    rw [sdB_step h p (e - (d + 1)) _ (Nat.le_refl _), show e - (d + 1) + 1 = e - d by omega, ← frm_all p he d (by omega)]
    show meetK (seenF R (R.e.toNat - (d + 1))) _ = _
    rw [show R.e.toNat = e by omega]
    rfl
theorem frmF_all (p : Vec) {t : Nat} (ht : (t : Int) ≤ R.e) : frmF p R t = sdB p R (t : Int) R.ms.length := by
  have h0 := h.tlt 0 h.n1
  rw [h.first] at h0
  have := frm_all h p (e := R.e.toNat) (by omega) (R.e.toNat - t) (by omega)
  rw [show R.e.toNat - (R.e.toNat - t) = t by omega] at this
  exact this
end
end Go.Proofs.Ytlebefopdnadaaa
