/- Plain law along the crystal: a slice has no more regions than a longer one around it; the true places are within. -/
import Derived.Test.YteibgenkklpoaaaDp1
import Derived.Test.YteibgenkklpoaaaDo1
import Derived.Test.YteibgenkklpoaaaU2
namespace Go.Proofs.Yteibgenkklpoaaa.Un
open Go.RowKit
theorem rnd_near {v how : Int} : v / 10000 ≤ (rnd v 10000 how).1 ∧ (rnd v 10000 how).1 ≤ (v + 9999) / 10000 := by
  by_cases h : 0 < v % 10000 ∧ (how = 2 ∨ (how = 3 ∧ (10000 - v % 10000 < v % 10000 ∨ (v % 10000 = 10000 - v % 10000 ∧ (v / 10000) % 2 = 1))))
  · have e : (rnd v 10000 how).1 = v / 10000 + 1 := by unfold rnd; rw [if_pos h]
    rw [e]
    omega
  · rw [rnd_no h]
    simp only
    omega
theorem md_near {p f : Int} (hp : 1 ≤ p ∧ p ≤ 1000000) (hf : 1 ≤ f ∧ f ≤ 20000) : ∃ n r, mdF p f 10000 3 = (n, r, 0) ∧ p * f / 10000 ≤ n ∧ n ≤ (p * f + 9999) / 10000 := by
  have h1 : 0 ≤ p * f := Int.mul_nonneg (by omega) (by omega)
  have h2 : p * f ≤ 1000000 * 20000 := Int.mul_le_mul hp.2 hf.2 (by omega) (by omega)
  have h3 := rnd_near (v := p * f) (how := 3)
  have nb : ∀ x : Int, -1000000000000000 ≤ x → x ≤ 1000000000000000 → numB x = true := fun x a b => by
    have : rngOk ⟨x, x⟩ = true := by rw [rngOk_iff]; simp only; omega
    unfold rngOk at this
    rw [Bool.and_eq_true] at this
    exact this.1
  refine ⟨_, (rnd (p * f) 10000 3).2, ?_, h3.1, h3.2⟩
  unfold mdF
  rw [if_neg (by omega), if_neg, if_pos]
  · exact nb _ (by omega) (by omega)
  · rw [nb p (by omega) (by omega), nb f (by omega) (by omega)]
    simp
theorem ar_sub {t : List Rng} (ht : Tab t) {x X : Rng} (hx : x.lo ≤ x.hi) (hX : Inside t X) (h1 : X.lo ≤ x.lo) (h2 : x.hi ≤ X.hi) : subR (arK t x t.length) (arK t X t.length) := by
  have hi : Inside t x := ⟨by have := hX.1; omega, hx, by have := hX.2.2; omega⟩
  exact ar_least ht hi (y := arK t X t.length) (fun p a b => ar_holds ht hX (by omega) (by omega)) t.length (Nat.le_refl _)
theorem GroOk.sub {g : Gro} (h : GroOk g) {x X : Rng} (hX : (at0 g.r 0).lo ≤ X.lo ∧ X.lo ≤ X.hi ∧ X.hi ≤ lastX g.r) (hx : X.lo ≤ x.lo ∧ x.lo ≤ x.hi ∧ x.hi ≤ X.hi) : subR (vaF g.r x).1 (vaF g.r X).1 ∧ subR (vaF g.f x).1 (vaF g.f X).1 := by
  have i1 := h.inside_r hX
  rw [(h.va_r hX).1, (h.va_f hX).1, (h.va_r (x := x) (by omega)).1, (h.va_f (x := x) (by omega)).1]
  exact ⟨ar_sub h.r hx.2.1 i1.1 hx.1 hx.2.2, ar_sub h.f hx.2.1 i1.2 hx.1 hx.2.2⟩
/-- The gradients' ends. -/
theorem GroOk.gd {g : Gro} (h : GroOk g) {x : Rng} (hx : (at0 g.r 0).lo ≤ x.lo ∧ x.lo ≤ x.hi ∧ x.hi ≤ lastX g.r) {j : Nat} (hj : j < g.z.length) : gdF g x (at0 g.z j) = insF ⟨(at0 g.z j).lo * (vaF g.f x).1.lo / 10000, ((at0 g.z j).hi * (vaF g.f x).1.hi + 9999) / 10000⟩ 1 1000000 := by
  unfold gdF
  rw [tm_pos (spanB_iff.1 (h.z j hj)) (h.va_f hx).2]
theorem sl_sub {g : Gro} (h : GroOk g) {m : Mdl} (hm : okMdl m = true) {x X : Rng} (hX : (at0 g.r 0).lo ≤ X.lo ∧ X.lo ≤ X.hi ∧ X.hi ≤ lastX g.r) (hx : X.lo ≤ x.lo ∧ x.lo ≤ x.hi ∧ x.hi ≤ X.hi) {j : Nat} (hj : j < g.z.length) :
    bits .andNot .u8 (slV m g x (at0 g.z j)) (slV m g X (at0 g.z j)) = 0 := by
  have hx' : (at0 g.r 0).lo ≤ x.lo ∧ x.lo ≤ x.hi ∧ x.hi ≤ lastX g.r := by omega
  obtain ⟨s1, s2⟩ := h.sub hX hx
  have a1 := (h.va_r hx').2
  have a2 := (h.va_f hx').2
  have a3 := (h.va_r hX).2
  have a4 := (h.va_f hX).2
  have p1 := h.pl hm hX hj
  have z := spanB_iff.1 (h.z j hj)
  unfold slV
  refine not_reg fun k hk hp => posB_mono hm hk (r' := rtF g x) (g' := gdF g x (at0 g.z j)) ?_ ?_ hp
  · have q := spanB_iff.1 p1.r
    unfold rtF insF at q ⊢
    unfold subR at s1
    simp only at q ⊢
    omega
  · have q := spanB_iff.1 p1.g
    rw [h.gd hX hj, h.gd hx' hj]
    rw [h.gd hX hj] at q
    unfold subR at s2
    have m1 : (at0 g.z j).lo * (vaF g.f X).1.lo ≤ (at0 g.z j).lo * (vaF g.f x).1.lo := Int.mul_le_mul_of_nonneg_left s2.1 (by omega)
    have m2 : (at0 g.z j).hi * (vaF g.f x).1.hi ≤ (at0 g.z j).hi * (vaF g.f X).1.hi := Int.mul_le_mul_of_nonneg_left s2.2 (by omega)
    unfold insF at q ⊢
    simp only at q ⊢
    omega
/-- The true rate and the true gradient at a place are within. -/
theorem sl_true {g : Gro} (h : GroOk g) {m : Mdl} (hm : okMdl m = true) {x : Rng} (hx : (at0 g.r 0).lo ≤ x.lo ∧ x.lo ≤ x.hi ∧ x.hi ≤ lastX g.r) {p : Int} (hp : x.lo ≤ p ∧ p ≤ x.hi) {j : Nat} (hj : j < g.z.length)
    {b1 b2 : Int} (hb1 : 0 ≤ b1) (hb2 : 0 ≤ b2) {t : Nat → Int} (ht : ∀ i, 0 ≤ t i) {n r : Int} (hn : mdF (plF (at0 g.z j) b2) (vaF g.f ⟨p, p⟩).1.lo 10000 3 = (n, r, 0)) :
    ∃ k : Nat, k < 5 ∧ (rgK m t (max 0 (min 1000000 (plF ⟨max 0 ((vaF g.r ⟨p, p⟩).1.lo - g.o), (vaF g.r ⟨p, p⟩).1.hi + g.o⟩ b1))) (max 1 (min 1000000 n)) 4).1 = k ∧ bits .and .u8 (slV m g x (at0 g.z j) / 2 ^ k) 1 = 1 := by
  obtain ⟨s1, s2⟩ := h.sub hx (x := ⟨p, p⟩) ⟨hp.1, Int.le_refl _, hp.2⟩
  have a1 := (h.va_r (x := ⟨p, p⟩) (by simp only; omega)).2
  have a2 := (h.va_f (x := ⟨p, p⟩) (by simp only; omega)).2
  have a3 := (h.va_r hx).2
  have a4 := (h.va_f hx).2
  have z := spanB_iff.1 (h.z j hj)
  have ho := h.o
  generalize (vaF g.r ⟨p, p⟩).1 = v at *
  generalize (vaF g.f ⟨p, p⟩).1 = f at *
  have pz := plF_in (r := at0 g.z j) hb2 z.2.1
  have pr := plF_in (r := ⟨max 0 (v.lo - g.o), v.hi + g.o⟩) hb1 (by simp only; omega)
  generalize plF (at0 g.z j) b2 = q at *
  generalize plF ⟨max 0 (v.lo - g.o), v.hi + g.o⟩ b1 = y at *
  obtain ⟨n', r', e, n1, n2⟩ := md_near (p := q) (f := f.lo) (by omega) (by omega)
  rw [hn] at e
  obtain ⟨rfl, rfl⟩ : n = n' ∧ r = r' := by simpa using e
  obtain ⟨k, hk, he, hpos⟩ := rg_pos hm ht (v := max 0 (min 1000000 y)) (g := max 1 (min 1000000 n)) (by omega) (by omega)
  refine ⟨k, hk, he, ?_⟩
  unfold slV
  rw [bit_reg _ hk, posB_mono hm hk (r' := ⟨max 0 (min 1000000 y), max 0 (min 1000000 y)⟩) (g' := ⟨max 1 (min 1000000 n), max 1 (min 1000000 n)⟩) ?_ ?_ hpos, if_pos rfl]
  · unfold rtF insF
    unfold subR at s1
    simp only at pr ⊢
    omega
  · rw [h.gd hx hj]
    unfold subR at s2
    have m1 : (at0 g.z j).lo * (vaF g.f x).1.lo ≤ q * (vaF g.f x).1.lo := Int.mul_le_mul_of_nonneg_right pz.1 (by omega)
    have m2 : q * (vaF g.f x).1.lo ≤ q * f.lo := Int.mul_le_mul_of_nonneg_left s2.1 (by omega)
    have m3 : q * f.lo ≤ (at0 g.z j).hi * f.lo := Int.mul_le_mul_of_nonneg_right pz.2 (by omega)
    have m4 : (at0 g.z j).hi * f.lo ≤ (at0 g.z j).hi * (vaF g.f x).1.hi := Int.mul_le_mul_of_nonneg_left (by omega) (by omega)
    unfold insF
    simp only
    omega
end Go.Proofs.Yteibgenkklpoaaa.Un
