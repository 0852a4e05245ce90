/- Plain law of slices: rates and gradients along the crystal, and the regions of a slice. -/
import Derived.Test.YtliddmhifnigdaaDi
import Derived.Test.YtliddmhifnigdaaDt1
import Derived.Test.YtliddmhifnigdaaWz
namespace Go.Proofs.Ytliddmhifnigdaa.Un
open Go.RowKit
theorem ins_ok {r : Rng} {l h : Int} (h1 : l ≤ h) (h2 : r.lo ≤ r.hi) : spanB (insF r l h) l h = true := by
  rw [spanB_iff]
  unfold insF
  simp only
  omega
/-- Values of a table lie where its knots lie. -/
theorem val_rng {t : List Rng} (ht : Tab t) {a b : Int} (hy : ∀ j, j < t.length → a ≤ (at0 t j).hi ∧ (at0 t j).hi ≤ b) {x : Int} (h0 : (at0 t 0).lo ≤ x) (h1 : x ≤ (at0 t (t.length - 1)).lo) : a ≤ (valF t x).lo ∧ (valF t x).hi ≤ b := by
  obtain ⟨i, hi, p1, p2⟩ := piece_of ht h0 h1
  have hup := ht.asc i (i + 1) (by omega) hi
  have hm := at_mono hup (Int.le_refl _) p1 p2 (Int.le_refl _)
  rw [at_first, at_last hup] at hm
  rw [val_piece ht hi ⟨p1, p2⟩]
  have y1 := hy i (by omega)
  have y2 := hy (i + 1) hi
  simp only at hm
  omega
theorem ar_rng {t : List Rng} (ht : Tab t) {a b : Int} (hy : ∀ j, j < t.length → a ≤ (at0 t j).hi ∧ (at0 t j).hi ≤ b) {x : Rng} (hx : Inside t x) : a ≤ (arK t x t.length).lo ∧ (arK t x t.length).lo ≤ (arK t x t.length).hi ∧ (arK t x t.length).hi ≤ b := by
  have h := ar_least ht hx (y := ⟨a, b⟩) (fun p h1 h2 => val_rng ht hy (by have := hx.1; omega) (by have := hx.2.2; omega)) t.length (Nat.le_refl _)
  exact ⟨h.1, ar_le x _, h.2⟩
theorem va_in' {t : List Rng} (ht : Tab t) {x : Rng} (hx : Inside t x) : vaF t x = (arK t x t.length, 0) := by
  obtain ⟨x0, x1, x2⟩ := hx
  have h2 := ht.n2
  have a := ht.x 0 (by omega)
  have b := ht.x (t.length - 1) (by omega)
  have hr : rngOk x = true := rngOk_iff.2 (by omega)
  unfold vaF
  rw [tab_iff.2 ht, hr, if_pos (show (true && true) = true from rfl), if_neg]
  simp only [Bool.or_eq_true, decide_eq_true_eq]
  omega
/-- Products of ranges of numbers from 1 on, for a divisor of ten thousand. -/
theorem up4 (v : Int) : upF v 10000 = (v + 9999) / 10000 := by
  unfold upF
  split <;> omega
theorem tm_pos {z f : Rng} (hz : 1 ≤ z.lo ∧ z.lo ≤ z.hi ∧ z.hi ≤ 1000000) (hf : 1 ≤ f.lo ∧ f.lo ≤ f.hi ∧ f.hi ≤ 20000) : tmF z f 10000 = (⟨z.lo * f.lo / 10000, (z.hi * f.hi + 9999) / 10000⟩, 0) := by
  have a1 : 0 ≤ z.lo * f.lo := Int.mul_nonneg (by omega) (by omega)
  have a2 : z.lo * f.lo ≤ z.lo * f.hi := Int.mul_le_mul_of_nonneg_left hf.2.1 (by omega)
  have a3 : z.lo * f.lo ≤ z.hi * f.lo := Int.mul_le_mul_of_nonneg_right hz.2.1 (by omega)
  have a4 : z.lo * f.hi ≤ z.hi * f.hi := Int.mul_le_mul_of_nonneg_right hz.2.1 (by omega)
  have a5 : z.hi * f.lo ≤ z.hi * f.hi := Int.mul_le_mul_of_nonneg_left hf.2.1 (by omega)
  have a6 : z.hi * f.hi ≤ 1000000 * 20000 := Int.mul_le_mul hz.2.2 hf.2.2 (by omega) (by omega)
  have r1 : rngOk z = true := by rw [rngOk_iff]; omega
  have r2 : rngOk f = true := by rw [rngOk_iff]; omega
  unfold tmF
  rw [r1, r2, Bool.and_self, if_pos rfl, if_pos (by omega)]
  have s0 : ∀ r : Rng, selR r 0 = r.lo := fun _ => rfl
  have s1 : ∀ r : Rng, selR r 1 = r.hi := fun _ => rfl
  have ad : ∀ (h : Hul) (v : Int), 0 ≤ v → v ≤ 20000000000 → addH h v 10000 = if h.s then ⟨min h.lo (v / 10000), max h.hi ((v + 9999) / 10000), true, h.f⟩ else ⟨v / 10000, (v + 9999) / 10000, true, h.f⟩ := fun h v h0 h1 => by
    unfold addH
    rw [up4, if_pos]
    have : ((10000 : Int).toNat) = 10000 := rfl
    rw [this]
    omega
  generalize e1 : z.lo * f.lo = v1 at *
  generalize e2 : z.lo * f.hi = v2 at *
  generalize e3 : z.hi * f.lo = v3 at *
  generalize e4 : z.hi * f.hi = v4 at *
  have hh : tmO z f 10000 2 = ⟨v1 / 10000, (v4 + 9999) / 10000, true, false⟩ := by
    simp only [tmO, tmI, s0, s1, e1, e2, e3, e4]
    rw [ad _ v1 (by omega) (by omega), show hul0.s = false from rfl, if_neg (by decide), ad _ v2 (by omega) (by omega), if_pos rfl, ad _ v3 (by omega) (by omega), if_pos rfl, ad _ v4 (by omega) (by omega), if_pos rfl]
    simp only [Hul.mk.injEq, true_and]
    refine ⟨?_, ?_, rfl⟩
    · omega
    · omega
  rw [hh]
  unfold reH fiF
  simp only
  have n1 : numB (v1 / 10000) = true := by
    have : rngOk ⟨v1 / 10000, v1 / 10000⟩ = true := by rw [rngOk_iff]; simp only; omega
    unfold rngOk at this
    rw [Bool.and_eq_true] at this
    exact this.1
  have n2 : numB ((v4 + 9999) / 10000) = true := by
    have : rngOk ⟨(v4 + 9999) / 10000, (v4 + 9999) / 10000⟩ = true := by rw [rngOk_iff]; simp only; omega
    unfold rngOk at this
    rw [Bool.and_eq_true] at this
    exact this.1
  rw [n1, n2]
  rfl
/-- What holds of a valid growth. -/
structure GroOk (g : Gro) : Prop where
  r : Tab g.r
  f : Tab g.f
  ry : ∀ j, j < g.r.length → 0 ≤ (at0 g.r j).hi ∧ (at0 g.r j).hi ≤ 1000000
  fy : ∀ j, j < g.f.length → 1 ≤ (at0 g.f j).hi ∧ (at0 g.f j).hi ≤ 20000
  o : 0 ≤ g.o ∧ g.o ≤ 1000000
  z1 : 1 ≤ g.z.length
  z2 : g.z.length ≤ 20
  z : ∀ j, j < g.z.length → spanB (at0 g.z j) 1 1000000 = true
  a : (at0 g.f 0).lo = (at0 g.r 0).lo
  b : lastX g.f = lastX g.r
  lo : 0 ≤ (at0 g.r 0).lo
  hi : lastX g.r ≤ 3000
theorem any_false {α : Type} [Inhabited α] {l : List α} {p : α → Bool} (h : l.any p = false) {j : Nat} (hj : j < l.length) : p (at0 l j) = false := by
  rw [List.any_eq_false] at h
  have := h (at0 l j) (by rw [at0_get hj]; exact List.getElem_mem hj)
  simpa using this
theorem okGro_ok {g : Gro} (h : okGro g = true) : GroOk g := by
  unfold okGro at h
  simp only [Bool.and_eq_true, Bool.not_eq_true', decide_eq_true_eq] at h
  obtain ⟨h1, h2, h3, h4, h5, h6, h7⟩ := h
  refine ⟨tab_iff.1 h1, tab_iff.1 h2, fun j hj => ?_, fun j hj => ?_, ⟨h5.1, h5.2.1⟩, h5.2.2.1, h5.2.2.2, fun j hj => ?_, h7.1, h7.2.1, h7.2.2.1, h7.2.2.2⟩
  · have := any_false h3 hj
    unfold outB at this
    simp only [Bool.or_eq_false_iff, decide_eq_false_iff_not] at this
    omega
  · have := any_false h4 hj
    unfold outB at this
    simp only [Bool.or_eq_false_iff, decide_eq_false_iff_not] at this
    omega
  · have := any_false h6 hj
    unfold notGr at this
    simpa using this
/-- The rates and the gradients of a slice. -/
def rtF (g : Gro) (x : Rng) : Rng := insF ⟨(vaF g.r x).1.lo - g.o, (vaF g.r x).1.hi + g.o⟩ 0 1000000
def gdF (g : Gro) (x z : Rng) : Rng := insF (tmF z (vaF g.f x).1 10000).1 1 1000000
def slV (m : Mdl) (g : Gro) (x z : Rng) : Int := regK (posB m (rtF g x) (gdF g x z)) 5
def slL (m : Mdl) (g : Gro) (x : Rng) : List Int := g.z.map (slV m g x)
theorem GroOk.inside_r {g : Gro} (h : GroOk g) {x : Rng} (hx : (at0 g.r 0).lo ≤ x.lo ∧ x.lo ≤ x.hi ∧ x.hi ≤ lastX g.r) : Inside g.r x ∧ Inside g.f x := by
  refine ⟨hx, ?_, hx.2.1, ?_⟩
  · rw [h.a]; exact hx.1
  · have := h.b
    unfold lastX at this hx
    omega
theorem GroOk.va_r {g : Gro} (h : GroOk g) {x : Rng} (hx : (at0 g.r 0).lo ≤ x.lo ∧ x.lo ≤ x.hi ∧ x.hi ≤ lastX g.r) : vaF g.r x = (arK g.r x g.r.length, 0) ∧ 0 ≤ (vaF g.r x).1.lo ∧ (vaF g.r x).1.lo ≤ (vaF g.r x).1.hi ∧ (vaF g.r x).1.hi ≤ 1000000 := by
  have hi := (h.inside_r hx).1
  have e := va_in' h.r hi
  rw [e]
  exact ⟨rfl, ar_rng h.r h.ry hi⟩
theorem GroOk.va_f {g : Gro} (h : GroOk g) {x : Rng} (hx : (at0 g.r 0).lo ≤ x.lo ∧ x.lo ≤ x.hi ∧ x.hi ≤ lastX g.r) : vaF g.f x = (arK g.f x g.f.length, 0) ∧ 1 ≤ (vaF g.f x).1.lo ∧ (vaF g.f x).1.lo ≤ (vaF g.f x).1.hi ∧ (vaF g.f x).1.hi ≤ 20000 := by
  have hi := (h.inside_r hx).2
  have e := va_in' h.f hi
  rw [e]
  exact ⟨rfl, ar_rng h.f h.fy hi⟩
theorem GroOk.pl {g : Gro} (h : GroOk g) {m : Mdl} (hm : okMdl m = true) {x : Rng} (hx : (at0 g.r 0).lo ≤ x.lo ∧ x.lo ≤ x.hi ∧ x.hi ≤ lastX g.r) {j : Nat} (hj : j < g.z.length) : PlOk m (rtF g x) (gdF g x (at0 g.z j)) := by
  have h1 := (h.va_r hx).2
  have h2 := (h.va_f hx).2
  have h3 := spanB_iff.1 (h.z j hj)
  have h4 := h.o
  refine ⟨hm, ins_ok (by decide) (by simp only; omega), ins_ok (by decide) ?_⟩
  rw [tm_pos h3 h2]
  simp only
  have a1 : (at0 g.z j).lo * (vaF g.f x).1.lo ≤ (at0 g.z j).lo * (vaF g.f x).1.hi := Int.mul_le_mul_of_nonneg_left h2.2.1 (by omega)
  have a2 : (at0 g.z j).lo * (vaF g.f x).1.hi ≤ (at0 g.z j).hi * (vaF g.f x).1.hi := Int.mul_le_mul_of_nonneg_right h3.2.1 (by omega)
  omega
end Go.Proofs.Ytliddmhifnigdaa.Un
