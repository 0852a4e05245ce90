/- Plain laws of UnitsWithin: the value over a range holds the value at each of its points; the turned table. -/
import Derived.Test.YtliddmhifnigdaaPw
namespace Go.Proofs.Ytliddmhifnigdaa.Un
open Go.RowKit
/-- A point that lies in a table has a piece. -/
theorem piece_of {t : List Rng} (ht : Tab t) {x : Int} (h0 : (at0 t 0).lo ≤ x) (h1 : x ≤ (at0 t (t.length - 1)).lo) : ∃ i, i + 1 < t.length ∧ (at0 t i).lo ≤ x ∧ x ≤ (at0 t (i + 1)).lo := by
  have key : ∀ k, k + 1 < t.length → x ≤ (at0 t (k + 1)).lo → ∃ i, i + 1 < t.length ∧ (at0 t i).lo ≤ x ∧ x ≤ (at0 t (i + 1)).lo := by
    intro k
    induction k with
    | zero => exact fun hk h => ⟨0, hk, h0, h⟩
    | succ k ih =>
      intro hk h
      by_cases hx : x ≤ (at0 t (k + 1)).lo
      · exact ih (by omega) hx
      · exact ⟨k + 1, hk, by omega, h⟩
  have := ht.n2
  exact key (t.length - 2) (by omega) (by rw [show t.length - 2 + 1 = t.length - 1 by omega]; exact h1)
theorem at_le (p q : Rng) (x : Int) : (atF p q x).lo ≤ (atF p q x).hi ∧ (atF p q x).hi ≤ (atF p q x).lo + 1 := by
  unfold atF
  simp only
  split <;> omega
theorem at_first (p q : Rng) : atF p q p.lo = ⟨p.hi, p.hi⟩ := by
  unfold atF
  simp
theorem at_last {p q : Rng} (h : p.lo < q.lo) : atF p q q.lo = ⟨q.hi, q.hi⟩ := by
  unfold atF
  have h1 : (q.hi - p.hi) * (q.lo - p.lo) / (q.lo - p.lo) = q.hi - p.hi := Int.mul_ediv_cancel _ (by omega)
  have h2 : (q.hi - p.hi) * (q.lo - p.lo) % (q.lo - p.lo) = 0 := Int.mul_emod_left _ _
  rw [h1, h2, if_neg (by omega)]
  congr 1 <;> omega
/-- In one piece the value lies between those of two points around. -/
theorem at_mono {p q : Rng} {a x b : Int} (hup : p.lo < q.lo) (ha : p.lo ≤ a) (h1 : a ≤ x) (h2 : x ≤ b) (hb : b ≤ q.lo) : min (atF p q a).lo (atF p q b).lo ≤ (atF p q x).lo ∧ (atF p q x).hi ≤ max (atF p q a).hi (atF p q b).hi := by
  by_cases hr : p.hi ≤ q.hi
  · have k1 := (from_law (y := (atF p q a).lo) hup hr (x := a) ⟨ha, by omega⟩).1 (Int.le_refl _)
    have k2 := (from_law (y := (atF p q a).lo) hup hr (x := x) ⟨by omega, by omega⟩).2 (by omega)
    have k3 := (upto_law (y := (atF p q b).hi) hup hr (x := b) ⟨by omega, hb⟩).1 (Int.le_refl _)
    have k4 := (upto_law (y := (atF p q b).hi) hup hr (x := x) ⟨by omega, by omega⟩).2 (by omega)
    omega
  · have hr' : (⟨p.lo, -p.hi⟩ : Rng).hi ≤ (⟨q.lo, -q.hi⟩ : Rng).hi := by show -p.hi ≤ -q.hi; omega
    have hu' : (⟨p.lo, -p.hi⟩ : Rng).lo < (⟨q.lo, -q.hi⟩ : Rng).lo := hup
    have k1 := (from_law (y := (atF ⟨p.lo, -p.hi⟩ ⟨q.lo, -q.hi⟩ a).lo) hu' hr' (x := a) ⟨ha, by show a ≤ q.lo; omega⟩).1 (Int.le_refl _)
    have k2 := (from_law (y := (atF ⟨p.lo, -p.hi⟩ ⟨q.lo, -q.hi⟩ a).lo) hu' hr' (x := x) ⟨by show p.lo ≤ x; omega, by show x ≤ q.lo; omega⟩).2 (by omega)
    have k3 := (upto_law (y := (atF ⟨p.lo, -p.hi⟩ ⟨q.lo, -q.hi⟩ b).hi) hu' hr' (x := b) ⟨by show p.lo ≤ b; omega, hb⟩).1 (Int.le_refl _)
    have k4 := (upto_law (y := (atF ⟨p.lo, -p.hi⟩ ⟨q.lo, -q.hi⟩ b).hi) hu' hr' (x := x) ⟨by show p.lo ≤ x; omega, by show x ≤ q.lo; omega⟩).2 (by omega)
    rw [at_turn p q _ hup, at_turn p q _ hup] at k2 k4
    simp only at k2 k4
    omega
theorem val_knot {t : List Rng} (ht : Tab t) {j : Nat} (hj : j < t.length) : valF t (at0 t j).lo = ⟨(at0 t j).hi, (at0 t j).hi⟩ := by
  have h2 := ht.n2
  by_cases h : j + 1 < t.length
  · rw [val_piece ht h ⟨Int.le_refl _, by have := ht.asc j (j + 1) (by omega) h; omega⟩, at_first]
  · have hj1 : (j - 1) + 1 < t.length := by omega
    have e : j - 1 + 1 = j := by omega
    have ha := ht.asc (j - 1) j (by omega) hj
    have := val_piece ht hj1 (x := (at0 t j).lo) ⟨by omega, by rw [e]; exact Int.le_refl _⟩
    rw [e] at this
    rw [this, at_last ha]
theorem hu_lo (a b : Rng) : (huF a b).lo = min a.lo b.lo := rfl
theorem hu_hi (a b : Rng) : (huF a b).hi = max a.hi b.hi := rfl
/-- What is once in the hull stays there. -/
theorem ar_mono (t : List Rng) (x : Rng) : ∀ k d, (arK t x (k + d)).lo ≤ (arK t x k).lo ∧ (arK t x k).hi ≤ (arK t x (k + d)).hi
  | k, 0 => ⟨Int.le_refl _, Int.le_refl _⟩
  | k, d + 1 => by
    have ih := ar_mono t x k d
    rw [show k + (d + 1) = (k + d) + 1 by omega, arK]
    split
    · rw [hu_lo, hu_hi]; simp only; omega
    · exact ih
theorem ar_ends (t : List Rng) (x : Rng) (k : Nat) : (arK t x k).lo ≤ (valF t x.lo).lo ∧ (valF t x.lo).hi ≤ (arK t x k).hi ∧ (arK t x k).lo ≤ (valF t x.hi).lo ∧ (valF t x.hi).hi ≤ (arK t x k).hi := by
  have h := ar_mono t x 0 k
  rw [Nat.zero_add, show arK t x 0 = huF (valF t x.lo) (valF t x.hi) from rfl, hu_lo, hu_hi] at h
  omega
theorem ar_knot {t : List Rng} {x : Rng} {k : Nat} (hk : k < t.length) (hx : inX x (at0 t k) = true) : (arK t x t.length).lo ≤ (at0 t k).hi ∧ (at0 t k).hi ≤ (arK t x t.length).hi := by
  have h := ar_mono t x (k + 1) (t.length - (k + 1))
  rw [show k + 1 + (t.length - (k + 1)) = t.length by omega, arK, if_pos hx, hu_lo, hu_hi] at h
  simp only at h
  omega
/-- The value over a range holds the value at each of its points. -/
theorem ar_holds {t : List Rng} (ht : Tab t) {x : Rng} (hx : Inside t x) {p : Int} (h1 : x.lo ≤ p) (h2 : p ≤ x.hi) : (arK t x t.length).lo ≤ (valF t p).lo ∧ (valF t p).hi ≤ (arK t x t.length).hi := by
  obtain ⟨x0, x1, x2⟩ := hx
  obtain ⟨i, hi, p1, p2⟩ := piece_of ht (x := p) (by omega) (by omega)
  have hup := ht.asc i (i + 1) (by omega) hi
  have he := ar_ends t x t.length
  -- a point around, of the range and of the piece
  have ka : ∃ a, (at0 t i).lo ≤ a ∧ a ≤ p ∧ (arK t x t.length).lo ≤ (atF (at0 t i) (at0 t (i + 1)) a).lo ∧ (atF (at0 t i) (at0 t (i + 1)) a).hi ≤ (arK t x t.length).hi := by
    by_cases h : x.lo < (at0 t i).lo
    · refine ⟨(at0 t i).lo, Int.le_refl _, p1, ?_⟩
      rw [at_first]
      by_cases h' : (at0 t i).lo < x.hi
      · exact ar_knot (by omega) (by unfold inX; rw [decide_eq_true h, decide_eq_true h']; rfl)
      · have : x.hi = (at0 t i).lo := by omega
        rw [this, val_knot ht (by omega)] at he
        exact ⟨he.2.2.1, he.2.2.2⟩
    · refine ⟨x.lo, by omega, h1, ?_⟩
      rw [← val_piece ht hi ⟨by omega, by omega⟩]
      exact ⟨he.1, he.2.1⟩
  have kb : ∃ b, p ≤ b ∧ b ≤ (at0 t (i + 1)).lo ∧ (arK t x t.length).lo ≤ (atF (at0 t i) (at0 t (i + 1)) b).lo ∧ (atF (at0 t i) (at0 t (i + 1)) b).hi ≤ (arK t x t.length).hi := by
    by_cases h : (at0 t (i + 1)).lo < x.hi
    · refine ⟨(at0 t (i + 1)).lo, p2, Int.le_refl _, ?_⟩
      rw [at_last hup]
      by_cases h' : x.lo < (at0 t (i + 1)).lo
      · exact ar_knot hi (by unfold inX; rw [decide_eq_true h', decide_eq_true h]; rfl)
      · have : x.lo = (at0 t (i + 1)).lo := by omega
        rw [this, val_knot ht hi] at he
        exact ⟨he.1, he.2.1⟩
    · refine ⟨x.hi, h2, by omega, ?_⟩
      rw [← val_piece ht hi ⟨by omega, by omega⟩]
      exact ⟨he.2.2.1, he.2.2.2⟩
  obtain ⟨a, a1, a2, a3, a4⟩ := ka
  obtain ⟨b, b1, b2, b3, b4⟩ := kb
  have hm := at_mono hup a1 a2 b1 b2
  rw [val_piece ht hi ⟨p1, p2⟩]
  omega
/-- And no more than its points do. -/
theorem ar_least {t : List Rng} (ht : Tab t) {x y : Rng} (hx : Inside t x) (h : ∀ p, x.lo ≤ p → p ≤ x.hi → y.lo ≤ (valF t p).lo ∧ (valF t p).hi ≤ y.hi) : ∀ k, k ≤ t.length → y.lo ≤ (arK t x k).lo ∧ (arK t x k).hi ≤ y.hi
  | 0, _ => by
    have h1 := h x.lo (Int.le_refl _) hx.2.1
    have h2 := h x.hi hx.2.1 (Int.le_refl _)
    rw [arK, hu_lo, hu_hi]
    omega
  | k + 1, hk => by
    have ih := ar_least ht hx h k (by omega)
    rw [arK]
    split
    · rename_i hi
      unfold inX at hi
      rw [Bool.and_eq_true, decide_eq_true_eq, decide_eq_true_eq] at hi
      have h1 := h (at0 t k).lo (by omega) (by omega)
      rw [val_knot ht (by omega)] at h1
      rw [hu_lo, hu_hi]
      simp only at h1 ⊢
      omega
    · exact ih
theorem ar_le {t : List Rng} (x : Rng) (k : Nat) : (arK t x k).lo ≤ (arK t x k).hi := by
  have h := ar_ends t x k
  have := at_le (at0 t (max (plc t x.lo) 1 - 1)) (at0 t (max (plc t x.lo) 1)) x.lo
  have e : valF t x.lo = atF (at0 t (max (plc t x.lo) 1 - 1)) (at0 t (max (plc t x.lo) 1)) x.lo := rfl
  rw [← e] at this
  omega
/-- The table turned over. -/
def tuT (t : List Rng) : List Rng := t.map fun k => ⟨k.lo, -k.hi⟩
theorem tu_len (t : List Rng) : (tuT t).length = t.length := by simp [tuT]
theorem tu_at {t : List Rng} {j : Nat} (h : j < t.length) : at0 (tuT t) j = ⟨(at0 t j).lo, -(at0 t j).hi⟩ := by
  rw [at0_get (by rw [tu_len]; exact h), at0_get h]
  simp [tuT]
theorem tu_tab {t : List Rng} (ht : Tab t) : Tab (tuT t) :=
  ⟨by rw [tu_len]; exact ht.n2, by rw [tu_len]; exact ht.n60, fun j hj => by rw [tu_len] at hj; rw [tu_at hj]; exact ht.x j hj, fun j hj => by rw [tu_len] at hj; rw [tu_at hj]; have := ht.y j hj; simp only; omega,
   fun i j hij hj => by rw [tu_len] at hj; rw [tu_at hj, tu_at (by omega)]; exact ht.asc i j hij hj⟩
theorem tu_val {t : List Rng} (ht : Tab t) {x : Int} (h0 : (at0 t 0).lo ≤ x) (h1 : x ≤ (at0 t (t.length - 1)).lo) : valF (tuT t) x = ⟨-(valF t x).hi, -(valF t x).lo⟩ := by
  obtain ⟨i, hi, p1, p2⟩ := piece_of ht h0 h1
  rw [val_piece ht hi ⟨p1, p2⟩, val_piece (tu_tab ht) (i := i) (by rw [tu_len]; exact hi) (by rw [tu_at hi, tu_at (by omega)]; exact ⟨p1, p2⟩), tu_at hi, tu_at (by omega), at_turn _ _ _ (ht.asc i (i + 1) (by omega) hi)]
theorem tu_ar {t : List Rng} (ht : Tab t) {x : Rng} (hx : Inside t x) : ∀ k, k ≤ t.length → arK (tuT t) x k = ⟨-(arK t x k).hi, -(arK t x k).lo⟩
  | 0, _ => by
    obtain ⟨x0, x1, x2⟩ := hx
    rw [arK, arK, tu_val ht (by omega) (by omega), tu_val ht (by omega) (by omega)]
    unfold huF
    simp only
    congr 1 <;> omega
  | k + 1, hk => by
    have ih := tu_ar ht hx k (by omega)
    have e : inX x (at0 (tuT t) k) = inX x (at0 t k) := by rw [tu_at (by omega)]; rfl
    rw [arK, arK, e, ih, tu_at (by omega)]
    split
    · unfold huF
      simp only
      congr 1 <;> omega
    · rfl
end Go.Proofs.Ytliddmhifnigdaa.Un
