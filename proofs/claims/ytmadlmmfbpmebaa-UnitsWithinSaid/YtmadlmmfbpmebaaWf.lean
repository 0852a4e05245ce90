/- What the walk of UnitsWithin asks of the runs and of the values. -/
import Derived.Test.YtmadlmmfbpmebaaWr
import Derived.Test.YtmadlmmfbpmebaaJx
namespace Go.Proofs.Ytmadlmmfbpmebaa
open Go.RowKit
/-- The whole table's range. -/
def alR (t : List Rng) : Rng := ⟨(at0 t 0).lo, (at0 t (t.length - 1)).lo⟩
theorem runs_at {t l : List Rng} {y : Rng} {hi : Int} (h : Runs t y l hi) {i : Nat} (hl : i < l.length) : (at0 t 0).lo ≤ (at0 l i).lo ∧ (at0 l i).lo ≤ (at0 l i).hi ∧ (at0 l i).hi ≤ hi :=
  h.rng _ (by rw [at0_get hl]; exact List.getElem_mem hl)
theorem runs_gap {t l : List Rng} {y : Rng} {hi : Int} (h : Runs t y l hi) {i j : Nat} (hij : i < j) (hj : j < l.length) : (at0 l i).hi + 1 < (at0 l j).lo := by
  rw [at0_get hj, at0_get (by omega)]
  exact List.pairwise_iff_getElem.1 h.gap i j (by omega) hj hij
theorem runs_in {t l : List Rng} {y : Rng} {hi : Int} (h : Runs t y l hi) {i : Nat} (hl : i < l.length) {x : Int} (h1 : (at0 l i).lo ≤ x) (h2 : x ≤ (at0 l i).hi) : StF t y x := by
  have := runs_at h hl
  exact (h.law x (by omega) (by omega)).1 ⟨at0 l i, by rw [at0_get hl]; exact List.getElem_mem hl, h1, h2⟩
theorem runs_out {t l : List Rng} {y : Rng} {hi : Int} (h : Runs t y l hi) {x : Int} (h0 : (at0 t 0).lo ≤ x) (h1 : x ≤ hi) (hn : ∀ j, j < l.length → x < (at0 l j).lo ∨ (at0 l j).hi < x) : ¬ StF t y x := fun hs => by
  obtain ⟨r, hm, a, b⟩ := (h.law x h0 h1).2 hs
  obtain ⟨j, hj, rfl⟩ := at0_mem hm
  have := hn j hj
  omega
/-- Ahead of a run and behind it nothing stands. -/
theorem runs_ahead {t l : List Rng} {y : Rng} {hi : Int} (h : Runs t y l hi) {i : Nat} (hl : i < l.length) (hlo : (at0 t 0).lo < (at0 l i).lo) : ¬ StF t y ((at0 l i).lo - 1) := by
  have h1 := runs_at h hl
  refine runs_out h (by omega) (by omega) fun j hj => ?_
  rcases Nat.lt_trichotomy j i with hji | rfl | hji
  · have := runs_gap h hji hl; omega
  · omega
  · have := runs_gap h hji hj; have := runs_at h hj; omega
theorem runs_behind {t l : List Rng} {y : Rng} {hi : Int} (h : Runs t y l hi) {i : Nat} (hl : i < l.length) (hh : (at0 l i).hi < hi) : ¬ StF t y ((at0 l i).hi + 1) := by
  have h1 := runs_at h hl
  refine runs_out h (by omega) (by omega) fun j hj => ?_
  rcases Nat.lt_trichotomy j i with hji | rfl | hji
  · have := runs_gap h hji hl; have := runs_at h hj; omega
  · omega
  · have := runs_gap h hji hj; omega
/-- One of the first k runs holds p. -/
def hasR (l : List Rng) (p : Int) : Nat → Bool
  | 0 => false | k + 1 => hasR l p k || (decide ((at0 l k).lo ≤ p) && decide (p ≤ (at0 l k).hi))
theorem has_iff {l : List Rng} {p : Int} : ∀ k, hasR l p k = true ↔ ∃ j, j < k ∧ (at0 l j).lo ≤ p ∧ p ≤ (at0 l j).hi
  | 0 => ⟨fun h => (by cases h), fun ⟨j, hj, _⟩ => absurd hj (by omega)⟩
  | k + 1 => by
    rw [hasR, Bool.or_eq_true, has_iff k, Bool.and_eq_true, decide_eq_true_eq, decide_eq_true_eq]
    constructor
    · rintro (⟨j, hj, h⟩ | h)
      · exact ⟨j, by omega, h⟩
      · exact ⟨k, by omega, h⟩
    · rintro ⟨j, hj, h⟩
      rcases Nat.lt_or_ge j k with hjk | hjk
      · exact .inl ⟨j, hjk, h⟩
      · obtain rfl : j = k := by omega
        exact .inr h
theorem val_ord (t : List Rng) (x : Int) : (valF t x).lo ≤ (valF t x).hi ∧ (valF t x).hi ≤ (valF t x).lo + 1 := at_le _ _ _
theorem ins_st {t : List Rng} {y : Rng} {x : Int} : insB (valF t x) y = true ↔ StF t y x := by
  rw [insB_iff]
  have := (val_ord t x).1
  unfold StF
  exact ⟨fun h => ⟨h.1, h.2.1⟩, fun h => ⟨h.1, h.2, this⟩⟩
theorem has_all {t l : List Rng} {y : Rng} {hi : Int} (h : Runs t y l hi) {p : Int} (h0 : (at0 t 0).lo ≤ p) (h1 : p ≤ hi) : hasR l p l.length = insB (valF t p) y := by
  rw [Bool.eq_iff_iff, has_iff, ins_st, ← h.law p h0 h1]
  constructor
  · rintro ⟨j, hj, a, b⟩
    exact ⟨at0 l j, by rw [at0_get hj]; exact List.getElem_mem hj, a, b⟩
  · rintro ⟨r, hm, a, b⟩
    obtain ⟨j, hj, rfl⟩ := at0_mem hm
    exact ⟨j, hj, a, b⟩
/-- The value of Value over a range within the table. -/
theorem va_in {t : List Rng} (ht : Tab t) {x : Rng} (hx : Inside t x) : vaF t x = (arK t x t.length, 0) := by
  obtain ⟨x0, x1, x2⟩ := hx
  have h2 := ht.n2
  have a := ht.x 0 (by omega)
  have b := ht.x (t.length - 1) (by omega)
  have hr : rngOk x = true := rngOk_iff.2 (by omega)
  unfold vaF
  rw [tab_iff.2 ht, hr, if_pos (show (true && true) = true from rfl), if_neg]
  simp only [Bool.or_eq_true, decide_eq_true_eq]
  omega
theorem va_point {t : List Rng} (ht : Tab t) {p : Int} (h0 : (at0 t 0).lo ≤ p) (h1 : p ≤ (at0 t (t.length - 1)).lo) : vaF t ⟨p, p⟩ = (valF t p, 0) := by
  have hx : Inside t ⟨p, p⟩ := ⟨h0, Int.le_refl _, h1⟩
  rw [va_in ht hx]
  congr 1
  have key : ∀ k, arK t ⟨p, p⟩ k = valF t p := by
    intro k
    induction k with
    | zero =>
      show huF (valF t p) (valF t p) = valF t p
      generalize valF t p = v
      unfold huF
      simp
    | succ k ih =>
      rw [arK, if_neg, ih]
      unfold inX
      rw [Bool.and_eq_true, decide_eq_true_eq, decide_eq_true_eq]
      simp only
      omega
  exact key _
end Go.Proofs.Ytmadlmmfbpmebaa
