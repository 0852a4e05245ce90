/- Plain law of UnitsWithin: the runs of Where. -/
import Derived.Test.YtmadlmmfbpmebaaWz
namespace Go.Proofs.Ytmadlmmfbpmebaa
open Go.RowKit
/-- The value at x lies in y. -/
def StF (t : List Rng) (y : Rng) (x : Int) : Prop := y.lo ≤ (valF t x).lo ∧ (valF t x).hi ≤ y.hi
/-- The runs as far as hi. -/
structure Runs (t : List Rng) (y : Rng) (l : List Rng) (hi : Int) : Prop where
  rng : ∀ r ∈ l, (at0 t 0).lo ≤ r.lo ∧ r.lo ≤ r.hi ∧ r.hi ≤ hi
  gap : l.Pairwise (fun a b => a.hi + 1 < b.lo)
  law : ∀ x, (at0 t 0).lo ≤ x → x ≤ hi → ((∃ r ∈ l, r.lo ≤ x ∧ x ≤ r.hi) ↔ StF t y x)
theorem wh_st {t : List Rng} {y : Rng} (ht : Tab t) {k : Nat} (hk : k + 1 < t.length) {x : Int} (h1 : (at0 t k).lo ≤ x) (h2 : x ≤ (at0 t (k + 1)).lo) : ((whF (at0 t k) (at0 t (k + 1)) y).lo ≤ x ∧ x ≤ (whF (at0 t k) (at0 t (k + 1)) y).hi) ↔ StF t y x := by
  have h := wh_law (y := y) (ht.asc k (k + 1) (by omega) hk) ⟨h1, h2⟩
  unfold StF
  rw [val_piece ht hk ⟨h1, h2⟩, h.1, h.2]
  split
  · exact ⟨fun h => ⟨h.2, h.1⟩, fun h => ⟨h.2, h.1⟩⟩
  · exact Iff.rfl
theorem runs_step {t : List Rng} {y : Rng} (ht : Tab t) {l : List Rng} {k : Nat} {hi : Int} (hk : k + 1 < t.length) (h : Runs t y l hi) (hh : hi = (at0 t k).lo ∨ hi = (at0 t k).lo - 1) : Runs t y (whStep y l (at0 t k) (at0 t (k + 1))) (at0 t (k + 1)).lo := by
  have hup := ht.asc k (k + 1) (by omega) hk
  have h0 : (at0 t 0).lo ≤ (at0 t k).lo := by
    rcases Nat.eq_zero_or_pos k with rfl | h0
    · exact Int.le_refl _
    · have := ht.asc 0 k h0 (by omega); omega
  have hw := fun x => wh_st (y := y) ht hk (x := x)
  obtain ⟨⟨w1, w2⟩, w3, w4⟩ := wh_rng (y := y) hup
  obtain ⟨hr, hg, hl⟩ := h
  obtain ⟨w, hwe⟩ : ∃ w, whF (at0 t k) (at0 t (k + 1)) y = w := ⟨_, rfl⟩
  have hst : whStep y l (at0 t k) (at0 t (k + 1)) = if w.hi < w.lo then l else if l.length ≠ 0 ∧ w.lo ≤ (at0 l (l.length - 1)).hi + 1 then l.take (l.length - 1) ++ [⟨(at0 l (l.length - 1)).lo, w.hi⟩] else l ++ [w] := by unfold whStep; rw [hwe]
  rw [hwe] at hw w1 w2 w3 w4
  rw [hst]
  by_cases he : w.hi < w.lo
  · rw [if_pos he]
    refine ⟨fun r hm => by have := hr r hm; omega, hg, fun x x1 x2 => ?_⟩
    by_cases hx : x ≤ hi
    · exact hl x x1 hx
    · rw [← hw x (by omega) x2]
      exact ⟨fun ⟨r, hm, a, b⟩ => by have := hr r hm; omega, fun ⟨a, b⟩ => by omega⟩
  rw [if_neg he]
  rcases List.eq_nil_or_concat l with rfl | ⟨l', z, rfl⟩
  · rw [if_neg (by simp), List.nil_append]
    refine ⟨fun r hm => by rw [List.mem_singleton] at hm; subst hm; omega, List.pairwise_singleton _ _, fun x x1 x2 => ?_⟩
    by_cases hx : x < (at0 t k).lo
    · rw [← hl x x1 (by omega)]
      exact ⟨fun ⟨r, hm, a, b⟩ => by rw [List.mem_singleton] at hm; subst hm; omega, fun ⟨r, hm, _⟩ => by cases hm⟩
    · rw [← hw x (by omega) x2]
      exact ⟨fun ⟨r, hm, a, b⟩ => by rw [List.mem_singleton] at hm; subst hm; exact ⟨a, b⟩, fun ⟨a, b⟩ => ⟨w, List.mem_singleton.2 rfl, a, b⟩⟩
  · rw [List.concat_eq_append] at hr hg hl ⊢
    have e1 : (l' ++ [z]).length = l'.length + 1 := by simp
    have e2 : at0 (l' ++ [z]) ((l' ++ [z]).length - 1) = z := by
      rw [at0_get (by rw [e1]; omega)]
      simp
    have e3 : (l' ++ [z]).take ((l' ++ [z]).length - 1) = l' := by rw [e1]; simp
    rw [e2, e3]
    have hz := hr z (by simp)
    obtain ⟨hg1, _, hg2⟩ := List.pairwise_append.1 hg
    by_cases hj : w.lo ≤ z.hi + 1
    · rw [if_pos ⟨by rw [e1]; omega, hj⟩]
      refine ⟨fun r hm => ?_, List.pairwise_append.2 ⟨hg1, List.pairwise_singleton _ _, fun a ha b hb => ?_⟩, fun x x1 x2 => ?_⟩
      · rw [List.mem_append, List.mem_singleton] at hm
        rcases hm with hm | rfl
        · have := hr r (by simp [hm]); omega
        · simp only; omega
      · rw [List.mem_singleton] at hb; subst hb
        exact hg2 a ha z (by simp)
      · by_cases hx : x ≤ hi
        · constructor
          · rintro ⟨r, hm, a, b⟩
            rw [List.mem_append, List.mem_singleton] at hm
            rcases hm with hm | rfl
            · exact (hl x x1 hx).1 ⟨r, by simp [hm], a, b⟩
            · simp only at a b
              by_cases hx2 : x ≤ z.hi
              · exact (hl x x1 hx).1 ⟨z, by simp, a, hx2⟩
              · exact (hw x (by omega) x2).1 ⟨by omega, b⟩
          · intro hs
            obtain ⟨r, hm, a, b⟩ := (hl x x1 hx).2 hs
            rw [List.mem_append, List.mem_singleton] at hm
            rcases hm with hm | rfl
            · exact ⟨r, by simp [hm], a, b⟩
            · exact ⟨⟨r.lo, w.hi⟩, by simp, a, by simp only; omega⟩
        · rw [← hw x (by omega) x2]
          constructor
          · rintro ⟨r, hm, a, b⟩
            rw [List.mem_append, List.mem_singleton] at hm
            rcases hm with hm | rfl
            · have := hr r (by simp [hm]); omega
            · simp only at a b; omega
          · rintro ⟨a, b⟩
            exact ⟨⟨z.lo, w.hi⟩, by simp, by simp only; omega, b⟩
    · rw [if_neg (fun h => hj h.2)]
      refine ⟨fun r hm => ?_, List.pairwise_append.2 ⟨hg, List.pairwise_singleton _ _, fun a ha b hb => ?_⟩, fun x x1 x2 => ?_⟩
      · rw [List.mem_append, List.mem_singleton] at hm
        rcases hm with hm | rfl
        · have := hr r hm; omega
        · omega
      · rw [List.mem_singleton] at hb; subst hb
        rw [List.mem_append, List.mem_singleton] at ha
        rcases ha with ha | rfl
        · have := hg2 a ha z (by simp); omega
        · omega
      · by_cases hx : x ≤ hi
        · constructor
          · rintro ⟨r, hm, a, b⟩
            rw [List.mem_append, List.mem_singleton] at hm
            rcases hm with hm | rfl
            · exact (hl x x1 hx).1 ⟨r, hm, a, b⟩
            · exact (hw x (by omega) x2).1 ⟨a, b⟩
          · intro hs
            obtain ⟨r, hm, a, b⟩ := (hl x x1 hx).2 hs
            exact ⟨r, List.mem_append_left _ hm, a, b⟩
        · rw [← hw x (by omega) x2]
          constructor
          · rintro ⟨r, hm, a, b⟩
            rw [List.mem_append, List.mem_singleton] at hm
            rcases hm with hm | rfl
            · have := hr r hm; omega
            · exact ⟨a, b⟩
          · rintro ⟨a, b⟩
            exact ⟨w, by simp, a, b⟩
theorem runs_all {t : List Rng} {y : Rng} (ht : Tab t) : Runs t y (whL t y (pcs t (t.length - 1))) (at0 t (t.length - 1)).lo := by
  have key : ∀ k, k < t.length → Runs t y (whL t y (pcs t k)) (if k = 0 then (at0 t 0).lo - 1 else (at0 t k).lo) := by
    intro k
    induction k with
    | zero =>
      intro _
      rw [if_pos rfl]
      exact { rng := fun r hm => absurd hm (by show r ∉ ([] : List Rng); simp), gap := List.Pairwise.nil, law := fun x x1 x2 => by omega }
    | succ k ih =>
      intro hk
      rw [if_neg (by omega), pcs_succ hk, whL_snoc]
      refine runs_step ht hk (ih (by omega)) ?_
      split
      · rename_i h; subst h; exact .inr rfl
      · exact .inl rfl
  have h2 := ht.n2
  have := key (t.length - 1) (by omega)
  rwa [if_neg (by omega)] at this
end Go.Proofs.Ytmadlmmfbpmebaa
