/- Plain laws of runs: which seconds they have, and that they lie apart. -/
import Derived.Test.YtlebefopdnadaaaTp
namespace Go.Proofs.Ytlebefopdnadaaa
open Go.RowKit
/-- What the runs of the seconds below k are. -/
structure RunsL (f : Nat → Bool) (k : Nat) (l : List Rng) (o : Bool) : Prop where
  has : ∀ t : Nat, l.any (haB t) = (decide (t < k) && f t)
  bd : ∀ i, i < l.length → 0 ≤ (at0 l i).lo ∧ (at0 l i).lo ≤ (at0 l i).hi ∧ (at0 l i).hi < k
  gap : ∀ i, i + 1 < l.length → (at0 l i).hi < (at0 l (i + 1)).lo - 1
  shut : o = false → ∀ i, i < l.length → (at0 l i).hi < (k : Int) - 1
  opn : o = true → ∃ i x, l = i ++ [x] ∧ x.hi = (k : Int) - 1
theorem at0_appl {l : List Rng} {x : Rng} {i : Nat} (h : i < l.length) : at0 (l ++ [x]) i = at0 l i := at0_app l [x] h
theorem runsL (f : Nat → Bool) : ∀ k, RunsL f k (rnK f k).1 (rnK f k).2
  | 0 => ⟨fun t => by simp [rnK], fun i h => absurd h (by simp [rnK]), fun i h => absurd h (by simp [rnK]), fun _ i h => absurd h (by simp [rnK]), fun h => by cases h⟩
  | k + 1 => by
    have ih := runsL f k
    show RunsL f (k + 1) (rnStep (f k) k (rnK f k)).1 (rnStep (f k) k (rnK f k)).2
    generalize rnK f k = q at ih ⊢
    obtain ⟨l, o⟩ := q
    simp only at ih
    unfold rnStep
    rcases hf : f k with _ | _
    · rw [if_neg (by decide)]
      refine ⟨fun t => ?_, fun i h => ?_, ih.gap, fun _ i h => ?_, (fun h => by cases h)⟩
      · rw [ih.has t]
        rcases Nat.lt_trichotomy t k with h | h | h
        · simp [h, Nat.lt_succ_of_lt h]
        · subst h; simp [hf]
        · simp [show ¬ t < k by omega, show ¬ t < k + 1 by omega]
      · have := ih.bd i h
        show 0 ≤ (at0 l i).lo ∧ (at0 l i).lo ≤ (at0 l i).hi ∧ (at0 l i).hi < _
        omega
      · have := ih.bd i h
        show (at0 l i).hi < (((k + 1 : Nat) : Int)) - 1
        omega
    · rw [if_pos rfl]
      cases o with
      | true =>
        rw [if_pos rfl]
        obtain ⟨i, x, e, hx⟩ := ih.opn rfl
        subst e
        have e1 : (i ++ [x]).dropLast = i := by simp
        have e2 : (i ++ [x]).getLastD ⟨0, 0⟩ = x := by simp
        simp only [e1, e2]
        have hlast : at0 (i ++ [x]) i.length = x := at0_last i x
        have hb := ih.bd i.length (by simp)
        simp only [hlast] at hb
        have hnew : at0 (i ++ [(⟨x.lo, k⟩ : Rng)]) i.length = ⟨x.lo, k⟩ := at0_last i _
        refine ⟨fun t => ?_, fun j h => ?_, fun j h => ?_, (fun h => by cases h), fun _ => ⟨i, ⟨x.lo, k⟩, rfl, ?_⟩⟩
        · have h0 := ih.has t
          rw [List.any_append] at h0 ⊢
          simp only [List.any_cons, List.any_nil, Bool.or_false] at h0 ⊢
          rcases Nat.lt_trichotomy t k with h | h | h
          · rw [show haB t ⟨x.lo, k⟩ = haB t x by unfold haB; simp only [hx]; rw [Bool.eq_iff_iff]; simp; omega, h0]
            simp [h, Nat.lt_succ_of_lt h]
          · subst h
            rw [show haB t ⟨x.lo, t⟩ = true by unfold haB; simp; omega]
            simp [hf]
          · rw [show haB t ⟨x.lo, k⟩ = haB t x by unfold haB; simp only [hx]; rw [Bool.eq_iff_iff]; simp; omega, h0]
            simp [show ¬ t < k by omega, show ¬ t < k + 1 by omega]
        · rcases Nat.lt_or_ge j i.length with hj | hj
          · have := ih.bd j (by simp; omega)
            simp only [at0_appl hj] at this ⊢
            omega
          · obtain rfl : j = i.length := by simp at h; omega
            simp only [hnew]
            omega
        · simp only [List.length_append, List.length_singleton] at h
          have := ih.gap j (by simp; omega)
          rcases Nat.lt_or_ge (j + 1) i.length with hj | hj
          · simp only [at0_appl hj, at0_appl (show j < i.length by omega)] at this ⊢
            exact this
          · have e : j + 1 = i.length := by omega
            simp only [e, hlast, hnew, at0_appl (show j < i.length by omega)] at this ⊢
            exact this
        · show (k : Int) = ((k + 1 : Nat) : Int) - 1
          omega
      | false =>
        rw [if_neg Bool.false_ne_true]
        have hnew : at0 (l ++ [(⟨k, k⟩ : Rng)]) l.length = ⟨k, k⟩ := at0_last l _
        refine ⟨fun t => ?_, fun j h => ?_, fun j h => ?_, (fun h => by cases h), fun _ => ⟨l, ⟨k, k⟩, rfl, ?_⟩⟩
        · have h0 := ih.has t
          rw [List.any_append]
          simp only [List.any_cons, List.any_nil, Bool.or_false] at h0 ⊢
          rw [h0]
          rcases Nat.lt_trichotomy t k with h | h | h
          · rw [show haB t ⟨k, k⟩ = false by unfold haB; simp; omega]
            simp [h, Nat.lt_succ_of_lt h]
          · subst h
            rw [show haB t ⟨t, t⟩ = true by unfold haB; simp]
            simp [hf]
          · rw [show haB t ⟨k, k⟩ = false by unfold haB; simp; omega]
            simp [show ¬ t < k by omega, show ¬ t < k + 1 by omega]
        · rcases Nat.lt_or_ge j l.length with hj | hj
          · have := ih.bd j hj
            simp only [at0_appl hj] at this ⊢
            omega
          · obtain rfl : j = l.length := by simp at h; omega
            simp only [hnew]
            omega
        · simp only [List.length_append, List.length_singleton] at h
          rcases Nat.lt_or_ge (j + 1) l.length with hj | hj
          · have := ih.gap j hj
            simp only [at0_appl hj, at0_appl (show j < l.length by omega)] at this ⊢
            exact this
          · have e : j + 1 = l.length := by omega
            have := ih.shut rfl j (by omega)
            simp only [e, hnew, at0_appl (show j < l.length by omega)] at this ⊢
            omega
        · show (k : Int) = ((k + 1 : Nat) : Int) - 1
          omega
end Go.Proofs.Ytlebefopdnadaaa
