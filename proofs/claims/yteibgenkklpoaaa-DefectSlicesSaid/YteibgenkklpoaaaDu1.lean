/- Plain law of Usable: stretches that are opened and closed, and stretches that grow. -/
import Derived.Test.YteibgenkklpoaaaDw2
namespace Go.Proofs.Yteibgenkklpoaaa.Un
open Go.RowKit
/-- The program's stretches: since when (below 0: none open), and those that are closed. -/
def usP (fine : Int → Bool) (first : Int) : Nat → Int × List Rng
  | 0 => (-1, [])
  | n + 1 =>
    if fine (first + n) then (if (usP fine first n).1 < 0 then (first + n, (usP fine first n).2) else usP fine first n)
    else (if (usP fine first n).1 < 0 then usP fine first n else (-1, (usP fine first n).2 ++ [⟨(usP fine first n).1, first + n⟩]))
/-- The reference's stretches. -/
def usR (fine : Int → Bool) (first : Int) : Nat → List Rng
  | 0 => []
  | n + 1 =>
    if fine (first + n) then
      (if 0 < (usR fine first n).length ∧ (at0 (usR fine first n) ((usR fine first n).length - 1)).hi = first + n then (usR fine first n).take ((usR fine first n).length - 1) ++ [⟨(at0 (usR fine first n) ((usR fine first n).length - 1)).lo, first + n + 1⟩]
       else usR fine first n ++ [⟨first + n, first + n + 1⟩])
    else usR fine first n
theorem usP_len (fine : Int → Bool) (first : Int) : ∀ n, (usP fine first n).2.length ≤ n
  | 0 => Nat.le_refl _
  | n + 1 => by
    have := usP_len fine first n
    unfold usP
    split <;> split <;> simp <;> omega
theorem usR_len (fine : Int → Bool) (first : Int) : ∀ n, (usR fine first n).length ≤ n
  | 0 => Nat.le_refl _
  | n + 1 => by
    have := usR_len fine first n
    unfold usR
    split
    · split <;> simp <;> omega
    · omega
theorem us_rel (fine : Int → Bool) {first : Int} (h0 : 0 ≤ first) : ∀ n, ((usP fine first n).1 < 0 ∧ usR fine first n = (usP fine first n).2 ∧ ∀ r, r ∈ (usP fine first n).2 → r.hi < first + n) ∨
    (0 ≤ (usP fine first n).1 ∧ (usP fine first n).1 < first + n ∧ usR fine first n = (usP fine first n).2 ++ [⟨(usP fine first n).1, first + n⟩] ∧ ∀ r, r ∈ (usP fine first n).2 → r.hi < (usP fine first n).1)
  | 0 => .inl ⟨by show (-1 : Int) < 0; decide, rfl, fun _ h => by cases h⟩
  | n + 1 => by
    have ih := us_rel fine h0 n
    unfold usP usR
    generalize usP fine first n = p at ih ⊢
    generalize usR fine first n = q at ih ⊢
    obtain ⟨s, l⟩ := p
    simp only at ih
    have ec : first + ((n + 1 : Nat) : Int) = first + n + 1 := by omega
    rw [ec]
    by_cases hf : fine (first + n) = true
    · rw [if_pos hf, if_pos hf]
      rcases ih with ⟨h1, rfl, h3⟩ | ⟨h1, h2, rfl, h3⟩
      · simp only [if_pos h1]
        right
        refine ⟨by omega, by omega, ?_, fun r hr => h3 r hr⟩
        rw [if_neg]
        rintro ⟨hl, he⟩
        have hm : at0 q (q.length - 1) ∈ q := by rw [at0_get (by omega)]; exact List.getElem_mem _
        have := h3 _ hm
        omega
      · simp only [if_neg (show ¬ s < 0 by omega)]
        right
        refine ⟨h1, by omega, ?_, h3⟩
        have el : (l ++ [(⟨s, first + n⟩ : Rng)]).length - 1 = l.length := by simp
        rw [el, at0_last, if_pos ⟨by simp, rfl⟩, List.take_append_of_le_length (Nat.le_refl _), List.take_length]
    · rw [if_neg hf, if_neg hf]
      rcases ih with ⟨h1, rfl, h3⟩ | ⟨h1, h2, rfl, h3⟩
      · simp only [if_pos h1]
        exact .inl ⟨h1, by trivial, fun r hr => by have := h3 r hr; omega⟩
      · simp only [if_neg (show ¬ s < 0 by omega)]
        refine .inl ⟨by show (-1 : Int) < 0; decide, by trivial, fun r hr => ?_⟩
        rcases List.mem_append.1 hr with hr | hr
        · have := h3 r hr
          omega
        · obtain rfl := List.mem_singleton.1 hr
          simp only
          omega
/-- A stretch without its last place. -/
def shr (r : Rng) : Rng := ⟨r.lo, r.hi - 1⟩
theorem us_win (fine : Int → Bool) {first : Int} (h0 : 0 ≤ first) : ∀ n : Nat, WinUp (fun x => ¬ (first ≤ x ∧ fine x = true)) (first + n) ((usR fine first n).map shr)
  | 0 => ⟨trivial, fun _ h => (by cases h), fun x _ h1 => ⟨fun ⟨_, hr, _⟩ => (by cases hr), fun q => absurd (show ¬ (first ≤ x ∧ fine x = true) from fun z => by omega) q⟩, by show ((0 : Nat) : Int) ≤ _; omega⟩
  | n + 1 => by
    have ih := us_win fine h0 n
    rw [show first + ((n + 1 : Nat) : Int) = first + n + 1 by omega]
    unfold usR
    generalize usR fine first n = q at ih ⊢
    by_cases hf : fine (first + n) = true
    · rw [if_pos hf]
      have hn : ∀ x, first + (n : Int) ≤ x → x < first + n + 1 → ¬ ¬ (first ≤ x ∧ fine x = true) := fun x h1 h2 q => q (by
        obtain rfl : x = first + n := by omega
        exact ⟨by omega, hf⟩)
      by_cases hc : 0 < q.length ∧ (at0 q (q.length - 1)).hi = first + n
      · rw [if_pos hc]
        have hq : q = q.take (q.length - 1) ++ [at0 q (q.length - 1)] := by
          have := take_at0 (l := q) (k := q.length - 1) (by omega)
          rw [Nat.sub_add_cancel hc.1, List.take_length] at this
          exact this
        have e1 : q.map shr = (q.take (q.length - 1)).map shr ++ [⟨(at0 q (q.length - 1)).lo, first + n - 1⟩] := by
          conv => lhs; rw [hq]
          rw [List.map_append, List.map_singleton]
          unfold shr
          rw [hc.2]
        rw [e1] at ih
        rw [List.map_append, List.map_singleton]
        exact ih.join (by omega) hn
      · rw [if_neg hc, List.map_append, List.map_singleton]
        refine ih.app (by omega) (by omega) ?_ hn
        by_cases hl : 0 < q.length
        · refine ih.far (by rw [List.length_map]; exact hl) ?_
          rw [List.length_map, at0_get (by rw [List.length_map]; omega), List.getElem_map]
          intro e
          refine hc ⟨hl, ?_⟩
          rw [at0_get (by omega)]
          unfold shr at e
          simp only at e
          omega
        · intro r hr
          obtain rfl : q = [] := List.eq_nil_of_length_eq_zero (by omega)
          cases hr
    · rw [if_neg hf]
      exact ih.bad (by omega) fun x h1 h2 q => hf (by
        obtain rfl : x = first + n := by omega
        exact q.2)
end Go.Proofs.Yteibgenkklpoaaa.Un
