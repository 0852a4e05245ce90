/- Plain law of Anneal's hulls. -/
import Derived.Test.YteibgenkklpoaaaDo1
namespace Go.Proofs.Yteibgenkklpoaaa.Un
open Go.RowKit
theorem foK_app (J : Rng → Rng → Rng) (xs ys : List Rng) : ∀ k, k < xs.length → foK J (xs ++ ys) k = foK J xs k
  | 0, h => by unfold foK; exact at0_app xs ys h
  | k + 1, h => by
    unfold foK
    rw [foK_app J xs ys k (by omega), at0_app xs ys h]
theorem foK_snoc (J : Rng → Rng → Rng) (xs : List Rng) (x : Rng) (h : 0 < xs.length) : foK J (xs ++ [x]) xs.length = J (foK J xs (xs.length - 1)) x := by
  obtain ⟨n, hn⟩ : ∃ n, xs.length = n + 1 := ⟨xs.length - 1, by omega⟩
  rw [hn, Nat.add_sub_cancel]
  show J (foK J (xs ++ [x]) n) (at0 (xs ++ [x]) (n + 1)) = _
  rw [foK_app J xs [x] n (by omega), ← hn, at0_last]
theorem hu_self (x : Rng) : huF x x = x := by unfold huF; simp
theorem foK_has (xs : List Rng) : ∀ k, k < xs.length → ∀ j, j ≤ k → subR (at0 xs j) (foK huF xs k)
  | 0, _, j, hj => by
    obtain rfl : j = 0 := by omega
    exact ⟨Int.le_refl _, Int.le_refl _⟩
  | k + 1, hk, j, hj => by
    have e1 : (foK huF xs (k + 1)).lo = min (foK huF xs k).lo (at0 xs (k + 1)).lo := rfl
    have e2 : (foK huF xs (k + 1)).hi = max (foK huF xs k).hi (at0 xs (k + 1)).hi := rfl
    unfold subR
    rw [e1, e2]
    by_cases h : j = k + 1
    · subst h; omega
    · have := foK_has xs k (by omega) j (by omega)
      unfold subR at this
      omega
theorem foK_hull' {xs : List Rng} (h : ∀ j, j < xs.length → rngOk (at0 xs j) = true) : ∀ k, k < xs.length → (foK huF xs k).lo ≤ (foK huF xs k).hi
  | 0, hk => (rngOk_iff.1 (h 0 hk)).2.2
  | k + 1, hk => by
    have h1 := foK_hull' h k (by omega)
    have h2 := (rngOk_iff.1 (h (k + 1) hk)).2.2
    simp only [foK, huF]
    omega
theorem foF_hull' {xs : List Rng} (h0 : chk xs = 0) (h1 : xs.length ≠ 0) : foF huF xs = (foK huF xs (xs.length - 1), 0) := by
  have hl := chk_ok h0
  have := foK_hull' (fun j => rngs_at hl.2) (xs.length - 1) (by omega)
  unfold foF
  rw [if_pos h0, if_neg h1, if_neg (by omega)]
theorem rngsOk_yes' {xs : List Rng} (h : ∀ j, j < xs.length → rngOk (at0 xs j) = true) : rngsOk xs = true := by
  unfold rngsOk
  rw [Bool.not_eq_true', List.any_eq_false]
  intro x hx
  obtain ⟨j, hj, rfl⟩ := at0_mem hx
  unfold badR
  rw [h j hj]; decide
/-- The reference's hull: whether there is one, and it. -/
def hrK (v : Int) (X : Nat → Rng) : Nat → Bool × Rng
  | 0 => (false, ⟨0, 0⟩)
  | k + 1 => if unw v k then hrK v X k else (true, huF (if (hrK v X k).1 then (hrK v X k).2 else X k) (X k))
theorem hrK_eq (v : Int) (X : Nat → Rng) : ∀ k, (hrK v X k).1 = decide (0 < (anL v X k).length) ∧ (0 < (anL v X k).length → (hrK v X k).2 = foK huF (anL v X k) ((anL v X k).length - 1)) ∧ ((anL v X k).length = 0 → (hrK v X k).2 = ⟨0, 0⟩)
  | 0 => ⟨rfl, fun h => absurd h (Nat.lt_irrefl _), fun _ => rfl⟩
  | k + 1 => by
    have ih := hrK_eq v X k
    unfold hrK anL
    split
    · exact ih
    · simp only
      refine ⟨by simp, fun _ => ?_, fun h => by simp at h⟩
      rw [List.length_append, List.length_singleton, Nat.add_sub_cancel]
      by_cases h0 : 0 < (anL v X k).length
      · rw [ih.1, decide_eq_true h0, if_pos rfl, ih.2.1 h0, foK_snoc _ _ _ h0]
      · rw [ih.1, decide_eq_false h0, if_neg (by decide), hu_self]
        have e : anL v X k = [] := List.eq_nil_of_length_eq_zero (by omega)
        rw [e]
        rfl
theorem anL_mem {v : Int} {X : Nat → Rng} {x : Rng} : ∀ {k : Nat}, x ∈ anL v X k → ∃ j, j < k ∧ x = X j
  | 0, h => by cases h
  | k + 1, h => by
    unfold anL at h
    split at h
    · obtain ⟨j, hj, e⟩ := anL_mem h
      exact ⟨j, by omega, e⟩
    · rcases List.mem_append.1 h with h | h
      · obtain ⟨j, hj, e⟩ := anL_mem h
        exact ⟨j, by omega, e⟩
      · exact ⟨k, by omega, List.mem_singleton.1 h⟩
theorem anL_has {v : Int} {X : Nat → Rng} : ∀ {k j : Nat}, j < k → unw v j = false → X j ∈ anL v X k
  | k + 1, j, h, hu => by
    unfold anL
    by_cases hk : j = k
    · subst hk
      rw [if_neg (by rw [hu]; decide)]
      exact List.mem_append_right _ (List.mem_singleton.2 rfl)
    · have := anL_has (v := v) (X := X) (k := k) (j := j) (by omega) hu
      split
      · exact this
      · exact List.mem_append_left _ this
theorem chk_anL {v : Int} {X : Nat → Rng} (hX : ∀ k, k < 5 → rngOk (X k) = true) : chk (anL v X 5) = 0 := by
  have h1 := anL_len v X 5
  have h2 : rngsOk (anL v X 5) = true := rngsOk_yes' fun j hj => by
    obtain ⟨i, hi, e⟩ := anL_mem (x := at0 (anL v X 5) j) (k := 5) (v := v) (X := X) (by rw [at0_get hj]; exact List.getElem_mem hj)
    rw [e]
    exact hX i hi
  unfold chk
  rw [if_neg (by omega), if_pos h2]
theorem unw_some : ∀ w : Fin 32, (w : Nat) ≠ 0 → unw ((w : Nat) : Int) 0 = false ∨ unw ((w : Nat) : Int) 1 = false ∨ unw ((w : Nat) : Int) 2 = false ∨ unw ((w : Nat) : Int) 3 = false ∨ unw ((w : Nat) : Int) 4 = false := by decide +kernel
theorem unw_all : ∀ k : Fin 5, unw 31 (k : Nat) = false := by decide +kernel
theorem unw_one : ∀ k : Fin 5, ∀ j : Fin 5, unw (2 ^ (k : Nat)) (j : Nat) = decide ((j : Nat) ≠ k) := by decide +kernel
theorem anL_pos {v : Int} {X : Nat → Rng} (hv : 0 < v ∧ v ≤ 31) : 0 < (anL v X 5).length := by
  obtain ⟨n, rfl⟩ : ∃ n : Nat, v = n := ⟨v.toNat, by omega⟩
  have key : ∀ j, j < 5 → unw (n : Int) j = false → 0 < (anL (n : Int) X 5).length := fun j hj h => List.length_pos_of_mem (anL_has (X := X) hj h)
  rcases unw_some ⟨n, by omega⟩ (by simp only; omega) with h | h | h | h | h
  · exact key 0 (by decide) h
  · exact key 1 (by decide) h
  · exact key 2 (by decide) h
  · exact key 3 (by decide) h
  · exact key 4 (by decide) h
/-- The hull of a set that is not empty. -/
theorem fo_an {v : Int} {X : Nat → Rng} (hv : 0 < v ∧ v ≤ 31) (hX : ∀ k, k < 5 → rngOk (X k) = true) : (foF huF (anL v X 5)).1 = (hrK v X 5).2 ∧ (∀ k, k < 5 → unw v k = false → subR (X k) (foF huF (anL v X 5)).1) := by
  have h0 := anL_pos (X := X) hv
  rw [foF_hull' (chk_anL hX) (by omega)]
  refine ⟨((hrK_eq v X 5).2.1 h0).symm, fun k hk hu => ?_⟩
  obtain ⟨j, hj, e⟩ := List.getElem_of_mem (anL_has (X := X) hk hu)
  have := foK_has (anL v X 5) ((anL v X 5).length - 1) (by omega) j (by omega)
  rw [at0_get hj, e] at this
  exact this
theorem fo_one {X : Nat → Rng} (hX : ∀ k, k < 5 → rngOk (X k) = true) {k : Nat} (hk : k < 5) : (foF huF (anL (2 ^ k) X 5)).1 = X k := by
  have hu : ∀ j, j < 5 → unw (2 ^ k) j = decide (j ≠ k) := fun j hj => unw_one ⟨k, hk⟩ ⟨j, hj⟩
  have he : anL (2 ^ k) X 5 = [X k] := by
    simp only [anL, hu 0 (by decide), hu 1 (by decide), hu 2 (by decide), hu 3 (by decide), hu 4 (by decide)]
    rcases k with _ | _ | _ | _ | _ | k
    · rfl
    · rfl
    · rfl
    · rfl
    · rfl
    · omega
  rw [foF_hull' (chk_anL hX) (by rw [he]; simp), he]
  rfl
theorem an_ok {l : List Hst} (hl : OkAll l) {ox : Rng} (ho : spanB ox 0 1000000 = true) {k : Nat} (hk : k < 5) : rngOk (anX l ox k) = true ∧ rngOk (anY l ox k) = true := by
  have ho := spanB_iff.1 ho
  have h1 := tr_in hl (by' := fun _ => 0) (fun _ => Int.le_refl _) hk (x := ox.lo) (by omega) l.length (Nat.le_refl _)
  have h2 := tr_in hl (by' := fun _ => 0) (fun _ => Int.le_refl _) hk (x := ox.hi) (by omega) l.length (Nat.le_refl _)
  have a1 := cu_bd (fun r => mo_ok) hl hk (x := ox.lo) (by omega) l.length (Nat.le_refl _)
  have a2 := cu_bd (fun r => le_ok) hl hk (x := ox.lo) (by omega) l.length (Nat.le_refl _)
  have a3 := cu_bd (fun r => mo_ok) hl hk (x := ox.hi) (by omega) l.length (Nat.le_refl _)
  have a4 := cu_bd (fun r => le_ok) hl hk (x := ox.hi) (by omega) l.length (Nat.le_refl _)
  have u1 := cu_up (fun r => le_ok) hl hk (x := ox.lo) (y := ox.hi) ho.1 ho.2.1 ho.2.2 l.length (Nat.le_refl _)
  rw [anX_cu, anY_cu, rngOk_iff, rngOk_iff]
  simp only
  omega
end Go.Proofs.Yteibgenkklpoaaa.Un
