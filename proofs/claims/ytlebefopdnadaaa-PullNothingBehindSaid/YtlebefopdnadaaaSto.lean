/- Plain laws of when a run is stopped: the first long stretch without power is the one that counts. -/
import Derived.Test.YtlebefopdnadaaaFs
namespace Go.Proofs.Ytlebefopdnadaaa
open Go.RowKit
theorem et_mono {R : Run} (h : VRun R) {j : Nat} : ∀ {k : Nat}, j ≤ k → k < R.es.length → (at0 R.es j).t ≤ (at0 R.es k).t
  | 0, hj, _ => by obtain rfl : j = 0 := by omega
                   exact Int.le_refl _
  | k + 1, hj, hk => by
    rcases Nat.lt_or_ge k j with hl | hl
    · obtain rfl : j = k + 1 := by omega
      exact Int.le_refl _
    · have h1 := et_mono h hl (show k < R.es.length by omega)
      have h2 := h.eup k hk
      omega
/-- The stretches lie in order. -/
theorem strK_sorted {R : Run} (h : VRun R) (o s : Int) : ∀ k, k ≤ R.es.length → (strK R o s k).1.Pairwise (fun a b => a.lo ≤ b.lo) ∧ (∀ r ∈ (strK R o s k).1, ∀ j, k ≤ j → j < R.es.length → r.lo ≤ (at0 R.es j).t) ∧
    (∀ j, k ≤ j → j < R.es.length → (strK R o s k).2 ≤ (at0 R.es j).t) ∧ (0 ≤ (strK R o s k).2 → ∀ r ∈ (strK R o s k).1, r.lo ≤ (strK R o s k).2)
  | 0, _ => by
    refine ⟨by simp [strK], by simp [strK], fun j _ hj => ?_, by simp [strK]⟩
    have := (h.et j hj).1
    simp only [strK]; omega
  | k + 1, hk => by
    obtain ⟨i1, i2, i3, i4⟩ := strK_sorted h o s k (by omega)
    have hkk : k < R.es.length := by omega
    have ht := (h.et k hkk).1
    simp only [strK, strStep]
    split
    · exact ⟨i1, fun r hr j hj hjl => i2 r hr j (by omega) hjl, fun j hj hjl => et_mono h (by omega) hjl, fun _ r hr => i2 r hr k (Nat.le_refl _) hkk⟩
    · split
      · rename_i hc
        refine ⟨?_, ?_, fun j _ hjl => ?_, fun hq => by have hq2 : (0 : Int) ≤ -1 := hq; omega⟩
        · refine List.pairwise_append.2 ⟨i1, List.pairwise_singleton _ _, fun a ha b hb => ?_⟩
          obtain rfl := List.mem_singleton.1 hb
          exact i4 hc.2 a ha
        · intro r hr j hj hjl
          rcases List.mem_append.1 hr with hr | hr
          · exact i2 r hr j (by omega) hjl
          · obtain rfl := List.mem_singleton.1 hr
            exact i3 j (by omega) hjl
        · have := (h.et j hjl).1
          show (-1 : Int) ≤ _
          omega
      · exact ⟨i1, fun r hr j hj hjl => i2 r hr j (by omega) hjl, fun j hj hjl => i3 j (by omega) hjl, i4⟩
theorem strs_sorted {R : Run} (h : VRun R) (o s : Int) : (strs R o s).Pairwise (fun a b => a.lo ≤ b.lo) := by
  obtain ⟨i1, _, _, i4⟩ := strK_sorted h o s R.es.length (Nat.le_refl _)
  unfold strs
  split
  · rename_i hq
    refine List.pairwise_append.2 ⟨i1, List.pairwise_singleton _ _, fun a ha b hb => ?_⟩
    obtain rfl := List.mem_singleton.1 hb
    exact i4 hq a ha
  · exact i1
/-- The stop as it is found stretch by stretch. -/
def stpK (l : List Rng) (hold : Int) (q0 : Int × Int) : Nat → Int × Int
  | 0 => q0 | k + 1 => if (at0 l k).lo + hold < (at0 l k).hi ∧ ((stpK l hold q0 k).1 < 0 ∨ (at0 l k).lo + hold < (stpK l hold q0 k).1) then ((at0 l k).lo + hold, 4) else stpK l hold q0 k
theorem stpK_none {l : List Rng} {hold : Int} {q0 : Int × Int} : ∀ k, k ≤ l.length → (∀ j, j < k → longB hold (at0 l j) = false) → stpK l hold q0 k = q0
  | 0, _, _ => rfl
  | k + 1, hk, hj => by
    have h1 := hj k (by omega)
    unfold longB at h1
    rw [decide_eq_false_iff_not] at h1
    have hn : ¬ ((at0 l k).lo + hold < (at0 l k).hi ∧ ((stpK l hold q0 k).1 < 0 ∨ (at0 l k).lo + hold < (stpK l hold q0 k).1)) := fun hc => by omega
    rw [stpK, if_neg hn]
    exact stpK_none k (by omega) fun j hjk => hj j (by omega)
theorem stpK_some {l : List Rng} {hold : Int} {q0 : Int × Int} (hs : ∀ i j, i ≤ j → j < l.length → (at0 l i).lo ≤ (at0 l j).lo) (h0 : ∀ j, j < l.length → 0 ≤ (at0 l j).lo) (hh : 0 ≤ hold) {i : Nat} (hi : i < l.length) (hl : longB hold (at0 l i) = true) (hb : ∀ j, j < i → longB hold (at0 l j) = false) :
    ∀ m, i + 1 + m ≤ l.length → stpK l hold q0 (i + 1 + m) = if q0.1 < 0 ∨ (at0 l i).lo + hold < q0.1 then ((at0 l i).lo + hold, 4) else q0
  | 0, _ => by
    unfold longB at hl
    rw [decide_eq_true_eq] at hl
    rw [Nat.add_zero, stpK, stpK_none i (by omega) hb]
    by_cases hc : q0.1 < 0 ∨ (at0 l i).lo + hold < q0.1
    · rw [if_pos ⟨by omega, hc⟩, if_pos hc]
    · rw [if_neg (fun e => hc e.2), if_neg hc]
  | m + 1, hm => by
    have ih := stpK_some (q0 := q0) hs h0 hh hi hl hb m (by omega)
    have h1 := hs i (i + 1 + m) (by omega) (by omega)
    have h2 := h0 i hi
    rw [show i + 1 + (m + 1) = (i + 1 + m) + 1 by omega, stpK, ih]
    split
    · rename_i hc
      rw [if_neg]
      rintro ⟨_, e | e⟩
      · have e' : (at0 l i).lo + hold < 0 := e
        omega
      · have e' : (at0 l (i + 1 + m)).lo + hold < (at0 l i).lo + hold := e
        omega
    · rename_i hc
      rw [if_neg]
      rintro ⟨_, e | e⟩
      · exact hc (Or.inl e)
      · exact hc (Or.inr (by omega))
theorem sorted_at {l : List Rng} (h : l.Pairwise (fun a b => a.lo ≤ b.lo)) : ∀ i j, i ≤ j → j < l.length → (at0 l i).lo ≤ (at0 l j).lo := fun i j hij hj => by
  rcases Nat.lt_or_ge i j with hl | hl
  · rw [at0_get (show i < l.length by omega), at0_get hj]
    exact List.pairwise_iff_getElem.1 h i j (by omega) hj hl
  · obtain rfl : i = j := by omega
    exact Int.le_refl _
/-- The first loss of structure. -/
def stL : List Evt → Int × Int
  | [] => (-1, 0) | x :: r => if lostB x then (x.t, 1) else stL r
theorem stL_ix : ∀ xs : List Evt, stL xs = if 0 ≤ ixOf lostB xs then ((at0 xs (ixOf lostB xs).toNat).t, 1) else (-1, 0)
  | [] => rfl
  | x :: r => by
    have ih := stL_ix r
    simp only [stL, ixOf]
    cases hq : lostB x with
    | true => simp [at0]
    | false =>
      simp only [Bool.false_eq_true, if_false]
      rw [ih]
      by_cases hx : ixOf lostB r < 0
      · rw [if_pos hx, if_neg (by omega), if_neg (by omega)]
      · rw [if_neg hx, if_pos (by omega), if_pos (by omega), show (ixOf lostB r + 1).toNat = (ixOf lostB r).toNat + 1 by omega]
        rfl
theorem stL_stop0 (R : Run) : stL R.es = stop0 R := stL_ix _
theorem stL_drop {xs : List Evt} {m : Nat} (hm : m < xs.length) : stL (xs.drop m) = if lostB (at0 xs m) then ((at0 xs m).t, 1) else stL (xs.drop (m + 1)) := by
  rw [List.drop_eq_getElem_cons hm, at0_get hm]; rfl
end Go.Proofs.Ytlebefopdnadaaa
