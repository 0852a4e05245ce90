/- Plain law of the reference's window: between two rates at which an answer can change, none does. -/
import Derived.Test.YteibgenkklpoaaaDw1
import Derived.Test.YteibgenkklpoaaaU5
namespace Go.Proofs.Yteibgenkklpoaaa.Un
open Go.RowKit
def nxA (m : Mdl) (z : Rng) (k : Nat) : Int := ((m.b k).lo * z.lo).tdiv m.sc + 1
def nxB (m : Mdl) (z : Rng) (k : Nat) : Int := ((m.b k).hi * z.hi).tdiv m.sc + 1
def nxS (m : Mdl) (z : Rng) (v : Int) (n : Int) (k : Nat) : Int :=
  if v < nxB m z k then min (if v < nxA m z k then min n (nxA m z k) else n) (nxB m z k) else (if v < nxA m z k then min n (nxA m z k) else n)
def nxK (m : Mdl) (z : Rng) (v n : Int) : Nat → Int
  | 0 => n
  | k + 1 => nxS m z v (nxK m z v n k) k
def nxL (m : Mdl) (zs : List Rng) (v : Int) : Nat → Int
  | 0 => 1000001
  | i + 1 => nxK m (at0 zs i) v (nxL m zs v i) 4
theorem nxS_le (m : Mdl) (z : Rng) (v n : Int) (k : Nat) : nxS m z v n k ≤ n ∧ (v < n → v < nxS m z v n k) ∧ (v < nxA m z k → nxS m z v n k ≤ nxA m z k) ∧ (v < nxB m z k → nxS m z v n k ≤ nxB m z k) := by
  unfold nxS
  split <;> split <;> omega
theorem nxK_le (m : Mdl) (z : Rng) (v n : Int) : ∀ k, nxK m z v n k ≤ n ∧ (v < n → v < nxK m z v n k) ∧ ∀ j, j < k → (v < nxA m z j → nxK m z v n k ≤ nxA m z j) ∧ (v < nxB m z j → nxK m z v n k ≤ nxB m z j)
  | 0 => ⟨Int.le_refl _, id, fun j hj => absurd hj (Nat.not_lt_zero _)⟩
  | k + 1 => by
    obtain ⟨h1, h2, h3⟩ := nxK_le m z v n k
    obtain ⟨g1, g2, g3, g4⟩ := nxS_le m z v (nxK m z v n k) k
    refine ⟨Int.le_trans g1 h1, fun h => g2 (h2 h), fun j hj => ?_⟩
    by_cases hjk : j = k
    · subst hjk; exact ⟨g3, g4⟩
    · have := h3 j (by omega)
      exact ⟨fun h => Int.le_trans g1 (this.1 h), fun h => Int.le_trans g1 (this.2 h)⟩
theorem nxL_le (m : Mdl) (zs : List Rng) (v : Int) : ∀ i, nxL m zs v i ≤ 1000001 ∧ (v < 1000001 → v < nxL m zs v i) ∧ ∀ i', i' < i → ∀ j, j < 4 → (v < nxA m (at0 zs i') j → nxL m zs v i ≤ nxA m (at0 zs i') j) ∧ (v < nxB m (at0 zs i') j → nxL m zs v i ≤ nxB m (at0 zs i') j)
  | 0 => ⟨Int.le_refl _, id, fun j hj => absurd hj (Nat.not_lt_zero _)⟩
  | i + 1 => by
    obtain ⟨h1, h2, h3⟩ := nxL_le m zs v i
    obtain ⟨g1, g2, g3⟩ := nxK_le m (at0 zs i) v (nxL m zs v i) 4
    refine ⟨Int.le_trans g1 h1, fun h => g2 (h2 h), fun i' hi j hj => ?_⟩
    by_cases hik : i' = i
    · subst hik; exact g3 j hj
    · have := h3 i' (by omega) j hj
      exact ⟨fun h => Int.le_trans g1 (this.1 h), fun h => Int.le_trans g1 (this.2 h)⟩
/-- The rates between which nothing changes: in terms of the two borders. -/
theorem posB_by {m : Mdl} (hm : okMdl m = true) {z : Rng} (hz : spanB z 1 1000000 = true) {k : Nat} (hk : k < 5) {v : Int} (hv : 0 ≤ v ∧ v ≤ 1000000) : posB m ⟨v, v⟩ z k = true ↔ abv m k < upt m k ∧ (k = 0 ∨ nxA m z (k - 1) ≤ v) ∧ (k = 4 ∨ v < nxB m z k) := by
  obtain ⟨hs1, hs2, _⟩ := okMdl_iff.1 hm
  obtain ⟨z1, z2, z3⟩ := spanB_iff.1 hz
  unfold posB
  simp only [Bool.and_eq_true, decide_eq_true_eq]
  have hsc : 0 < m.sc := by omega
  have hvs : 0 ≤ v * m.sc := Int.mul_nonneg hv.1 (by omega)
  have hvs2 : v * m.sc ≤ 1000000 * 1000000 := Int.mul_le_mul hv.2 hs2 (by omega) (by decide)
  have e1 : (abv m k * z.lo < v * m.sc) ↔ (k = 0 ∨ nxA m z (k - 1) ≤ v) := by
    unfold abv nxA
    by_cases h0 : k = 0
    · rw [if_pos h0]
      simp only [h0, true_or, iff_true]
      omega
    · rw [if_neg h0]
      have hb := bdM_bd hm (show k - 1 < 4 by omega)
      rw [Int.tdiv_eq_ediv_of_nonneg (Int.mul_nonneg hb.1 (by omega)), ← Int.ediv_lt_iff_lt_mul hsc]
      omega
  have e2 : (v * m.sc ≤ upt m k * z.hi) ↔ (k = 4 ∨ v < nxB m z k) := by
    unfold upt nxB
    by_cases h4 : k = 4
    · subst h4
      simp only [true_or, iff_true, show ¬ (4 < 4) from by decide, if_false]
      omega
    · rw [if_pos (show k < 4 by omega)]
      have hb := bdM_bd hm (show k < 4 by omega)
      rw [Int.tdiv_eq_ediv_of_nonneg (Int.mul_nonneg (by omega) (by omega)), ← Int.le_ediv_iff_mul_le hsc]
      omega
  rw [e1, e2]
theorem same_until {m : Mdl} (hm : okMdl m = true) {w : Int} {zs : List Rng} (hz : ∀ i, i < zs.length → spanB (at0 zs i) 1 1000000 = true) {v x : Int} (hv : 0 ≤ v ∧ v ≤ 1000000) (hx : v ≤ x ∧ x < nxL m zs v zs.length) : badAt m w zs x ↔ badAt m w zs v := by
  obtain ⟨h1, h2, h3⟩ := nxL_le m zs v zs.length
  have key : ∀ i, i < zs.length → ∀ k, k < 5 → (whyB m w x (at0 zs i) k = true ↔ whyB m w v (at0 zs i) k = true) := fun i hi k hk => by
    unfold whyB
    rw [Bool.and_eq_true, Bool.and_eq_true, posB_by hm (hz i hi) hk (show 0 ≤ x ∧ x ≤ 1000000 by omega), posB_by hm (hz i hi) hk hv]
    have a : (k = 0 ∨ nxA m (at0 zs i) (k - 1) ≤ x) ↔ (k = 0 ∨ nxA m (at0 zs i) (k - 1) ≤ v) := by
      by_cases h0 : k = 0
      · simp [h0]
      · have := (h3 i hi (k - 1) (by omega)).1
        omega
    have b : (k = 4 ∨ x < nxB m (at0 zs i) k) ↔ (k = 4 ∨ v < nxB m (at0 zs i) k) := by
      by_cases h0 : k = 4
      · simp [h0]
      · have := (h3 i hi k (by omega)).2
        omega
    rw [a, b]
  constructor
  · rintro ⟨i, hi, k, hk, h⟩
    exact ⟨i, hi, k, hk, (key i hi k hk).1 h⟩
  · rintro ⟨i, hi, k, hk, h⟩
    exact ⟨i, hi, k, hk, (key i hi k hk).2 h⟩
/-- What holds when all rates below one have been gone through. -/
structure WinUp (bad : Int → Prop) (v : Int) (l : List Rng) : Prop where
  runs : Runs 0 l
  hi : ∀ r, r ∈ l → r.hi < v
  same : ∀ x, 0 ≤ x → x < v → (inL l x ↔ ¬ bad x)
  len : (l.length : Int) ≤ v
theorem winUp_nil (bad : Int → Prop) : WinUp bad 0 [] := ⟨trivial, fun _ h => (by cases h), fun x h0 h1 => absurd h1 (by omega), by decide⟩
theorem WinUp.bad {bad : Int → Prop} {v t : Int} {l : List Rng} (h : WinUp bad v l) (ht : v < t) (hb : ∀ x, v ≤ x → x < t → bad x) : WinUp bad t l := by
  refine ⟨h.runs, fun r hr => by have := h.hi r hr; omega, fun x h0 h1 => ?_, by have := h.len; omega⟩
  by_cases hx : x < v
  · exact h.same x h0 hx
  · constructor
    · rintro ⟨r, hr, q⟩
      have := h.hi r hr
      have := q.2
      omega
    · intro q
      exact absurd (hb x (by omega) h1) q
theorem WinUp.app {bad : Int → Prop} {v t : Int} {l : List Rng} (h : WinUp bad v l) (h0 : 0 ≤ v) (ht : v < t) (hl : ∀ r, r ∈ l → r.hi + 2 ≤ v) (hb : ∀ x, v ≤ x → x < t → ¬ bad x) : WinUp bad t (l ++ [⟨v, t - 1⟩]) := by
  refine ⟨h.runs.snoc h0 hl (by omega), fun r hr => ?_, fun x hx0 h1 => ?_, by have := h.len; simp; omega⟩
  · rcases List.mem_append.1 hr with hr | hr
    · have := h.hi r hr; omega
    · obtain rfl := List.mem_singleton.1 hr
      simp only; omega
  · rw [inL_app, inL_one]
    by_cases hx : x < v
    · rw [← h.same x hx0 hx]
      constructor
      · rintro (q | q)
        · exact q
        · have := q.1
          simp only at this
          omega
      · exact .inl
    · have hn : inR ⟨v, t - 1⟩ x := ⟨by simp only; omega, by simp only; omega⟩
      constructor
      · intro _
        exact hb x (by omega) h1
      · intro _
        exact .inr hn
theorem WinUp.join {bad : Int → Prop} {v t a : Int} {l : List Rng} (h : WinUp bad v (l ++ [⟨a, v - 1⟩])) (ht : v < t) (hb : ∀ x, v ≤ x → x < t → ¬ bad x) : WinUp bad t (l ++ [⟨a, t - 1⟩]) := by
  have hr : ∀ {b : Int} {l : List Rng}, Runs b (l ++ [⟨a, v - 1⟩]) → Runs b (l ++ [⟨a, t - 1⟩]) := by
    intro b l
    induction l generalizing b with
    | nil => exact fun q => ⟨q.1, by have := q.2.1; simp only at this ⊢; omega, trivial⟩
    | cons x l ih => exact fun q => ⟨q.1, q.2.1, ih q.2.2⟩
  refine ⟨hr h.runs, fun r hr => ?_, fun x hx0 h1 => ?_, by have := h.len; simp at this ⊢; omega⟩
  · rcases List.mem_append.1 hr with hr | hr
    · have := h.hi r (List.mem_append_left _ hr); omega
    · obtain rfl := List.mem_singleton.1 hr
      simp only; omega
  · have ha : a ≤ v - 1 := (h.runs.lo ⟨a, v - 1⟩ (List.mem_append_right _ (List.mem_singleton.2 rfl))).2
    rw [inL_app, inL_one]
    by_cases hx : x < v
    · rw [← h.same x hx0 hx, inL_app, inL_one]
      constructor
      · rintro (q | q)
        · exact .inl q
        · exact .inr ⟨q.1, by show x ≤ v - 1; omega⟩
      · rintro (q | q)
        · exact .inl q
        · exact .inr ⟨q.1, by show x ≤ t - 1; omega⟩
    · have hn : inR ⟨a, t - 1⟩ x := ⟨by simp only; omega, by simp only; omega⟩
      constructor
      · intro _
        exact hb x (by omega) h1
      · intro _
        exact .inr hn
theorem runs_last {a b : Int} {x : Rng} : ∀ {l : List Rng}, Runs a (l ++ [x]) → (∀ r, r ∈ l → r.hi + 2 ≤ x.lo)
  | [], _, _, hr => by cases hr
  | y :: l, h, r, hr => by
    rcases List.mem_cons.1 hr with rfl | hr
    · exact (h.2.2.lo x (List.mem_append_right _ (List.mem_singleton.2 rfl))).1
    · exact runs_last (b := b) h.2.2 r hr
/-- The last run ends below a rate, if not right below it. -/
theorem WinUp.far {bad : Int → Prop} {v : Int} {l : List Rng} (h : WinUp bad v l) (hl : 0 < l.length) (hne : (at0 l (l.length - 1)).hi ≠ v - 1) : ∀ r, r ∈ l → r.hi + 2 ≤ v := by
  obtain ⟨p, x, rfl⟩ : ∃ p x, l = p ++ [x] := ⟨l.dropLast, l.getLast (by intro e; rw [e] at hl; exact absurd hl (Nat.lt_irrefl _)), (List.dropLast_concat_getLast _).symm⟩
  have hx : at0 (p ++ [x]) ((p ++ [x]).length - 1) = x := by
    rw [List.length_append, List.length_singleton, Nat.add_sub_cancel]
    exact at0_last p x
  rw [hx] at hne
  have hh := h.hi x (List.mem_append_right _ (List.mem_singleton.2 rfl))
  have hlo := (h.runs.lo x (List.mem_append_right _ (List.mem_singleton.2 rfl))).2
  intro r hr
  rcases List.mem_append.1 hr with hr | hr
  · have := runs_last (b := 0) h.runs r hr
    omega
  · obtain rfl := List.mem_singleton.1 hr
    omega
theorem WinUp.done {bad : Int → Prop} {l : List Rng} (h : WinUp bad 1000001 l) : WinOf bad l := ⟨h.runs, fun r hr => by have := h.hi r hr; omega, fun v h0 h1 => h.same v h0 (by omega)⟩
end Go.Proofs.Yteibgenkklpoaaa.Un
