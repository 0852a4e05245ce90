/- Plain laws of what may be sold: second by second is what is asked run by run. No program in sight. -/
import Derived.Test.YtlebefopdnadaaaIg
namespace Go.Proofs.Ytlebefopdnadaaa
open Go.RowKit
theorem max_hi (lo hi t : Int) : (decide (lo ≤ t) && decide (t < max lo hi)) = (decide (lo ≤ t) && decide (t < hi)) := by
  rw [Bool.eq_iff_iff]
  simp only [Bool.and_eq_true, decide_eq_true_eq]
  omega
theorem bdS_any {f : Nat → Bool} {l : List Rng} {t : Nat} : ∀ k, k ≤ l.length → bdS f l k t = (f t || (l.take k).any (toB t))
  | 0, _ => by simp [bdS]
  | k + 1, hk => by
    have ih := bdS_any (f := f) (l := l) (t := t) k (by omega)
    rw [take_at (show k < l.length by omega), List.any_append, ← Bool.or_assoc, ← ih]
    show spB (bdS f l k) _ _ t = _
    rw [spB, max_hi]
    simp [toB]
theorem hldK_spot {R : Run} (h : VRun R) {t : Int} (ht : 0 ≤ t) : ∀ k, 0 < k → k ≤ R.ss.length → hldK R t k < k ∧ (at0 R.ss (hldK R t k)).t ≤ t ∧ ∀ i, hldK R t k < i → i < k → t < (at0 R.ss i).t
  | 0, h0, _ => by omega
  | k + 1, _, hk => by
    rw [hldK]
    by_cases hq : (at0 R.ss k).t ≤ t
    · rw [if_pos hq]
      exact ⟨by omega, hq, fun i h1 h2 => by omega⟩
    · rw [if_neg hq]
      rcases Nat.eq_zero_or_pos k with k0 | k0
      · subst k0
        rw [h.first] at hq
        omega
      · obtain ⟨i1, i2, i3⟩ := hldK_spot h ht k k0 (by omega)
        refine ⟨by omega, i2, fun i h1 h2 => ?_⟩
        rcases Nat.lt_or_ge i k with hl | hl
        · exact i3 i h1 hl
        · obtain rfl : i = k := by omega
          omega
theorem hld_in {R : Run} (h : VRun R) {t : Int} (ht : 0 ≤ t) (hte : t < R.e) : hldK R t R.ss.length < R.ss.length ∧ (at0 R.ss (hldK R t R.ss.length)).t ≤ t ∧ t < untS R (hldK R t R.ss.length) := by
  obtain ⟨i1, i2, i3⟩ := hldK_spot h ht R.ss.length h.n1 (Nat.le_refl _)
  refine ⟨i1, i2, ?_⟩
  unfold untS
  split
  · rename_i h1; exact i3 _ (by omega) h1
  · exact hte
theorem bdP_iff {R : Run} (h : VRun R) {t : Nat} : ∀ k, k ≤ R.ss.length → (bdP R k t = true ↔ ∃ i, i < k ∧ (at0 R.ss i).ph ≠ 4 ∧ (at0 R.ss i).t ≤ (t : Int) ∧ (t : Int) < untS R i)
  | 0, _ => by simp [bdP]
  | k + 1, hk => by
    have ih := bdP_iff h (t := t) k (by omega)
    by_cases hp : (at0 R.ss k).ph = 4
    · rw [bdP_same hp, ih]
      constructor
      · rintro ⟨i, h1, h2⟩; exact ⟨i, by omega, h2⟩
      · rintro ⟨i, h1, h2, h3⟩
        refine ⟨i, ?_, h2, h3⟩
        rcases Nat.lt_or_ge i k with hl | hl
        · exact hl
        · obtain rfl : i = k := by omega
          exact absurd hp h2
    · have hu := unt_lt h (k := k) (by omega)
      rw [bdP_succ hp, spB, max_hi, Bool.or_eq_true, ih, Bool.and_eq_true, decide_eq_true_eq, decide_eq_true_eq]
      constructor
      · rintro (⟨i, h1, h2⟩ | ⟨h1, h2⟩)
        · exact ⟨i, by omega, h2⟩
        · exact ⟨k, by omega, hp, h1, h2⟩
      · rintro ⟨i, h1, h2, h3, h4⟩
        rcases Nat.lt_or_ge i k with hl | hl
        · exact Or.inl ⟨i, hl, h2, h3, h4⟩
        · obtain rfl : i = k := by omega
          exact Or.inr ⟨h3, h4⟩
theorem bdP_hold {R : Run} (h : VRun R) {t : Nat} (hte : (t : Int) < R.e) : bdP R R.ss.length t = !((at0 R.ss (hldK R t R.ss.length)).ph == 4) := by
  obtain ⟨j1, j2, j3⟩ := hld_in h (t := t) (by omega) hte
  generalize hldK R (t : Int) R.ss.length = j at *
  rw [Bool.eq_iff_iff, bdP_iff h _ (Nat.le_refl _)]
  simp only [Bool.not_eq_true', beq_eq_false_iff_ne]
  constructor
  · rintro ⟨i, h1, h2, h3, h4⟩
    rcases Nat.lt_trichotomy i j with hl | hl | hl
    · have := unt_le h hl j1
      omega
    · subst hl; exact h2
    · have := unt_le h hl h1
      omega
  · intro hp
    exact ⟨j, j1, hp, j2, j3⟩
/-- Is a second sold, as the reference asks. -/
theorem sell_ref {p : Vec} {R : Run} (h : VRun R) {t : Nat} (hte : (t : Int) < R.e) : sellF p R t = (((at0 R.ss (hldK R t R.ss.length)).ph == 4) && !(strs R 2 3).any (toB t) && !(strs R 4 5).any (toB t) && goodB p R t) := by
  have h1 : badF R t = (!((at0 R.ss (hldK R t R.ss.length)).ph == 4) || ((strs R 2 3).any (toB t) || (strs R 4 5).any (toB t))) := by
    rw [badF, bdS_any _ (Nat.le_refl _), List.take_length, bdP_hold h hte]
    unfold outL
    rw [List.any_append]
  rw [sellF, h1]
  cases ((at0 R.ss (hldK R t R.ss.length)).ph == 4) <;> cases (strs R 2 3).any (toB t) <;> cases (strs R 4 5).any (toB t) <;> rfl
/-- Runs, from a second at which none is open. -/
theorem rnK_run {f : Nat → Bool} {a : Nat} (h0 : (rnK f a).2 = false) : ∀ d, (∀ i, a ≤ i → i < a + d → f i = true) → rnK f (a + d) = if d = 0 then ((rnK f a).1, false) else ((rnK f a).1 ++ [⟨a, (a : Int) + d - 1⟩], true)
  | 0, _ => by
    rw [if_pos rfl]
    show rnK f a = _
    rw [← h0]
  | d + 1, hd => by
    have ih := rnK_run h0 d (fun i h1 h2 => hd i h1 (by omega))
    rw [if_neg (by omega)]
    show rnStep (f (a + d)) (a + d) (rnK f (a + d)) = _
    rw [ih, hd (a + d) (by omega) (by omega)]
    by_cases hz : d = 0
    · subst hz
      simp [rnStep]
    · rw [if_neg hz]
      simp [rnStep]
      omega
theorem soldK_app (p : Vec) (R : Run) (l : List Rng) (s : Rng) : soldK p R (l ++ [s]) = soldK p R l ++ (if (soldR p R s).lo < (soldR p R s).hi then [soldR p R s] else []) := by
  rw [soldK, List.filterMap_append]
  show soldK p R l ++ _ = _
  congr 1
  by_cases h : (soldR p R s).lo < (soldR p R s).hi <;> simp [h]
/-- What is sold up to m, if all from a to m may be. -/
theorem soldK_run {p : Vec} {R : Run} {f : Nat → Bool} {a m : Nat} (h0 : (rnK f a).2 = false) (ham : a ≤ m) (hd : ∀ i, a ≤ i → i < m → f i = true) :
    soldK p R (rnK f m).1 = soldK p R (rnK f a).1 ++ (if a < m ∧ placeR R a < min (placeR R m) (mostF p R) then [⟨placeR R a, min (placeR R m) (mostF p R)⟩] else []) := by
  have := rnK_run h0 (m - a) (fun i h1 h2 => hd i h1 (by omega))
  rw [show a + (m - a) = m by omega] at this
  by_cases hz : m - a = 0
  · rw [this, if_pos hz, if_neg (by omega)]
    simp
  · rw [this, if_neg hz]
    simp only
    rw [soldK_app]
    have e : soldR p R ⟨a, (a : Int) + (m - a : Nat) - 1⟩ = ⟨placeR R a, min (placeR R m) (mostF p R)⟩ := by
      unfold soldR
      simp only
      rw [show (a : Int) + ((m - a : Nat) : Int) - 1 + 1 = (m : Int) by omega]
    rw [e]
    simp only
    by_cases hl : placeR R a < min (placeR R m) (mostF p R)
    · rw [if_pos hl, if_pos ⟨by omega, hl⟩]
    · rw [if_neg hl, if_neg (fun h => hl h.2)]
theorem rnK_no {f : Nat → Bool} {m : Nat} (h : f m = false) : rnK f (m + 1) = ((rnK f m).1, false) := by
  show rnStep (f m) m (rnK f m) = _
  rw [h]; rfl
end Go.Proofs.Ytlebefopdnadaaa
