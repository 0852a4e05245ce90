/- The plain law of FinishLeft. -/
import Derived.Test.YtljjpidigckheaaRmp
import Derived.Test.YtljjpidigckheaaPlc
namespace Go.Proofs.Ytljjpidigckheaa.Un
open Go.RowKit
/-- What all sites truly have in common after k steps. -/
def lfC (c : Int) (l : List Rmv) (am : List Int) : Nat → Int
  | 0 => c | k + 1 => lfC c l am k - plc (at0 l k).a (at0 am k)
/-- By what the k-th step is brought into its Spread at site i. -/
def lfB (ns : Nat) (SP : Nat → Nat → Int) (k i : Nat) : Int := if k < ns then (SP k (i % 4) + (i : Int)) % 65536 else 0
/-- The true height of site i after k steps. -/
def lfZ (x : Sht) (hs : List Int) (l : List Rmv) (ns : Nat) (SP : Nat → Nat → Int) : Nat → Nat → Int
  | 0, i => plc (at0 x.s i) (at0 hs i) | k + 1, i => lfZ x hs l ns SP k i - plc ⟨-(at0 l k).s, (at0 l k).s⟩ (lfB ns SP k i)
theorem lfC_in {x : Sht} {l : List Rmv} (h : rmEr x l = 0) {am : List Int} {c : Int} (hc : x.c.lo ≤ c ∧ c ≤ x.c.hi) : ∀ k, k ≤ l.length → (rmC x.c l k).lo ≤ lfC c l am k ∧ lfC c l am k ≤ (rmC x.c l k).hi
  | 0, _ => hc
  | k + 1, hk => by
    have ih := lfC_in h hc (am := am) k (by omega)
    obtain ⟨_, _, h3, _⟩ := rmB_no.1 ((rm_ok h).2.2.1 k (by omega))
    have hp := plc_in (r := (at0 l k).a) (b := at0 am k) (by omega)
    have e1 : (rmC x.c l (k + 1)).lo = (rmC x.c l k).lo - (at0 l k).a.hi := rfl
    have e2 : (rmC x.c l (k + 1)).hi = (rmC x.c l k).hi - (at0 l k).a.lo := rfl
    have e3 : lfC c l am (k + 1) = lfC c l am k - plc (at0 l k).a (at0 am k) := rfl
    omega
theorem lfZ_in {x : Sht} {l : List Rmv} (h : rmEr x l = 0) {hs : List Int} {ns : Nat} {SP : Nat → Nat → Int} {i : Nat} (hi : i < x.s.length) : ∀ k, k ≤ l.length → (at0 x.s i).lo - rmSp l k ≤ lfZ x hs l ns SP k i ∧ lfZ x hs l ns SP k i ≤ (at0 x.s i).hi + rmSp l k
  | 0, _ => by
    have h1 := all9_at (okSh_iff.1 (rm_ok h).1).2.2.2.1 hi
    have hp := plc_in (r := at0 x.s i) (b := at0 hs i) (by omega)
    have e1 : rmSp l 0 = 0 := rfl
    have e2 : lfZ x hs l ns SP 0 i = plc (at0 x.s i) (at0 hs i) := rfl
    omega
  | k + 1, hk => by
    have ih := lfZ_in h hi (hs := hs) (ns := ns) (SP := SP) k (by omega)
    obtain ⟨_, _, _, h4, _⟩ := rmB_no.1 ((rm_ok h).2.2.1 k (by omega))
    have hp := plc_in (r := ⟨-(at0 l k).s, (at0 l k).s⟩) (b := lfB ns SP k i) (by simp only; omega)
    simp only at hp
    have e1 : rmSp l (k + 1) = rmSp l k + (at0 l k).s := rfl
    have e2 : lfZ x hs l ns SP (k + 1) i = lfZ x hs l ns SP k i - plc ⟨-(at0 l k).s, (at0 l k).s⟩ (lfB ns SP k i) := rfl
    omega
/-- The bounds of both. -/
theorem lf_bd {x : Sht} {l : List Rmv} (h : rmEr x l = 0) {am hs : List Int} {ns : Nat} {SP : Nat → Nat → Int} {c : Int} (hc : x.c.lo ≤ c ∧ c ≤ x.c.hi) {k : Nat} (hk : k ≤ l.length) : (0 ≤ lfC c l am k ∧ lfC c l am k ≤ 10000000) ∧ ∀ i, i < x.s.length → -1000000 ≤ lfZ x hs l ns SP k i ∧ lfZ x hs l ns SP k i ≤ 1000000 := by
  obtain ⟨⟨h1, h2, h3⟩, _, h5, h6⟩ := rm_left h k hk
  have hi := lfC_in h hc (am := am) k hk
  refine ⟨by omega, fun i hi => ?_⟩
  have := lfZ_in h hi (hs := hs) (ns := ns) (SP := SP) k hk
  have := (hu9_spec (xs := x.s) (by omega)).1 i hi
  omega
/-- The greatest and the least of the first i numbers. -/
def tpK (z : Nat → Int) : Nat → Int
  | 0 => z 0 | i + 1 => max (tpK z i) (z i)
def btK (z : Nat → Int) : Nat → Int
  | 0 => z 0 | i + 1 => min (btK z i) (z i)
theorem tpK_ge (z : Nat → Int) : ∀ n i, i < n → z i ≤ tpK z n
  | n + 1, i, h => by
    show z i ≤ max (tpK z n) (z n)
    rcases Nat.lt_or_ge i n with h1 | h1
    · have := tpK_ge z n i h1; omega
    · obtain rfl : i = n := by omega
      omega
theorem btK_le (z : Nat → Int) : ∀ n i, i < n → btK z n ≤ z i
  | n + 1, i, h => by
    show min (btK z n) (z n) ≤ z i
    rcases Nat.lt_or_ge i n with h1 | h1
    · have := btK_le z n i h1; omega
    · obtain rfl : i = n := by omega
      omega
theorem tpK_at (z : Nat → Int) : ∀ n, 0 < n → ∃ i, i < n ∧ tpK z n = z i
  | n + 1, _ => by
    show ∃ i, _ ∧ max (tpK z n) (z n) = z i
    rcases Int.le_total (tpK z n) (z n) with h1 | h1
    · exact ⟨n, by omega, by omega⟩
    · rcases Nat.eq_zero_or_pos n with h0 | h0
      · subst h0
        exact ⟨0, by omega, by show max (z 0) (z 0) = z 0; omega⟩
      · obtain ⟨i, hi, e⟩ := tpK_at z n h0
        exact ⟨i, by omega, by omega⟩
theorem btK_at (z : Nat → Int) : ∀ n, 0 < n → ∃ i, i < n ∧ btK z n = z i
  | n + 1, _ => by
    show ∃ i, _ ∧ min (btK z n) (z n) = z i
    rcases Int.le_total (z n) (btK z n) with h1 | h1
    · exact ⟨n, by omega, by omega⟩
    · rcases Nat.eq_zero_or_pos n with h0 | h0
      · subst h0
        exact ⟨0, by omega, by show min (z 0) (z 0) = z 0; omega⟩
      · obtain ⟨i, hi, e⟩ := btK_at z n h0
        exact ⟨i, by omega, by omega⟩
/-- The true variation is in what Variation says. -/
theorem va_true {y : Sht} (h : okSh y = true) {z : Nat → Int} (hz : ∀ i, i < y.s.length → (at0 y.s i).lo ≤ z i ∧ z i ≤ (at0 y.s i).hi) : (va9 y).lo ≤ tpK z y.s.length - btK z y.s.length ∧ tpK z y.s.length - btK z y.s.length ≤ (va9 y).hi := by
  have t := va_t h
  have hl := sh_len h
  obtain ⟨a, ha, ea⟩ := tpK_at z y.s.length (by omega)
  obtain ⟨b, hb, eb⟩ := btK_at z y.s.length (by omega)
  have za := hz a ha
  have zb := hz b hb
  constructor
  · rcases t.wlo with h1 | ⟨i, k, h1, h2, h3, h4⟩
    · have := tpK_ge z y.s.length 0 (by omega)
      have := btK_le z y.s.length 0 (by omega)
      omega
    · have := hz i h1
      have := hz k h2
      have := tpK_ge z y.s.length i h1
      have := btK_le z y.s.length k h2
      omega
  · by_cases hab : a = b
    · subst hab
      have e1 := t.hi 0 1 (by omega) (by omega) (by decide)
      have e2 := t.hi 1 0 (by omega) (by omega) (by decide)
      have := hz 0 (by omega)
      have := hz 1 (by omega)
      omega
    · have := t.hi a b ha hb hab
      omega
theorem th_true {y : Sht} {c z : Int} {i : Nat} (hi : i < y.s.length) (hc : y.c.lo ≤ c ∧ c ≤ y.c.hi) (hz : (at0 y.s i).lo ≤ z ∧ z ≤ (at0 y.s i).hi) : (th9 y).lo ≤ c + z ∧ c + z ≤ (th9 y).hi := by
  have := (hu9_spec (xs := y.s) (by omega)).1 i hi
  unfold th9
  simp only
  omega
/-- A row of integers under way. -/
def Row1 (g : Nat) (t : TypeId) (n : Nat) (f : Nat → Int) (V : World) : Prop := ∃ cur, V.heap[g]? = some (.cells cur t (0, 0)) ∧ ∀ k, k < n → cur[k]? = some (I (f k))
theorem Row1.below {g n : Nat} {t : TypeId} {f : Nat → Int} {V U : World} (h : Row1 g t n f V) (hb : Below V.heap.size V U) : Row1 g t n f U := by
  obtain ⟨cur, hr, hc⟩ := h
  exact ⟨cur, (hb.block g (lt_of_row hr)).trans hr, hc⟩
theorem Row1.cell {g n : Nat} {t : TypeId} {f : Nat → Int} {V : World} (h : Row1 g t n f V) {k : Nat} (hk : k < n) : V.cell? ⟨g, k, none⟩ = some (I (f k)) := by
  obtain ⟨cur, hr, hc⟩ := h
  exact (cell_of_row _ _ _ _ _ _ hr).trans (hc k hk)
theorem Row1.frozen {g n : Nat} {t : TypeId} {f : Nat → Int} {V : World} (h : Row1 g t n f V) (o : Nat) : V.frozen? ⟨g, o, none⟩ = false := by
  obtain ⟨cur, hr, _⟩ := h
  exact frozen_of_row _ _ _ _ _ hr
theorem Row1.set {g n i : Nat} {t : TypeId} {f f' : Nat → Int} {V : World} (h : Row1 g t n f V) (hi : i < n) (hf : ∀ k, k < n → k ≠ i → f' k = f k) : Row1 g t n f' (V.setCell ⟨g, i, none⟩ (I (f' i))) := by
  obtain ⟨cur, hr, hc⟩ := h
  refine ⟨_, rs hr i (I (f' i)), fun k hk => ?_⟩
  by_cases hki : k = i
  · subst hki
    rw [Array.getElem?_setIfInBounds_self_of_lt (Array.getElem?_eq_some_iff.1 (hc k hk)).1]
  · rw [Array.getElem?_setIfInBounds_ne (fun e => hki e.symm), hc k hk, hf k hk hki]
theorem Row1.ne {g n b : Nat} {t t' : TypeId} {f : Nat → Int} {V : World} {cs : Array Value} {fr : Nat × Nat} (h : Row1 g t n f V) (hb : V.heap[b]? = some (.cells cs t' fr)) (ht : t' ≠ t) : b ≠ g := by
  rintro rfl
  obtain ⟨cur, hr, _⟩ := h
  rw [hr] at hb
  injection hb with hb
  injection hb with _ e
  exact ht e.symm
end Go.Proofs.Ytljjpidigckheaa.Un
