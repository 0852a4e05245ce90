/- What Steer answers, and what is asked of what it is given. -/
import Derived.Test.YtbojgcaehlapiaaSa
import Derived.Test.YtbojgcaehlapiaaSb
import Derived.Test.YtbojgcaehlapiaaRj
namespace Go.Proofs.Ytbojgcaehlapiaa.Un
open Go.RowKit
/-- What is added to a gauge. -/
def mdN (tw : Int) (g : Rng) : Int := (mdF tw g.lo (2 * g.hi) 3).1
def twF (p : Vec) (x : Rng) : Int := x.lo + x.hi - (p 112 + p 113)
/-- The setting before its limits, with the gauges that were changed. -/
def xSt (s : Stg) (tw : Int) (g h : Rng) (a b : Bool) (k : Nat) : Int := s.v k + (if k = 0 ∧ a = true then mdN tw g else 0) + (if k = 1 ∧ b = true then mdN tw h else 0)
def loS (p : Vec) (s : Stg) (at_ : Int) (k : Nat) : Int := max (s.v k - p (12 + k) * (at_ - s.t)) (p (k * 2))
def hiS (p : Vec) (s : Stg) (at_ : Int) (k : Nat) : Int := min (s.v k + p (12 + k) * (at_ - s.t)) (p (k * 2 + 1))
/-- The next setting. -/
def nxSt (p : Vec) (g h : Rng) (s : Stg) (at_ : Int) (x : Rng) : Stg := ⟨at_, s.ph, fun k => min (max (xSt s (twF p x) g h true true k) (loS p s at_ k)) (hiS p s at_ k)⟩
/-- What is asked of what Steer is given. -/
structure StOk (p : Vec) (s : Stg) (at_ : Int) (x : Rng) : Prop where
  pul : okPuller p = true
  set : okSet s = true
  ph : s.ph = 1
  t : 0 ≤ s.t ∧ s.t < at_ ∧ at_ ≤ 100000
  rng : rangeB 1000000 [x] = true
  bd : ∀ k, k < 6 → p (k * 2) ≤ s.v k ∧ s.v k ≤ p (k * 2 + 1)
theorem one8 {a b c d e f g h : Value} (h1 : a.oneCell' = true) (h2 : b.oneCell' = true) (h3 : c.oneCell' = true) (h4 : d.oneCell' = true) (h5 : e.oneCell' = true) (h6 : f.oneCell' = true) (h7 : g.oneCell' = true) (h8 : h.oneCell' = true) : ∀ v ∈ (#[a, b, c, d, e, f, g, h] : Array Value).toList, v.oneCell' = true := by
  intro v hv
  simp only [List.mem_cons, List.not_mem_nil, or_false] at hv
  rcases hv with rfl | rfl | rfl | rfl | rfl | rfl | rfl | rfl <;> assumption
/-- A setting's eight numbers. -/
def stV (s : Stg) : Vec := fun k => match k with | 0 => s.t | 1 => s.ph | k + 2 => s.v k
theorem st_at (s : Stg) (at_ : Int) : ia 8 (ovw (stV s) 0 1 fun _ => at_) = ia 8 (stV ⟨at_, s.ph, s.v⟩) := ia_congr fun i hi => by
  match i with
  | 0 => rfl
  | i + 1 => unfold ovw; rw [if_neg (by omega)]; cases i <;> rfl
theorem st_v (t ph : Int) (f f' : Nat → Int) (k : Nat) (v : Int) (h : f' k = v) (h' : ∀ j, j ≠ k → f' j = f j) : ia 8 (ovw (stV ⟨t, ph, f⟩) (2 + k) 1 fun _ => v) = ia 8 (stV ⟨t, ph, f'⟩) := ia_congr fun i _ => by
  unfold ovw
  match i with
  | 0 => rw [if_neg (by omega)]; rfl
  | 1 => rw [if_neg (by omega)]; rfl
  | i + 2 =>
    by_cases hi : i = k
    · subst hi; rw [if_pos (by omega)]; exact h.symm
    · rw [if_neg (by omega)]; exact (h' i hi).symm
/-- The map's entries. -/
def gE (g h : Rng) : Array MapEntry := #[⟨I 0, .agg #[I g.lo, I g.hi], 0⟩, ⟨I 1, .agg #[I h.lo, I h.hi], 1⟩]
abbrev gnArr (g h : Rng) : Array Value := #[I g.lo, I g.hi, I h.lo, I h.hi]
def stR (p : Vec) (g h : Rng) (s : Stg) (at_ : Int) (x : Rng) : Value := if badG g || badG h then .tuple #[.agg #[I 0, I 0, I 0, I 0, I 0, I 0, I 0, I 0], I 2] else .tuple #[(nxSt p g h s at_ x).val, I 0]
theorem iter_at {w : World} {r : Nat} {m : Option Nat} {a c : Nat} {seen : Array Nat} (h : w.heap[r]? = some (.mapIter m a seen c)) : w.iterSeen r = seen := by simp [World.iterSeen, h]
theorem mdF_small (a b c how : Int) : -1000000000000000 ≤ (mdF a b c how).1 ∧ (mdF a b c how).1 ≤ 1000000000000000 := by
  unfold mdF
  split
  · simp
  · split
    · simp
    · split
      · rename_i h; exact numB_iff.1 h
      · simp
end Go.Proofs.Ytbojgcaehlapiaa.Un
