/- The contracts of start, pick and walk of package melt. -/
import Derived.Test.YtfifdfagikbahaaDoorMd
namespace Go.Proofs.YtfifdfagikbahaaDoor
open Go.RowKit
/-- A way to choose. -/
structure Crs where
  added : Bool
  frozen : Bool
  gone : Bool
abbrev crsArr (c : Crs) : Array Value := #[.bool c.added, .bool c.frozen, .bool c.gone]
def stF (c : Crs) (lo hi : Int) : Int := if c.added then hi else lo
theorem start_any (c : Crs) (r : Rng) (w : World) : Calls Tryd.prog 69 #[.agg (crsArr c), .agg #[I r.lo, I r.hi]] w fun e w' => e = .returned (I (stF c r.lo r.hi)) ∧ Below w.heap.size w w' := by
  obtain ⟨a, f, g⟩ := c
  have hB : Hid (Below w.heap.size w ((w.alloc (.cells #[.bool a, .bool f, .bool g] 132)).alloc (.cells #[I r.lo, I r.hi] 23))) := ((Below.refl _ _).alloc (Nat.le_refl _) _).alloc (by simp) _
  rcases a with _ | _
  · go_enter Tryd.func69, Tryd.ntmps69
    go_wp2_with fail
    go_ret
    exact ⟨rfl, hB.out⟩
  · go_enter Tryd.func69, Tryd.ntmps69
    go_wp2_with fail
    go_ret
    exact ⟨rfl, hB.out⟩
/-- What a course chooses at a step of a kind. -/
def pkF (c : Crs) (kd lo hi : Int) : Int := if (if kd = 1 then c.frozen else if kd = 4 then c.gone else c.added) then hi else lo
theorem pick_any (c : Crs) (A : Option Addr) (n d : Nat) (w : World) : Calls Tryd.prog 70 #[.agg (crsArr c), .slice A n d] w fun e w' => e = .returned (.func (.func 90) #[] #[.pointer (some ⟨w.heap.size, 0, none⟩), .pointer (some ⟨w.heap.size + 1, 0, none⟩)]) ∧
    w' = (w.alloc (.cells (crsArr c) 132)).alloc (.cells #[.slice A n d] 28) := by
  go_enter Tryd.func70, Tryd.ntmps70
  go_wp2
  go_ret
  exact ⟨rfl, rfl⟩
/-- The closure of a course's choices: its course, its steps. -/
structure PkIn (W : World) (c : Crs) (A : Option Addr) (d : Nat) (l : List Stp) (B qc qs : Nat) : Prop where
  c0 : W.cell? ⟨qc, 0, none⟩ = some (.bool c.added)
  c1 : W.cell? ⟨qc, 1, none⟩ = some (.bool c.frozen)
  c2 : W.cell? ⟨qc, 2, none⟩ = some (.bool c.gone)
  s : W.cell? ⟨qs, 0, none⟩ = some (.slice A l.length d)
  r : Rd W B 8 A l.length (rT l)
  lt : B ≤ W.heap.size
set_option maxHeartbeats 1000000 in
theorem pick1_any (c : Crs) (A : Option Addr) (d : Nat) (l : List Stp) (B qc qs k : Nat) (lo hi : Int) (w : World) (h : PkIn w c A d l B qc qs) (hk : k < l.length) :
    Calls Tryd.prog 90 #[I k, I lo, I hi, .pointer (some ⟨qc, 0, none⟩), .pointer (some ⟨qs, 0, none⟩)] w fun e w' => e = .returned (I (pkF c (at0 l k).kd lo hi)) ∧ Below w.heap.size w w' := by
  obtain ⟨b, o, rfl, _, x0, _, _, _, _, _, _, _⟩ := h.r.stp hk
  have y0 := h.c0
  have y1 := h.c1
  have y2 := h.c2
  have y3 := h.s
  have k1 : decide ((k : Int) < (l.length : Int)) = true := decide_eq_true (by omega)
  have k2 : decide (k < l.length) = true := decide_eq_true hk
  have k3 : decide (0 ≤ (k : Int)) = true := decide_eq_true (by omega)
  generalize at0 l k = x at *
  obtain ⟨a, f, g⟩ := c
  simp only at y0 y1 y2
  obtain ⟨r, hr⟩ : ∃ r, pkF ⟨a, f, g⟩ x.kd lo hi = r := ⟨_, rfl⟩
  simp only [hr]
  have Hf : Hid (r = if (if x.kd = 1 then f else if x.kd = 4 then g else a) then hi else lo) := hr.symm
  clear h hr
  by_cases h1 : x.kd = 1
  · have e1 : (x.kd == 1) = true := by simpa using h1
    rcases f with _ | _
    all_goals
      have Hz := Hf.out
      rw [if_pos h1] at Hz
      have Hz := Lib.hid Hz
      go_enter Tryd.func90, Tryd.ntmps90
      go_wp2_with fail
      go_ret
      exact ⟨by first | rfl | (rw [Hz.out]; rfl), Below.refl _ _⟩
  · have e1 : (x.kd == 1) = false := by simpa using h1
    by_cases h4 : x.kd = 4
    · have e4 : (x.kd == 4) = true := by simpa using h4
      rcases g with _ | _
      all_goals
        have Hz := Hf.out
        rw [if_neg h1, if_pos h4] at Hz
        have Hz := Lib.hid Hz
        go_enter Tryd.func90, Tryd.ntmps90
        go_wp2_with fail
        go_ret
        exact ⟨by first | rfl | (rw [Hz.out]; rfl), Below.refl _ _⟩
    · have e4 : (x.kd == 4) = false := by simpa using h4
      rcases a with _ | _
      all_goals
        have Hz := Hf.out
        rw [if_neg h1, if_neg h4] at Hz
        have Hz := Lib.hid Hz
        go_enter Tryd.func90, Tryd.ntmps90
        go_wp2_with fail
        go_ret
        exact ⟨by first | rfl | (rw [Hz.out]; rfl), Below.refl _ _⟩
/-- A lane: a melt, its steps, a species. -/
abbrev lnArr (m : Mlt) (A : Option Addr) (n d s : Nat) : Array Value := #[I m.ms, I (m.ct 0), I (m.ct 1), I (m.ct 2), I (m.ct 3), I (m.ct 4), I (m.ct 5), .slice A n d, I s]
theorem walk_any (m : Mlt) (A : Option Addr) (n d s : Nat) (st : Int) (f : Value) (hf : ∃ fn a b, f = .func fn a b) (w : World) : Calls Tryd.prog 59 #[.agg (lnArr m A n d s), I st, f] w fun e w' =>
    e = .returned (.func (.func 82) #[] #[.pointer (some ⟨w.heap.size + 1, 0, none⟩), .pointer (some ⟨w.heap.size, 0, none⟩), .pointer (some ⟨w.heap.size + 2, 0, none⟩)]) ∧
    w' = ((w.alloc (.cells (lnArr m A n d s) 100)).alloc (.cells #[I st] 3)).alloc (.cells #[f] 134) := by
  obtain ⟨fn, a, b, rfl⟩ := hf
  go_enter Tryd.func59, Tryd.ntmps59
  go_wp2
  go_ret
  exact ⟨rfl, rfl⟩
end Go.Proofs.YtfifdfagikbahaaDoor
