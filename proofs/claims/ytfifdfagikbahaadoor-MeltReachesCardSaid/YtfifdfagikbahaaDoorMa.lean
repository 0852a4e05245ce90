/- The contracts of the small functions of package melt: within, isRange, isSpecies, areBounds, isMelt, grown, part, choices. -/
import Derived.Test.YtfifdfagikbahaaDoorMu
namespace Go.Proofs.YtfifdfagikbahaaDoor
open Go.RowKit
def wiB (n a b : Int) : Bool := decide (a ≤ n) && decide (n ≤ b)
theorem within_any (n a b : Int) (w : World) : Calls Tryd.prog 57 #[I n, I a, I b] w fun e w' => e = .returned (.bool (wiB n a b)) ∧ w = w' := by
  unfold wiB
  by_cases h : a ≤ n
  · have h1 : decide (a ≤ n) = true := decide_eq_true h
    clear h
    go_enter Tryd.func57, Tryd.ntmps57
    go_wp2_with fail
    go_ret
    exact ⟨by rw [h1]; simp, rfl⟩
  · have h1 : decide (a ≤ n) = false := decide_eq_false h
    clear h
    go_enter Tryd.func57, Tryd.ntmps57
    go_wp2_with fail
    go_ret
    exact ⟨by rw [h1]; simp, rfl⟩
def rgB (r : Rng) (m : Int) : Bool := decide (0 ≤ r.lo) && decide (r.lo ≤ r.hi) && decide (r.hi ≤ m)
theorem rgB_iff {r : Rng} {m : Int} : rgB r m = true ↔ 0 ≤ r.lo ∧ r.lo ≤ r.hi ∧ r.hi ≤ m := by
  unfold rgB
  rw [Bool.and_eq_true, Bool.and_eq_true, decide_eq_true_eq, decide_eq_true_eq, decide_eq_true_eq]
  exact ⟨fun h => ⟨h.1.1, h.1.2, h.2⟩, fun h => ⟨⟨h.1, h.2.1⟩, h.2.2⟩⟩
theorem isRange_any (r : Rng) (m : Int) (w : World) : Calls Tryd.prog 49 #[.agg #[I r.lo, I r.hi], I m] w fun e w' => e = .returned (.bool (rgB r m)) ∧ Below w.heap.size w w' := by
  have hB : Hid (Below w.heap.size w (w.alloc (.cells #[I r.lo, I r.hi] 23))) := (Below.refl _ _).alloc (Nat.le_refl _) _
  unfold rgB
  by_cases h : 0 ≤ r.lo
  · have h1 : decide (0 ≤ r.lo) = true := decide_eq_true h
    by_cases h' : r.lo ≤ r.hi
    · have h2 : decide (r.lo ≤ r.hi) = true := decide_eq_true h'
      clear h h'
      go_enter Tryd.func49, Tryd.ntmps49
      go_wp2_with fail
      go_ret
      exact ⟨by rw [h1, h2]; simp, hB.out⟩
    · have h2 : decide (r.lo ≤ r.hi) = false := decide_eq_false h'
      clear h h'
      go_enter Tryd.func49, Tryd.ntmps49
      go_wp2_with fail
      go_ret
      exact ⟨by rw [h1, h2]; simp, hB.out⟩
  · have h1 : decide (0 ≤ r.lo) = false := decide_eq_false h
    clear h
    go_enter Tryd.func49, Tryd.ntmps49
    go_wp2_with fail
    go_ret
    exact ⟨by rw [h1]; simp, hB.out⟩
def badM (m : Int) (r : Rng) : Bool := !rgB r m
theorem ab1_any (r : Rng) (m : Int) (b : Nat) (w : World) (hb : b < w.heap.size) (hc : w.cell? ⟨b, 0, none⟩ = some (I m)) :
    Calls Tryd.prog 92 #[.agg #[I r.lo, I r.hi], .pointer (some ⟨b, 0, none⟩)] w fun e w' => e = .returned (.bool (badM m r)) ∧ Below w.heap.size w w' := by
  obtain ⟨W, hW⟩ : ∃ W, W = w.alloc (.cells #[I r.lo, I r.hi] 23) := ⟨_, rfl⟩
  have hB : Hid (Below w.heap.size w W ∧ w.heap.size ≤ W.heap.size) := by show _ ∧ _; rw [hW]; exact ⟨(Below.refl _ _).alloc (Nat.le_refl _) _, by simp⟩
  have x0 : W.cell? ⟨b, 0, none⟩ = some (I m) := by rw [hW]; exact (((Below.refl _ _).alloc (Nat.le_refl _) _).cell (p := ⟨b, 0, none⟩) hb).trans hc
  have r0 : W.heap[w.heap.size]? = some (.cells #[I r.lo, I r.hi] 23 (0, 0)) := by rw [hW]; exact heap_last _ _ _ rfl
  have y0 : W.cell? ⟨w.heap.size, 0, none⟩ = some (I r.lo) := by rw [cell_of_row _ _ _ _ _ _ r0]; rfl
  have y1 : W.cell? ⟨w.heap.size, 1, none⟩ = some (I r.hi) := by rw [cell_of_row _ _ _ _ _ _ r0]; rfl
  have HW := Lib.hid hW
  clear hW hc r0
  go_enter Tryd.func92, Tryd.ntmps92
  go_upto_region 1 with (fail)
  rw [← HW.out]
  go_wp2_with fail
  refine (isRange_any r m W).mono ?_
  rintro e w1 ⟨rfl, hb1⟩
  have hfin : Hid (Below w.heap.size w w1) := hB.out.1.trans (hb1.mono hB.out.2)
  clear hb1
  go_wp2_with fail
  go_ret
  exact ⟨rfl, hfin.out⟩
set_option maxHeartbeats 400000 in
theorem ix_ab (A : Option Addr) (c : Nat) (xs : List Rng) (m : Int) (b : Nat) (w : World) (hbo : b < w.heap.size) (hc : w.cell? ⟨b, 0, none⟩ = some (I m)) (hm : xs.length ≤ maxLen) (hx : Rd w w.heap.size 2 A xs.length (rR xs)) :
    Calls Tryd.prog 100 #[.slice A xs.length c, .func (Fn.func 92) #[] #[.pointer (some ⟨b, 0, none⟩)]] w fun e w' => e = .returned (.int .i64 (ixOf (badM m) xs)) ∧ Below w.heap.size w w' := by
  unfold maxLen at hm
  have Hx := Lib.hid hx
  have Hc := Lib.hid hc
  clear hc hx
  go_enter Tryd.func100, Tryd.ntmps100
  go_wp2
  go_loopw [8] (fun i wr => ∃ k : Nat, k ≤ xs.length ∧ i = .int .i64 k ∧ (∀ j, j < k → badM m (at0 xs j) = false) ∧ Below w.heap.size w wr) (fun i _ => xs.length - (intOf i).toNat)
  case atStart => exact ⟨0, by omega, rfl, by omega, Below.refl _ _⟩
  case round =>
    obtain ⟨k, hk, rfl, hb, hbw⟩ := hrel
    have Hb := Lib.hid hb
    clear hb
    by_cases hlt : k < xs.length
    · obtain ⟨b', o, rfl, _, hx0, hx1⟩ := (Hx.out.below hbw).rng hlt
      have hcr := (hbw.cell (p := ⟨_, _, none⟩) hbo).trans Hc.out
      have hsz := hbw.size
      by_cases hp : badM m (at0 xs k) = true
      · have hfin := Lib.hid (ixOf_at hlt hp Hb.out)
        go_wp2_with (go_at_call 92; refine (ab1_any _ m b _ (by omega) hcr).mono ?_; rintro e w' ⟨rfl, hb1⟩)
        go_ret
        exact ⟨ret_int hfin.out.symm, hbw.trans (hb1.mono hsz)⟩
      · have hp : badM m (at0 xs k) = false := by simpa using hp
        go_wp2_with (go_at_call 92; refine (ab1_any _ m b _ (by omega) hcr).mono ?_; rintro e w' ⟨rfl, hb1⟩)
        go_roundw
        case rel => exact ⟨k + 1, by omega, by go_num, succ_case Hb.out hp, hbw.trans (hb1.mono hsz)⟩
        case measure => simp [intOf]; omega
    · have hfin : Hid (ixOf (badM m) xs = -1) := ixOf_none0 fun j hj => Hb.out j (by omega)
      go_wp2
      go_ret
      exact ⟨ret_int hfin.out.symm, hbw⟩
set_option maxHeartbeats 400000 in
theorem con_ab (A : Option Addr) (c : Nat) (xs : List Rng) (m : Int) (b : Nat) (w : World) (hbo : b < w.heap.size) (hc : w.cell? ⟨b, 0, none⟩ = some (I m)) (hm : xs.length ≤ maxLen) (hx : Rd w w.heap.size 2 A xs.length (rR xs)) :
    Calls Tryd.prog 91 #[.slice A xs.length c, .func (Fn.func 92) #[] #[.pointer (some ⟨b, 0, none⟩)]] w fun e w' => e = .returned (.bool (xs.any (badM m))) ∧ Below w.heap.size w w' := by
  have hfin := ixOf_any (p := badM m) (xs := xs)
  have Hx := Lib.hid hx
  clear hx
  go_enter Tryd.func91, Tryd.ntmps91
  go_wp2_with (go_at_call 100; refine (ix_ab _ _ _ _ _ _ hbo hc hm Hx.out).mono ?_; rintro e w' ⟨rfl, hb1⟩)
  go_ret
  exact ⟨rfl, hb1⟩
/-- Three ranges, as six numbers. -/
abbrev bdArr (b : Nat → Int) : Array Value := #[I (b 0), I (b 1), I (b 2), I (b 3), I (b 4), I (b 5)]
def bdL (b : Nat → Int) : List Rng := [⟨b 0, b 1⟩, ⟨b 2, b 3⟩, ⟨b 4, b 5⟩]
def bdB (b : Nat → Int) (m : Int) : Bool := rgB ⟨b 0, b 1⟩ m && rgB ⟨b 2, b 3⟩ m && rgB ⟨b 4, b 5⟩ m
theorem bdB_any (b : Nat → Int) (m : Int) : (bdL b).any (badM m) = !bdB b m := by
  unfold bdB bdL badM
  simp only [List.any_cons, List.any_nil, Bool.or_false]
  rcases rgB ⟨b 0, b 1⟩ m with _ | _ <;> rcases rgB ⟨b 2, b 3⟩ m with _ | _ <;> rcases rgB ⟨b 4, b 5⟩ m with _ | _ <;> rfl
set_option maxHeartbeats 400000 in
theorem areBounds_any (b : Nat → Int) (m : Int) (w : World) : Calls Tryd.prog 72 #[.agg (bdArr b), I m] w fun e w' => e = .returned (.bool (bdB b m)) ∧ Below w.heap.size w w' := by
  obtain ⟨W, hW⟩ : ∃ W, W = (w.alloc (.cells (bdArr b) 25)).alloc (.cells #[I m] 3) := ⟨_, rfl⟩
  have hB : Hid (Below w.heap.size w W ∧ w.heap.size + 2 ≤ W.heap.size) := by show _ ∧ _; rw [hW]; exact ⟨((Below.refl _ _).alloc (Nat.le_refl _) _).alloc (by simp) _, by simp⟩
  have r0 : W.heap[w.heap.size]? = some (.cells (bdArr b) 25 (0, 0)) := by rw [hW]; exact heap_before (heap_last _ _ _ rfl)
  have r1 : W.heap[w.heap.size + 1]? = some (.cells #[I m] 3 (0, 0)) := by rw [hW]; exact heap_last _ _ _ (by simp)
  have hx : Rd W W.heap.size 2 (some ⟨w.heap.size, 0, none⟩) 3 (rR (bdL b)) := Rd_new r0 2 3 0 _ (fun k hk j hj => by
    rcases k with _ | _ | _ | k
    all_goals (first | omega | (rcases j with _ | _ | j; all_goals first | omega | rfl)))
  have hcc := con_ab (some ⟨w.heap.size, 0, none⟩) 3 (bdL b) m (w.heap.size + 1) W (by have := hB.out.2; omega) (by rw [cell_of_row _ _ _ _ _ _ r1]; rfl) (by unfold maxLen; simp [bdL]) hx
  rw [bdB_any] at hcc
  have Hcc := Lib.hid hcc
  have hmf := @makeFunc_run Tryd.prog
  have HW := Lib.hid hW
  clear hW r0 r1 hx hcc
  go_enter Tryd.func72, Tryd.ntmps72
  go_upto_region 1 with (fail)
  rw [← HW.out]
  go_wp2_with fail
  refine Hcc.out.mono ?_
  rintro e w1 ⟨rfl, hb1⟩
  have hfin : Hid (Below w.heap.size w w1) := hB.out.1.trans (hb1.mono (by have := hB.out.2; omega))
  clear hb1
  go_wp2_with fail
  go_ret
  exact ⟨by simp, hfin.out⟩
/-- A melt: its mass, and the six ends of what it contains. -/
structure Mlt where
  ms : Int
  ct : Nat → Int
abbrev mltArr (m : Mlt) : Array Value := #[I m.ms, I (m.ct 0), I (m.ct 1), I (m.ct 2), I (m.ct 3), I (m.ct 4), I (m.ct 5)]
def isM (m : Mlt) : Bool := wiB m.ms 0 1000000000 && bdB m.ct 1000000000000
theorem isMelt_any (m : Mlt) (w : World) : Calls Tryd.prog 40 #[.agg (mltArr m)] w fun e w' => e = .returned (.bool (isM m)) ∧ Below w.heap.size w w' := by
  obtain ⟨W, hW⟩ : ∃ W, W = w.alloc (.cells (mltArr m) 27) := ⟨_, rfl⟩
  have hB : Hid (Below w.heap.size w W) := by show Below _ _ _; rw [hW]; exact (Below.refl _ _).alloc (Nat.le_refl _) _
  have r0 : W.heap[w.heap.size]? = some (.cells (mltArr m) 27 (0, 0)) := by rw [hW]; exact heap_last _ _ _ rfl
  have y0 : W.cell? ⟨w.heap.size, 0, none⟩ = some (I m.ms) := by rw [cell_of_row _ _ _ _ _ _ r0]; rfl
  have y1 : W.cell? ⟨w.heap.size, 1, none⟩ = some (I (m.ct 0)) := by rw [cell_of_row _ _ _ _ _ _ r0]; rfl
  have y2 : W.cell? ⟨w.heap.size, 2, none⟩ = some (I (m.ct 1)) := by rw [cell_of_row _ _ _ _ _ _ r0]; rfl
  have y3 : W.cell? ⟨w.heap.size, 3, none⟩ = some (I (m.ct 2)) := by rw [cell_of_row _ _ _ _ _ _ r0]; rfl
  have y4 : W.cell? ⟨w.heap.size, 4, none⟩ = some (I (m.ct 3)) := by rw [cell_of_row _ _ _ _ _ _ r0]; rfl
  have y5 : W.cell? ⟨w.heap.size, 5, none⟩ = some (I (m.ct 4)) := by rw [cell_of_row _ _ _ _ _ _ r0]; rfl
  have y6 : W.cell? ⟨w.heap.size, 6, none⟩ = some (I (m.ct 5)) := by rw [cell_of_row _ _ _ _ _ _ r0]; rfl
  have HW := Lib.hid hW
  have hf : Hid (isM m = (wiB m.ms 0 1000000000 && bdB m.ct 1000000000000)) := rfl
  clear hW r0
  go_enter Tryd.func40, Tryd.ntmps40
  go_upto_region 1 with (fail)
  rw [← HW.out]
  go_wp2_with fail
  refine (within_any m.ms 0 1000000000 W).mono ?_
  rintro e w1 ⟨rfl, rfl⟩
  rcases hw : wiB m.ms 0 1000000000 with _ | _
  · go_wp2_with fail
    go_ret
    exact ⟨by rw [hf.out, hw]; rfl, hB.out⟩
  · go_wp2_with fail
    refine (areBounds_any m.ct 1000000000000 W).mono ?_
    rintro e w1 ⟨rfl, hb1⟩
    have hfin : Hid (Below w.heap.size w w1) := hB.out.trans (hb1.mono hB.out.size)
    clear hb1
    go_wp2_with fail
    go_ret
    exact ⟨by rw [hf.out, hw]; simp, hfin.out⟩
/-- A step: its kind, its mass, the six ends of By. -/
structure Stp where
  kd : Int
  ms : Int
  b : Nat → Int
deriving Inhabited
abbrev stpArr (x : Stp) : Array Value := #[.int .u8 x.kd, I x.ms, I (x.b 0), I (x.b 1), I (x.b 2), I (x.b 3), I (x.b 4), I (x.b 5)]
def grF (mass : Int) (x : Stp) : Int := if x.kd = 1 then mass - x.ms else if x.kd = 2 then mass + x.ms else mass
theorem grown_any (mass : Int) (x : Stp) (w : World) (hm : -9000000000000 ≤ mass ∧ mass ≤ 9000000000000) (hx : x.kd = 1 ∨ x.kd = 2 → -9000000000000 ≤ x.ms ∧ x.ms ≤ 9000000000000) :
    Calls Tryd.prog 42 #[I mass, .agg (stpArr x)] w fun e w' => e = .returned (I (grF mass x)) ∧ Below w.heap.size w w' := by
  have hB : Hid (Below w.heap.size w (w.alloc (.cells (stpArr x) 58))) := (Below.refl _ _).alloc (Nat.le_refl _) _
  by_cases h1 : x.kd = 1
  · have e1 : (x.kd == 1) = true := by simpa using h1
    have hb := hx (.inl h1)
    have hw : IntKind.i64.wrap (mass - x.ms) = mass - x.ms := IntWalk.i64_in _ (by omega)
    have Hf : Hid (grF mass x = mass - x.ms) := if_pos h1
    clear h1 hx hb
    go_enter Tryd.func42, Tryd.ntmps42
    go_wp2_with fail
    go_ret
    exact ⟨by rw [Hf.out]; rfl, hB.out⟩
  · have e1 : (x.kd == 1) = false := by simpa using h1
    by_cases h2 : x.kd = 2
    · have e2 : (x.kd == 2) = true := by simpa using h2
      have hb := hx (.inr h2)
      have hw : IntKind.i64.wrap (mass + x.ms) = mass + x.ms := IntWalk.i64_in _ (by omega)
      have Hf : Hid (grF mass x = mass + x.ms) := by show grF mass x = _; unfold grF; rw [if_neg h1, if_pos h2]
      clear h1 h2 hx hb
      go_enter Tryd.func42, Tryd.ntmps42
      go_wp2_with fail
      go_ret
      exact ⟨by rw [Hf.out]; rfl, hB.out⟩
    · have e2 : (x.kd == 2) = false := by simpa using h2
      have Hf : Hid (grF mass x = mass) := by show grF mass x = _; unfold grF; rw [if_neg h1, if_neg h2]
      clear h1 h2 hx
      go_enter Tryd.func42, Tryd.ntmps42
      go_wp2_with fail
      go_ret
      exact ⟨by rw [Hf.out]; rfl, hB.out⟩
/-- A share of some units, rounded. -/
def ptF (share u m mass how : Int) : Int := min (mdF u (share * m) (10000 * mass) how).1 u
theorem part_any (share u m mass how : Int) (w : World) (h1 : 0 ≤ share ∧ share ≤ 1000000) (h2 : 0 ≤ m ∧ m ≤ 1000000000) (h3 : 0 ≤ mass ∧ mass ≤ 1000000000) (h4 : -9223372036854775808 ≤ u ∧ u ≤ 9223372036854775807) (hh : 0 ≤ how ∧ how ≤ 255) :
    Calls Tryd.prog 95 #[I share, I u, I m, I mass, .int .u8 how] w fun e w' => e = .returned (I (ptF share u m mass how)) ∧ Below w.heap.size w w' := by
  have hp : 0 ≤ share * m ∧ share * m ≤ 1000000000000000 := ⟨Int.mul_nonneg h1.1 h2.1, by
    have a := Int.mul_le_mul_of_nonneg_right h1.2 h2.1
    omega⟩
  have w1 : IntKind.i64.wrap (share * m) = share * m := IntWalk.i64_in _ (by omega)
  have w2 : IntKind.i64.wrap (10000 * mass) = 10000 * mass := IntWalk.i64_in _ (by omega)
  have cm := Lib.hid (muldiv_any u (share * m) (10000 * mass) how w h4 (by omega) hh)
  have Hf : Hid (ptF share u m mass how = min (mdF u (share * m) (10000 * mass) how).1 u) := rfl
  generalize mdF u (share * m) (10000 * mass) how = q at *
  clear h1 h2 h3 h4 hh hp
  go_enter Tryd.func95, Tryd.ntmps95
  go_wp2_with fail
  refine cm.out.mono ?_
  rintro e w1 ⟨rfl, hb1⟩
  have HB := Lib.hid hb1
  clear hb1
  go_wp2_with fail
  go_ret
  exact ⟨by rw [Hf.out]; congr 2; (first | rfl | (split <;> omega) | skip), HB.out⟩
end Go.Proofs.YtfifdfagikbahaaDoor
