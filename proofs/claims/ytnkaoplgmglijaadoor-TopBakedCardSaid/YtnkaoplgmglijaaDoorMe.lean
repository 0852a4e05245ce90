/- The contracts of start, pick and walk of package melt. -/
import Derived.Test.YtnkaoplgmglijaaDoorMu
namespace Go.Proofs.YtnkaoplgmglijaaDoor
open Go.RowKit
def wiB (n a b : Int) : Bool := decide (a ≤ n) && decide (n ≤ b)
theorem within_any (n a b : Int) (w : World) : Calls Tryd.prog 31 #[I n, I a, I b] w fun e w' => e = .returned (.bool (wiB n a b)) ∧ w = w' := by
 unfold wiB
 by_cases h : a ≤ n
 · have h1 : decide (a ≤ n) = true := decide_eq_true h
   clear h
   go_enter Tryd.func31, Tryd.ntmps31
   go_wp2_with fail
   go_ret
   exact ⟨by rw [h1]; simp, rfl⟩
 · have h1 : decide (a ≤ n) = false := decide_eq_false h
   clear h
   go_enter Tryd.func31, Tryd.ntmps31
   go_wp2_with fail
   go_ret
   exact ⟨by rw [h1]; simp, rfl⟩
def rgB (r : Rng) (m : Int) : Bool := decide (0 ≤ r.lo) && decide (r.lo ≤ r.hi) && decide (r.hi ≤ m)
theorem rgB_iff {r : Rng} {m : Int} : rgB r m = true ↔ 0 ≤ r.lo ∧ r.lo ≤ r.hi ∧ r.hi ≤ m := by
 unfold rgB
 rw [Bool.and_eq_true, Bool.and_eq_true, decide_eq_true_eq, decide_eq_true_eq, decide_eq_true_eq]
 exact ⟨fun h => ⟨h.1.1, h.1.2, h.2⟩, fun h => ⟨⟨h.1, h.2.1⟩, h.2.2⟩⟩
theorem isRange_any (r : Rng) (m : Int) (w : World) : Calls Tryd.prog 42 #[.agg #[I r.lo, I r.hi], I m] w fun e w' => e = .returned (.bool (rgB r m)) ∧ Below w.heap.size w w' := by
 have hB : Hid (Below w.heap.size w (w.alloc (.cells #[I r.lo, I r.hi] 23))) := (Below.refl _ _).alloc (Nat.le_refl _) _
 unfold rgB
 by_cases h : 0 ≤ r.lo
 · have h1 : decide (0 ≤ r.lo) = true := decide_eq_true h
   by_cases h' : r.lo ≤ r.hi
   · have h2 : decide (r.lo ≤ r.hi) = true := decide_eq_true h'
     clear h h'
     go_enter Tryd.func42, Tryd.ntmps42
     go_wp2_with fail
     go_ret
     exact ⟨by rw [h1, h2]; simp, hB.out⟩
   · have h2 : decide (r.lo ≤ r.hi) = false := decide_eq_false h'
     clear h h'
     go_enter Tryd.func42, Tryd.ntmps42
     go_wp2_with fail
     go_ret
     exact ⟨by rw [h1, h2]; simp, hB.out⟩
 · have h1 : decide (0 ≤ r.lo) = false := decide_eq_false h
   clear h
   go_enter Tryd.func42, Tryd.ntmps42
   go_wp2_with fail
   go_ret
   exact ⟨by rw [h1]; simp, hB.out⟩
def badM (m : Int) (r : Rng) : Bool := !rgB r m
theorem ab1_any (r : Rng) (m : Int) (b : Nat) (w : World) (hb : b < w.heap.size) (hc : w.cell? ⟨b, 0, none⟩ = some (I m)) :
 Calls Tryd.prog 82 #[.agg #[I r.lo, I r.hi], .pointer (some ⟨b, 0, none⟩)] w fun e w' => e = .returned (.bool (badM m r)) ∧ Below w.heap.size w w' := by
 obtain ⟨W, hW⟩ : ∃ W, W = w.alloc (.cells #[I r.lo, I r.hi] 23) := ⟨_, rfl⟩
 have hB : Hid (Below w.heap.size w W ∧ w.heap.size ≤ W.heap.size) := by show _ ∧ _; rw [hW]; exact ⟨(Below.refl _ _).alloc (Nat.le_refl _) _, by simp⟩
 have x0 : W.cell? ⟨b, 0, none⟩ = some (I m) := by rw [hW]; exact (((Below.refl _ _).alloc (Nat.le_refl _) _).cell (p := ⟨b, 0, none⟩) hb).trans hc
 have r0 : W.heap[w.heap.size]? = some (.cells #[I r.lo, I r.hi] 23 (0, 0)) := by rw [hW]; exact heap_last _ _ _ rfl
 have y0 : W.cell? ⟨w.heap.size, 0, none⟩ = some (I r.lo) := by rw [cell_of_row _ _ _ _ _ _ r0]; rfl
 have y1 : W.cell? ⟨w.heap.size, 1, none⟩ = some (I r.hi) := by rw [cell_of_row _ _ _ _ _ _ r0]; rfl
 have HW := Lib.hid hW
 clear hW hc r0
 go_enter Tryd.func82, Tryd.ntmps82
 go_upto_region 1 with (fail)
 rw [← HW.out]
 go_wp2_with fail
 refine (isRange_any r m W).mono ?_
 rintro e w1 ⟨rfl, hb1⟩
 have hfin : Hid (Below w.heap.size w w1) := hB.out.1.trans (hb1.mono hB.out.2)
 clear hb1
 go_wp2_with fail
 go_ret
 exact ⟨rfl, hfin.out⟩
set_option maxHeartbeats 400000 in
theorem ix_ab (A : Option Addr) (c : Nat) (xs : List Rng) (m : Int) (b : Nat) (w : World) (hbo : b < w.heap.size) (hc : w.cell? ⟨b, 0, none⟩ = some (I m)) (hm : xs.length ≤ maxLen) (hx : Rd w w.heap.size 2 A xs.length (rR xs)) :
 Calls Tryd.prog 80 #[.slice A xs.length c, .func (Fn.func 82) #[] #[.pointer (some ⟨b, 0, none⟩)]] w fun e w' => e = .returned (.int .i64 (ixOf (badM m) xs)) ∧ Below w.heap.size w w' := by
 unfold maxLen at hm
 have Hx := Lib.hid hx
 have Hc := Lib.hid hc
 clear hc hx
 go_enter Tryd.func80, Tryd.ntmps80
 go_wp2
 go_loopw [8] (fun i wr => ∃ k : Nat, k ≤ xs.length ∧ i = .int .i64 k ∧ (∀ j, j < k → badM m (at0 xs j) = false) ∧ Below w.heap.size w wr) (fun i _ => xs.length - (intOf i).toNat)
 case atStart => exact ⟨0, by omega, rfl, by omega, Below.refl _ _⟩
 case round =>
  obtain ⟨k, hk, rfl, hb, hbw⟩ := hrel
  have Hb := Lib.hid hb
  clear hb
  by_cases hlt : k < xs.length
  · obtain ⟨b', o, rfl, _, hx0, hx1⟩ := (Hx.out.below hbw).rng hlt
    have hcr := (hbw.cell (p := ⟨_, _, none⟩) hbo).trans Hc.out
    have hsz := hbw.size
    by_cases hp : badM m (at0 xs k) = true
    · have hfin := Lib.hid (ixOf_at hlt hp Hb.out)
      go_wp2_with (go_at_call 82; refine (ab1_any _ m b _ (by omega) hcr).mono ?_; rintro e w' ⟨rfl, hb1⟩)
      go_ret
      exact ⟨ret_int hfin.out.symm, hbw.trans (hb1.mono hsz)⟩
    · have hp : badM m (at0 xs k) = false := by simpa using hp
      go_wp2_with (go_at_call 82; refine (ab1_any _ m b _ (by omega) hcr).mono ?_; rintro e w' ⟨rfl, hb1⟩)
      go_roundw
      case rel => exact ⟨k + 1, by omega, by go_num, succ_case Hb.out hp, hbw.trans (hb1.mono hsz)⟩
      case measure => simp [intOf]; omega
  · have hfin : Hid (ixOf (badM m) xs = -1) := ixOf_none0 fun j hj => Hb.out j (by omega)
    go_wp2
    go_ret
    exact ⟨ret_int hfin.out.symm, hbw⟩
set_option maxHeartbeats 400000 in
theorem con_ab (A : Option Addr) (c : Nat) (xs : List Rng) (m : Int) (b : Nat) (w : World) (hbo : b < w.heap.size) (hc : w.cell? ⟨b, 0, none⟩ = some (I m)) (hm : xs.length ≤ maxLen) (hx : Rd w w.heap.size 2 A xs.length (rR xs)) :
 Calls Tryd.prog 61 #[.slice A xs.length c, .func (Fn.func 82) #[] #[.pointer (some ⟨b, 0, none⟩)]] w fun e w' => e = .returned (.bool (xs.any (badM m))) ∧ Below w.heap.size w w' := by
 have hfin := ixOf_any (p := badM m) (xs := xs)
 have Hx := Lib.hid hx
 clear hx
 go_enter Tryd.func61, Tryd.ntmps61
 go_wp2_with (go_at_call 80; refine (ix_ab _ _ _ _ _ _ hbo hc hm Hx.out).mono ?_; rintro e w' ⟨rfl, hb1⟩)
 go_ret
 exact ⟨rfl, hb1⟩
abbrev bdArr (b : Nat → Int) : Array Value := #[I (b 0), I (b 1), I (b 2), I (b 3), I (b 4), I (b 5)]
def bdL (b : Nat → Int) : List Rng := [⟨b 0, b 1⟩, ⟨b 2, b 3⟩, ⟨b 4, b 5⟩]
def bdB (b : Nat → Int) (m : Int) : Bool := rgB ⟨b 0, b 1⟩ m && rgB ⟨b 2, b 3⟩ m && rgB ⟨b 4, b 5⟩ m
theorem bdB_any (b : Nat → Int) (m : Int) : (bdL b).any (badM m) = !bdB b m := by
 unfold bdB bdL badM
 simp only [List.any_cons, List.any_nil, Bool.or_false]
 rcases rgB ⟨b 0, b 1⟩ m with _ | _ <;> rcases rgB ⟨b 2, b 3⟩ m with _ | _ <;> rcases rgB ⟨b 4, b 5⟩ m with _ | _ <;> rfl
set_option maxHeartbeats 400000 in
theorem areBounds_any (b : Nat → Int) (m : Int) (w : World) : Calls Tryd.prog 65 #[.agg (bdArr b), I m] w fun e w' => e = .returned (.bool (bdB b m)) ∧ Below w.heap.size w w' := by
 obtain ⟨W, hW⟩ : ∃ W, W = (w.alloc (.cells (bdArr b) 25)).alloc (.cells #[I m] 3) := ⟨_, rfl⟩
 have hB : Hid (Below w.heap.size w W ∧ w.heap.size + 2 ≤ W.heap.size) := by show _ ∧ _; rw [hW]; exact ⟨((Below.refl _ _).alloc (Nat.le_refl _) _).alloc (by simp) _, by simp⟩
 have r0 : W.heap[w.heap.size]? = some (.cells (bdArr b) 25 (0, 0)) := by rw [hW]; exact heap_before (heap_last _ _ _ rfl)
 have r1 : W.heap[w.heap.size + 1]? = some (.cells #[I m] 3 (0, 0)) := by rw [hW]; exact heap_last _ _ _ (by simp)
 have hx : Rd W W.heap.size 2 (some ⟨w.heap.size, 0, none⟩) 3 (rR (bdL b)) := Rd_new r0 2 3 0 _ (fun k hk j hj => by
  rcases k with _ | _ | _ | k
  all_goals (first | omega | (rcases j with _ | _ | j; all_goals first | omega | rfl)))
 have hcc := con_ab (some ⟨w.heap.size, 0, none⟩) 3 (bdL b) m (w.heap.size + 1) W (by have := hB.out.2; omega) (by rw [cell_of_row _ _ _ _ _ _ r1]; rfl) (by unfold maxLen; simp [bdL]) hx
 rw [bdB_any] at hcc
 have Hcc := Lib.hid hcc
 have hmf := @makeFunc_run Tryd.prog
 have HW := Lib.hid hW
 clear hW r0 r1 hx hcc
 go_enter Tryd.func65, Tryd.ntmps65
 go_upto_region 1 with (fail)
 rw [← HW.out]
 go_wp2_with fail
 refine Hcc.out.mono ?_
 rintro e w1 ⟨rfl, hb1⟩
 have hfin : Hid (Below w.heap.size w w1) := hB.out.1.trans (hb1.mono (by have := hB.out.2; omega))
 clear hb1
 go_wp2_with fail
 go_ret
 exact ⟨by simp, hfin.out⟩
structure Mlt where
 ms : Int
 ct : Nat → Int
abbrev mltArr (m : Mlt) : Array Value := #[I m.ms, I (m.ct 0), I (m.ct 1), I (m.ct 2), I (m.ct 3), I (m.ct 4), I (m.ct 5)]
def isM (m : Mlt) : Bool := wiB m.ms 0 1000000000 && bdB m.ct 1000000000000
theorem isMelt_any (m : Mlt) (w : World) : Calls Tryd.prog 41 #[.agg (mltArr m)] w fun e w' => e = .returned (.bool (isM m)) ∧ Below w.heap.size w w' := by
 obtain ⟨W, hW⟩ : ∃ W, W = w.alloc (.cells (mltArr m) 27) := ⟨_, rfl⟩
 have hB : Hid (Below w.heap.size w W) := by show Below _ _ _; rw [hW]; exact (Below.refl _ _).alloc (Nat.le_refl _) _
 have r0 : W.heap[w.heap.size]? = some (.cells (mltArr m) 27 (0, 0)) := by rw [hW]; exact heap_last _ _ _ rfl
 have y0 : W.cell? ⟨w.heap.size, 0, none⟩ = some (I m.ms) := by rw [cell_of_row _ _ _ _ _ _ r0]; rfl
 have y1 : W.cell? ⟨w.heap.size, 1, none⟩ = some (I (m.ct 0)) := by rw [cell_of_row _ _ _ _ _ _ r0]; rfl
 have y2 : W.cell? ⟨w.heap.size, 2, none⟩ = some (I (m.ct 1)) := by rw [cell_of_row _ _ _ _ _ _ r0]; rfl
 have y3 : W.cell? ⟨w.heap.size, 3, none⟩ = some (I (m.ct 2)) := by rw [cell_of_row _ _ _ _ _ _ r0]; rfl
 have y4 : W.cell? ⟨w.heap.size, 4, none⟩ = some (I (m.ct 3)) := by rw [cell_of_row _ _ _ _ _ _ r0]; rfl
 have y5 : W.cell? ⟨w.heap.size, 5, none⟩ = some (I (m.ct 4)) := by rw [cell_of_row _ _ _ _ _ _ r0]; rfl
 have y6 : W.cell? ⟨w.heap.size, 6, none⟩ = some (I (m.ct 5)) := by rw [cell_of_row _ _ _ _ _ _ r0]; rfl
 have HW := Lib.hid hW
 have hf : Hid (isM m = (wiB m.ms 0 1000000000 && bdB m.ct 1000000000000)) := rfl
 clear hW r0
 go_enter Tryd.func41, Tryd.ntmps41
 go_upto_region 1 with (fail)
 rw [← HW.out]
 go_wp2_with fail
 refine (within_any m.ms 0 1000000000 W).mono ?_
 rintro e w1 ⟨rfl, rfl⟩
 rcases hw : wiB m.ms 0 1000000000 with _ | _
 · go_wp2_with fail
   go_ret
   exact ⟨by rw [hf.out, hw]; rfl, hB.out⟩
 · go_wp2_with fail
   refine (areBounds_any m.ct 1000000000000 W).mono ?_
   rintro e w1 ⟨rfl, hb1⟩
   have hfin : Hid (Below w.heap.size w w1) := hB.out.trans (hb1.mono hB.out.size)
   clear hb1
   go_wp2_with fail
   go_ret
   exact ⟨by rw [hf.out, hw]; simp, hfin.out⟩
structure Stp where
 kd : Int
 ms : Int
 b : Nat → Int
deriving Inhabited
abbrev stpArr (x : Stp) : Array Value := #[.int .u8 x.kd, I x.ms, I (x.b 0), I (x.b 1), I (x.b 2), I (x.b 3), I (x.b 4), I (x.b 5)]
def grF (mass : Int) (x : Stp) : Int := if x.kd = 1 then mass - x.ms else if x.kd = 2 then mass + x.ms else mass
theorem grown_any (mass : Int) (x : Stp) (w : World) (hm : -9000000000000 ≤ mass ∧ mass ≤ 9000000000000) (hx : x.kd = 1 ∨ x.kd = 2 → -9000000000000 ≤ x.ms ∧ x.ms ≤ 9000000000000) :
 Calls Tryd.prog 18 #[I mass, .agg (stpArr x)] w fun e w' => e = .returned (I (grF mass x)) ∧ Below w.heap.size w w' := by
 have hB : Hid (Below w.heap.size w (w.alloc (.cells (stpArr x) 33))) := (Below.refl _ _).alloc (Nat.le_refl _) _
 by_cases h1 : x.kd = 1
 · have e1 : (x.kd == 1) = true := by simpa using h1
   have hb := hx (.inl h1)
   have hw : IntKind.i64.wrap (mass - x.ms) = mass - x.ms := IntWalk.i64_in _ (by omega)
   have Hf : Hid (grF mass x = mass - x.ms) := if_pos h1
   clear h1 hx hb
   go_enter Tryd.func18, Tryd.ntmps18
   go_wp2_with fail
   go_ret
   exact ⟨by rw [Hf.out]; rfl, hB.out⟩
 · have e1 : (x.kd == 1) = false := by simpa using h1
   by_cases h2 : x.kd = 2
   · have e2 : (x.kd == 2) = true := by simpa using h2
     have hb := hx (.inr h2)
     have hw : IntKind.i64.wrap (mass + x.ms) = mass + x.ms := IntWalk.i64_in _ (by omega)
     have Hf : Hid (grF mass x = mass + x.ms) := by show grF mass x = _; unfold grF; rw [if_neg h1, if_pos h2]
     clear h1 h2 hx hb
     go_enter Tryd.func18, Tryd.ntmps18
     go_wp2_with fail
     go_ret
     exact ⟨by rw [Hf.out]; rfl, hB.out⟩
   · have e2 : (x.kd == 2) = false := by simpa using h2
     have Hf : Hid (grF mass x = mass) := by show grF mass x = _; unfold grF; rw [if_neg h1, if_neg h2]
     clear h1 h2 hx
     go_enter Tryd.func18, Tryd.ntmps18
     go_wp2_with fail
     go_ret
     exact ⟨by rw [Hf.out]; rfl, hB.out⟩
def ptF (share u m mass how : Int) : Int := min (mdF u (share * m) (10000 * mass) how).1 u
theorem part_any (share u m mass how : Int) (w : World) (h1 : 0 ≤ share ∧ share ≤ 1000000) (h2 : 0 ≤ m ∧ m ≤ 1000000000) (h3 : 0 ≤ mass ∧ mass ≤ 1000000000) (h4 : -9223372036854775808 ≤ u ∧ u ≤ 9223372036854775807) (hh : 0 ≤ how ∧ how ≤ 255) :
 Calls Tryd.prog 79 #[I share, I u, I m, I mass, .int .u8 how] w fun e w' => e = .returned (I (ptF share u m mass how)) ∧ Below w.heap.size w w' := by
 have hp : 0 ≤ share * m ∧ share * m ≤ 1000000000000000 := ⟨Int.mul_nonneg h1.1 h2.1, by
  have a := Int.mul_le_mul_of_nonneg_right h1.2 h2.1
  omega⟩
 have w1 : IntKind.i64.wrap (share * m) = share * m := IntWalk.i64_in _ (by omega)
 have w2 : IntKind.i64.wrap (10000 * mass) = 10000 * mass := IntWalk.i64_in _ (by omega)
 have cm := Lib.hid (muldiv_any u (share * m) (10000 * mass) how w h4 (by omega) hh)
 have Hf : Hid (ptF share u m mass how = min (mdF u (share * m) (10000 * mass) how).1 u) := rfl
 generalize mdF u (share * m) (10000 * mass) how = q at *
 clear h1 h2 h3 h4 hh hp
 go_enter Tryd.func79, Tryd.ntmps79
 go_wp2_with fail
 refine cm.out.mono ?_
 rintro e w1 ⟨rfl, hb1⟩
 have HB := Lib.hid hb1
 clear hb1
 go_wp2_with fail
 go_ret
 exact ⟨by rw [Hf.out]; congr 2; (first | rfl | (split <;> omega) | skip), HB.out⟩
end Go.Proofs.YtnkaoplgmglijaaDoor
namespace Go.Proofs.YtnkaoplgmglijaaDoor
open Go.RowKit
structure Glob (W : World) : Prop where
 pr : W.cell? ⟨0, 0, none⟩ = some (.bool false) ∧ W.cell? ⟨0, 1, none⟩ = some (.bool true) ∧ W.cell? ⟨0, 2, none⟩ = some (.bool true)
 rh : W.cell? ⟨1, 0, none⟩ = some (.bool true) ∧ W.cell? ⟨1, 1, none⟩ = some (.bool false) ∧ W.cell? ⟨1, 2, none⟩ = some (.bool false)
 l1 : W.cell? ⟨2, 2, none⟩ = some (I 20000) ∧ W.cell? ⟨2, 3, none⟩ = some (.bool true)
 l2 : W.cell? ⟨2, 4, none⟩ = some (I 1000000000000) ∧ W.cell? ⟨2, 5, none⟩ = some (.bool true)
 l3 : W.cell? ⟨2, 6, none⟩ = some (I 1000000000000) ∧ W.cell? ⟨2, 7, none⟩ = some (.bool false)
 l4 : W.cell? ⟨2, 8, none⟩ = some (I 10000) ∧ W.cell? ⟨2, 9, none⟩ = some (.bool false)
 lt : 3 ≤ W.heap.size
theorem Glob.below {W W' : World} (h : Glob W) (hb : Below W.heap.size W W') : Glob W' := by
 have k : ∀ (b o : Nat) v, b < 3 → W.cell? ⟨b, o, none⟩ = some v → W'.cell? ⟨b, o, none⟩ = some v := fun b o v hlt hc => (hb.cell (p := ⟨b, o, none⟩) (by have := h.lt; show b < _; omega)).trans hc
 exact ⟨⟨k _ _ _ (by omega) h.pr.1, k _ _ _ (by omega) h.pr.2.1, k _ _ _ (by omega) h.pr.2.2⟩, ⟨k _ _ _ (by omega) h.rh.1, k _ _ _ (by omega) h.rh.2.1, k _ _ _ (by omega) h.rh.2.2⟩,
  ⟨k _ _ _ (by omega) h.l1.1, k _ _ _ (by omega) h.l1.2⟩, ⟨k _ _ _ (by omega) h.l2.1, k _ _ _ (by omega) h.l2.2⟩, ⟨k _ _ _ (by omega) h.l3.1, k _ _ _ (by omega) h.l3.2⟩, ⟨k _ _ _ (by omega) h.l4.1, k _ _ _ (by omega) h.l4.2⟩, Nat.le_trans h.lt hb.size⟩
def isS (x : Stp) : Bool :=
 if x.kd = 1 then wiB x.ms 1 1000000000 && bdB x.b 20000 else if x.kd = 2 then wiB x.ms 1 1000000000 && bdB x.b 1000000000000
 else if x.kd = 3 then (x.ms == 0) && bdB x.b 1000000000000 else if x.kd = 4 then (x.ms == 0) && bdB x.b 10000 else false
set_option maxHeartbeats 1000000 in
theorem isStep_1 (x : Stp) (w : World) (hG : Glob w) (hk : x.kd = 1) :
 Calls Tryd.prog 47 #[.agg (stpArr x)] w fun e w' => e = .returned (.bool (wiB x.ms 1 1000000000 && bdB x.b 20000)) ∧ Below w.heap.size w w' := by
 obtain ⟨W, hW⟩ : ∃ W, W = w.alloc (.cells (stpArr x) 33) := ⟨_, rfl⟩
 have hB : Hid (Below w.heap.size w W) := by show Below _ _ _; rw [hW]; exact (Below.refl _ _).alloc (Nat.le_refl _) _
 have hGW := hG.below hB.out
 have r0 : W.heap[w.heap.size]? = some (.cells (stpArr x) 33 (0, 0)) := by rw [hW]; exact heap_last _ _ _ rfl
 have y0 : W.cell? ⟨w.heap.size, 0, none⟩ = some (.int .u8 x.kd) := by rw [cell_of_row _ _ _ _ _ _ r0]; rfl
 have y1 : W.cell? ⟨w.heap.size, 1, none⟩ = some (I (x.ms)) := by rw [cell_of_row _ _ _ _ _ _ r0]; rfl
 have y2 : W.cell? ⟨w.heap.size, 2, none⟩ = some (I (x.b 0)) := by rw [cell_of_row _ _ _ _ _ _ r0]; rfl
 have y3 : W.cell? ⟨w.heap.size, 3, none⟩ = some (I (x.b 1)) := by rw [cell_of_row _ _ _ _ _ _ r0]; rfl
 have y4 : W.cell? ⟨w.heap.size, 4, none⟩ = some (I (x.b 2)) := by rw [cell_of_row _ _ _ _ _ _ r0]; rfl
 have y5 : W.cell? ⟨w.heap.size, 5, none⟩ = some (I (x.b 3)) := by rw [cell_of_row _ _ _ _ _ _ r0]; rfl
 have y6 : W.cell? ⟨w.heap.size, 6, none⟩ = some (I (x.b 4)) := by rw [cell_of_row _ _ _ _ _ _ r0]; rfl
 have y7 : W.cell? ⟨w.heap.size, 7, none⟩ = some (I (x.b 5)) := by rw [cell_of_row _ _ _ _ _ _ r0]; rfl
 have HW := Lib.hid hW
 clear hW
 obtain ⟨l0, l1⟩ := hGW.l1
 rw [hk] at y0
 have ba := fun W' => areBounds_any x.b 20000 W'
 have Hba := Lib.hid ba
 have bw := fun (w : World) => within_any x.ms 1 1000000000 w
 have Hbw := Lib.hid bw
 have dk : wiB 1 1 4 = true := by decide
 obtain ⟨bb, hbb⟩ : ∃ bb, bdB x.b 20000 = bb := ⟨_, rfl⟩
 obtain ⟨wb, hwb⟩ : ∃ wb, wiB x.ms 1 1000000000 = wb := ⟨_, rfl⟩
 obtain ⟨zb, hzb⟩ : ∃ zb, (x.ms == 0) = zb := ⟨_, rfl⟩
 rw [hbb] at Hba ⊢
 rw [hwb] at Hbw ⊢
 skip
 have hk1 := Lib.hid (show (stpArr x) = #[.int .u8 1, I x.ms, I (x.b 0), I (x.b 1), I (x.b 2), I (x.b 3), I (x.b 4), I (x.b 5)] by simp [hk])
 clear r0 ba bw hG hGW hbb hwb hk
 have HBW := hB.out.size
 go_enter Tryd.func47, Tryd.ntmps47
 go_upto_region 1 with (fail)
 rw [← HW.out]
 go_wp2_with fail
 refine (within_any 1 1 4 W).mono ?_
 rintro e w1 ⟨rfl, rfl⟩
 rw [dk]
 go_upto_region 4 with (fail)
 obtain ⟨V, hV⟩ : ∃ V, V = W.alloc (.cells #[.int .i64 20000, .bool true] 149) := ⟨_, rfl⟩
 rw [← hV]
 have hWV : Below W.heap.size W V := by rw [hV]; exact (Below.refl _ _).alloc (Nat.le_refl _) _
 have hlt : w.heap.size < W.heap.size := by rw [HW.out]; simp
 have v0 : V.heap[W.heap.size]? = some (.cells #[.int .i64 20000, .bool true] 149 (0, 0)) := by rw [hV]; exact heap_last _ _ _ rfl
 have u0 : V.cell? ⟨W.heap.size, 0, none⟩ = some (I 20000) := by rw [cell_of_row _ _ _ _ _ _ v0]; rfl
 have u1 : V.cell? ⟨W.heap.size, 1, none⟩ = some (.bool true) := by rw [cell_of_row _ _ _ _ _ _ v0]; rfl
 have y0 := (hWV.cell (p := ⟨w.heap.size, 0, none⟩) hlt).trans y0
 have y1 := (hWV.cell (p := ⟨w.heap.size, 1, none⟩) hlt).trans y1
 have y2 := (hWV.cell (p := ⟨w.heap.size, 2, none⟩) hlt).trans y2
 have y3 := (hWV.cell (p := ⟨w.heap.size, 3, none⟩) hlt).trans y3
 have y4 := (hWV.cell (p := ⟨w.heap.size, 4, none⟩) hlt).trans y4
 have y5 := (hWV.cell (p := ⟨w.heap.size, 5, none⟩) hlt).trans y5
 have y6 := (hWV.cell (p := ⟨w.heap.size, 6, none⟩) hlt).trans y6
 have y7 := (hWV.cell (p := ⟨w.heap.size, 7, none⟩) hlt).trans y7
 have HBV : Hid (Below w.heap.size w V ∧ w.heap.size ≤ V.heap.size) := ⟨hB.out.trans (hWV.mono HBW), Nat.le_trans HBW hWV.size⟩
 have HS : Hid (∀ w1, Below V.heap.size V w1 → Below w.heap.size w w1) := fun w1 hb1 => HBV.out.1.trans (hb1.mono HBV.out.2)
 clear hV hWV hlt v0 l0 l1 hB HBW
 rcases zb with _ | _
 · go_wp2_with fail
   refine (Hbw.out _).mono ?_
   rintro e w1 ⟨rfl, rfl⟩
   rcases wb with _ | _
   · go_wp2_with fail
     go_ret
     exact ⟨by simp, HBV.out.1⟩
   · go_wp2_with fail
     refine (Hba.out _).mono ?_
     rintro e w1 ⟨rfl, hb1⟩
     have hfin := Lib.hid (HS.out _ hb1)
     clear hb1
     go_wp2_with fail
     go_ret
     exact ⟨by simp, hfin.out⟩
 · go_wp2_with fail
   refine (Hbw.out _).mono ?_
   rintro e w1 ⟨rfl, rfl⟩
   rcases wb with _ | _
   · go_wp2_with fail
     go_ret
     exact ⟨by simp, HBV.out.1⟩
   · go_wp2_with fail
     refine (Hba.out _).mono ?_
     rintro e w1 ⟨rfl, hb1⟩
     have hfin := Lib.hid (HS.out _ hb1)
     clear hb1
     go_wp2_with fail
     go_ret
     exact ⟨by simp, hfin.out⟩
set_option maxHeartbeats 1000000 in
theorem isStep_2 (x : Stp) (w : World) (hG : Glob w) (hk : x.kd = 2) :
 Calls Tryd.prog 47 #[.agg (stpArr x)] w fun e w' => e = .returned (.bool (wiB x.ms 1 1000000000 && bdB x.b 1000000000000)) ∧ Below w.heap.size w w' := by
 obtain ⟨W, hW⟩ : ∃ W, W = w.alloc (.cells (stpArr x) 33) := ⟨_, rfl⟩
 have hB : Hid (Below w.heap.size w W) := by show Below _ _ _; rw [hW]; exact (Below.refl _ _).alloc (Nat.le_refl _) _
 have hGW := hG.below hB.out
 have r0 : W.heap[w.heap.size]? = some (.cells (stpArr x) 33 (0, 0)) := by rw [hW]; exact heap_last _ _ _ rfl
 have y0 : W.cell? ⟨w.heap.size, 0, none⟩ = some (.int .u8 x.kd) := by rw [cell_of_row _ _ _ _ _ _ r0]; rfl
 have y1 : W.cell? ⟨w.heap.size, 1, none⟩ = some (I (x.ms)) := by rw [cell_of_row _ _ _ _ _ _ r0]; rfl
 have y2 : W.cell? ⟨w.heap.size, 2, none⟩ = some (I (x.b 0)) := by rw [cell_of_row _ _ _ _ _ _ r0]; rfl
 have y3 : W.cell? ⟨w.heap.size, 3, none⟩ = some (I (x.b 1)) := by rw [cell_of_row _ _ _ _ _ _ r0]; rfl
 have y4 : W.cell? ⟨w.heap.size, 4, none⟩ = some (I (x.b 2)) := by rw [cell_of_row _ _ _ _ _ _ r0]; rfl
 have y5 : W.cell? ⟨w.heap.size, 5, none⟩ = some (I (x.b 3)) := by rw [cell_of_row _ _ _ _ _ _ r0]; rfl
 have y6 : W.cell? ⟨w.heap.size, 6, none⟩ = some (I (x.b 4)) := by rw [cell_of_row _ _ _ _ _ _ r0]; rfl
 have y7 : W.cell? ⟨w.heap.size, 7, none⟩ = some (I (x.b 5)) := by rw [cell_of_row _ _ _ _ _ _ r0]; rfl
 have HW := Lib.hid hW
 clear hW
 obtain ⟨l0, l1⟩ := hGW.l2
 rw [hk] at y0
 have ba := fun W' => areBounds_any x.b 1000000000000 W'
 have Hba := Lib.hid ba
 have bw := fun (w : World) => within_any x.ms 1 1000000000 w
 have Hbw := Lib.hid bw
 have dk : wiB 2 1 4 = true := by decide
 obtain ⟨bb, hbb⟩ : ∃ bb, bdB x.b 1000000000000 = bb := ⟨_, rfl⟩
 obtain ⟨wb, hwb⟩ : ∃ wb, wiB x.ms 1 1000000000 = wb := ⟨_, rfl⟩
 obtain ⟨zb, hzb⟩ : ∃ zb, (x.ms == 0) = zb := ⟨_, rfl⟩
 rw [hbb] at Hba ⊢
 rw [hwb] at Hbw ⊢
 skip
 have hk1 := Lib.hid (show (stpArr x) = #[.int .u8 2, I x.ms, I (x.b 0), I (x.b 1), I (x.b 2), I (x.b 3), I (x.b 4), I (x.b 5)] by simp [hk])
 clear r0 ba bw hG hGW hbb hwb hk
 have HBW := hB.out.size
 go_enter Tryd.func47, Tryd.ntmps47
 go_upto_region 1 with (fail)
 rw [← HW.out]
 go_wp2_with fail
 refine (within_any 2 1 4 W).mono ?_
 rintro e w1 ⟨rfl, rfl⟩
 rw [dk]
 go_upto_region 4 with (fail)
 obtain ⟨V, hV⟩ : ∃ V, V = W.alloc (.cells #[.int .i64 1000000000000, .bool true] 149) := ⟨_, rfl⟩
 rw [← hV]
 have hWV : Below W.heap.size W V := by rw [hV]; exact (Below.refl _ _).alloc (Nat.le_refl _) _
 have hlt : w.heap.size < W.heap.size := by rw [HW.out]; simp
 have v0 : V.heap[W.heap.size]? = some (.cells #[.int .i64 1000000000000, .bool true] 149 (0, 0)) := by rw [hV]; exact heap_last _ _ _ rfl
 have u0 : V.cell? ⟨W.heap.size, 0, none⟩ = some (I 1000000000000) := by rw [cell_of_row _ _ _ _ _ _ v0]; rfl
 have u1 : V.cell? ⟨W.heap.size, 1, none⟩ = some (.bool true) := by rw [cell_of_row _ _ _ _ _ _ v0]; rfl
 have y0 := (hWV.cell (p := ⟨w.heap.size, 0, none⟩) hlt).trans y0
 have y1 := (hWV.cell (p := ⟨w.heap.size, 1, none⟩) hlt).trans y1
 have y2 := (hWV.cell (p := ⟨w.heap.size, 2, none⟩) hlt).trans y2
 have y3 := (hWV.cell (p := ⟨w.heap.size, 3, none⟩) hlt).trans y3
 have y4 := (hWV.cell (p := ⟨w.heap.size, 4, none⟩) hlt).trans y4
 have y5 := (hWV.cell (p := ⟨w.heap.size, 5, none⟩) hlt).trans y5
 have y6 := (hWV.cell (p := ⟨w.heap.size, 6, none⟩) hlt).trans y6
 have y7 := (hWV.cell (p := ⟨w.heap.size, 7, none⟩) hlt).trans y7
 have HBV : Hid (Below w.heap.size w V ∧ w.heap.size ≤ V.heap.size) := ⟨hB.out.trans (hWV.mono HBW), Nat.le_trans HBW hWV.size⟩
 have HS : Hid (∀ w1, Below V.heap.size V w1 → Below w.heap.size w w1) := fun w1 hb1 => HBV.out.1.trans (hb1.mono HBV.out.2)
 clear hV hWV hlt v0 l0 l1 hB HBW
 rcases zb with _ | _
 · go_wp2_with fail
   refine (Hbw.out _).mono ?_
   rintro e w1 ⟨rfl, rfl⟩
   rcases wb with _ | _
   · go_wp2_with fail
     go_ret
     exact ⟨by simp, HBV.out.1⟩
   · go_wp2_with fail
     refine (Hba.out _).mono ?_
     rintro e w1 ⟨rfl, hb1⟩
     have hfin := Lib.hid (HS.out _ hb1)
     clear hb1
     go_wp2_with fail
     go_ret
     exact ⟨by simp, hfin.out⟩
 · go_wp2_with fail
   refine (Hbw.out _).mono ?_
   rintro e w1 ⟨rfl, rfl⟩
   rcases wb with _ | _
   · go_wp2_with fail
     go_ret
     exact ⟨by simp, HBV.out.1⟩
   · go_wp2_with fail
     refine (Hba.out _).mono ?_
     rintro e w1 ⟨rfl, hb1⟩
     have hfin := Lib.hid (HS.out _ hb1)
     clear hb1
     go_wp2_with fail
     go_ret
     exact ⟨by simp, hfin.out⟩
set_option maxHeartbeats 1000000 in
theorem isStep_3 (x : Stp) (w : World) (hG : Glob w) (hk : x.kd = 3) :
 Calls Tryd.prog 47 #[.agg (stpArr x)] w fun e w' => e = .returned (.bool ((x.ms == 0) && bdB x.b 1000000000000)) ∧ Below w.heap.size w w' := by
 obtain ⟨W, hW⟩ : ∃ W, W = w.alloc (.cells (stpArr x) 33) := ⟨_, rfl⟩
 have hB : Hid (Below w.heap.size w W) := by show Below _ _ _; rw [hW]; exact (Below.refl _ _).alloc (Nat.le_refl _) _
 have hGW := hG.below hB.out
 have r0 : W.heap[w.heap.size]? = some (.cells (stpArr x) 33 (0, 0)) := by rw [hW]; exact heap_last _ _ _ rfl
 have y0 : W.cell? ⟨w.heap.size, 0, none⟩ = some (.int .u8 x.kd) := by rw [cell_of_row _ _ _ _ _ _ r0]; rfl
 have y1 : W.cell? ⟨w.heap.size, 1, none⟩ = some (I (x.ms)) := by rw [cell_of_row _ _ _ _ _ _ r0]; rfl
 have y2 : W.cell? ⟨w.heap.size, 2, none⟩ = some (I (x.b 0)) := by rw [cell_of_row _ _ _ _ _ _ r0]; rfl
 have y3 : W.cell? ⟨w.heap.size, 3, none⟩ = some (I (x.b 1)) := by rw [cell_of_row _ _ _ _ _ _ r0]; rfl
 have y4 : W.cell? ⟨w.heap.size, 4, none⟩ = some (I (x.b 2)) := by rw [cell_of_row _ _ _ _ _ _ r0]; rfl
 have y5 : W.cell? ⟨w.heap.size, 5, none⟩ = some (I (x.b 3)) := by rw [cell_of_row _ _ _ _ _ _ r0]; rfl
 have y6 : W.cell? ⟨w.heap.size, 6, none⟩ = some (I (x.b 4)) := by rw [cell_of_row _ _ _ _ _ _ r0]; rfl
 have y7 : W.cell? ⟨w.heap.size, 7, none⟩ = some (I (x.b 5)) := by rw [cell_of_row _ _ _ _ _ _ r0]; rfl
 have HW := Lib.hid hW
 clear hW
 obtain ⟨l0, l1⟩ := hGW.l3
 rw [hk] at y0
 have ba := fun W' => areBounds_any x.b 1000000000000 W'
 have Hba := Lib.hid ba
 have bw := fun (w : World) => within_any x.ms 1 1000000000 w
 have Hbw := Lib.hid bw
 have dk : wiB 3 1 4 = true := by decide
 obtain ⟨bb, hbb⟩ : ∃ bb, bdB x.b 1000000000000 = bb := ⟨_, rfl⟩
 obtain ⟨wb, hwb⟩ : ∃ wb, wiB x.ms 1 1000000000 = wb := ⟨_, rfl⟩
 obtain ⟨zb, hzb⟩ : ∃ zb, (x.ms == 0) = zb := ⟨_, rfl⟩
 rw [hbb] at Hba ⊢
 rw [hwb] at Hbw
 rw [hzb]
 have hk1 := Lib.hid (show (stpArr x) = #[.int .u8 3, I x.ms, I (x.b 0), I (x.b 1), I (x.b 2), I (x.b 3), I (x.b 4), I (x.b 5)] by simp [hk])
 clear r0 ba bw hG hGW hbb hwb hk
 have HBW := hB.out.size
 go_enter Tryd.func47, Tryd.ntmps47
 go_upto_region 1 with (fail)
 rw [← HW.out]
 go_wp2_with fail
 refine (within_any 3 1 4 W).mono ?_
 rintro e w1 ⟨rfl, rfl⟩
 rw [dk]
 go_upto_region 4 with (fail)
 obtain ⟨V, hV⟩ : ∃ V, V = W.alloc (.cells #[.int .i64 1000000000000, .bool false] 149) := ⟨_, rfl⟩
 rw [← hV]
 have hWV : Below W.heap.size W V := by rw [hV]; exact (Below.refl _ _).alloc (Nat.le_refl _) _
 have hlt : w.heap.size < W.heap.size := by rw [HW.out]; simp
 have v0 : V.heap[W.heap.size]? = some (.cells #[.int .i64 1000000000000, .bool false] 149 (0, 0)) := by rw [hV]; exact heap_last _ _ _ rfl
 have u0 : V.cell? ⟨W.heap.size, 0, none⟩ = some (I 1000000000000) := by rw [cell_of_row _ _ _ _ _ _ v0]; rfl
 have u1 : V.cell? ⟨W.heap.size, 1, none⟩ = some (.bool false) := by rw [cell_of_row _ _ _ _ _ _ v0]; rfl
 have y0 := (hWV.cell (p := ⟨w.heap.size, 0, none⟩) hlt).trans y0
 have y1 := (hWV.cell (p := ⟨w.heap.size, 1, none⟩) hlt).trans y1
 have y2 := (hWV.cell (p := ⟨w.heap.size, 2, none⟩) hlt).trans y2
 have y3 := (hWV.cell (p := ⟨w.heap.size, 3, none⟩) hlt).trans y3
 have y4 := (hWV.cell (p := ⟨w.heap.size, 4, none⟩) hlt).trans y4
 have y5 := (hWV.cell (p := ⟨w.heap.size, 5, none⟩) hlt).trans y5
 have y6 := (hWV.cell (p := ⟨w.heap.size, 6, none⟩) hlt).trans y6
 have y7 := (hWV.cell (p := ⟨w.heap.size, 7, none⟩) hlt).trans y7
 have HBV : Hid (Below w.heap.size w V ∧ w.heap.size ≤ V.heap.size) := ⟨hB.out.trans (hWV.mono HBW), Nat.le_trans HBW hWV.size⟩
 have HS : Hid (∀ w1, Below V.heap.size V w1 → Below w.heap.size w w1) := fun w1 hb1 => HBV.out.1.trans (hb1.mono HBV.out.2)
 clear hV hWV hlt v0 l0 l1 hB HBW
 rcases zb with _ | _
 · go_wp2_with fail
   go_ret
   exact ⟨by simp, HBV.out.1⟩
 · go_wp2_with fail
   refine (Hbw.out _).mono ?_
   rintro e w1 ⟨rfl, rfl⟩
   rcases wb with _ | _
   · go_wp2_with fail
     refine (Hba.out _).mono ?_
     rintro e w1 ⟨rfl, hb1⟩
     have hfin := Lib.hid (HS.out _ hb1)
     clear hb1
     go_wp2_with fail
     go_ret
     exact ⟨by simp, hfin.out⟩
   · go_wp2_with fail
     refine (Hba.out _).mono ?_
     rintro e w1 ⟨rfl, hb1⟩
     have hfin := Lib.hid (HS.out _ hb1)
     clear hb1
     go_wp2_with fail
     go_ret
     exact ⟨by simp, hfin.out⟩
set_option maxHeartbeats 1000000 in
theorem isStep_4 (x : Stp) (w : World) (hG : Glob w) (hk : x.kd = 4) :
 Calls Tryd.prog 47 #[.agg (stpArr x)] w fun e w' => e = .returned (.bool ((x.ms == 0) && bdB x.b 10000)) ∧ Below w.heap.size w w' := by
 obtain ⟨W, hW⟩ : ∃ W, W = w.alloc (.cells (stpArr x) 33) := ⟨_, rfl⟩
 have hB : Hid (Below w.heap.size w W) := by show Below _ _ _; rw [hW]; exact (Below.refl _ _).alloc (Nat.le_refl _) _
 have hGW := hG.below hB.out
 have r0 : W.heap[w.heap.size]? = some (.cells (stpArr x) 33 (0, 0)) := by rw [hW]; exact heap_last _ _ _ rfl
 have y0 : W.cell? ⟨w.heap.size, 0, none⟩ = some (.int .u8 x.kd) := by rw [cell_of_row _ _ _ _ _ _ r0]; rfl
 have y1 : W.cell? ⟨w.heap.size, 1, none⟩ = some (I (x.ms)) := by rw [cell_of_row _ _ _ _ _ _ r0]; rfl
 have y2 : W.cell? ⟨w.heap.size, 2, none⟩ = some (I (x.b 0)) := by rw [cell_of_row _ _ _ _ _ _ r0]; rfl
 have y3 : W.cell? ⟨w.heap.size, 3, none⟩ = some (I (x.b 1)) := by rw [cell_of_row _ _ _ _ _ _ r0]; rfl
 have y4 : W.cell? ⟨w.heap.size, 4, none⟩ = some (I (x.b 2)) := by rw [cell_of_row _ _ _ _ _ _ r0]; rfl
 have y5 : W.cell? ⟨w.heap.size, 5, none⟩ = some (I (x.b 3)) := by rw [cell_of_row _ _ _ _ _ _ r0]; rfl
 have y6 : W.cell? ⟨w.heap.size, 6, none⟩ = some (I (x.b 4)) := by rw [cell_of_row _ _ _ _ _ _ r0]; rfl
 have y7 : W.cell? ⟨w.heap.size, 7, none⟩ = some (I (x.b 5)) := by rw [cell_of_row _ _ _ _ _ _ r0]; rfl
 have HW := Lib.hid hW
 clear hW
 obtain ⟨l0, l1⟩ := hGW.l4
 rw [hk] at y0
 have ba := fun W' => areBounds_any x.b 10000 W'
 have Hba := Lib.hid ba
 have bw := fun (w : World) => within_any x.ms 1 1000000000 w
 have Hbw := Lib.hid bw
 have dk : wiB 4 1 4 = true := by decide
 obtain ⟨bb, hbb⟩ : ∃ bb, bdB x.b 10000 = bb := ⟨_, rfl⟩
 obtain ⟨wb, hwb⟩ : ∃ wb, wiB x.ms 1 1000000000 = wb := ⟨_, rfl⟩
 obtain ⟨zb, hzb⟩ : ∃ zb, (x.ms == 0) = zb := ⟨_, rfl⟩
 rw [hbb] at Hba ⊢
 rw [hwb] at Hbw
 rw [hzb]
 have hk1 := Lib.hid (show (stpArr x) = #[.int .u8 4, I x.ms, I (x.b 0), I (x.b 1), I (x.b 2), I (x.b 3), I (x.b 4), I (x.b 5)] by simp [hk])
 clear r0 ba bw hG hGW hbb hwb hk
 have HBW := hB.out.size
 go_enter Tryd.func47, Tryd.ntmps47
 go_upto_region 1 with (fail)
 rw [← HW.out]
 go_wp2_with fail
 refine (within_any 4 1 4 W).mono ?_
 rintro e w1 ⟨rfl, rfl⟩
 rw [dk]
 go_upto_region 4 with (fail)
 obtain ⟨V, hV⟩ : ∃ V, V = W.alloc (.cells #[.int .i64 10000, .bool false] 149) := ⟨_, rfl⟩
 rw [← hV]
 have hWV : Below W.heap.size W V := by rw [hV]; exact (Below.refl _ _).alloc (Nat.le_refl _) _
 have hlt : w.heap.size < W.heap.size := by rw [HW.out]; simp
 have v0 : V.heap[W.heap.size]? = some (.cells #[.int .i64 10000, .bool false] 149 (0, 0)) := by rw [hV]; exact heap_last _ _ _ rfl
 have u0 : V.cell? ⟨W.heap.size, 0, none⟩ = some (I 10000) := by rw [cell_of_row _ _ _ _ _ _ v0]; rfl
 have u1 : V.cell? ⟨W.heap.size, 1, none⟩ = some (.bool false) := by rw [cell_of_row _ _ _ _ _ _ v0]; rfl
 have y0 := (hWV.cell (p := ⟨w.heap.size, 0, none⟩) hlt).trans y0
 have y1 := (hWV.cell (p := ⟨w.heap.size, 1, none⟩) hlt).trans y1
 have y2 := (hWV.cell (p := ⟨w.heap.size, 2, none⟩) hlt).trans y2
 have y3 := (hWV.cell (p := ⟨w.heap.size, 3, none⟩) hlt).trans y3
 have y4 := (hWV.cell (p := ⟨w.heap.size, 4, none⟩) hlt).trans y4
 have y5 := (hWV.cell (p := ⟨w.heap.size, 5, none⟩) hlt).trans y5
 have y6 := (hWV.cell (p := ⟨w.heap.size, 6, none⟩) hlt).trans y6
 have y7 := (hWV.cell (p := ⟨w.heap.size, 7, none⟩) hlt).trans y7
 have HBV : Hid (Below w.heap.size w V ∧ w.heap.size ≤ V.heap.size) := ⟨hB.out.trans (hWV.mono HBW), Nat.le_trans HBW hWV.size⟩
 have HS : Hid (∀ w1, Below V.heap.size V w1 → Below w.heap.size w w1) := fun w1 hb1 => HBV.out.1.trans (hb1.mono HBV.out.2)
 clear hV hWV hlt v0 l0 l1 hB HBW
 rcases zb with _ | _
 · go_wp2_with fail
   go_ret
   exact ⟨by simp, HBV.out.1⟩
 · go_wp2_with fail
   refine (Hbw.out _).mono ?_
   rintro e w1 ⟨rfl, rfl⟩
   rcases wb with _ | _
   · go_wp2_with fail
     refine (Hba.out _).mono ?_
     rintro e w1 ⟨rfl, hb1⟩
     have hfin := Lib.hid (HS.out _ hb1)
     clear hb1
     go_wp2_with fail
     go_ret
     exact ⟨by simp, hfin.out⟩
   · go_wp2_with fail
     refine (Hba.out _).mono ?_
     rintro e w1 ⟨rfl, hb1⟩
     have hfin := Lib.hid (HS.out _ hb1)
     clear hb1
     go_wp2_with fail
     go_ret
     exact ⟨by simp, hfin.out⟩
set_option maxHeartbeats 1000000 in
theorem isStep_any (x : Stp) (w : World) (hG : Glob w) (hk : 0 ≤ x.kd ∧ x.kd ≤ 255) : Calls Tryd.prog 47 #[.agg (stpArr x)] w fun e w' => e = .returned (.bool (isS x)) ∧ Below w.heap.size w w' := by
 unfold isS
 by_cases h1 : x.kd = 1
 · rw [if_pos h1]; exact isStep_1 x w hG h1
 rw [if_neg h1]
 by_cases h2 : x.kd = 2
 · rw [if_pos h2]; exact isStep_2 x w hG h2
 rw [if_neg h2]
 by_cases h3 : x.kd = 3
 · rw [if_pos h3]; exact isStep_3 x w hG h3
 rw [if_neg h3]
 by_cases h4 : x.kd = 4
 · rw [if_pos h4]; exact isStep_4 x w hG h4
 rw [if_neg h4]
 have dk : wiB x.kd 1 4 = false := by
  unfold wiB
  rw [Bool.and_eq_false_iff, decide_eq_false_iff_not, decide_eq_false_iff_not]
  omega
 have wk : IntKind.i64.wrap x.kd = x.kd := IntWalk.i64_in _ (by omega)
 obtain ⟨W, hW⟩ : ∃ W, W = w.alloc (.cells (stpArr x) 33) := ⟨_, rfl⟩
 have hB : Hid (Below w.heap.size w W) := by show Below _ _ _; rw [hW]; exact (Below.refl _ _).alloc (Nat.le_refl _) _
 have r0 : W.heap[w.heap.size]? = some (.cells (stpArr x) 33 (0, 0)) := by rw [hW]; exact heap_last _ _ _ rfl
 have y0 : W.cell? ⟨w.heap.size, 0, none⟩ = some (.int .u8 x.kd) := by rw [cell_of_row _ _ _ _ _ _ r0]; rfl
 have HW := Lib.hid hW
 clear hW r0 h1 h2 h3 h4 hG
 go_enter Tryd.func47, Tryd.ntmps47
 go_upto_region 1 with (fail)
 rw [← HW.out]
 go_wp2_with fail
 refine (within_any x.kd 1 4 W).mono ?_
 rintro e w1 ⟨rfl, rfl⟩
 rw [dk]
 go_wp2_with fail
 go_ret
 exact ⟨rfl, hB.out⟩
end Go.Proofs.YtnkaoplgmglijaaDoor
namespace Go.Proofs.YtnkaoplgmglijaaDoor
open Go.RowKit
def rT (xs : List Stp) (k j : Nat) : Value := if j = 0 then .int .u8 (at0 xs k).kd else if j = 1 then I (at0 xs k).ms else I ((at0 xs k).b (j - 2))
theorem Rd.stp {w : World} {B n k : Nat} {A : Option Addr} {xs : List Stp} (h : Rd w B 8 A n (rT xs)) (hk : k < n) : ∃ b o, A = some ⟨b, o, none⟩ ∧ b < B ∧
 w.cell? ⟨b, o + k * 8, none⟩ = some (.int .u8 (at0 xs k).kd) ∧ w.cell? ⟨b, o + k * 8 + 1, none⟩ = some (I (at0 xs k).ms) ∧ w.cell? ⟨b, o + k * 8 + 2, none⟩ = some (I ((at0 xs k).b 0)) ∧ w.cell? ⟨b, o + k * 8 + 3, none⟩ = some (I ((at0 xs k).b 1)) ∧
 w.cell? ⟨b, o + k * 8 + 4, none⟩ = some (I ((at0 xs k).b 2)) ∧ w.cell? ⟨b, o + k * 8 + 5, none⟩ = some (I ((at0 xs k).b 3)) ∧ w.cell? ⟨b, o + k * 8 + 6, none⟩ = some (I ((at0 xs k).b 4)) ∧ w.cell? ⟨b, o + k * 8 + 7, none⟩ = some (I ((at0 xs k).b 5)) := by
 obtain ⟨b, o, e, hb, hc⟩ := h (by omega)
 exact ⟨b, o, e, hb, hc k hk 0 (by omega), hc k hk 1 (by omega), hc k hk 2 (by omega), hc k hk 3 (by omega), hc k hk 4 (by omega), hc k hk 5 (by omega), hc k hk 6 (by omega), hc k hk 7 (by omega)⟩
theorem stp_cells {W : World} {q : Nat} {x : Stp} {t : TypeId} (h : W.heap[q]? = some (.cells (stpArr x) t (0, 0))) : W.cell? ⟨q, 0, none⟩ = some (.int .u8 x.kd) ∧ W.cell? ⟨q, 1, none⟩ = some (I x.ms) ∧ W.cell? ⟨q, 2, none⟩ = some (I (x.b 0)) ∧
 W.cell? ⟨q, 3, none⟩ = some (I (x.b 1)) ∧ W.cell? ⟨q, 4, none⟩ = some (I (x.b 2)) ∧ W.cell? ⟨q, 5, none⟩ = some (I (x.b 3)) ∧ W.cell? ⟨q, 6, none⟩ = some (I (x.b 4)) ∧ W.cell? ⟨q, 7, none⟩ = some (I (x.b 5)) := by
 refine ⟨?_, ?_, ?_, ?_, ?_, ?_, ?_, ?_⟩ <;> (rw [cell_of_row _ _ _ _ _ _ h]; rfl)
def msK (m : Mlt) (l : List Stp) : Nat → Int
 | 0 => m.ms
 | k + 1 => grF (msK m l k) (at0 l k)
def stE (m : Mlt) (l : List Stp) (k : Nat) : Int := if isS (at0 l k) = false then 2 else if msK m l (k + 1) < 0 then 31 else if 1000000000 < msK m l (k + 1) then 8 else 0
def ckK (m : Mlt) (l : List Stp) : Nat → Int
 | 0 => 0
 | k + 1 => if ckK m l k = 0 then stE m l k else ckK m l k
def ckF (m : Mlt) (l : List Stp) : Int := if isM m = false then 2 else if 200 < l.length then 5 else ckK m l l.length
theorem ckK_at {m : Mlt} {l : List Stp} {k : Nat} (h0 : ∀ j, j < k → stE m l j = 0) : ckK m l k = 0 := by
 induction k with
 | zero => rfl
 | succ k ih => rw [ckK, ih (fun j hj => h0 j (by omega)), if_pos rfl]; exact h0 k (by omega)
theorem ckK_err {m : Mlt} {l : List Stp} {k : Nat} (h0 : ∀ j, j < k → stE m l j = 0) (h1 : stE m l k ≠ 0) : ∀ d, ckK m l (k + 1 + d) = stE m l k
 | 0 => by rw [Nat.add_zero, ckK, ckK_at h0, if_pos rfl]
 | d + 1 => by
   have := ckK_err h0 h1 d
   rw [← Nat.add_assoc, ckK, this, if_neg h1]
theorem isS_ms {x : Stp} (h : isS x = true) : x.kd = 1 ∨ x.kd = 2 → 1 ≤ x.ms ∧ x.ms ≤ 1000000000 := by
 unfold isS at h
 intro hk
 have key : wiB x.ms 1 1000000000 = true := by
  rcases hk with hk | hk
  · rw [if_pos hk, Bool.and_eq_true] at h; exact h.1
  · rw [if_neg (by omega), if_pos hk, Bool.and_eq_true] at h; exact h.1
 unfold wiB at key
 rw [Bool.and_eq_true, decide_eq_true_eq, decide_eq_true_eq] at key
 exact key
theorem isM_ms {m : Mlt} (h : isM m = true) : 0 ≤ m.ms ∧ m.ms ≤ 1000000000 := by
 unfold isM wiB at h
 rw [Bool.and_eq_true, Bool.and_eq_true, decide_eq_true_eq, decide_eq_true_eq] at h
 exact h.1
theorem msK_bd {m : Mlt} {l : List Stp} (hm : isM m = true) : ∀ k, (∀ j, j < k → stE m l j = 0) → 0 ≤ msK m l k ∧ msK m l k ≤ 1000000000
 | 0, _ => isM_ms hm
 | k + 1, h => by
   have := h k (by omega)
   unfold stE at this
   split at this
   · exact absurd this (by decide)
   · split at this
     · exact absurd this (by decide)
     · split at this
       · exact absurd this (by decide)
       · omega
set_option maxRecDepth 100000 in
set_option maxHeartbeats 1000000 in
theorem check_any (m : Mlt) (A : Option Addr) (c : Nat) (l : List Stp) (w : World) (B : Nat) (hG : Glob w) (hB : B ≤ w.heap.size) (hx : Rd w B 8 A l.length (rT l)) (hk : ∀ j, j < l.length → 0 ≤ (at0 l j).kd ∧ (at0 l j).kd ≤ 255) (hn : l.length ≤ maxLen) :
 Calls Tryd.prog 17 #[.agg (mltArr m), .slice A l.length c] w fun e w' => e = .returned (I (ckF m l)) ∧ Below w.heap.size w w' := by
 obtain ⟨W, hW⟩ : ∃ W, W = w.alloc (.cells (mltArr m) 27) := ⟨_, rfl⟩
 have hb0 : Below w.heap.size w W := by rw [hW]; exact (Below.refl _ _).alloc (Nat.le_refl _) _
 have HB : Hid (Below w.heap.size w W ∧ w.heap.size ≤ W.heap.size) := ⟨hb0, hb0.size⟩
 have r0 : W.heap[w.heap.size]? = some (.cells (mltArr m) 27 (0, 0)) := by rw [hW]; exact heap_last _ _ _ rfl
 have y0 : W.cell? ⟨w.heap.size, 0, none⟩ = some (I m.ms) := by rw [cell_of_row _ _ _ _ _ _ r0]; rfl
 have y1 : W.cell? ⟨w.heap.size, 1, none⟩ = some (I (m.ct 0)) := by rw [cell_of_row _ _ _ _ _ _ r0]; rfl
 have y2 : W.cell? ⟨w.heap.size, 2, none⟩ = some (I (m.ct 1)) := by rw [cell_of_row _ _ _ _ _ _ r0]; rfl
 have y3 : W.cell? ⟨w.heap.size, 3, none⟩ = some (I (m.ct 2)) := by rw [cell_of_row _ _ _ _ _ _ r0]; rfl
 have y4 : W.cell? ⟨w.heap.size, 4, none⟩ = some (I (m.ct 3)) := by rw [cell_of_row _ _ _ _ _ _ r0]; rfl
 have y5 : W.cell? ⟨w.heap.size, 5, none⟩ = some (I (m.ct 4)) := by rw [cell_of_row _ _ _ _ _ _ r0]; rfl
 have y6 : W.cell? ⟨w.heap.size, 6, none⟩ = some (I (m.ct 5)) := by rw [cell_of_row _ _ _ _ _ _ r0]; rfl
 have HU : Hid (∀ W', Below W.heap.size W W' → Below w.heap.size w W') := fun W' h => HB.out.1.trans (h.mono HB.out.2)
 have HX : Hid (∀ W', Below W.heap.size W W' → Rd W' B 8 A l.length (rT l) ∧ Glob W') := fun W' h => ⟨hx.below ((HU.out W' h).mono hB), hG.below (HU.out W' h)⟩
 have Hr0 := Lib.hid r0
 have HW := Lib.hid hW
 have Hk := Lib.hid hk
 have Hn := Lib.hid hn
 clear hW hb0 r0 hx hG hk hn
 go_enter Tryd.func17, Tryd.ntmps17
 go_upto_region 1 with (fail)
 rw [← HW.out]
 go_wp2_with fail
 refine (isMelt_any m W).mono ?_
 rintro e w1 ⟨rfl, hb1⟩
 have HB1 := Lib.hid hb1
 clear hb1 y0 y1 y2 y3 y4 y5 y6
 rcases hm : isM m with _ | _
 · have Hf : Hid (ckF m l = 2) := if_pos hm
   clear hm
   go_wp2_with fail
   go_ret
   exact ⟨by rw [Hf.out]; rfl, HU.out _ HB1.out⟩
 have Hm := Lib.hid hm
 by_cases h200 : 200 < l.length
 · have d1 : decide (200 < (l.length : Int)) = true := decide_eq_true (by omega)
   have Hf : Hid (ckF m l = 5) := by show ckF m l = 5; unfold ckF; rw [if_neg (by rw [hm]; decide), if_pos h200]
   clear hm h200
   go_wp2_with fail
   go_ret
   exact ⟨by rw [Hf.out]; rfl, HU.out _ HB1.out⟩
 have d1 : decide (200 < (l.length : Int)) = false := decide_eq_false (by omega)
 have Hf : Hid (ckF m l = ckK m l l.length) := by show ckF m l = _; unfold ckF; rw [if_neg (by rw [hm]; decide), if_neg h200]
 have H200 : Hid (l.length ≤ 200) := by show _ ≤ _; omega
 have y0 : w1.cell? ⟨w.heap.size, 0, none⟩ = some (I m.ms) := by rw [cell_of_row _ _ _ _ _ _ ((HB1.out.block _ (Array.getElem?_eq_some_iff.1 Hr0.out).1).trans Hr0.out)]; rfl
 clear hm h200
 go_wp2_with fail
 clear y0 d1
 go_loopw [5, 20] (fun ms i wr => ∃ k : Nat, k ≤ l.length ∧ i = .int .i64 k ∧ ms = I (msK m l k) ∧ (∀ j, j < k → stE m l j = 0) ∧ Below w1.heap.size w1 wr) (fun _ i _ => l.length - (intOf i).toNat)
 case atStart => exact ⟨0, by omega, rfl, rfl, fun j hj => by omega, Below.refl _ _⟩
 case round =>
  rename World => X0
  obtain ⟨k, hk, rfl, rfl, h0, hbw⟩ := hrel
  have H0 := Lib.hid h0
  have hb := msK_bd Hm.out k h0
  have LX : Hid (Below W.heap.size W X0) := HB1.out.trans (hbw.mono HB1.out.size)
  have LX1 := Lib.hid hbw
  clear h0 hbw
  have h200 := H200.out
  by_cases hlt : k < l.length
  · have hki : decide ((k : Int) < (l.length : Int)) = true := decide_eq_true (by omega)
    have hkn : decide (k < l.length) = true := decide_eq_true hlt
    obtain ⟨b, o, rfl, _, x0, x1, x2, x3, x4, x5, x6, x7⟩ := (HX.out X0 LX.out).1.stp hlt
    have hkk := Hk.out k hlt
    have hE : Hid (stE m l k = if isS (at0 l k) = false then 2 else if grF (msK m l k) (at0 l k) < 0 then 31 else if 1000000000 < grF (msK m l k) (at0 l k) then 8 else 0) := rfl
    have hS : Hid (msK m l (k + 1) = grF (msK m l k) (at0 l k)) := rfl
    have Hne : Hid (stE m l k ≠ 0 → ckF m l = stE m l k) := fun h => by
        rw [Hf.out]
        have := ckK_err H0.out h (l.length - (k + 1))
        rwa [show k + 1 + (l.length - (k + 1)) = l.length by omega] at this
    have Hok : Hid (stE m l k = 0 → ∀ j, j < k + 1 → stE m l j = 0) := fun h j hj => by
        rcases Nat.lt_or_ge j k with hjk | hjk
        · exact H0.out j hjk
        · obtain rfl : j = k := by omega
          exact h
    obtain ⟨x, hx⟩ : ∃ x, at0 l k = x := ⟨_, rfl⟩
    obtain ⟨mk, hmk⟩ : ∃ mk, msK m l k = mk := ⟨_, rfl⟩
    rw [hx] at x0 x1 x2 x3 x4 x5 x6 x7 hkk hE hS
    rw [hmk] at hb hE hS ⊢
    clear hx hmk
    go_upto_region 9 with (fail)
    obtain ⟨V, hV⟩ : ∃ V, V = X0.alloc (.cells (stpArr x) 33) := ⟨_, rfl⟩
    have hXV : Below X0.heap.size X0 V := by rw [hV]; exact (Below.refl _ _).alloc (Nat.le_refl _) _
    have rV : V.heap[X0.heap.size]? = some (.cells (stpArr x) 33 (0, 0)) := by rw [hV]; exact heap_last _ _ _ rfl
    have HRV : Hid (∀ W', Below V.heap.size V W' → W'.heap[X0.heap.size]? = some (.cells (stpArr x) 33 (0, 0))) := fun W' h => (h.block _ (Array.getElem?_eq_some_iff.1 rV).1).trans rV
    have LV : Hid (Below W.heap.size W V) := LX.out.trans (hXV.mono LX.out.size)
    have LV1 : Hid (Below w1.heap.size w1 V) := LX1.out.trans (hXV.mono LX1.out.size)
    rw [← hV]
    obtain ⟨z0, z1, z2, z3, z4, z5, z6, z7⟩ := stp_cells rV
    clear hV hXV rV x0 x1 x2 x3 x4 x5 x6 x7
    go_wp2_with fail
    refine (isStep_any x V (HX.out V LV.out).2 hkk).mono ?_
    rintro e w3 ⟨rfl, hb3⟩
    have L3 : Hid (Below V.heap.size V w3) := hb3
    clear hb3 z0 z1 z2 z3 z4 z5 z6 z7
    rcases hsx : isS x with _ | _
    · have he2 : stE m l k = 2 := by rw [hE.out, hsx]; rfl
      have Hz : Hid (ckF m l = 2) := by show ckF m l = 2; rw [Hne.out (by omega), he2]
      clear hsx he2
      go_wp2_with fail
      go_ret
      exact ⟨by rw [Hz.out]; rfl, HU.out _ (LV.out.trans (L3.out.mono LV.out.size))⟩
    have hxm := isS_ms hsx
    have hE3 : Hid (stE m l k = if grF mk x < 0 then 31 else if 1000000000 < grF mk x then 8 else 0) := by show _ = _; rw [hE.out, hsx]; rfl
    obtain ⟨z0, z1, z2, z3, z4, z5, z6, z7⟩ := stp_cells (HRV.out w3 L3.out)
    clear hsx
    go_wp2_with fail
    refine (grown_any mk x w3 (by omega) (fun h => by have := hxm h; omega)).mono ?_
    rintro e w4 ⟨rfl, hb4⟩
    have L4 : Hid (Below V.heap.size V w4) := L3.out.trans (hb4.mono L3.out.size)
    clear hb4 z0 z1 z2 z3 z4 z5 z6 z7 hxm
    have hg := hE3.out
    generalize grF mk x = gm at *
    by_cases c1 : gm < 0
    · have d1 : decide (gm < 0) = true := decide_eq_true c1
      have Hz : Hid (ckF m l = 31) := by show ckF m l = 31; rw [if_pos c1] at hg; rw [Hne.out (by omega), hg]
      clear c1 hg
      go_wp2_with fail
      go_ret
      exact ⟨by rw [Hz.out]; rfl, HU.out _ (LV.out.trans (L4.out.mono LV.out.size))⟩
    have d1 : decide (gm < 0) = false := decide_eq_false c1
    rw [if_neg c1] at hg
    by_cases c2 : 1000000000 < gm
    · have d2 : decide (1000000000 < gm) = true := decide_eq_true c2
      have Hz : Hid (ckF m l = 8) := by show ckF m l = 8; rw [if_pos c2] at hg; rw [Hne.out (by omega), hg]
      clear c1 c2 hg
      go_wp2_with fail
      go_ret
      exact ⟨by rw [Hz.out]; rfl, HU.out _ (LV.out.trans (L4.out.mono LV.out.size))⟩
    have d2 : decide (1000000000 < gm) = false := decide_eq_false c2
    rw [if_neg c2] at hg
    have Hall := Lib.hid (Hok.out hg)
    clear c1 c2 hg
    go_wp2_with fail
    go_roundw
    case rel => exact ⟨k + 1, by omega, by go_num, by rw [hS.out], Hall.out, LV1.out.trans (L4.out.mono LV1.out.size)⟩
    case measure => simp [intOf]; omega
  · obtain rfl : k = l.length := by omega
    have hki : decide ((l.length : Int) < (l.length : Int)) = false := decide_eq_false (by omega)
    have Hz : Hid (ckF m l = 0) := by show ckF m l = 0; rw [Hf.out]; exact ckK_at H0.out
    go_wp2_with fail
    go_ret
    exact ⟨by rw [Hz.out]; rfl, HU.out _ LX.out⟩
end Go.Proofs.YtnkaoplgmglijaaDoor
namespace Go.Proofs.YtnkaoplgmglijaaDoor
open Go.RowKit
def chF (x : Stp) (s : Nat) (d mass : Int) : Int × Int :=
 if x.kd = 1 ∧ x.ms = mass then (d, d) else if x.kd = 1 then (ptF (x.b (s * 2)) d x.ms mass 1, ptF (x.b (s * 2 + 1)) d x.ms mass 2)
 else if x.kd = 4 then (ptF (x.b (s * 2)) d 1 1 1, ptF (x.b (s * 2 + 1)) d 1 1 2) else (x.b (s * 2), x.b (s * 2 + 1))
theorem bdB_at {b : Nat → Int} {m : Int} (h : bdB b m = true) {s : Nat} (hs : s < 3) : 0 ≤ b (s * 2) ∧ b (s * 2) ≤ b (s * 2 + 1) ∧ b (s * 2 + 1) ≤ m := by
 unfold bdB at h
 rw [Bool.and_eq_true, Bool.and_eq_true, rgB_iff, rgB_iff, rgB_iff] at h
 rcases s with _ | _ | _ | s
 · exact h.1.1
 · exact h.1.2
 · exact h.2
 · omega
theorem isS_by {x : Stp} (h : isS x = true) {s : Nat} (hs : s < 3) : 0 ≤ x.b (s * 2) ∧ x.b (s * 2) ≤ x.b (s * 2 + 1) ∧ (x.kd = 1 ∨ x.kd = 4 → x.b (s * 2 + 1) ≤ 20000) ∧ x.b (s * 2 + 1) ≤ 1000000000000 := by
 unfold isS at h
 split at h
 · rename_i hk
   rw [Bool.and_eq_true] at h
   have := bdB_at h.2 hs
   exact ⟨this.1, this.2.1, fun _ => this.2.2, by omega⟩
 · split at h
   · rename_i hk
     rw [Bool.and_eq_true] at h
     have := bdB_at h.2 hs
     exact ⟨this.1, this.2.1, fun h => by omega, by omega⟩
   · split at h
     · rename_i hk
       rw [Bool.and_eq_true] at h
       have := bdB_at h.2 hs
       exact ⟨this.1, this.2.1, fun h => by omega, by omega⟩
     · split at h
       · rename_i hk
         rw [Bool.and_eq_true] at h
         have := bdB_at h.2 hs
         exact ⟨this.1, this.2.1, fun _ => by omega, by omega⟩
       · cases h
set_option maxRecDepth 100000 in
set_option maxHeartbeats 4000000 in
theorem choices_any (x : Stp) (s : Nat) (d mass : Int) (w : World) (hx : isS x = true) (hs : s < 3) (hd : -9223372036854775808 ≤ d ∧ d ≤ 9223372036854775807) (hm : 0 ≤ mass ∧ mass ≤ 1000000000) :
 Calls Tryd.prog 59 #[.agg (stpArr x), I s, I d, I mass] w fun e w' => e = .returned (.tuple #[I (chF x s d mass).1, I (chF x s d mass).2]) ∧ Below w.heap.size w w' := by
 obtain ⟨W, hW⟩ : ∃ W, W = w.alloc (.cells (stpArr x) 33) := ⟨_, rfl⟩
 have hb0 : Below w.heap.size w W := by rw [hW]; exact (Below.refl _ _).alloc (Nat.le_refl _) _
 have HB : Hid (Below w.heap.size w W ∧ w.heap.size ≤ W.heap.size) := ⟨hb0, hb0.size⟩
 have r0 : W.heap[w.heap.size]? = some (.cells (stpArr x) 33 (0, 0)) := by rw [hW]; exact heap_last _ _ _ rfl
 obtain ⟨y0, y1, _, _, _, _, _, _⟩ := stp_cells r0
 have ylo : W.cell? ⟨w.heap.size, 2 + s * 2, none⟩ = some (I (x.b (s * 2))) := by
  rw [cell_of_row _ _ _ _ _ _ r0]
  rcases s with _ | _ | _ | s
  · rfl
  · rfl
  · rfl
  · omega
 have yhi : W.cell? ⟨w.heap.size, 2 + s * 2 + 1, none⟩ = some (I (x.b (s * 2 + 1))) := by
  rw [cell_of_row _ _ _ _ _ _ r0]
  rcases s with _ | _ | _ | s
  · rfl
  · rfl
  · rfl
  · omega
 have hby := isS_by hx hs
 have hxm := isS_ms hx
 have hss : decide ((s : Int) < 3) = true := decide_eq_true (by omega)
 have hsn : decide (s < 3) = true := decide_eq_true hs
 have hs0 : decide (0 ≤ (s : Int)) = true := decide_eq_true (by omega)
 have Hf : Hid (chF x s d mass = if x.kd = 1 ∧ x.ms = mass then (d, d) else if x.kd = 1 then (ptF (x.b (s * 2)) d x.ms mass 1, ptF (x.b (s * 2 + 1)) d x.ms mass 2)
  else if x.kd = 4 then (ptF (x.b (s * 2)) d 1 1 1, ptF (x.b (s * 2 + 1)) d 1 1 2) else (x.b (s * 2), x.b (s * 2 + 1))) := rfl
 have HW := Lib.hid hW
 have Hr0 := Lib.hid r0
 have Hby := Lib.hid hby
 have Hxm := Lib.hid hxm
 clear hW hb0 r0 hx hby hxm
 generalize x.b (s * 2) = lo at *
 generalize x.b (s * 2 + 1) = hi at *
 go_enter Tryd.func59, Tryd.ntmps59
 go_upto_region 1 with (fail)
 rw [← HW.out]
 go_upto_region 2 with (fail)
 obtain ⟨V, hV⟩ : ∃ V, V = W.alloc (.cells #[I lo, I hi] 23) := ⟨_, rfl⟩
 have hWV : Below W.heap.size W V := by rw [hV]; exact (Below.refl _ _).alloc (Nat.le_refl _) _
 have rV : V.heap[W.heap.size]? = some (.cells #[I lo, I hi] 23 (0, 0)) := by rw [hV]; exact heap_last _ _ _ rfl
 have q0 : V.cell? ⟨W.heap.size, 0, none⟩ = some (I lo) := by rw [cell_of_row _ _ _ _ _ _ rV]; rfl
 have q1 : V.cell? ⟨W.heap.size, 1, none⟩ = some (I hi) := by rw [cell_of_row _ _ _ _ _ _ rV]; rfl
 have hrx := (hWV.block _ (Array.getElem?_eq_some_iff.1 Hr0.out).1).trans Hr0.out
 obtain ⟨y0, y1, _, _, _, _, _, _⟩ := stp_cells hrx
 have HU : Hid (∀ w', Below V.heap.size V w' → Below w.heap.size w w') := fun w' h => HB.out.1.trans ((hWV.trans (h.mono hWV.size)).mono HB.out.2)
 rw [← hV]
 clear hV hWV rV hrx ylo yhi hss hsn hs0 hs Hr0 HB
 by_cases h1 : x.kd = 1
 · have e1 : (x.kd == 1) = true := by simpa using h1
   by_cases h2 : x.ms = mass
   · have e2 : (x.ms == mass) = true := by simpa using h2
     have Hz : Hid (chF x s d mass = (d, d)) := by show _ = _; rw [Hf.out, if_pos ⟨h1, h2⟩]
     clear h1 h2
     go_wp2_with fail
     go_ret2
     exact ⟨by rw [Hz.out]; rfl, HU.out _ (Below.refl _ _)⟩
   · have e2 : (x.ms == mass) = false := by simpa using h2
     have Hz : Hid (chF x s d mass = (ptF lo d x.ms mass 1, ptF hi d x.ms mass 2)) := by show _ = _; rw [Hf.out, if_neg (fun h => h2 h.2), if_pos h1]
     have hb := Hby.out.2.2.1 (.inl h1)
     have hb0 := Hby.out.1
     have hb1 := Hby.out.2.1
     have hxm := Hxm.out (.inl h1)
     have cp1 := Lib.hid fun W' => part_any lo d x.ms mass 1 W' (by omega) (by omega) hm hd (by omega)
     have cp2 := Lib.hid fun W' => part_any hi d x.ms mass 2 W' (by omega) (by omega) hm hd (by omega)
     have v0 := ovr_cell y0
     have v1 := ovr_cell y1
     have v2 := ovr_cell q0
     have v3 := ovr_cell q1
     clear h1 h2 hb hb0 hb1 hxm Hf
     generalize ptF lo d x.ms mass 1 = r1 at *
     generalize ptF hi d x.ms mass 2 = r2 at *
     go_upto_region 5 with (fail)
     refine wp_region_below_lit (by kernel_rfl) (by kernel_rfl) ?_
     repeat (go_big_quiet_step (fail))
     go_big_quiet_step (exact call_below (cp1.out _))
     repeat (go_big_quiet_step (fail))
     go_big_quiet_step (exact call_below (cp2.out _))
     repeat (go_big_quiet_step (fail))
     refine wpQuiet_nil ?_
     intro w' hb
     have Hb := Lib.hid hb
     clear hb v0 v1 v2 v3 y0 y1 q0 q1
     go_wp2_with fail
     go_ret2
     exact ⟨by rw [Hz.out]; rfl, HU.out _ Hb.out⟩
 · have e1 : (x.kd == 1) = false := by simpa using h1
   by_cases h4 : x.kd = 4
   · have e4 : (x.kd == 4) = true := by simpa using h4
     have Hz : Hid (chF x s d mass = (ptF lo d 1 1 1, ptF hi d 1 1 2)) := by show _ = _; rw [Hf.out, if_neg (fun h => h1 h.1), if_neg h1, if_pos h4]
     have hb := Hby.out.2.2.1 (.inr h4)
     have hb0 := Hby.out.1
     have hb1 := Hby.out.2.1
     have cp1 := Lib.hid fun W' => part_any lo d 1 1 1 W' (by omega) (by omega) (by omega) hd (by omega)
     have cp2 := Lib.hid fun W' => part_any hi d 1 1 2 W' (by omega) (by omega) (by omega) hd (by omega)
     have v2 := ovr_cell q0
     have v3 := ovr_cell q1
     clear h1 h4 hb hb0 hb1 Hf
     generalize ptF lo d 1 1 1 = r1 at *
     generalize ptF hi d 1 1 2 = r2 at *
     go_upto_region 7 with (fail)
     refine wp_region_below_lit (by kernel_rfl) (by kernel_rfl) ?_
     repeat (go_big_quiet_step (fail))
     go_big_quiet_step (exact call_below (cp1.out _))
     repeat (go_big_quiet_step (fail))
     go_big_quiet_step (exact call_below (cp2.out _))
     repeat (go_big_quiet_step (fail))
     refine wpQuiet_nil ?_
     intro w' hb
     have Hb := Lib.hid hb
     clear hb v2 v3 y0 y1 q0 q1
     go_wp2_with fail
     go_ret2
     exact ⟨by rw [Hz.out]; rfl, HU.out _ Hb.out⟩
   · have e4 : (x.kd == 4) = false := by simpa using h4
     have Hz : Hid (chF x s d mass = (lo, hi)) := by show _ = _; rw [Hf.out, if_neg (fun h => h1 h.1), if_neg h1, if_neg h4]
     have v2 := ovr_cell q0
     have v3 := ovr_cell q1
     clear h1 h4
     go_upto_region 8 with (fail)
     refine wp_region_below_lit (by kernel_rfl) (by kernel_rfl) ?_
     repeat (go_big_quiet_step (fail))
     refine wpQuiet_nil ?_
     intro w' hb
     have Hb := Lib.hid hb
     clear hb v2 v3 y0 y1 q0 q1
     go_wp2_with fail
     go_ret2
     exact ⟨by rw [Hz.out]; rfl, HU.out _ Hb.out⟩
end Go.Proofs.YtnkaoplgmglijaaDoor
namespace Go.Proofs.YtnkaoplgmglijaaDoor
open Go.RowKit
structure Crs where
 added : Bool
 frozen : Bool
 gone : Bool
abbrev crsArr (c : Crs) : Array Value := #[.bool c.added, .bool c.frozen, .bool c.gone]
def stF (c : Crs) (lo hi : Int) : Int := if c.added then hi else lo
theorem start_any (c : Crs) (r : Rng) (w : World) : Calls Tryd.prog 27 #[.agg (crsArr c), .agg #[I r.lo, I r.hi]] w fun e w' => e = .returned (I (stF c r.lo r.hi)) ∧ Below w.heap.size w w' := by
 obtain ⟨a, f, g⟩ := c
 have hB : Hid (Below w.heap.size w ((w.alloc (.cells #[.bool a, .bool f, .bool g] 95)).alloc (.cells #[I r.lo, I r.hi] 23))) := ((Below.refl _ _).alloc (Nat.le_refl _) _).alloc (by simp) _
 rcases a with _ | _
 · go_enter Tryd.func27, Tryd.ntmps27
   go_wp2_with fail
   go_ret
   exact ⟨rfl, hB.out⟩
 · go_enter Tryd.func27, Tryd.ntmps27
   go_wp2_with fail
   go_ret
   exact ⟨rfl, hB.out⟩
def pkF (c : Crs) (kd lo hi : Int) : Int := if (if kd = 1 then c.frozen else if kd = 4 then c.gone else c.added) then hi else lo
theorem pick_any (c : Crs) (A : Option Addr) (n d : Nat) (w : World) : Calls Tryd.prog 28 #[.agg (crsArr c), .slice A n d] w fun e w' => e = .returned (.func (.func 57) #[] #[.pointer (some ⟨w.heap.size, 0, none⟩), .pointer (some ⟨w.heap.size + 1, 0, none⟩)]) ∧
 w' = (w.alloc (.cells (crsArr c) 95)).alloc (.cells #[.slice A n d] 28) := by
 go_enter Tryd.func28, Tryd.ntmps28
 go_wp2
 go_ret
 exact ⟨rfl, rfl⟩
structure PkIn (W : World) (c : Crs) (A : Option Addr) (d : Nat) (l : List Stp) (B qc qs : Nat) : Prop where
 c0 : W.cell? ⟨qc, 0, none⟩ = some (.bool c.added)
 c1 : W.cell? ⟨qc, 1, none⟩ = some (.bool c.frozen)
 c2 : W.cell? ⟨qc, 2, none⟩ = some (.bool c.gone)
 s : W.cell? ⟨qs, 0, none⟩ = some (.slice A l.length d)
 r : Rd W B 8 A l.length (rT l)
 lt : B ≤ W.heap.size
set_option maxHeartbeats 1000000 in
theorem pick1_any (c : Crs) (A : Option Addr) (d : Nat) (l : List Stp) (B qc qs k : Nat) (lo hi : Int) (w : World) (h : PkIn w c A d l B qc qs) (hk : k < l.length) :
 Calls Tryd.prog 57 #[I k, I lo, I hi, .pointer (some ⟨qc, 0, none⟩), .pointer (some ⟨qs, 0, none⟩)] w fun e w' => e = .returned (I (pkF c (at0 l k).kd lo hi)) ∧ Below w.heap.size w w' := by
 obtain ⟨b, o, rfl, _, x0, _, _, _, _, _, _, _⟩ := h.r.stp hk
 have y0 := h.c0
 have y1 := h.c1
 have y2 := h.c2
 have y3 := h.s
 have k1 : decide ((k : Int) < (l.length : Int)) = true := decide_eq_true (by omega)
 have k2 : decide (k < l.length) = true := decide_eq_true hk
 have k3 : decide (0 ≤ (k : Int)) = true := decide_eq_true (by omega)
 generalize at0 l k = x at *
 obtain ⟨a, f, g⟩ := c
 simp only at y0 y1 y2
 obtain ⟨r, hr⟩ : ∃ r, pkF ⟨a, f, g⟩ x.kd lo hi = r := ⟨_, rfl⟩
 simp only [hr]
 have Hf : Hid (r = if (if x.kd = 1 then f else if x.kd = 4 then g else a) then hi else lo) := hr.symm
 clear h hr
 by_cases h1 : x.kd = 1
 · have e1 : (x.kd == 1) = true := by simpa using h1
   rcases f with _ | _
   all_goals
    have Hz := Hf.out
    rw [if_pos h1] at Hz
    have Hz := Lib.hid Hz
    go_enter Tryd.func57, Tryd.ntmps57
    go_wp2_with fail
    go_ret
    exact ⟨by first | rfl | (rw [Hz.out]; rfl), Below.refl _ _⟩
 · have e1 : (x.kd == 1) = false := by simpa using h1
   by_cases h4 : x.kd = 4
   · have e4 : (x.kd == 4) = true := by simpa using h4
     rcases g with _ | _
     all_goals
        have Hz := Hf.out
        rw [if_neg h1, if_pos h4] at Hz
        have Hz := Lib.hid Hz
        go_enter Tryd.func57, Tryd.ntmps57
        go_wp2_with fail
        go_ret
        exact ⟨by first | rfl | (rw [Hz.out]; rfl), Below.refl _ _⟩
   · have e4 : (x.kd == 4) = false := by simpa using h4
     rcases a with _ | _
     all_goals
        have Hz := Hf.out
        rw [if_neg h1, if_neg h4] at Hz
        have Hz := Lib.hid Hz
        go_enter Tryd.func57, Tryd.ntmps57
        go_wp2_with fail
        go_ret
        exact ⟨by first | rfl | (rw [Hz.out]; rfl), Below.refl _ _⟩
abbrev lnArr (m : Mlt) (A : Option Addr) (n d s : Nat) : Array Value := #[I m.ms, I (m.ct 0), I (m.ct 1), I (m.ct 2), I (m.ct 3), I (m.ct 4), I (m.ct 5), .slice A n d, I s]
theorem walk_any (m : Mlt) (A : Option Addr) (n d s : Nat) (st : Int) (f : Value) (hf : ∃ fn a b, f = .func fn a b) (w : World) : Calls Tryd.prog 30 #[.agg (lnArr m A n d s), I st, f] w fun e w' =>
 e = .returned (.func (.func 58) #[] #[.pointer (some ⟨w.heap.size + 1, 0, none⟩), .pointer (some ⟨w.heap.size, 0, none⟩), .pointer (some ⟨w.heap.size + 2, 0, none⟩)]) ∧
 w' = ((w.alloc (.cells (lnArr m A n d s) 70)).alloc (.cells #[I st] 3)).alloc (.cells #[f] 98) := by
 obtain ⟨fn, a, b, rfl⟩ := hf
 go_enter Tryd.func30, Tryd.ntmps30
 go_wp2
 go_ret
 exact ⟨rfl, rfl⟩
end Go.Proofs.YtnkaoplgmglijaaDoor
