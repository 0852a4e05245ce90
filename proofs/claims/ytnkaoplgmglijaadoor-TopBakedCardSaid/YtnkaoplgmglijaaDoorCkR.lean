/- The contract of CheckRun of package pull: 0 where the run is valid, else 2. Lists of at most maxLen elements. -/
import Derived.Test.YtnkaoplgmglijaaDoorBa
namespace Go.Proofs.YtnkaoplgmglijaaDoor
open Go.RowKit
def er (b : Bool) : Int := if b then 0 else 2
def outB (m n : Int) : Bool := decide (n < 0) || decide (m < n)
def inB (m : Int) (xs : List Int) : Bool := !(xs.any (outB m))
def badR (m : Int) (r : Rng) : Bool := !inB m [r.lo, r.hi] || decide (r.hi < r.lo)
def rangeB (m : Int) (xs : List Rng) : Bool := !(xs.any (badR m))
set_option maxHeartbeats 400000 in
theorem in1_b (n m : Int) (a : Addr) (w : World) (hc : w.cell? a = some (.int .i64 m)) :
 Calls Tryd.prog 105 #[.int .i64 n, .pointer (some a)] w fun e w' => e = .returned (.bool (outB m n)) ∧ w = w' := by
 show Calls _ _ _ _ fun e w' => e = .returned (.bool (decide (n < 0) || decide (m < n))) ∧ w = w'
 go_enter Tryd.func105, Tryd.ntmps105
 go_wp2
 all_goals (go_ret; exact ⟨rfl, rfl⟩)
set_option maxHeartbeats 400000 in
theorem ix_in (A : Option Addr) (c : Nat) (xs : List Int) (m : Int) (a : Addr) (w : World) (B : Nat) (hc : w.cell? a = some (.int .i64 m)) (hm : xs.length ≤ maxLen) (hx : Rd w B 1 A xs.length (rI xs)) :
 Calls Tryd.prog 111 #[.slice A xs.length c, .func (Fn.func 105) #[] #[.pointer (some a)]] w fun e w' => e = .returned (.int .i64 (ixOf (outB m) xs)) ∧ w = w' := by
 unfold maxLen at hm
 have Hx := Lib.hid hx
 clear hx
 go_enter Tryd.func111, Tryd.ntmps111
 go_wp2
 go_loop [8] (fun i => ∃ k : Nat, k ≤ xs.length ∧ i = .int .i64 k ∧ ∀ j, j < k → outB m (at0 xs j) = false) (fun i => xs.length - (intOf i).toNat)
 case atStart => exact ⟨0, by omega, rfl, by omega⟩
 case round =>
  obtain ⟨k, hk, rfl, hb⟩ := hrel
  have Hb := Lib.hid hb
  clear hb
  by_cases hlt : k < xs.length
  · obtain ⟨b, o, rfl, _, hxk⟩ := Hx.out.int hlt
    by_cases hp : outB m (at0 xs k) = true
    · have hfin := Lib.hid (ixOf_at hlt hp Hb.out)
      go_wp2_with (go_at_call 105; refine (in1_b _ _ _ _ hc).mono ?_; rintro e w' ⟨rfl, rfl⟩)
      go_ret
      exact ⟨ret_int hfin.out.symm, rfl⟩
    · have hp : outB m (at0 xs k) = false := by simpa using hp
      go_wp2_with (go_at_call 105; refine (in1_b _ _ _ _ hc).mono ?_; rintro e w' ⟨rfl, rfl⟩)
      go_round
      case rel => exact ⟨k + 1, by omega, by go_num, succ_case Hb.out hp⟩
      case measure => simp [intOf]; omega
  · have hfin : Hid (ixOf (outB m) xs = -1) := ixOf_none0 fun j hj => Hb.out j (by omega)
    go_wp2
    go_ret
    exact ⟨ret_int hfin.out.symm, rfl⟩
set_option maxHeartbeats 400000 in
theorem contains_in (A : Option Addr) (c : Nat) (xs : List Int) (m : Int) (a : Addr) (w : World) (B : Nat) (hc : w.cell? a = some (.int .i64 m)) (hm : xs.length ≤ maxLen) (hx : Rd w B 1 A xs.length (rI xs)) :
 Calls Tryd.prog 104 #[.slice A xs.length c, .func (Fn.func 105) #[] #[.pointer (some a)]] w fun e w' => e = .returned (.bool (!inB m xs)) ∧ w = w' := by
 have hfin := Lib.hid (ixOf_any (p := outB m) (xs := xs))
 have Hx := Lib.hid hx
 clear hx
 go_enter Tryd.func104, Tryd.ntmps104
 go_wp2_with (go_at_call 111; refine (ix_in _ _ _ _ _ _ _ hc hm Hx.out).mono ?_; rintro e w' ⟨rfl, rfl⟩)
 go_ret
 exact ⟨by rw [hfin.out]; simp [inB], rfl⟩
set_option maxHeartbeats 400000 in
theorem in_any (A : Option Addr) (n c : Nat) (xs : List Int) (m : Int) (w : World) (hn : n = xs.length) (hm : n ≤ maxLen) (hx : Rd w w.heap.size 1 A n (rI xs)) :
 Calls Tryd.prog 95 #[.int .i64 m, .slice A n c] w fun e w' => e = .returned (.bool (inB m xs)) ∧ Below w.heap.size w w' := by
 subst hn
 have hmf := @makeFunc_run Tryd.prog
 have Hx := Lib.hid (hx.alloc (Nat.le_refl _) (.cells #[.int .i64 m] 3))
 clear hx
 go_enter Tryd.func95, Tryd.ntmps95
 go_wp2_with (go_at_call 104; refine (contains_in _ _ _ m _ _ _ (by simp) hm Hx.out).mono ?_; rintro e w' ⟨rfl, rfl⟩)
 go_ret
 exact ⟨by simp, (Below.refl _ _).alloc (Nat.le_refl _) _⟩
theorem Rd_newP {W : World} {q : Nat} {cs : Array Value} {t : TypeId} (hq : W.heap[q]? = some (.cells cs t (0, 0))) (sz n o : Nat) (g : Nat → Nat → Value) (h : ∀ k, k < n → ∀ j, j < sz → cs[o + k * sz + j]? = some (g k j)) :
 Rd W W.heap.size sz (some ⟨q, o, none⟩) n g := fun _ =>
 ⟨q, o, rfl, (Array.getElem?_eq_some_iff.1 hq).1, fun k hk j hj => by rw [cell_of_row W q _ cs t _ hq]; exact h k hk j hj⟩
theorem heap_lastP (w : World) (o : Obj) (q : Nat) (hq : q = w.heap.size) : (w.alloc o).heap[q]? = some o := by subst hq; exact heap_alloc_new w o
theorem heap_beforeP {w : World} {o x : Obj} {q : Nat} (h : w.heap[q]? = some x) : (w.alloc o).heap[q]? = some x :=
 (Below.heap_alloc w o q (Array.getElem?_eq_some_iff.1 h).1).trans h
set_option maxHeartbeats 400000 in
theorem isr1_b (r : Rng) (m : Int) (a : Addr) (w : World) (ha : ∃ b o, a = ⟨b, o, none⟩ ∧ b < w.heap.size) (hc : w.cell? a = some (.int .i64 m)) :
 Calls Tryd.prog 96 #[.agg #[I r.lo, I r.hi], .pointer (some a)] w fun e w' => e = .returned (.bool (badR m r)) ∧ Below w.heap.size w w' := by
 obtain ⟨b, o, rfl, hb⟩ := ha
 have hfin : Hid (badR m r = (!inB m [r.lo, r.hi] || decide (r.hi < r.lo))) := rfl
 by_cases hi : inB m [r.lo, r.hi] = true
 all_goals
  (try have hi : inB m [r.lo, r.hi] = false := by simpa using hi)
  go_enter Tryd.func96, Tryd.ntmps96
  go_wp2_with fail
  refine (in_any _ _ _ [r.lo, r.hi] _ _ rfl (by unfold maxLen; simp) (Rd_newP (heap_lastP _ _ _ (by simp)) _ _ _ _ (all2 (all1 rfl) (all1 rfl)))).mono ?_
  rintro e w1 ⟨rfl, hb1⟩
  obtain ⟨hcc, hff⟩ := bcell hb1
  have hz := hb1.size
  go_wp2
  all_goals
   go_ret
   exact ⟨bor (by rw [hfin.out]; simp [*]), (((Below.refl _ _).alloc (Nat.le_refl _) _).alloc (by simp) _).trans (hb1.mono (by simp; omega))⟩
set_option maxHeartbeats 400000 in
theorem ix_range (A : Option Addr) (c : Nat) (xs : List Rng) (m : Int) (a : Addr) (w : World) (ha : ∃ b o, a = ⟨b, o, none⟩ ∧ b < w.heap.size) (hc : w.cell? a = some (.int .i64 m)) (hm : xs.length ≤ maxLen) (hx : Rd w w.heap.size 2 A xs.length (rR xs)) :
 Calls Tryd.prog 80 #[.slice A xs.length c, .func (Fn.func 96) #[] #[.pointer (some a)]] w fun e w' => e = .returned (.int .i64 (ixOf (badR m) xs)) ∧ Below w.heap.size w w' := by
 obtain ⟨b, o, rfl, hbo⟩ := ha
 unfold maxLen at hm
 have Hx := Lib.hid hx
 clear hx
 have Hc := Lib.hid hc
 clear hc
 go_enter Tryd.func80, Tryd.ntmps80
 go_wp2
 go_loopw [8] (fun i wr => ∃ k : Nat, k ≤ xs.length ∧ i = .int .i64 k ∧ (∀ j, j < k → badR m (at0 xs j) = false) ∧ Below w.heap.size w wr) (fun i _ => xs.length - (intOf i).toNat)
 case atStart => exact ⟨0, by omega, rfl, by omega, Below.refl _ _⟩
 case round =>
  obtain ⟨k, hk, rfl, hb, hbw⟩ := hrel
  have Hb := Lib.hid hb
  clear hb
  by_cases hlt : k < xs.length
  · obtain ⟨b, o, rfl, _, hx0, hx1⟩ := (Hx.out.below hbw).rng hlt
    have hcr := (hbw.cell (p := ⟨_, _, none⟩) hbo).trans Hc.out
    have hsz := hbw.size
    by_cases hp : badR m (at0 xs k) = true
    · have hfin := Lib.hid (ixOf_at hlt hp Hb.out)
      go_wp2_with (go_at_call 96; refine (isr1_b _ m _ _ ⟨_, _, rfl, by omega⟩ hcr).mono ?_; rintro e w' ⟨rfl, hb1⟩)
      go_ret
      exact ⟨ret_int hfin.out.symm, hbw.trans (hb1.mono hsz)⟩
    · have hp : badR m (at0 xs k) = false := by simpa using hp
      go_wp2_with (go_at_call 96; refine (isr1_b _ m _ _ ⟨_, _, rfl, by omega⟩ hcr).mono ?_; rintro e w' ⟨rfl, hb1⟩)
      go_roundw
      case rel => exact ⟨k + 1, by omega, by go_num, succ_case Hb.out hp, hbw.trans (hb1.mono hsz)⟩
      case measure => simp [intOf]; omega
  · have hfin : Hid (ixOf (badR m) xs = -1) := ixOf_none0 fun j hj => Hb.out j (by omega)
    go_wp2
    go_ret
    exact ⟨ret_int hfin.out.symm, hbw⟩
set_option maxHeartbeats 400000 in
theorem contains_range (A : Option Addr) (c : Nat) (xs : List Rng) (m : Int) (a : Addr) (w : World) (ha : ∃ b o, a = ⟨b, o, none⟩ ∧ b < w.heap.size) (hc : w.cell? a = some (.int .i64 m)) (hm : xs.length ≤ maxLen) (hx : Rd w w.heap.size 2 A xs.length (rR xs)) :
 Calls Tryd.prog 61 #[.slice A xs.length c, .func (Fn.func 96) #[] #[.pointer (some a)]] w fun e w' => e = .returned (.bool (!rangeB m xs)) ∧ Below w.heap.size w w' := by
 have hfin := Lib.hid (ixOf_any (p := badR m) (xs := xs))
 have Hx := Lib.hid hx
 clear hx
 go_enter Tryd.func61, Tryd.ntmps61
 go_wp2_with (go_at_call 80; refine (ix_range _ _ _ _ _ _ ha hc hm Hx.out).mono ?_; rintro e w' ⟨rfl, hb1⟩)
 go_ret
 exact ⟨by rw [hfin.out]; simp [rangeB], hb1⟩
set_option maxHeartbeats 400000 in
theorem isRange_anyP (A : Option Addr) (n c : Nat) (xs : List Rng) (m : Int) (w : World) (hn : n = xs.length) (hm : n ≤ maxLen) (hx : Rd w w.heap.size 2 A n (rR xs)) :
 Calls Tryd.prog 77 #[.int .i64 m, .slice A n c] w fun e w' => e = .returned (.bool (rangeB m xs)) ∧ Below w.heap.size w w' := by
 subst hn
 have hmf := @makeFunc_run Tryd.prog
 have Hx := Lib.hid ((hx.alloc (Nat.le_refl _) (.cells #[.int .i64 m] 3)).more (B' := (w.alloc (.cells #[.int .i64 m] 3)).heap.size) (by simp))
 clear hx
 go_enter Tryd.func77, Tryd.ntmps77
 go_wp2_with (go_at_call 61; refine (contains_range _ _ _ m _ _ ⟨_, _, rfl, by simp⟩ (by simp) hm Hx.out).mono ?_; rintro e w' ⟨rfl, hb1⟩)
 go_ret
 exact ⟨by simp, ((Below.refl _ _).alloc (Nat.le_refl _) _).trans (hb1.mono (by simp))⟩
def okSet (s : Stg) : Bool := decide (1 ≤ s.ph) && decide (s.ph ≤ 5) && inB 1000000 [s.v 0, s.v 1, s.v 2, s.v 3, s.v 4, s.v 5]
theorem isSetting_any (s : Stg) (w : World) :
 Calls Tryd.prog 76 #[s.val] w fun e w' => e = .returned (.bool (okSet s)) ∧ Below w.heap.size w w' := by
 have hfin : Hid (okSet s = (decide (1 ≤ s.ph) && decide (s.ph ≤ 5) && inB 1000000 [s.v 0, s.v 1, s.v 2, s.v 3, s.v 4, s.v 5])) := rfl
 go_enter Tryd.func76, Tryd.ntmps76
 go_wp2_with fail
 · refine (in_any _ _ _ [s.v 0, s.v 1, s.v 2, s.v 3, s.v 4, s.v 5] _ _ rfl (by unfold maxLen; simp) (Rd_newP (heap_lastP _ _ _ rfl) _ _ _ _ (all6 (all1 rfl) (all1 rfl) (all1 rfl) (all1 rfl) (all1 rfl) (all1 rfl)))).mono ?_
   rintro e w' ⟨rfl, hb⟩
   go_wp2
   all_goals
    go_ret
    exact ⟨bor (by rw [hfin.out]; simp [*]), ((Below.refl _ _).alloc (Nat.le_refl _) _).trans (hb.mono (by simp))⟩
 all_goals
  go_ret
  exact ⟨bor (by rw [hfin.out]; simp <;> omega), (Below.refl _ _).alloc (Nat.le_refl _) _⟩
end Go.Proofs.YtnkaoplgmglijaaDoor
/- The contract of CheckPuller of package pull: 0 where the puller is valid, else 2. No condition. -/
namespace Go.Proofs.YtnkaoplgmglijaaDoor
open Go.RowKit
def bnds (p : Vec) (i : Nat) : List Rng := [⟨p i, p (i + 1)⟩, ⟨p (i + 2), p (i + 3)⟩, ⟨p (i + 4), p (i + 5)⟩, ⟨p (i + 6), p (i + 7)⟩, ⟨p (i + 8), p (i + 9)⟩, ⟨p (i + 10), p (i + 11)⟩]
def rmps (p : Vec) (i : Nat) : List Int := [p (i + 12), p (i + 13), p (i + 14), p (i + 15), p (i + 16), p (i + 17)]
def ruleB (p : Vec) (k : Nat) : Bool := rangeB 1000000 (bnds p (k * 22)) && inB 1000000 (rmps p (k * 22)) && rangeB 100000 [⟨p (k * 22 + 18), p (k * 22 + 19)⟩] && rangeB 10000000000 [⟨p (k * 22 + 20), p (k * 22 + 21)⟩]
def restB (p : Vec) : Bool := inB 1000000 [p 110, p 111] && rangeB 1000000 [⟨p 112, p 113⟩] && inB 10000000000 [p 114] && inB 100000 [p 115, p 116]
def okPuller (p : Vec) : Bool := (List.range 5).all (ruleB p) && restB p
theorem okPuller_no (p : Vec) (k : Nat) (hk : k < 5) (h : ruleB p k = false) : okPuller p = false := by
 have : (List.range 5).all (ruleB p) = false := by
  rw [List.all_eq_false]
  exact ⟨k, by simpa using hk, by simp [h]⟩
 simp [okPuller, this]
theorem okPuller_rest (p : Vec) (h : ∀ k, k < 5 → ruleB p k = true) : okPuller p = restB p := by
 have : (List.range 5).all (ruleB p) = true := by
  rw [List.all_eq_true]
  intro x hx
  exact h x (by simpa using hx)
 simp [okPuller, this]
theorem under {w W : World} {o : Obj} (h : Below (w.heap.size + 1) (w.alloc o) W) : Below w.heap.size w W := ((Below.refl _ _).alloc (Nat.le_refl _) o).trans (h.mono (by omega))
end Go.Proofs.YtnkaoplgmglijaaDoor
namespace Go.Proofs.YtnkaoplgmglijaaDoor
open Go.RowKit
structure Run where
 ss : List Stg
 e : Int
 ms : List Smp
 es : List Evt
def nxS (ss : List Stg) : Nat → Int
 | 0 => 0 | k + 1 => (at0 ss k).t + 1
def nxM (ms : List Smp) : Nat → Int
 | 0 => 0 | k + 1 => (at0 ms k).t + 1
def nxE (es : List Evt) : Nat → Int
 | 0 => 0 | k + 1 => (at0 es k).t
def setAt (R : Run) (k : Nat) : Bool := okSet (at0 R.ss k) && decide (nxS R.ss k ≤ (at0 R.ss k).t) && (!(decide (k = 0)) || decide ((at0 R.ss k).t ≤ 0)) && decide ((at0 R.ss k).t < R.e)
def smpAt (R : Run) (k : Nat) : Bool := decide (nxM R.ms k ≤ (at0 R.ms k).t) && decide ((at0 R.ms k).t ≤ R.e) && rangeB 1000000 [⟨(at0 R.ms k).lo, (at0 R.ms k).hi⟩]
def evtAt (R : Run) (k : Nat) : Bool := decide (nxE R.es k ≤ (at0 R.es k).t) && decide ((at0 R.es k).t ≤ R.e) && decide (1 ≤ (at0 R.es k).kd) && decide ((at0 R.es k).kd ≤ 5)
def headB (R : Run) : Bool := decide (1 ≤ R.ss.length) && decide (R.ss.length ≤ 60) && decide (R.ms.length ≤ 100) && decide (R.es.length ≤ 20) && decide (R.e ≤ 100000)
def okRun (R : Run) : Bool := headB R && (List.range R.ss.length).all (setAt R) && (List.range R.ms.length).all (smpAt R) && (List.range R.es.length).all (evtAt R)
theorem all_no {f : Nat → Bool} {n k : Nat} (hk : k < n) (h : f k = false) : (List.range n).all f = false := by
 rw [List.all_eq_false]
 exact ⟨k, by simpa using hk, by simp [h]⟩
theorem all_yes {f : Nat → Bool} {n : Nat} (h : ∀ k, k < n → f k = true) : (List.range n).all f = true := by
 rw [List.all_eq_true]
 intro x hx
 exact h x (by simpa using hx)
theorem okRun_s {R : Run} {k : Nat} (hk : k < R.ss.length) (h : setAt R k = false) : okRun R = false := by simp [okRun, all_no hk h]
theorem okRun_m {R : Run} {k : Nat} (hk : k < R.ms.length) (h : smpAt R k = false) : okRun R = false := by simp [okRun, all_no hk h]
theorem okRun_e {R : Run} {k : Nat} (hk : k < R.es.length) (h : evtAt R k = false) : okRun R = false := by simp [okRun, all_no hk h]
abbrev runV (A1 A2 A3 : Option Addr) (c1 c2 c3 : Nat) (R : Run) : Value := .agg #[.slice A1 R.ss.length c1, I R.e, .slice A2 R.ms.length c2, .slice A3 R.es.length c3]
structure RunIn (w : World) (A1 A2 A3 : Option Addr) (R : Run) : Prop where
 s : Rd w w.heap.size 8 A1 R.ss.length (rS R.ss)
 m : Rd w w.heap.size 3 A2 R.ms.length (rM R.ms)
 e : Rd w w.heap.size 2 A3 R.es.length (rE R.es)
 ls : R.ss.length ≤ 1000000
 lm : R.ms.length ≤ 1000000
 le : R.es.length ≤ 1000000
set_option maxRecDepth 100000 in
set_option maxHeartbeats 1000000 in
theorem checkRun_any (A1 A2 A3 : Option Addr) (c1 c2 c3 : Nat) (R : Run) (w : World) (h : RunIn w A1 A2 A3 R) :
 Calls Tryd.prog 54 #[runV A1 A2 A3 c1 c2 c3 R] w fun e w' => e = .returned (I (er (okRun R))) ∧ Below w.heap.size w w' := by
 have Hs := Lib.hid h.s
 have Hm := Lib.hid h.m
 have He := Lib.hid h.e
 have ls := h.ls
 have lm := h.lm
 have le := h.le
 clear h
 by_cases hh : headB R = false
 · have hfin : Hid (I 2 = I (er (okRun R))) := by simp [okRun, hh]; rfl
   have h' : ¬ 1 ≤ R.ss.length ∨ ¬ R.ss.length ≤ 60 ∨ ¬ R.ms.length ≤ 100 ∨ ¬ R.es.length ≤ 20 ∨ ¬ R.e ≤ 100000 := by simp [headB] at hh; omega
   clear hh
   go_enter Tryd.func54, Tryd.ntmps54
   go_wp2
   all_goals
    go_ret
    exact ⟨congrArg Ending.returned hfin.out, (Below.refl _ _).alloc (Nat.le_refl _) _⟩
 · have hh : headB R = true := by simpa using hh
   have h' : 1 ≤ R.ss.length ∧ R.ss.length ≤ 60 ∧ R.ms.length ≤ 100 ∧ R.es.length ≤ 20 ∧ R.e ≤ 100000 := by simp [headB] at hh; omega
   obtain ⟨g1, g2, g3, g4, g5⟩ := h'
   have HH := Lib.hid hh
   clear hh
   obtain ⟨W0, hW0⟩ : ∃ W0, W0 = w.alloc (.cells #[.slice A1 R.ss.length c1, I R.e, .slice A2 R.ms.length c2, .slice A3 R.es.length c3] 92) := ⟨_, rfl⟩
   have HW0 := Lib.hid hW0
   have hZ0 : Hid (W0.heap.size = w.heap.size + 1) := by subst hW0; simp [Hid]
   have hE0 : Hid (W0.cell? ⟨w.heap.size, 1, none⟩ = some (I R.e)) := by subst hW0; simp [Hid]
   have hM0 : Hid (W0.cell? ⟨w.heap.size, 2, none⟩ = some (.slice A2 R.ms.length c2)) := by subst hW0; simp [Hid]
   have hV0 : Hid (W0.cell? ⟨w.heap.size, 3, none⟩ = some (.slice A3 R.es.length c3)) := by subst hW0; simp [Hid]
   have hU : ∀ W : World, Below (w.heap.size + 1) W0 W → Below w.heap.size w W := fun W h => under (o := .cells #[.slice A1 R.ss.length c1, I R.e, .slice A2 R.ms.length c2, .slice A3 R.es.length c3] 92) (HW0.out ▸ h)
   clear hW0
   have HU := Lib.hid hU
   clear hU
   go_enter Tryd.func54, Tryd.ntmps54
   go_wp2
   go_loopw [4, 40] (fun nx i wr => ∃ k : Nat, k ≤ R.ss.length ∧ i = .int .i64 k ∧ nx = I (nxS R.ss k) ∧ 0 ≤ nxS R.ss k ∧ (∀ j, j < k → setAt R j = true) ∧ Below (w.heap.size + 1) W0 wr) (fun _ i _ => R.ss.length - (intOf i).toNat)
   case atStart => exact ⟨0, by omega, rfl, rfl, by simp [nxS], by omega, by rw [HW0.out]; exact Below.refl _ _⟩
   case round =>
    obtain ⟨k, hk, rfl, rfl, hnx, hb, hbw⟩ := hrel
    have Hb := Lib.hid hb
    clear hb
    have hsz : w.heap.size + 1 ≤ wr.heap.size := by have := hbw.size; rw [hZ0.out] at this; exact this
    have cE : wr.cell? ⟨w.heap.size, 1, none⟩ = some (I R.e) := (hbw.cell (p := ⟨_, _, none⟩) (by simp)).trans hE0.out
    by_cases hlt : k < R.ss.length
    · obtain ⟨b, o, rfl, hB, x0, x1, x2, x3, x4, x5, x6, x7⟩ := (Hs.out.below (HU.out _ hbw)).stg hlt
      have hno : Hid (setAt R k = false → I 2 = I (er (okRun R))) := fun h => by rw [okRun_s hlt h]; rfl
      have hst : Hid (setAt R k = (okSet (at0 R.ss k) && decide (nxS R.ss k ≤ (at0 R.ss k).t) && (!(decide (k = 0)) || decide ((at0 R.ss k).t ≤ 0)) && decide ((at0 R.ss k).t < R.e))) := rfl
      go_wp2_with fail
      refine (isSetting_any (at0 R.ss k) _).mono ?_
      rintro e w1 ⟨rfl, hb1⟩
      have hz1 : wr.heap.size + 1 ≤ w1.heap.size := by have := hb1.size; simpa using this
      have hB1 : Below (w.heap.size + 1) W0 w1 := (hbw.alloc (by omega) _).trans (hb1.mono (by simp; omega))
      have d0 : w1.cell? ⟨wr.heap.size, 0, none⟩ = some (I (at0 R.ss k).t) := (hb1.cell (p := ⟨_, _, none⟩) (by simp)).trans (by simp)
      have dE : w1.cell? ⟨w.heap.size, 1, none⟩ = some (I R.e) := (hB1.cell (p := ⟨_, _, none⟩) (by simp)).trans hE0.out
      clear x0 x1 x2 x3 x4 x5 x6 x7 cE
      rcases h1 : okSet (at0 R.ss k) with _ | _
      · go_wp2_with fail
        go_ret
        exact ⟨congrArg Ending.returned (hno.out (by rw [hst.out, h1]; rfl)), HU.out _ hB1⟩
      by_cases q1 : nxS R.ss k ≤ (at0 R.ss k).t
      rotate_left
      · have hno2 := Lib.hid (hno.out (by rw [hst.out, h1]; simp; omega))
        go_wp2_with fail
        go_ret
        exact ⟨congrArg Ending.returned hno2.out, HU.out _ hB1⟩
      rcases Nat.eq_zero_or_pos k with k0 | k0
      · subst k0
        by_cases q2 : (at0 R.ss 0).t ≤ 0
        rotate_left
        · have hno2 := Lib.hid (hno.out (by rw [hst.out, h1]; simp; omega))
          go_wp2_with fail
          go_ret
          exact ⟨congrArg Ending.returned hno2.out, HU.out _ hB1⟩
        by_cases q3 : (at0 R.ss 0).t < R.e
        rotate_left
        · have hno2 := Lib.hid (hno.out (by rw [hst.out, h1]; simp; omega))
          go_wp2_with fail
          go_ret
          exact ⟨congrArg Ending.returned hno2.out, HU.out _ hB1⟩
        go_wp2_with fail
        go_roundw
        case rel => exact ⟨1, by omega, rfl, rfl, by simp [nxS]; omega, succ_case Hb.out (by rw [hst.out, h1]; simp; omega), hB1⟩
        case measure => simp [intOf]; omega
      · have k1 : ((k : Int) == 0) = false := by simp; omega
        by_cases q3 : (at0 R.ss k).t < R.e
        rotate_left
        · have hno2 := Lib.hid (hno.out (by rw [hst.out, h1]; simp; omega))
          go_wp2_with fail
          go_ret
          exact ⟨congrArg Ending.returned hno2.out, HU.out _ hB1⟩
        go_wp2_with fail
        go_roundw
        case rel => exact ⟨k + 1, by omega, by go_num, rfl, by simp [nxS]; omega, succ_case Hb.out (by rw [hst.out, h1]; simp; omega), hB1⟩
        case measure => simp [intOf]; omega
    · have hS : Hid (∀ j, j < R.ss.length → setAt R j = true) := fun j hj => Hb.out j (by omega)
      have cM : wr.cell? ⟨w.heap.size, 2, none⟩ = some (.slice A2 R.ms.length c2) := (hbw.cell (p := ⟨_, _, none⟩) (by simp)).trans hM0.out
      have cV : wr.cell? ⟨w.heap.size, 3, none⟩ = some (.slice A3 R.es.length c3) := (hbw.cell (p := ⟨_, _, none⟩) (by simp)).trans hV0.out
      clear cE Hb hnx
      go_wp2_with fail
      have hbw0 := hbw
      clear cM cV hbw hk hlt
      go_loopw [4, 77] (fun nx i wr => ∃ k : Nat, k ≤ R.ms.length ∧ i = .int .i64 k ∧ nx = I (nxM R.ms k) ∧ 0 ≤ nxM R.ms k ∧ (∀ j, j < k → smpAt R j = true) ∧ Below (w.heap.size + 1) W0 wr) (fun _ i _ => R.ms.length - (intOf i).toNat)
      case atStart => exact ⟨0, by omega, rfl, rfl, by simp [nxM], by omega, hbw0⟩
      case round =>
       clear hbw0 hsz
       obtain ⟨k, hk, rfl, rfl, hnx, hb, hbw⟩ := hrel
       have Hb := Lib.hid hb
       clear hb
       have hsz : w.heap.size + 1 ≤ wr.heap.size := by have := hbw.size; rw [hZ0.out] at this; exact this
       have cE : ∀ x : Obj, (wr.alloc x).cell? ⟨w.heap.size, 1, none⟩ = some (I R.e) := fun x => ((hbw.alloc (by omega) x).cell (p := ⟨_, _, none⟩) (by simp)).trans hE0.out
       by_cases hlt : k < R.ms.length
       · obtain ⟨b, o, rfl, hB, x0, x1, x2⟩ := (Hm.out.below (HU.out _ hbw)).smp hlt
         have hno : Hid (smpAt R k = false → I 2 = I (er (okRun R))) := fun h => by rw [okRun_m hlt h]; rfl
         have hst : Hid (smpAt R k = (decide (nxM R.ms k ≤ (at0 R.ms k).t) && decide ((at0 R.ms k).t ≤ R.e) && rangeB 1000000 [⟨(at0 R.ms k).lo, (at0 R.ms k).hi⟩])) := rfl
         by_cases q1 : nxM R.ms k ≤ (at0 R.ms k).t
         rotate_left
         · have hno2 := Lib.hid (hno.out (by rw [hst.out]; simp; omega))
           go_wp2_with fail
           go_ret
           exact ⟨congrArg Ending.returned hno2.out, (HU.out _ hbw).alloc (by omega) _⟩
         by_cases q2 : (at0 R.ms k).t ≤ R.e
         rotate_left
         · have hno2 := Lib.hid (hno.out (by rw [hst.out]; simp; omega))
           go_wp2_with fail
           go_ret
           exact ⟨congrArg Ending.returned hno2.out, (HU.out _ hbw).alloc (by omega) _⟩
         go_wp2_with fail
         refine (isRange_anyP _ _ _ [⟨(at0 R.ms k).lo, (at0 R.ms k).hi⟩] _ _ (by rfl) (by unfold maxLen; omega) (Rd_newP (heap_lastP _ _ _ (by simp)) _ _ _ _ (all1 (all2 rfl rfl)))).mono ?_
         rintro e w1 ⟨rfl, hb1⟩
         have hB1 : Below (w.heap.size + 1) W0 w1 := ((hbw.alloc (by omega) _).alloc (by simp; omega) _).trans (hb1.mono (by simp; omega))
         have d0 : w1.cell? ⟨wr.heap.size, 0, none⟩ = some (I (at0 R.ms k).t) := (hb1.cell (p := ⟨_, _, none⟩) (by simp; omega)).trans (by simp)
         clear x0 x1 x2 cE
         rcases h1 : rangeB 1000000 [⟨(at0 R.ms k).lo, (at0 R.ms k).hi⟩] with _ | _
         · go_wp2_with fail
           go_ret
           exact ⟨congrArg Ending.returned (hno.out (by rw [hst.out, h1]; simp)), HU.out _ hB1⟩
         go_wp2_with fail
         go_roundw
         case rel => exact ⟨k + 1, by omega, by go_num, rfl, by simp [nxM]; omega, succ_case Hb.out (by rw [hst.out, h1]; simp; omega), hB1⟩
         case measure => simp [intOf]; omega
       · have hM : Hid (∀ j, j < R.ms.length → smpAt R j = true) := fun j hj => Hb.out j (by omega)
         have cV : wr.cell? ⟨w.heap.size, 3, none⟩ = some (.slice A3 R.es.length c3) := (hbw.cell (p := ⟨_, _, none⟩) (by simp)).trans hV0.out
         clear cE Hb hnx
         go_wp2_with fail
         have hbw0 := hbw
         clear cV hbw hk hlt
         go_loopw [4, 106] (fun nx i wr => ∃ k : Nat, k ≤ R.es.length ∧ i = .int .i64 k ∧ nx = I (nxE R.es k) ∧ 0 ≤ nxE R.es k ∧ (∀ j, j < k → evtAt R j = true) ∧ Below (w.heap.size + 1) W0 wr) (fun _ i _ => R.es.length - (intOf i).toNat)
         case atStart => exact ⟨0, by omega, rfl, rfl, by simp [nxE], by omega, hbw0⟩
         case round =>
             clear hbw0 hsz
             obtain ⟨k, hk, rfl, rfl, hnx, hb, hbw⟩ := hrel
             have Hb := Lib.hid hb
             clear hb
             have hsz : w.heap.size + 1 ≤ wr.heap.size := by have := hbw.size; rw [hZ0.out] at this; exact this
             have cE : ∀ x : Obj, (wr.alloc x).cell? ⟨w.heap.size, 1, none⟩ = some (I R.e) := fun x => ((hbw.alloc (by omega) x).cell (p := ⟨_, _, none⟩) (by simp)).trans hE0.out
             by_cases hlt : k < R.es.length
             · obtain ⟨b, o, rfl, hB, x0, x1⟩ := (He.out.below (HU.out _ hbw)).evt hlt
               have hno : Hid (evtAt R k = false → I 2 = I (er (okRun R))) := fun h => by rw [okRun_e hlt h]; rfl
               have hst : Hid (evtAt R k = (decide (nxE R.es k ≤ (at0 R.es k).t) && decide ((at0 R.es k).t ≤ R.e) && decide (1 ≤ (at0 R.es k).kd) && decide ((at0 R.es k).kd ≤ 5))) := rfl
               by_cases q1 : nxE R.es k ≤ (at0 R.es k).t
               rotate_left
               · have hno2 := Lib.hid (hno.out (by rw [hst.out]; simp; omega))
                 go_wp2_with fail
                 go_ret
                 exact ⟨congrArg Ending.returned hno2.out, (HU.out _ hbw).alloc (by omega) _⟩
               by_cases q2 : (at0 R.es k).t ≤ R.e
               rotate_left
               · have hno2 := Lib.hid (hno.out (by rw [hst.out]; simp; omega))
                 go_wp2_with fail
                 go_ret
                 exact ⟨congrArg Ending.returned hno2.out, (HU.out _ hbw).alloc (by omega) _⟩
               by_cases q3 : 1 ≤ (at0 R.es k).kd
               rotate_left
               · have hno2 := Lib.hid (hno.out (by rw [hst.out]; simp; omega))
                 go_wp2_with fail
                 go_ret
                 exact ⟨congrArg Ending.returned hno2.out, (HU.out _ hbw).alloc (by omega) _⟩
               by_cases q4 : (at0 R.es k).kd ≤ 5
               rotate_left
               · have hno2 := Lib.hid (hno.out (by rw [hst.out]; simp; omega))
                 go_wp2_with fail
                 go_ret
                 exact ⟨congrArg Ending.returned hno2.out, (HU.out _ hbw).alloc (by omega) _⟩
               go_wp2_with fail
               go_roundw
               case rel => exact ⟨k + 1, by omega, by go_num, rfl, by simp [nxE]; omega, succ_case Hb.out (by rw [hst.out]; simp; omega), hbw.alloc (by omega) _⟩
               case measure => simp [intOf]; omega
             · have hok : Hid (okRun R = true) := by
                show okRun R = true
                have hE : ∀ j, j < R.es.length → evtAt R j = true := fun j hj => Hb.out j (by omega)
                simp only [okRun, HH.out, all_yes hS.out, all_yes hM.out, all_yes hE, Bool.and_self]
               go_wp2_with fail
               go_ret
               exact ⟨congrArg Ending.returned (by rw [hok.out]; rfl), HU.out _ hbw⟩
end Go.Proofs.YtnkaoplgmglijaaDoor
