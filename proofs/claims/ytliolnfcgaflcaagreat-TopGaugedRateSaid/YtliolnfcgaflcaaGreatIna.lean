/- The contracts of in, isRange and isSetting of package pull, with the searches of package slices that they call: they say what they should of any slice of at most maxLen elements. -/
import Derived.Test.YtliolnfcgaflcaaGreatBa
namespace Go.Proofs.YtliolnfcgaflcaaGreat
open Go.RowKit
def er (b : Bool) : Int := if b then 0 else 2
def outB (m n : Int) : Bool := decide (n < 0) || decide (m < n)
def inB (m : Int) (xs : List Int) : Bool := !(xs.any (outB m))
def badR (m : Int) (r : Rng) : Bool := !inB m [r.lo, r.hi] || decide (r.hi < r.lo)
def rangeB (m : Int) (xs : List Rng) : Bool := !(xs.any (badR m))
set_option maxHeartbeats 400000 in
theorem in1_b (n m : Int) (a : Addr) (w : World) (hc : w.cell? a = some (.int .i64 m)) :
 Calls Tryz.prog 111 #[.int .i64 n, .pointer (some a)] w fun e w' => e = .returned (.bool (outB m n)) ∧ w = w' := by
 show Calls _ _ _ _ fun e w' => e = .returned (.bool (decide (n < 0) || decide (m < n))) ∧ w = w'
 go_enter Tryz.func111, Tryz.ntmps111
 go_wp2
 all_goals (go_ret; exact ⟨rfl, rfl⟩)
set_option maxHeartbeats 400000 in
theorem ix_in (A : Option Addr) (c : Nat) (xs : List Int) (m : Int) (a : Addr) (w : World) (B : Nat) (hc : w.cell? a = some (.int .i64 m)) (hm : xs.length ≤ maxLen) (hx : Rd w B 1 A xs.length (rI xs)) :
 Calls Tryz.prog 52 #[.slice A xs.length c, .func (Fn.func 111) #[] #[.pointer (some a)]] w fun e w' => e = .returned (.int .i64 (ixOf (outB m) xs)) ∧ w = w' := by
 unfold maxLen at hm
 have Hx := Lib.hid hx
 clear hx
 go_enter Tryz.func52, Tryz.ntmps52
 go_wp2
 go_loop [8] (fun i => ∃ k : Nat, k ≤ xs.length ∧ i = .int .i64 k ∧ ∀ j, j < k → outB m (at0 xs j) = false) (fun i => xs.length - (intOf i).toNat)
 case atStart => exact ⟨0, by omega, rfl, by omega⟩
 case round =>
  obtain ⟨k, hk, rfl, hb⟩ := hrel
  have Hb := Lib.hid hb
  clear hb
  by_cases hlt : k < xs.length
  · obtain ⟨b, o, rfl, _, hxk⟩ := Hx.out.int hlt
    by_cases hp : outB m (at0 xs k) = true
    · have hfin := Lib.hid (ixOf_at hlt hp Hb.out)
      go_wp2_with (go_at_call 111; refine (in1_b _ _ _ _ hc).mono ?_; rintro e w' ⟨rfl, rfl⟩)
      go_ret
      exact ⟨ret_int hfin.out.symm, rfl⟩
    · have hp : outB m (at0 xs k) = false := by simpa using hp
      go_wp2_with (go_at_call 111; refine (in1_b _ _ _ _ hc).mono ?_; rintro e w' ⟨rfl, rfl⟩)
      go_round
      case rel => exact ⟨k + 1, by omega, by go_num, succ_case Hb.out hp⟩
      case measure => simp [intOf]; omega
  · have hfin : Hid (ixOf (outB m) xs = -1) := ixOf_none0 fun j hj => Hb.out j (by omega)
    go_wp2
    go_ret
    exact ⟨ret_int hfin.out.symm, rfl⟩
set_option maxHeartbeats 400000 in
theorem contains_in (A : Option Addr) (c : Nat) (xs : List Int) (m : Int) (a : Addr) (w : World) (B : Nat) (hc : w.cell? a = some (.int .i64 m)) (hm : xs.length ≤ maxLen) (hx : Rd w B 1 A xs.length (rI xs)) :
 Calls Tryz.prog 17 #[.slice A xs.length c, .func (Fn.func 111) #[] #[.pointer (some a)]] w fun e w' => e = .returned (.bool (!inB m xs)) ∧ w = w' := by
 have hfin := Lib.hid (ixOf_any (p := outB m) (xs := xs))
 have Hx := Lib.hid hx
 clear hx
 go_enter Tryz.func17, Tryz.ntmps17
 go_wp2_with (go_at_call 52; refine (ix_in _ _ _ _ _ _ _ hc hm Hx.out).mono ?_; rintro e w' ⟨rfl, rfl⟩)
 go_ret
 exact ⟨by rw [hfin.out]; simp [inB], rfl⟩
set_option maxHeartbeats 400000 in
theorem in_any (A : Option Addr) (n c : Nat) (xs : List Int) (m : Int) (w : World) (hn : n = xs.length) (hm : n ≤ maxLen) (hx : Rd w w.heap.size 1 A n (rI xs)) :
 Calls Tryz.prog 97 #[.int .i64 m, .slice A n c] w fun e w' => e = .returned (.bool (inB m xs)) ∧ Below w.heap.size w w' := by
 subst hn
 have hmf := @makeFunc_run Tryz.prog
 have Hx := Lib.hid (hx.alloc (Nat.le_refl _) (.cells #[.int .i64 m] 3))
 clear hx
 go_enter Tryz.func97, Tryz.ntmps97
 go_wp2_with (go_at_call 17; refine (contains_in _ _ _ m _ _ _ (by simp) hm Hx.out).mono ?_; rintro e w' ⟨rfl, rfl⟩)
 go_ret
 exact ⟨by simp, (Below.refl _ _).alloc (Nat.le_refl _) _⟩
theorem Rd_new {W : World} {q : Nat} {cs : Array Value} {t : TypeId} (hq : W.heap[q]? = some (.cells cs t (0, 0))) (sz n o : Nat) (g : Nat → Nat → Value) (h : ∀ k, k < n → ∀ j, j < sz → cs[o + k * sz + j]? = some (g k j)) :
 Rd W W.heap.size sz (some ⟨q, o, none⟩) n g := fun _ =>
 ⟨q, o, rfl, (Array.getElem?_eq_some_iff.1 hq).1, fun k hk j hj => by rw [cell_of_row W q _ cs t _ hq]; exact h k hk j hj⟩
theorem heap_last (w : World) (o : Obj) (q : Nat) (hq : q = w.heap.size) : (w.alloc o).heap[q]? = some o := by subst hq; exact heap_alloc_new w o
theorem heap_before {w : World} {o x : Obj} {q : Nat} (h : w.heap[q]? = some x) : (w.alloc o).heap[q]? = some x :=
 (Below.heap_alloc w o q (Array.getElem?_eq_some_iff.1 h).1).trans h
set_option maxHeartbeats 400000 in
theorem isr1_b (r : Rng) (m : Int) (a : Addr) (w : World) (ha : ∃ b o, a = ⟨b, o, none⟩ ∧ b < w.heap.size) (hc : w.cell? a = some (.int .i64 m)) :
 Calls Tryz.prog 98 #[.agg #[I r.lo, I r.hi], .pointer (some a)] w fun e w' => e = .returned (.bool (badR m r)) ∧ Below w.heap.size w w' := by
 obtain ⟨b, o, rfl, hb⟩ := ha
 have hfin : Hid (badR m r = (!inB m [r.lo, r.hi] || decide (r.hi < r.lo))) := rfl
 by_cases hi : inB m [r.lo, r.hi] = true
 all_goals
  (try have hi : inB m [r.lo, r.hi] = false := by simpa using hi)
  go_enter Tryz.func98, Tryz.ntmps98
  go_wp2_with fail
  refine (in_any _ _ _ [r.lo, r.hi] _ _ rfl (by unfold maxLen; simp) (Rd_new (heap_last _ _ _ (by simp)) _ _ _ _ (all2 (all1 rfl) (all1 rfl)))).mono ?_
  rintro e w1 ⟨rfl, hb1⟩
  obtain ⟨hcc, hff⟩ := bcell hb1
  have hz := hb1.size
  go_wp2
  all_goals
   go_ret
   exact ⟨bor (by rw [hfin.out]; simp [*]), (((Below.refl _ _).alloc (Nat.le_refl _) _).alloc (by simp) _).trans (hb1.mono (by simp; omega))⟩
set_option maxHeartbeats 400000 in
theorem ix_range (A : Option Addr) (c : Nat) (xs : List Rng) (m : Int) (a : Addr) (w : World) (ha : ∃ b o, a = ⟨b, o, none⟩ ∧ b < w.heap.size) (hc : w.cell? a = some (.int .i64 m)) (hm : xs.length ≤ maxLen) (hx : Rd w w.heap.size 2 A xs.length (rR xs)) :
 Calls Tryz.prog 78 #[.slice A xs.length c, .func (Fn.func 98) #[] #[.pointer (some a)]] w fun e w' => e = .returned (.int .i64 (ixOf (badR m) xs)) ∧ Below w.heap.size w w' := by
 obtain ⟨b, o, rfl, hbo⟩ := ha
 unfold maxLen at hm
 have Hx := Lib.hid hx
 clear hx
 have Hc := Lib.hid hc
 clear hc
 go_enter Tryz.func78, Tryz.ntmps78
 go_wp2
 go_loopw [8] (fun i wr => ∃ k : Nat, k ≤ xs.length ∧ i = .int .i64 k ∧ (∀ j, j < k → badR m (at0 xs j) = false) ∧ Below w.heap.size w wr) (fun i _ => xs.length - (intOf i).toNat)
 case atStart => exact ⟨0, by omega, rfl, by omega, Below.refl _ _⟩
 case round =>
  obtain ⟨k, hk, rfl, hb, hbw⟩ := hrel
  have Hb := Lib.hid hb
  clear hb
  by_cases hlt : k < xs.length
  · obtain ⟨b, o, rfl, _, hx0, hx1⟩ := (Hx.out.below hbw).rng hlt
    have hcr := (hbw.cell (p := ⟨_, _, none⟩) hbo).trans Hc.out
    have hsz := hbw.size
    by_cases hp : badR m (at0 xs k) = true
    · have hfin := Lib.hid (ixOf_at hlt hp Hb.out)
      go_wp2_with (go_at_call 98; refine (isr1_b _ m _ _ ⟨_, _, rfl, by omega⟩ hcr).mono ?_; rintro e w' ⟨rfl, hb1⟩)
      go_ret
      exact ⟨ret_int hfin.out.symm, hbw.trans (hb1.mono hsz)⟩
    · have hp : badR m (at0 xs k) = false := by simpa using hp
      go_wp2_with (go_at_call 98; refine (isr1_b _ m _ _ ⟨_, _, rfl, by omega⟩ hcr).mono ?_; rintro e w' ⟨rfl, hb1⟩)
      go_roundw
      case rel => exact ⟨k + 1, by omega, by go_num, succ_case Hb.out hp, hbw.trans (hb1.mono hsz)⟩
      case measure => simp [intOf]; omega
  · have hfin : Hid (ixOf (badR m) xs = -1) := ixOf_none0 fun j hj => Hb.out j (by omega)
    go_wp2
    go_ret
    exact ⟨ret_int hfin.out.symm, hbw⟩
set_option maxHeartbeats 400000 in
theorem contains_range (A : Option Addr) (c : Nat) (xs : List Rng) (m : Int) (a : Addr) (w : World) (ha : ∃ b o, a = ⟨b, o, none⟩ ∧ b < w.heap.size) (hc : w.cell? a = some (.int .i64 m)) (hm : xs.length ≤ maxLen) (hx : Rd w w.heap.size 2 A xs.length (rR xs)) :
 Calls Tryz.prog 50 #[.slice A xs.length c, .func (Fn.func 98) #[] #[.pointer (some a)]] w fun e w' => e = .returned (.bool (!rangeB m xs)) ∧ Below w.heap.size w w' := by
 have hfin := Lib.hid (ixOf_any (p := badR m) (xs := xs))
 have Hx := Lib.hid hx
 clear hx
 go_enter Tryz.func50, Tryz.ntmps50
 go_wp2_with (go_at_call 78; refine (ix_range _ _ _ _ _ _ ha hc hm Hx.out).mono ?_; rintro e w' ⟨rfl, hb1⟩)
 go_ret
 exact ⟨by rw [hfin.out]; simp [rangeB], hb1⟩
set_option maxHeartbeats 400000 in
theorem isRange_any (A : Option Addr) (n c : Nat) (xs : List Rng) (m : Int) (w : World) (hn : n = xs.length) (hm : n ≤ maxLen) (hx : Rd w w.heap.size 2 A n (rR xs)) :
 Calls Tryz.prog 76 #[.int .i64 m, .slice A n c] w fun e w' => e = .returned (.bool (rangeB m xs)) ∧ Below w.heap.size w w' := by
 subst hn
 have hmf := @makeFunc_run Tryz.prog
 have Hx := Lib.hid ((hx.alloc (Nat.le_refl _) (.cells #[.int .i64 m] 3)).more (B' := (w.alloc (.cells #[.int .i64 m] 3)).heap.size) (by simp))
 clear hx
 go_enter Tryz.func76, Tryz.ntmps76
 go_wp2_with (go_at_call 50; refine (contains_range _ _ _ m _ _ ⟨_, _, rfl, by simp⟩ (by simp) hm Hx.out).mono ?_; rintro e w' ⟨rfl, hb1⟩)
 go_ret
 exact ⟨by simp, ((Below.refl _ _).alloc (Nat.le_refl _) _).trans (hb1.mono (by simp))⟩
def okSet (s : Stg) : Bool := decide (1 ≤ s.ph) && decide (s.ph ≤ 5) && inB 1000000 [s.v 0, s.v 1, s.v 2, s.v 3, s.v 4, s.v 5]
theorem isSetting_any (s : Stg) (w : World) :
 Calls Tryz.prog 75 #[s.val] w fun e w' => e = .returned (.bool (okSet s)) ∧ Below w.heap.size w w' := by
 have hfin : Hid (okSet s = (decide (1 ≤ s.ph) && decide (s.ph ≤ 5) && inB 1000000 [s.v 0, s.v 1, s.v 2, s.v 3, s.v 4, s.v 5])) := rfl
 go_enter Tryz.func75, Tryz.ntmps75
 go_wp2_with fail
 · refine (in_any _ _ _ [s.v 0, s.v 1, s.v 2, s.v 3, s.v 4, s.v 5] _ _ rfl (by unfold maxLen; simp) (Rd_new (heap_last _ _ _ rfl) _ _ _ _ (all6 (all1 rfl) (all1 rfl) (all1 rfl) (all1 rfl) (all1 rfl) (all1 rfl)))).mono ?_
   rintro e w' ⟨rfl, hb⟩
   go_wp2
   all_goals
    go_ret
    exact ⟨bor (by rw [hfin.out]; simp [*]), ((Below.refl _ _).alloc (Nat.le_refl _) _).trans (hb.mono (by simp))⟩
 all_goals
  go_ret
  exact ⟨bor (by rw [hfin.out]; simp <;> omega), (Below.refl _ _).alloc (Nat.le_refl _) _⟩
end Go.Proofs.YtliolnfcgaflcaaGreat
/- The contract of CheckPuller of package pull: 0 where the puller is valid, else 2. No condition. -/
namespace Go.Proofs.YtliolnfcgaflcaaGreat
open Go.RowKit
def bnds (p : Vec) (i : Nat) : List Rng := [⟨p i, p (i + 1)⟩, ⟨p (i + 2), p (i + 3)⟩, ⟨p (i + 4), p (i + 5)⟩, ⟨p (i + 6), p (i + 7)⟩, ⟨p (i + 8), p (i + 9)⟩, ⟨p (i + 10), p (i + 11)⟩]
def rmps (p : Vec) (i : Nat) : List Int := [p (i + 12), p (i + 13), p (i + 14), p (i + 15), p (i + 16), p (i + 17)]
def ruleB (p : Vec) (k : Nat) : Bool := rangeB 1000000 (bnds p (k * 22)) && inB 1000000 (rmps p (k * 22)) && rangeB 100000 [⟨p (k * 22 + 18), p (k * 22 + 19)⟩] && rangeB 10000000000 [⟨p (k * 22 + 20), p (k * 22 + 21)⟩]
def restB (p : Vec) : Bool := inB 1000000 [p 110, p 111] && rangeB 1000000 [⟨p 112, p 113⟩] && inB 10000000000 [p 114] && inB 100000 [p 115, p 116]
def okPuller (p : Vec) : Bool := (List.range 5).all (ruleB p) && restB p
theorem okPuller_no (p : Vec) (k : Nat) (hk : k < 5) (h : ruleB p k = false) : okPuller p = false := by
 have : (List.range 5).all (ruleB p) = false := by
  rw [List.all_eq_false]
  exact ⟨k, by simpa using hk, by simp [h]⟩
 simp [okPuller, this]
theorem okPuller_rest (p : Vec) (h : ∀ k, k < 5 → ruleB p k = true) : okPuller p = restB p := by
 have : (List.range 5).all (ruleB p) = true := by
  rw [List.all_eq_true]
  intro x hx
  exact h x (by simpa using hx)
 simp [okPuller, this]
theorem under {w W : World} {o : Obj} (h : Below (w.heap.size + 1) (w.alloc o) W) : Below w.heap.size w W := ((Below.refl _ _).alloc (Nat.le_refl _) o).trans (h.mono (by omega))
end Go.Proofs.YtliolnfcgaflcaaGreat
