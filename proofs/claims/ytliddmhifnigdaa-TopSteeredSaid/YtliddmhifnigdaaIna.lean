/- The contracts of in, isRange and isSetting of package pull, with the searches of package slices that they call: they say what they should of any slice of at most maxLen elements. -/
import Derived.Test.YtliddmhifnigdaaBa
namespace Go.Proofs.Ytliddmhifnigdaa
open Go.RowKit
/-- The error of what is asked: none, or ErrArg. -/
def er (b : Bool) : Int := if b then 0 else 2
def outB (m n : Int) : Bool := decide (n < 0) || decide (m < n)
def inB (m : Int) (xs : List Int) : Bool := !(xs.any (outB m))
def badR (m : Int) (r : Rng) : Bool := !inB m [r.lo, r.hi] || decide (r.hi < r.lo)
def rangeB (m : Int) (xs : List Rng) : Bool := !(xs.any (badR m))
set_option maxHeartbeats 400000 in
theorem in1_b (n m : Int) (a : Addr) (w : World) (hc : w.cell? a = some (.int .i64 m)) :
    Calls Try.prog 45 #[.int .i64 n, .pointer (some a)] w fun e w' => e = .returned (.bool (outB m n)) ∧ w = w' := by
  show Calls _ _ _ _ fun e w' => e = .returned (.bool (decide (n < 0) || decide (m < n))) ∧ w = w'
  go_enter Try.func45, Try.ntmps45
  go_wp2
  all_goals (go_ret; exact ⟨rfl, rfl⟩)
set_option maxHeartbeats 400000 in
theorem ix_in (A : Option Addr) (c : Nat) (xs : List Int) (m : Int) (a : Addr) (w : World) (B : Nat) (hc : w.cell? a = some (.int .i64 m)) (hm : xs.length ≤ maxLen) (hx : Rd w B 1 A xs.length (rI xs)) :
    Calls Try.prog 69 #[.slice A xs.length c, .func (Fn.func 45) #[] #[.pointer (some a)]] w fun e w' => e = .returned (.int .i64 (ixOf (outB m) xs)) ∧ w = w' := by
  unfold maxLen at hm
  have Hx := Lib.hid hx
  clear hx
  go_enter Try.func69, Try.ntmps69
  go_wp2
  go_loop [8] (fun i => ∃ k : Nat, k ≤ xs.length ∧ i = .int .i64 k ∧ ∀ j, j < k → outB m (at0 xs j) = false) (fun i => xs.length - (intOf i).toNat)
  case atStart => exact ⟨0, by omega, rfl, by omega⟩
  case round =>
    obtain ⟨k, hk, rfl, hb⟩ := hrel
    have Hb := Lib.hid hb
    clear hb
    by_cases hlt : k < xs.length
    · obtain ⟨b, o, rfl, _, hxk⟩ := Hx.out.int hlt
      by_cases hp : outB m (at0 xs k) = true
      · have hfin := Lib.hid (ixOf_at hlt hp Hb.out)
        go_wp2_with (go_at_call 45; refine (in1_b _ _ _ _ hc).mono ?_; rintro e w' ⟨rfl, rfl⟩)
        go_ret
        exact ⟨ret_int hfin.out.symm, rfl⟩
      · have hp : outB m (at0 xs k) = false := by simpa using hp
        go_wp2_with (go_at_call 45; refine (in1_b _ _ _ _ hc).mono ?_; rintro e w' ⟨rfl, rfl⟩)
        go_round
        case rel => exact ⟨k + 1, by omega, by go_num, succ_case Hb.out hp⟩
        case measure => simp [intOf]; omega
    · have hfin : Hid (ixOf (outB m) xs = -1) := ixOf_none0 fun j hj => Hb.out j (by omega)
      go_wp2
      go_ret
      exact ⟨ret_int hfin.out.symm, rfl⟩
set_option maxHeartbeats 400000 in
theorem contains_in (A : Option Addr) (c : Nat) (xs : List Int) (m : Int) (a : Addr) (w : World) (B : Nat) (hc : w.cell? a = some (.int .i64 m)) (hm : xs.length ≤ maxLen) (hx : Rd w B 1 A xs.length (rI xs)) :
    Calls Try.prog 44 #[.slice A xs.length c, .func (Fn.func 45) #[] #[.pointer (some a)]] w fun e w' => e = .returned (.bool (!inB m xs)) ∧ w = w' := by
  have hfin := Lib.hid (ixOf_any (p := outB m) (xs := xs))
  have Hx := Lib.hid hx
  clear hx
  go_enter Try.func44, Try.ntmps44
  go_wp2_with (go_at_call 69; refine (ix_in _ _ _ _ _ _ _ hc hm Hx.out).mono ?_; rintro e w' ⟨rfl, rfl⟩)
  go_ret
  exact ⟨by rw [hfin.out]; simp [inB], rfl⟩
set_option maxHeartbeats 400000 in
theorem in_any (A : Option Addr) (n c : Nat) (xs : List Int) (m : Int) (w : World) (hn : n = xs.length) (hm : n ≤ maxLen) (hx : Rd w w.heap.size 1 A n (rI xs)) :
    Calls Try.prog 20 #[.int .i64 m, .slice A n c] w fun e w' => e = .returned (.bool (inB m xs)) ∧ Below w.heap.size w w' := by
  subst hn
  have hmf := @makeFunc_run Try.prog
  have Hx := Lib.hid (hx.alloc (Nat.le_refl _) (.cells #[.int .i64 m] 3))
  clear hx
  go_enter Try.func20, Try.ntmps20
  go_wp2_with (go_at_call 44; refine (contains_in _ _ _ m _ _ _ (by simp) hm Hx.out).mono ?_; rintro e w' ⟨rfl, rfl⟩)
  go_ret
  exact ⟨by simp, (Below.refl _ _).alloc (Nat.le_refl _) _⟩
theorem Rd_new {W : World} {q : Nat} {cs : Array Value} {t : TypeId} (hq : W.heap[q]? = some (.cells cs t (0, 0))) (sz n o : Nat) (g : Nat → Nat → Value) (h : ∀ k, k < n → ∀ j, j < sz → cs[o + k * sz + j]? = some (g k j)) :
    Rd W W.heap.size sz (some ⟨q, o, none⟩) n g := fun _ =>
  ⟨q, o, rfl, (Array.getElem?_eq_some_iff.1 hq).1, fun k hk j hj => by rw [cell_of_row W q _ cs t _ hq]; exact h k hk j hj⟩
theorem heap_last (w : World) (o : Obj) (q : Nat) (hq : q = w.heap.size) : (w.alloc o).heap[q]? = some o := by subst hq; exact heap_alloc_new w o
theorem heap_before {w : World} {o x : Obj} {q : Nat} (h : w.heap[q]? = some x) : (w.alloc o).heap[q]? = some x :=
  (Below.heap_alloc w o q (Array.getElem?_eq_some_iff.1 h).1).trans h
set_option maxHeartbeats 400000 in
theorem isr1_b (r : Rng) (m : Int) (a : Addr) (w : World) (ha : ∃ b o, a = ⟨b, o, none⟩ ∧ b < w.heap.size) (hc : w.cell? a = some (.int .i64 m)) :
    Calls Try.prog 43 #[.agg #[I r.lo, I r.hi], .pointer (some a)] w fun e w' => e = .returned (.bool (badR m r)) ∧ Below w.heap.size w w' := by
  obtain ⟨b, o, rfl, hb⟩ := ha
  have hfin : Hid (badR m r = (!inB m [r.lo, r.hi] || decide (r.hi < r.lo))) := rfl
  by_cases hi : inB m [r.lo, r.hi] = true
  all_goals
    (try have hi : inB m [r.lo, r.hi] = false := by simpa using hi)
    go_enter Try.func43, Try.ntmps43
    go_wp2_with fail
    refine (in_any _ _ _ [r.lo, r.hi] _ _ rfl (by unfold maxLen; simp) (Rd_new (heap_last _ _ _ (by simp)) _ _ _ _ (all2 (all1 rfl) (all1 rfl)))).mono ?_
    rintro e w1 ⟨rfl, hb1⟩
    obtain ⟨hcc, hff⟩ := bcell hb1
    have hz := hb1.size
    go_wp2
    all_goals
      go_ret
      exact ⟨bor (by rw [hfin.out]; simp [*]), (((Below.refl _ _).alloc (Nat.le_refl _) _).alloc (by simp) _).trans (hb1.mono (by simp; omega))⟩
set_option maxHeartbeats 400000 in
theorem ix_range (A : Option Addr) (c : Nat) (xs : List Rng) (m : Int) (a : Addr) (w : World) (ha : ∃ b o, a = ⟨b, o, none⟩ ∧ b < w.heap.size) (hc : w.cell? a = some (.int .i64 m)) (hm : xs.length ≤ maxLen) (hx : Rd w w.heap.size 2 A xs.length (rR xs)) :
    Calls Try.prog 68 #[.slice A xs.length c, .func (Fn.func 43) #[] #[.pointer (some a)]] w fun e w' => e = .returned (.int .i64 (ixOf (badR m) xs)) ∧ Below w.heap.size w w' := by
  obtain ⟨b, o, rfl, hbo⟩ := ha
  unfold maxLen at hm
  have Hx := Lib.hid hx
  clear hx
  have Hc := Lib.hid hc
  clear hc
  go_enter Try.func68, Try.ntmps68
  go_wp2
  go_loopw [8] (fun i wr => ∃ k : Nat, k ≤ xs.length ∧ i = .int .i64 k ∧ (∀ j, j < k → badR m (at0 xs j) = false) ∧ Below w.heap.size w wr) (fun i _ => xs.length - (intOf i).toNat)
  case atStart => exact ⟨0, by omega, rfl, by omega, Below.refl _ _⟩
  case round =>
    obtain ⟨k, hk, rfl, hb, hbw⟩ := hrel
    have Hb := Lib.hid hb
    clear hb
    by_cases hlt : k < xs.length
    · obtain ⟨b, o, rfl, _, hx0, hx1⟩ := (Hx.out.below hbw).rng hlt
      have hcr := (hbw.cell (p := ⟨_, _, none⟩) hbo).trans Hc.out
      have hsz := hbw.size
      by_cases hp : badR m (at0 xs k) = true
      · have hfin := Lib.hid (ixOf_at hlt hp Hb.out)
        go_wp2_with (go_at_call 43; refine (isr1_b _ m _ _ ⟨_, _, rfl, by omega⟩ hcr).mono ?_; rintro e w' ⟨rfl, hb1⟩)
        go_ret
        exact ⟨ret_int hfin.out.symm, hbw.trans (hb1.mono hsz)⟩
      · have hp : badR m (at0 xs k) = false := by simpa using hp
        go_wp2_with (go_at_call 43; refine (isr1_b _ m _ _ ⟨_, _, rfl, by omega⟩ hcr).mono ?_; rintro e w' ⟨rfl, hb1⟩)
        go_roundw
        case rel => exact ⟨k + 1, by omega, by go_num, succ_case Hb.out hp, hbw.trans (hb1.mono hsz)⟩
        case measure => simp [intOf]; omega
    · have hfin : Hid (ixOf (badR m) xs = -1) := ixOf_none0 fun j hj => Hb.out j (by omega)
      go_wp2
      go_ret
      exact ⟨ret_int hfin.out.symm, hbw⟩
set_option maxHeartbeats 400000 in
theorem contains_range (A : Option Addr) (c : Nat) (xs : List Rng) (m : Int) (a : Addr) (w : World) (ha : ∃ b o, a = ⟨b, o, none⟩ ∧ b < w.heap.size) (hc : w.cell? a = some (.int .i64 m)) (hm : xs.length ≤ maxLen) (hx : Rd w w.heap.size 2 A xs.length (rR xs)) :
    Calls Try.prog 42 #[.slice A xs.length c, .func (Fn.func 43) #[] #[.pointer (some a)]] w fun e w' => e = .returned (.bool (!rangeB m xs)) ∧ Below w.heap.size w w' := by
  have hfin := Lib.hid (ixOf_any (p := badR m) (xs := xs))
  have Hx := Lib.hid hx
  clear hx
  go_enter Try.func42, Try.ntmps42
  go_wp2_with (go_at_call 68; refine (ix_range _ _ _ _ _ _ ha hc hm Hx.out).mono ?_; rintro e w' ⟨rfl, hb1⟩)
  go_ret
  exact ⟨by rw [hfin.out]; simp [rangeB], hb1⟩
set_option maxHeartbeats 400000 in
theorem isRange_any (A : Option Addr) (n c : Nat) (xs : List Rng) (m : Int) (w : World) (hn : n = xs.length) (hm : n ≤ maxLen) (hx : Rd w w.heap.size 2 A n (rR xs)) :
    Calls Try.prog 19 #[.int .i64 m, .slice A n c] w fun e w' => e = .returned (.bool (rangeB m xs)) ∧ Below w.heap.size w w' := by
  subst hn
  have hmf := @makeFunc_run Try.prog
  have Hx := Lib.hid ((hx.alloc (Nat.le_refl _) (.cells #[.int .i64 m] 3)).more (B' := (w.alloc (.cells #[.int .i64 m] 3)).heap.size) (by simp))
  clear hx
  go_enter Try.func19, Try.ntmps19
  go_wp2_with (go_at_call 42; refine (contains_range _ _ _ m _ _ ⟨_, _, rfl, by simp⟩ (by simp) hm Hx.out).mono ?_; rintro e w' ⟨rfl, hb1⟩)
  go_ret
  exact ⟨by simp, ((Below.refl _ _).alloc (Nat.le_refl _) _).trans (hb1.mono (by simp))⟩
def okSet (s : Stg) : Bool := decide (1 ≤ s.ph) && decide (s.ph ≤ 5) && inB 1000000 [s.v 0, s.v 1, s.v 2, s.v 3, s.v 4, s.v 5]
theorem isSetting_any (s : Stg) (w : World) :
    Calls Try.prog 27 #[s.val] w fun e w' => e = .returned (.bool (okSet s)) ∧ Below w.heap.size w w' := by
  have hfin : Hid (okSet s = (decide (1 ≤ s.ph) && decide (s.ph ≤ 5) && inB 1000000 [s.v 0, s.v 1, s.v 2, s.v 3, s.v 4, s.v 5])) := rfl
  go_enter Try.func27, Try.ntmps27
  go_wp2_with fail
  · refine (in_any _ _ _ [s.v 0, s.v 1, s.v 2, s.v 3, s.v 4, s.v 5] _ _ rfl (by unfold maxLen; simp) (Rd_new (heap_last _ _ _ rfl) _ _ _ _ (all6 (all1 rfl) (all1 rfl) (all1 rfl) (all1 rfl) (all1 rfl) (all1 rfl)))).mono ?_
    rintro e w' ⟨rfl, hb⟩
    go_wp2
    all_goals
      go_ret
      exact ⟨bor (by rw [hfin.out]; simp [*]), ((Below.refl _ _).alloc (Nat.le_refl _) _).trans (hb.mono (by simp))⟩
  all_goals
    go_ret
    exact ⟨bor (by rw [hfin.out]; simp <;> omega), (Below.refl _ _).alloc (Nat.le_refl _) _⟩
end Go.Proofs.Ytliddmhifnigdaa
/- The contract of CheckPuller of package pull: 0 where the puller is valid, else 2. No condition. -/
namespace Go.Proofs.Ytliddmhifnigdaa
open Go.RowKit
/-- The bounds of a rule: six ranges from i on. -/
def bnds (p : Vec) (i : Nat) : List Rng := [⟨p i, p (i + 1)⟩, ⟨p (i + 2), p (i + 3)⟩, ⟨p (i + 4), p (i + 5)⟩, ⟨p (i + 6), p (i + 7)⟩, ⟨p (i + 8), p (i + 9)⟩, ⟨p (i + 10), p (i + 11)⟩]
def rmps (p : Vec) (i : Nat) : List Int := [p (i + 12), p (i + 13), p (i + 14), p (i + 15), p (i + 16), p (i + 17)]
def ruleB (p : Vec) (k : Nat) : Bool := rangeB 1000000 (bnds p (k * 22)) && inB 1000000 (rmps p (k * 22)) && rangeB 100000 [⟨p (k * 22 + 18), p (k * 22 + 19)⟩] && rangeB 10000000000 [⟨p (k * 22 + 20), p (k * 22 + 21)⟩]
def restB (p : Vec) : Bool := inB 1000000 [p 110, p 111] && rangeB 1000000 [⟨p 112, p 113⟩] && inB 10000000000 [p 114] && inB 100000 [p 115, p 116]
def okPuller (p : Vec) : Bool := (List.range 5).all (ruleB p) && restB p
theorem okPuller_no (p : Vec) (k : Nat) (hk : k < 5) (h : ruleB p k = false) : okPuller p = false := by
  have : (List.range 5).all (ruleB p) = false := by
    rw [List.all_eq_false]
    exact ⟨k, by simpa using hk, by simp [h]⟩
  simp [okPuller, this]
theorem okPuller_rest (p : Vec) (h : ∀ k, k < 5 → ruleB p k = true) : okPuller p = restB p := by
  have : (List.range 5).all (ruleB p) = true := by
    rw [List.all_eq_true]
    intro x hx
    exact h x (by simpa using hx)
  simp [okPuller, this]
theorem under {w W : World} {o : Obj} (h : Below (w.heap.size + 1) (w.alloc o) W) : Below w.heap.size w W := ((Below.refl _ _).alloc (Nat.le_refl _) o).trans (h.mono (by omega))
set_option maxRecDepth 100000 in
set_option maxHeartbeats 1000000 in
theorem checkPuller_any (p : Vec) (w : World) :
    Calls Try.prog 6 #[.agg (ia 117 p)] w fun e w' => e = .returned (I (er (okPuller p))) ∧ Below w.heap.size w w' := by
  have hW : ∀ j, j < 117 → (w.alloc (.cells (ia 117 p) 30)).cell? ⟨w.heap.size, j, none⟩ = some (I (p j)) := fun j hj => by
    rw [cell_of_row _ _ _ _ _ _ (heap_alloc_new w _)]; exact ia_get hj
  have HW := Lib.hid hW
  clear hW
  go_enter Try.func6, Try.ntmps6
  go_wp2_with (refine wpList_load_ia rfl 28 _ rfl w.heap.size 0 rfl 110 p _ (fun j hj => by rw [Nat.zero_add]; exact HW.out j (by omega)) Try.underlying28 rfl (by kernel_rfl) ?_)
  go_loopw [7] (fun i wr => ∃ k : Nat, k ≤ 5 ∧ i = .int .i64 k ∧ (∀ j, j < k → ruleB p j = true) ∧ Below (w.heap.size + 1) (w.alloc (.cells (ia 117 p) 30)) wr) (fun i _ => 5 - (intOf i).toNat)
  case atStart => exact ⟨0, by omega, rfl, by omega, Below.refl _ _⟩
  case round =>
    obtain ⟨k, hk, rfl, hb, hbw⟩ := hrel
    have Hb := Lib.hid hb
    clear hb
    have hsz : w.heap.size + 1 ≤ wr.heap.size := by have := hbw.size; simpa using this
    by_cases hlt : k < 5
    · have hk5 : (k : Int) < 5 := by omega
      have hno : Hid (ruleB p k = false → I 2 = I (er (okPuller p))) := fun h => by rw [okPuller_no p k hlt h]; rfl
      have hrb : Hid (ruleB p k = (rangeB 1000000 (bnds p (k * 22)) && inB 1000000 (rmps p (k * 22)) && rangeB 100000 [⟨p (k * 22 + 18), p (k * 22 + 19)⟩] && rangeB 10000000000 [⟨p (k * 22 + 20), p (k * 22 + 21)⟩])) := rfl
      go_wp2_with (first | (refine wpList_index_ia rfl 28 _ _ rfl 110 p rfl k rfl 5 22 27 _ Try.underlying28 hlt Try.underlying27 rfl (by kernel_rfl) (by omega) ?_) | (refine wpList_store_fresh rfl 27 _ _ rfl _ _ rfl _ rfl ia_one ?_ (by kernel_rfl) ?_))
      · simp [ia_size]
      generalize hq : (ia 22 fun i => p (k * 22 + i)) = cs at *
      have hbig : ∀ i, i < 22 → cs[i]? = some (I (p (k * 22 + i))) := fun i hi => by rw [← hq]; exact ia_get hi
      have Hbig := Lib.hid hbig
      clear hq hbig
      have hP1 : ∀ W : World, W.heap[wr.heap.size]? = some (.cells cs 27 (0, 0)) → ∀ i, i < 22 → W.cell? ⟨wr.heap.size, i, none⟩ = some (I (p (k * 22 + i))) := fun W hW i hi => by rw [cell_of_row W _ _ _ _ _ hW]; exact Hbig.out i hi
      have HP := Lib.hid hP1
      clear hP1
      refine (isRange_any _ _ _ (bnds p (k * 22)) _ _ (by rfl) (by unfold maxLen; omega) (Rd_new (heap_last _ _ _ rfl) _ _ _ _ (all6 (all2 (Hbig.out 0 (by omega)) (Hbig.out 1 (by omega))) (all2 (Hbig.out 2 (by omega)) (Hbig.out 3 (by omega))) (all2 (Hbig.out 4 (by omega)) (Hbig.out 5 (by omega))) (all2 (Hbig.out 6 (by omega)) (Hbig.out 7 (by omega))) (all2 (Hbig.out 8 (by omega)) (Hbig.out 9 (by omega))) (all2 (Hbig.out 10 (by omega)) (Hbig.out 11 (by omega)))))).mono ?_
      rintro e w1 ⟨rfl, hb1⟩
      have HB1 := Lib.hid ((hb1.block _ (by simp)).trans (heap_last wr (.cells cs 27) _ rfl))
      have hz1 : wr.heap.size + 1 ≤ w1.heap.size := by have := hb1.size; simpa using this
      have hB1 : Below (w.heap.size + 1) (w.alloc (.cells (ia 117 p) 30)) w1 := (hbw.alloc (by omega) _).trans (hb1.mono (by simp; omega))
      rcases h1 : rangeB 1000000 (bnds p (k * 22)) with _ | _
      · go_wp2_with fail
        go_ret
        exact ⟨congrArg Ending.returned (hno.out (by rw [hrb.out, h1]; rfl)), under hB1⟩
      go_wp2_with fail
      refine (in_any _ _ _ (rmps p (k * 22)) _ _ (by rfl) (by unfold maxLen; omega) (Rd_new HB1.out _ _ _ _ (all6 (all1 (Hbig.out 12 (by omega))) (all1 (Hbig.out 13 (by omega))) (all1 (Hbig.out 14 (by omega))) (all1 (Hbig.out 15 (by omega))) (all1 (Hbig.out 16 (by omega))) (all1 (Hbig.out 17 (by omega)))))).mono ?_
      rintro e w2 ⟨rfl, hb2⟩
      have HB2 := Lib.hid ((hb2.block _ (by omega)).trans HB1.out)
      have hz2 := hb2.size
      have hB2 : Below (w.heap.size + 1) (w.alloc (.cells (ia 117 p) 30)) w2 := hB1.trans (hb2.mono (by omega))
      rcases h2 : inB 1000000 (rmps p (k * 22)) with _ | _
      · go_wp2_with fail
        go_ret
        exact ⟨congrArg Ending.returned (hno.out (by rw [hrb.out, h1, h2]; rfl)), under hB2⟩
      have c18 := HP.out w2 HB2.out 18 (by omega)
      have c19 := HP.out w2 HB2.out 19 (by omega)
      go_wp2_with fail
      refine (isRange_any _ _ _ [⟨p (k * 22 + 18), p (k * 22 + 19)⟩] _ _ (by rfl) (by unfold maxLen; omega) (Rd_new (heap_last _ _ _ rfl) _ _ _ _ (all1 (all2 rfl rfl)))).mono ?_
      rintro e w3 ⟨rfl, hb3⟩
      have HB3 := Lib.hid ((hb3.block _ (by simp; omega)).trans (heap_before HB2.out))
      have hz3 : w2.heap.size + 1 ≤ w3.heap.size := by have := hb3.size; simpa using this
      have hB3 : Below (w.heap.size + 1) (w.alloc (.cells (ia 117 p) 30)) w3 := (hB2.alloc (by omega) _).trans (hb3.mono (by simp; omega))
      rcases h3 : rangeB 100000 [⟨p (k * 22 + 18), p (k * 22 + 19)⟩] with _ | _
      · go_wp2_with fail
        go_ret
        exact ⟨congrArg Ending.returned (hno.out (by rw [hrb.out, h1, h2, h3]; rfl)), under hB3⟩
      clear c18 c19
      have c20 := HP.out w3 HB3.out 20 (by omega)
      have c21 := HP.out w3 HB3.out 21 (by omega)
      go_wp2_with fail
      refine (isRange_any _ _ _ [⟨p (k * 22 + 20), p (k * 22 + 21)⟩] _ _ (by rfl) (by unfold maxLen; omega) (Rd_new (heap_last _ _ _ rfl) _ _ _ _ (all1 (all2 rfl rfl)))).mono ?_
      rintro e w4 ⟨rfl, hb4⟩
      have hB4 : Below (w.heap.size + 1) (w.alloc (.cells (ia 117 p) 30)) w4 := (hB3.alloc (by omega) _).trans (hb4.mono (by simp; omega))
      rcases h4 : rangeB 10000000000 [⟨p (k * 22 + 20), p (k * 22 + 21)⟩] with _ | _
      · go_wp2_with fail
        go_ret
        exact ⟨congrArg Ending.returned (hno.out (by rw [hrb.out, h1, h2, h3, h4]; rfl)), under hB4⟩
      go_wp2_with fail
      go_roundw
      case rel => exact ⟨k + 1, by omega, by go_num, succ_case Hb.out (by rw [hrb.out, h1, h2, h3, h4]; rfl), hB4⟩
      case measure => simp [intOf]; omega
    · have hres : Hid (okPuller p = restB p) := okPuller_rest p fun j hj => Hb.out j (by omega)
      have hrs : Hid (restB p = (inB 1000000 [p 110, p 111] && rangeB 1000000 [⟨p 112, p 113⟩] && inB 10000000000 [p 114] && inB 100000 [p 115, p 116])) := rfl
      have hk5 : ¬ (k : Int) < 5 := by omega
      have HX : Hid (∀ W : World, Below (w.heap.size + 1) (w.alloc (.cells (ia 117 p) 30)) W → ∀ j, j < 117 → W.cell? ⟨w.heap.size, j, none⟩ = some (I (p j))) := fun W hW j hj => (hW.cell (p := ⟨_, _, none⟩) (by simp)).trans (HW.out j hj)
      have c0 := HX.out wr hbw 110 (by omega)
      have c1 := HX.out wr hbw 111 (by omega)
      go_wp2_with fail
      refine (in_any _ _ _ [p 110, p 111] _ _ (by rfl) (by unfold maxLen; omega) (Rd_new (heap_last _ _ _ rfl) _ _ _ _ (all2 (all1 rfl) (all1 rfl)))).mono ?_
      rintro e w1 ⟨rfl, hb1⟩
      have hB1 : Below (w.heap.size + 1) (w.alloc (.cells (ia 117 p) 30)) w1 := (hbw.alloc (by omega) _).trans (hb1.mono (by simp; omega))
      have hz1 := hb1.size
      rcases h1 : inB 1000000 [p 110, p 111] with _ | _
      · go_wp2_with fail
        go_ret
        exact ⟨congrArg (fun b => Ending.returned (I (er b))) (show false = okPuller p by rw [hres.out, hrs.out, h1]; rfl), under hB1⟩
      clear c0 c1
      have c0 := HX.out w1 hB1 112 (by omega)
      have c1 := HX.out w1 hB1 113 (by omega)
      go_wp2_with fail
      refine (isRange_any _ _ _ [⟨p 112, p 113⟩] _ _ (by rfl) (by unfold maxLen; omega) (Rd_new (heap_last _ _ _ rfl) _ _ _ _ (all1 (all2 rfl rfl)))).mono ?_
      rintro e w2 ⟨rfl, hb2⟩
      have hz2 : w1.heap.size + 1 ≤ w2.heap.size := by have := hb2.size; simpa using this
      have hz1' : w.heap.size + 1 ≤ w1.heap.size := by have := hB1.size; simpa using this
      have hB2 : Below (w.heap.size + 1) (w.alloc (.cells (ia 117 p) 30)) w2 := (hB1.alloc (by omega) _).trans (hb2.mono (by simp; omega))
      rcases h2 : rangeB 1000000 [⟨p 112, p 113⟩] with _ | _
      · go_wp2_with fail
        go_ret
        exact ⟨congrArg (fun b => Ending.returned (I (er b))) (show false = okPuller p by rw [hres.out, hrs.out, h1, h2]; rfl), under hB2⟩
      clear c0 c1
      have c0 := HX.out w2 hB2 114 (by omega)
      go_wp2_with fail
      refine (in_any _ _ _ [p 114] _ _ (by rfl) (by unfold maxLen; omega) (Rd_new (heap_last _ _ _ rfl) _ _ _ _ (all1 (all1 rfl)))).mono ?_
      rintro e w3 ⟨rfl, hb3⟩
      have hz3 : w2.heap.size + 1 ≤ w3.heap.size := by have := hb3.size; simpa using this
      have hB3 : Below (w.heap.size + 1) (w.alloc (.cells (ia 117 p) 30)) w3 := (hB2.alloc (by omega) _).trans (hb3.mono (by simp; omega))
      rcases h3 : inB 10000000000 [p 114] with _ | _
      · go_wp2_with fail
        go_ret
        exact ⟨congrArg (fun b => Ending.returned (I (er b))) (show false = okPuller p by rw [hres.out, hrs.out, h1, h2, h3]; rfl), under hB3⟩
      clear c0
      have c0 := HX.out w3 hB3 115 (by omega)
      have c1 := HX.out w3 hB3 116 (by omega)
      go_wp2_with fail
      refine (in_any _ _ _ [p 115, p 116] _ _ (by rfl) (by unfold maxLen; omega) (Rd_new (heap_last _ _ _ rfl) _ _ _ _ (all2 (all1 rfl) (all1 rfl)))).mono ?_
      rintro e w4 ⟨rfl, hb4⟩
      have hB4 : Below (w.heap.size + 1) (w.alloc (.cells (ia 117 p) 30)) w4 := (hB3.alloc (by omega) _).trans (hb4.mono (by simp; omega))
      rcases h4 : inB 100000 [p 115, p 116] with _ | _
      · go_wp2_with fail
        go_ret
        exact ⟨congrArg (fun b => Ending.returned (I (er b))) (show false = okPuller p by rw [hres.out, hrs.out, h1, h2, h3, h4]; rfl), under hB4⟩
      · go_wp2_with fail
        go_ret
        exact ⟨congrArg (fun b => Ending.returned (I (er b))) (show true = okPuller p by rw [hres.out, hrs.out, h1, h2, h3, h4]; rfl), under hB4⟩
end Go.Proofs.Ytliddmhifnigdaa
