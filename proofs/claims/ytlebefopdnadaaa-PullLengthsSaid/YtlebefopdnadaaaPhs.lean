/- The contract of phases of package pull: the first phase that takes too short or too long a time, or in which too little or too much is grown. -/
import Derived.Test.YtlebefopdnadaaaSet
namespace Go.Proofs.Ytlebefopdnadaaa
open Go.RowKit
set_option maxHeartbeats 400000 in
theorem ix_pc1 (A : Option Addr) (c : Nat) (a1 : Value) (xs : List Pce) (f : Pce → Bool) (w : World) (hm : xs.length ≤ maxLen) (hx : Rd w w.heap.size 10 A xs.length (rP xs))
    (hf : ∀ k, k < xs.length → ∀ W, Below w.heap.size w W → Calls Try.prog 84 #[(at0 xs k).val, a1] W fun e w' => e = .returned (.bool (f (at0 xs k))) ∧ Below W.heap.size W w') :
    Calls Try.prog 83 #[.slice A xs.length c, .func (Fn.func 84) #[] #[a1]] w fun e w' => e = .returned (.int .i64 (ixOf f xs)) ∧ Below w.heap.size w w' := by
  unfold maxLen at hm
  have Hx := Lib.hid hx
  have Hf := Lib.hid hf
  clear hx hf
  go_enter Try.func83, Try.ntmps83
  go_wp2
  go_loopw [8] (fun i wr => ∃ k : Nat, k ≤ xs.length ∧ i = .int .i64 k ∧ (∀ j, j < k → f (at0 xs j) = false) ∧ Below w.heap.size w wr) (fun i _ => xs.length - (intOf i).toNat)
  case atStart => exact ⟨0, by omega, rfl, by omega, Below.refl _ _⟩
  case round =>
    obtain ⟨k, hk, rfl, hb, hbw⟩ := hrel
    have Hb := Lib.hid hb
    clear hb
    by_cases hlt : k < xs.length
    · obtain ⟨b, o, rfl, _, x0, x1, x2, x3, x4, x5, x6, x7, x8, x9⟩ := (Hx.out.below hbw).pce hlt
      have hsz := hbw.size
      go_wp2_with fail
      refine (Hf.out k hlt _ hbw).mono ?_
      rintro e w' ⟨rfl, hb1⟩
      rcases hp : f (at0 xs k) with _ | _
      · go_wp2_with fail
        go_roundw
        case rel => exact ⟨k + 1, by omega, by go_num, succ_case Hb.out hp, hbw.trans (hb1.mono hsz)⟩
        case measure => simp [intOf]; omega
      · have hfin := Lib.hid (ixOf_at hlt hp Hb.out)
        go_wp2_with fail
        go_ret
        exact ⟨ret_int hfin.out.symm, hbw.trans (hb1.mono hsz)⟩
    · have hfin : Hid (ixOf f xs = -1) := ixOf_none0 fun j hj => Hb.out j (by omega)
      go_wp2
      go_ret
      exact ⟨ret_int hfin.out.symm, hbw⟩
set_option maxHeartbeats 400000 in
theorem ix_pc2 (A : Option Addr) (c : Nat) (a1 a2 : Value) (xs : List Pce) (f : Pce → Bool) (w : World) (hm : xs.length ≤ maxLen) (hx : Rd w w.heap.size 10 A xs.length (rP xs))
    (hf : ∀ k, k < xs.length → ∀ W, Below w.heap.size w W → Calls Try.prog 86 #[(at0 xs k).val, a1, a2] W fun e w' => e = .returned (.bool (f (at0 xs k))) ∧ Below W.heap.size W w') :
    Calls Try.prog 83 #[.slice A xs.length c, .func (Fn.func 86) #[] #[a1, a2]] w fun e w' => e = .returned (.int .i64 (ixOf f xs)) ∧ Below w.heap.size w w' := by
  unfold maxLen at hm
  have Hx := Lib.hid hx
  have Hf := Lib.hid hf
  clear hx hf
  go_enter Try.func83, Try.ntmps83
  go_wp2
  go_loopw [8] (fun i wr => ∃ k : Nat, k ≤ xs.length ∧ i = .int .i64 k ∧ (∀ j, j < k → f (at0 xs j) = false) ∧ Below w.heap.size w wr) (fun i _ => xs.length - (intOf i).toNat)
  case atStart => exact ⟨0, by omega, rfl, by omega, Below.refl _ _⟩
  case round =>
    obtain ⟨k, hk, rfl, hb, hbw⟩ := hrel
    have Hb := Lib.hid hb
    clear hb
    by_cases hlt : k < xs.length
    · obtain ⟨b, o, rfl, _, x0, x1, x2, x3, x4, x5, x6, x7, x8, x9⟩ := (Hx.out.below hbw).pce hlt
      have hsz := hbw.size
      go_wp2_with fail
      refine (Hf.out k hlt _ hbw).mono ?_
      rintro e w' ⟨rfl, hb1⟩
      rcases hp : f (at0 xs k) with _ | _
      · go_wp2_with fail
        go_roundw
        case rel => exact ⟨k + 1, by omega, by go_num, succ_case Hb.out hp, hbw.trans (hb1.mono hsz)⟩
        case measure => simp [intOf]; omega
      · have hfin := Lib.hid (ixOf_at hlt hp Hb.out)
        go_wp2_with fail
        go_ret
        exact ⟨ret_int hfin.out.symm, hbw.trans (hb1.mono hsz)⟩
    · have hfin : Hid (ixOf f xs = -1) := ixOf_none0 fun j hj => Hb.out j (by omega)
      go_wp2
      go_ret
      exact ⟨ret_int hfin.out.symm, hbw⟩
def otherB (ph : Int) (q : Pce) : Bool := !(q.s.ph == ph)
set_option maxHeartbeats 400000 in
theorem phases1_any (q l0 : Pce) (b o lb lo n c : Nat) (w : World) (hc : w.cell? ⟨b, o, none⟩ = some (.slice (some ⟨lb, lo, none⟩) n c)) (hn : 0 < n) (hl : w.cell? ⟨lb, lo + 1, none⟩ = some (I l0.s.ph)) :
    Calls Try.prog 84 #[q.val, .pointer (some ⟨b, o, none⟩)] w fun e w' => e = .returned (.bool (otherB l0.s.ph q)) ∧ Below w.heap.size w w' := by
  show Calls _ _ _ _ fun e w' => e = .returned (.bool (!(q.s.ph == l0.s.ph))) ∧ _
  have y0 := fun u => ovr_cell (W := w.alloc (.cells (pcArr q) 108)) (v := .slice (some ⟨lb, lo, none⟩) n c) (b := b) (o := o) (by rw [World.cell?_alloc_past _ _ _ (block_lt_of_cell hc)]; exact hc) u
  have y1 := fun u => ovr_cell (W := w.alloc (.cells (pcArr q) 108)) (v := I l0.s.ph) (b := lb) (o := lo + 1) (by rw [World.cell?_alloc_past _ _ _ (block_lt_of_cell hl)]; exact hl) u
  have y2 := fun u => ovr_cell (W := w.alloc (.cells (pcArr q) 108)) (v := I q.s.ph) (b := w.heap.size) (o := 1) (by simp) u
  have hn' : (0 : Int) < (n : Int) := by omega
  clear hc hl
  go_enter Try.func84, Try.ntmps84
  go_wp2
  refine wp_region_below_lit (by kernel_rfl) (by kernel_rfl) ?_
  repeat (go_big_quiet_step (fail))
  refine wpQuiet_nil ?_
  intro w5 hb5
  go_wp2
  go_ret
  exact ⟨rfl, under2 hb5⟩
def outsideB (last : Bool) (n : Int) (r : Rng) : Bool := decide (r.hi < n) || (decide (n < r.lo) && !last)
set_option maxHeartbeats 400000 in
theorem phases2_any (n : Int) (r : Rng) (last : Bool) (b o : Nat) (w : World) (hc : w.cell? ⟨b, o, none⟩ = some (.bool last)) :
    Calls Try.prog 85 #[I n, r.val, .pointer (some ⟨b, o, none⟩)] w fun e w' => e = .returned (.bool (outsideB last n r)) ∧ Below w.heap.size w w' := by
  show Calls _ _ _ _ fun e w' => e = .returned (.bool (decide (r.hi < n) || (decide (n < r.lo) && !last))) ∧ _
  have hc' : ∀ x, (w.alloc x).cell? ⟨b, o, none⟩ = some (.bool last) := fun x => by rw [World.cell?_alloc_past _ _ _ (block_lt_of_cell hc)]; exact hc
  clear hc
  go_enter Try.func85, Try.ntmps85
  go_wp2
  all_goals
    go_ret
    exact ⟨bor (by first | (simp [*]; done) | (cases last <;> simp_all <;> omega)), (Below.refl _ _).alloc (Nat.le_refl _) _⟩
end Go.Proofs.Ytlebefopdnadaaa
