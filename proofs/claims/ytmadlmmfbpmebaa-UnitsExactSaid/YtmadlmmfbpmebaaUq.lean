/- The contracts of valid, check, fits, cut, Less of package units. -/
import Derived.Test.YtmadlmmfbpmebaaUp
namespace Go.Proofs.Ytmadlmmfbpmebaa
open Go.RowKit
/-- A valid range. -/
def rngOk (r : Rng) : Bool := numB r.lo && (numB r.hi && decide (r.lo ≤ r.hi))
def badR (r : Rng) : Bool := !rngOk r
theorem rngOk_iff {r : Rng} : rngOk r = true ↔ (-1000000000000000 ≤ r.lo ∧ r.lo ≤ 1000000000000000) ∧ (-1000000000000000 ≤ r.hi ∧ r.hi ≤ 1000000000000000) ∧ r.lo ≤ r.hi := by
  unfold rngOk
  rw [Bool.and_eq_true, Bool.and_eq_true, numB_iff, numB_iff, decide_eq_true_eq]
theorem is_two (x y : Int) (W : World) (k : Nat) (hk : W.heap.size = k) : Calls Try.prog 67 #[.slice (some ⟨k, 0, none⟩) 2 2] (W.alloc (.cells #[I x, I y] 3)) fun e w' => e = .returned (.bool (numB x && numB y)) ∧ Below W.heap.size W w' := by
  subst hk
  have := is_any (some ⟨W.heap.size, 0, none⟩) 2 2 [x, y] (W.alloc (.cells #[I x, I y] 3)) _ rfl (by unfold maxLen; omega) (Rd_new (heap_last _ _ _ rfl) _ _ _ _ (all2 (all1 rfl) (all1 rfl)))
  rw [isB_two] at this
  refine this.mono ?_
  rintro e w' ⟨rfl, rfl⟩
  exact ⟨rfl, (Below.refl _ _).alloc (Nat.le_refl _) _⟩
set_option maxRecDepth 100000 in
set_option maxHeartbeats 1000000 in
theorem bad_any (r : Rng) (w : World) : Calls Try.prog 112 #[r.val] w fun e w' => e = .returned (.bool (badR r)) ∧ Below w.heap.size w w' := by
  obtain ⟨lo, hi⟩ := r
  have hf : Hid (badR ⟨lo, hi⟩ = !(numB lo && (numB hi && decide (lo ≤ hi)))) := rfl
  have ci := Lib.hid fun W k => is_two lo hi W k
  obtain ⟨W, hW⟩ : ∃ W, W = (w.alloc (.cells #[I lo, I hi] 38)) := ⟨_, rfl⟩
  have rowW0 : W.heap[w.heap.size]? = some (.cells #[I lo, I hi] 38 (0, 0)) := by rw [hW]; exact heap_last _ _ _ rfl
  have yW00 := ovr_cell (W := W) (b := w.heap.size) (o := 0) (v := I lo) (by rw [cell_of_row _ _ _ _ _ _ rowW0]; rfl)
  have yW01 := ovr_cell (W := W) (b := w.heap.size) (o := 1) (v := I hi) (by rw [cell_of_row _ _ _ _ _ _ rowW0]; rfl)
  have RrowW0 := Lib.hid (ovr_row rowW0)
  clear rowW0
  have HUW : Hid (∀ u, Below w.heap.size w (ovr W u)) := U1 hW
  have HW := Lib.hid hW
  clear hW
  rcases h1 : numB lo with _ | _ <;> rcases h2 : numB hi with _ | _ <;> (rw [h1, h2] at hf ci)
  case true.true =>
    by_cases h3 : lo ≤ hi
    all_goals
      have h3b : decide (hi < lo) = decide (¬ lo ≤ hi) := by apply decide_eq_decide.2; omega
      rw [decide_not] at h3b
      first | rw [decide_eq_true h3] at hf h3b | rw [decide_eq_false h3] at hf h3b
      clear h3
      go_enter Try.func112, Try.ntmps112
      go_upto_region 1 with (fail)
      rw [← HW.out]
      obtain ⟨u0, hu0⟩ := ovr_self W
      rw [hu0]
      clear hu0
      go_wp2_with fail
      refine (ci.out _ _ rfl).mono ?_
      rintro e w1 ⟨rfl, hb1⟩
      obtain ⟨u1, rfl⟩ := ovr_next hb1
      clear hb1
      go_wp2_with fail
      go_ret
      exact ⟨by rw [hf.out]; rfl, HUW.out _⟩
  all_goals
    go_enter Try.func112, Try.ntmps112
    go_upto_region 1 with (fail)
    rw [← HW.out]
    obtain ⟨u0, hu0⟩ := ovr_self W
    rw [hu0]
    clear hu0
    go_wp2_with fail
    refine (ci.out _ _ rfl).mono ?_
    rintro e w1 ⟨rfl, hb1⟩
    obtain ⟨u1, rfl⟩ := ovr_next hb1
    clear hb1
    go_wp2_with fail
    go_ret
    exact ⟨by rw [hf.out]; rfl, HUW.out _⟩
set_option maxHeartbeats 1000000 in
theorem ix_rng (A : Option Addr) (c : Nat) (xs : List Rng) (w : World) (B : Nat) (hm : xs.length ≤ maxLen) (hB : B ≤ w.heap.size) (hx : Rd w B 2 A xs.length (rR xs)) :
    Calls Try.prog 125 #[.slice A xs.length c, .func (Fn.func 112) #[] #[]] w fun e w' => e = .returned (.int .i64 (ixOf badR xs)) ∧ Below w.heap.size w w' := by
  unfold maxLen at hm
  have HX : Hid (∀ u, Rd (ovr w u) B 2 A xs.length (rR xs)) := fun u => hx.below ((ovr_below w u).mono hB)
  obtain ⟨u0, hu0⟩ := ovr_self w
  have H0 := Lib.hid hu0
  clear hx hB hu0
  go_enter Try.func125, Try.ntmps125
  go_wp2
  go_loopw [8] (fun i wr => ∃ k : Nat, k ≤ xs.length ∧ i = .int .i64 k ∧ (∀ j, j < k → badR (at0 xs j) = false) ∧ ∃ u, wr = ovr w u) (fun i _ => xs.length - (intOf i).toNat)
  case atStart => exact ⟨0, by omega, rfl, fun j hj => absurd hj (by omega), u0, H0.out⟩
  case round =>
    obtain ⟨k, hk, rfl, hb, u, rfl⟩ := hrel
    have Hb := Lib.hid hb
    clear hb
    by_cases hlt : k < xs.length
    · obtain ⟨b, o, rfl, _, e0, e1⟩ := (HX.out u).rng hlt
      have ca := bad_any (at0 xs k) (ovr w u)
      rcases hp : badR (at0 xs k) with _ | _
      · rw [hp] at ca
        have Ca := Lib.hid ca
        clear ca
        go_wp2_with fail
        refine Ca.out.mono ?_
        rintro e w1 ⟨rfl, hb1⟩
        obtain ⟨u1, rfl⟩ := ovr_next hb1
        clear hb1
        go_wp2_with fail
        go_roundw
        case rel => exact ⟨k + 1, by omega, by go_num, succ_case Hb.out hp, u1, rfl⟩
        case measure => simp [intOf]; omega
      · rw [hp] at ca
        have Ca := Lib.hid ca
        have hfin := Lib.hid (ixOf_at hlt hp Hb.out)
        clear ca
        go_wp2_with fail
        refine Ca.out.mono ?_
        rintro e w1 ⟨rfl, hb1⟩
        obtain ⟨u1, rfl⟩ := ovr_next hb1
        clear hb1
        go_wp2_with fail
        go_ret
        exact ⟨ret_int hfin.out.symm, ovr_below _ _⟩
    · have hfin : Hid (ixOf badR xs = -1) := ixOf_none0 fun j hj => Hb.out j (by omega)
      go_wp2
      go_ret
      exact ⟨ret_int hfin.out.symm, ovr_below _ _⟩
/-- All ranges are valid. -/
def rngsOk (xs : List Rng) : Bool := !(xs.any badR)
set_option maxHeartbeats 1000000 in
theorem valid_any (A : Option Addr) (n c : Nat) (xs : List Rng) (w : World) (B : Nat) (hn : n = xs.length) (hm : n ≤ maxLen) (hB : B ≤ w.heap.size) (hx : Rd w B 2 A n (rR xs)) :
    Calls Try.prog 78 #[.slice A n c] w fun e w' => e = .returned (.bool (rngsOk xs)) ∧ Below w.heap.size w w' := by
  subst hn
  have hfin := ixOf_any (p := badR) (xs := xs)
  have cx := Lib.hid (ix_rng A c xs w B hm hB hx)
  have hc : Calls Try.prog 111 #[.slice A xs.length c, .func (Fn.func 112) #[] #[]] w fun e w' => e = .returned (.bool (xs.any badR)) ∧ Below w.heap.size w w' := by
    clear hx hB hm
    go_enter Try.func111, Try.ntmps111
    go_wp2_with fail
    refine cx.out.mono ?_
    rintro e w' ⟨rfl, hb⟩
    have HB := Lib.hid hb
    clear hb
    go_wp2_with fail
    go_ret
    exact ⟨rfl, HB.out⟩
  have Hc := Lib.hid hc
  clear hx hc hfin cx hm hB
  go_enter Try.func78, Try.ntmps78
  go_wp2_with fail
  refine Hc.out.mono ?_
  rintro e w' ⟨rfl, hb⟩
  have HB := Lib.hid hb
  clear hb
  go_wp2_with fail
  go_ret
  exact ⟨rfl, HB.out⟩
/-- The error of a list of ranges. -/
def chk (xs : List Rng) : Int := if 100 < xs.length then 5 else if rngsOk xs then 0 else 2
set_option maxHeartbeats 1000000 in
theorem check_any (A : Option Addr) (n c : Nat) (xs : List Rng) (w : World) (B : Nat) (hn : n = xs.length) (hm : n ≤ maxLen) (hB : B ≤ w.heap.size) (hx : Rd w B 2 A n (rR xs)) :
    Calls Try.prog 77 #[.slice A n c] w fun e w' => e = .returned (I (chk xs)) ∧ Below w.heap.size w w' := by
  subst hn
  have hf : Hid (chk xs = if 100 < xs.length then 5 else if rngsOk xs then 0 else 2) := rfl
  have cv := Lib.hid (valid_any A xs.length c xs w B rfl hm hB hx)
  unfold maxLen at hm
  clear hx hB
  by_cases h : 100 < xs.length
  · rw [if_pos h] at hf
    go_enter Try.func77, Try.ntmps77
    go_wp2_with fail
    go_ret
    exact ⟨ret_int hf.out.symm, Below.refl _ _⟩
  · rw [if_neg h] at hf
    rcases hv : rngsOk xs with _ | _ <;> rw [hv] at hf cv
    all_goals
      go_enter Try.func77, Try.ntmps77
      go_wp2_with fail
      refine cv.out.mono ?_
      rintro e w' ⟨rfl, hb⟩
      have HB := Lib.hid hb
      clear hb
      go_wp2_with fail
      go_ret
      exact ⟨by rw [hf.out]; rfl, HB.out⟩
end Go.Proofs.Ytmadlmmfbpmebaa
