/- isGain of package pull. -/
import Derived.Test.YtbojgcaehlapiaaIna
import Derived.Test.YtbojgcaehlapiaaRi
namespace Go.Proofs.Ytbojgcaehlapiaa.Un
open Go.RowKit
/-- A fraction (numerator, denominator) that is no gain. -/
def badG (r : Rng) : Bool := decide (r.lo < -1000000) || decide (1000000 < r.lo) || decide (r.hi < 1) || decide (1000000 < r.hi)
theorem badG_not {r : Rng} : badG r = false ↔ -1000000 ≤ r.lo ∧ r.lo ≤ 1000000 ∧ 1 ≤ r.hi ∧ r.hi ≤ 1000000 := by
  simp only [badG, Bool.or_eq_false_iff, decide_eq_false_iff_not]
  omega
theorem gain1_any (r : Rng) (w : World) :
    Calls Try.prog 61 #[.agg #[I r.lo, I r.hi]] w fun e w' => e = .returned (.bool (badG r)) ∧ Below w.heap.size w w' := by
  have hf : Hid (badG r = (decide (r.lo < -1000000) || decide (1000000 < r.lo) || decide (r.hi < 1) || decide (1000000 < r.hi))) := rfl
  have HB : Hid (∀ x, Below w.heap.size w (w.alloc x)) := fun x => (Below.refl _ _).alloc (Nat.le_refl _) x
  rcases h1 : decide (r.lo < -1000000) with _ | _ <;> rcases h2 : decide (1000000 < r.lo) with _ | _ <;> rcases h3 : decide (r.hi < 1) with _ | _ <;> rcases h4 : decide (1000000 < r.hi) with _ | _
  all_goals
    rw [h1, h2, h3, h4] at hf
    go_enter Try.func61, Try.ntmps61
    go_wp2_with fail
    go_ret
    exact ⟨by rw [hf.out]; rfl, HB.out _⟩
set_option maxHeartbeats 400000 in
theorem ix_gain (A : Option Addr) (c : Nat) (xs : List Rng) (w : World) (hm : xs.length ≤ maxLen) (hx : Rd w w.heap.size 2 A xs.length (rR xs)) :
    Calls Try.prog 84 #[.slice A xs.length c, .func (Fn.func 61) #[] #[]] w fun e w' => e = .returned (.int .i64 (ixOf badG xs)) ∧ Below w.heap.size w w' := by
  unfold maxLen at hm
  have Hx := Lib.hid hx
  clear hx
  go_enter Try.func84, Try.ntmps84
  go_wp2
  go_loopw [8] (fun i wr => ∃ k : Nat, k ≤ xs.length ∧ i = .int .i64 k ∧ (∀ j, j < k → badG (at0 xs j) = false) ∧ Below w.heap.size w wr) (fun i _ => xs.length - (intOf i).toNat)
  case atStart => exact ⟨0, by omega, rfl, by omega, Below.refl _ _⟩
  case round =>
    obtain ⟨k, hk, rfl, hb, hbw⟩ := hrel
    have Hb := Lib.hid hb
    clear hb
    by_cases hlt : k < xs.length
    · obtain ⟨b, o, rfl, _, hx0, hx1⟩ := (Hx.out.below hbw).rng hlt
      have hsz := hbw.size
      by_cases hp : badG (at0 xs k) = true
      · have hfin := Lib.hid (ixOf_at hlt hp Hb.out)
        go_wp2_with (go_at_call 61; refine (gain1_any _ _).mono ?_; rintro e w' ⟨rfl, hb1⟩)
        go_ret
        exact ⟨ret_int hfin.out.symm, hbw.trans (hb1.mono hsz)⟩
      · have hp : badG (at0 xs k) = false := by simpa using hp
        go_wp2_with (go_at_call 61; refine (gain1_any _ _).mono ?_; rintro e w' ⟨rfl, hb1⟩)
        go_roundw
        case rel => exact ⟨k + 1, by omega, by go_num, succ_case Hb.out hp, hbw.trans (hb1.mono hsz)⟩
        case measure => simp [intOf]; omega
    · have hfin : Hid (ixOf badG xs = -1) := ixOf_none0 fun j hj => Hb.out j (by omega)
      go_wp2
      go_ret
      exact ⟨ret_int hfin.out.symm, hbw⟩
set_option maxHeartbeats 400000 in
theorem contains_gain (A : Option Addr) (c : Nat) (xs : List Rng) (w : World) (hm : xs.length ≤ maxLen) (hx : Rd w w.heap.size 2 A xs.length (rR xs)) :
    Calls Try.prog 60 #[.slice A xs.length c, .func (Fn.func 61) #[] #[]] w fun e w' => e = .returned (.bool (xs.any badG)) ∧ Below w.heap.size w w' := by
  have hfin := Lib.hid (ixOf_any (p := badG) (xs := xs))
  have Hx := Lib.hid hx
  clear hx
  go_enter Try.func60, Try.ntmps60
  go_wp2_with (go_at_call 84; refine (ix_gain _ _ _ _ hm Hx.out).mono ?_; rintro e w' ⟨rfl, hb1⟩)
  go_ret
  exact ⟨by rw [hfin.out]; rfl, hb1⟩
set_option maxHeartbeats 400000 in
theorem isGain_any (A : Option Addr) (n c : Nat) (xs : List Rng) (w : World) (hn : n = xs.length) (hm : n ≤ maxLen) (hx : Rd w w.heap.size 2 A n (rR xs)) :
    Calls Try.prog 30 #[.slice A n c] w fun e w' => e = .returned (.bool (!xs.any badG)) ∧ Below w.heap.size w w' := by
  subst hn
  have Hx := Lib.hid hx
  clear hx
  go_enter Try.func30, Try.ntmps30
  go_wp2_with (go_at_call 60; refine (contains_gain _ _ _ _ hm Hx.out).mono ?_; rintro e w' ⟨rfl, hb1⟩)
  go_ret
  exact ⟨rfl, hb1⟩
end Go.Proofs.Ytbojgcaehlapiaa.Un
