/- The contracts of Ranges, list and Sum of the reference of chapter 1. -/
import Derived.Test.YtbojgcaehlapiaaR1
namespace Go.Proofs.Ytbojgcaehlapiaa.Un
open Go.RowKit
theorem rngsOk_no {xs : List Rng} {k : Nat} (hk : k < xs.length) (h : rngOk (at0 xs k) = false) : rngsOk xs = false := by
  unfold rngsOk
  rw [Bool.not_eq_false', List.any_eq_true]
  exact ⟨at0 xs k, by rw [at0_get hk]; exact List.getElem_mem hk, by unfold badR; rw [h]; rfl⟩
theorem rngsOk_yes {xs : List Rng} (h : ∀ j, j < xs.length → rngOk (at0 xs j) = true) : rngsOk xs = true := by
  unfold rngsOk
  rw [Bool.not_eq_true', List.any_eq_false]
  intro x hx
  obtain ⟨j, hj, rfl⟩ := at0_mem hx
  unfold badR
  rw [h j hj]; decide
set_option maxRecDepth 100000 in
set_option maxHeartbeats 1000000 in
theorem refRanges_any (A : Option Addr) (c : Nat) (xs : List Rng) (w : World) (B : Nat) (hm : xs.length ≤ 1000) (hB : B ≤ w.heap.size) (hx : Rd w B 2 A xs.length (rR xs)) :
    Calls Try.prog 93 #[.slice A xs.length c] w fun e w' => e = .returned (.bool (rngsOk xs)) ∧ Below w.heap.size w w' := by
  have HX : Hid (∀ u, Rd (ovr w u) B 2 A xs.length (rR xs)) := fun u => hx.below ((ovr_below w u).mono hB)
  obtain ⟨u0, hu0⟩ := ovr_self w
  have H0 := Lib.hid hu0
  clear hx hB hu0
  have HUw : Hid (∀ u, Below w.heap.size w (ovr w u)) := fun u => ovr_below _ _
  go_enter Try.func93, Try.ntmps93
  go_wp2_with fail
  go_loopw [3] (fun i wr => ∃ k : Nat, k ≤ xs.length ∧ i = .int .i64 k ∧ (∀ j, j < k → rngOk (at0 xs j) = true) ∧ ∃ u, wr = ovr w u) (fun i _ => xs.length - (intOf i).toNat)
  case atStart => exact ⟨0, by omega, rfl, fun _ h => absurd h (by omega), u0, H0.out⟩
  case round =>
    obtain ⟨k, hk, rfl, hall, u, rfl⟩ := hrel
    have HA := Lib.hid hall
    clear hall
    by_cases hlt : k < xs.length
    · obtain ⟨b, o, rfl, _, e0, e1⟩ := (HX.out u).rng hlt
      rcases ho : rngOk (at0 xs k) with _ | _
      all_goals
        have HO := Lib.hid ho
        have cr := Lib.hid fun W => refRange_any (at0 xs k) W
        rw [ho] at cr
        clear ho
        obtain ⟨q, hq⟩ : ∃ q, at0 xs k = q := ⟨_, rfl⟩
        rw [hq] at e0 e1 cr
        clear hq
        go_wp2_with fail
        refine (cr.out _).mono ?_
        rintro e w1 ⟨rfl, hb1⟩
        obtain ⟨u1, rfl⟩ := ovr_next hb1
        clear hb1
      · have hn : Hid (rngsOk xs = false) := rngsOk_no hlt HO.out
        go_wp2_with fail
        go_ret
        exact ⟨by rw [hn.out]; rfl, ovr_below _ _⟩
      · go_wp2_with fail
        go_roundw
        case rel => exact ⟨k + 1, by omega, by go_num, succ_case HA.out HO.out, u1, rfl⟩
        case measure => simp [intOf]; omega
    · obtain rfl : k = xs.length := by omega
      have hn : Hid (rngsOk xs = true) := rngsOk_yes HA.out
      go_wp2_with fail
      go_ret
      exact ⟨by rw [hn.out]; rfl, ovr_below _ _⟩
set_option maxRecDepth 100000 in
set_option maxHeartbeats 1000000 in
theorem refList_any (A : Option Addr) (c : Nat) (xs : List Rng) (w : World) (B : Nat) (_ : xs.length ≤ maxLen) (hB : B ≤ w.heap.size) (hx : Rd w B 2 A xs.length (rR xs)) :
    Calls Try.prog 75 #[.slice A xs.length c] w fun e w' => e = .returned (I (chk xs)) ∧ Below w.heap.size w w' := by
  by_cases h1 : 100 < xs.length
  · have hf : Hid (chk xs = 5) := if_pos h1
    have h1b : decide (100 < (xs.length : Int)) = true := decide_eq_true (by omega)
    clear hx hB h1
    go_enter Try.func75, Try.ntmps75
    go_wp2_with fail
    go_ret
    exact ⟨by rw [hf.out]; rfl, Below.refl _ _⟩
  · have h1b : decide (100 < (xs.length : Int)) = false := decide_eq_false (by omega)
    have cr := Lib.hid (refRanges_any A c xs w B (by omega) hB hx)
    have hc : chk xs = if rngsOk xs then 0 else 2 := if_neg h1
    clear hx hB h1
    rcases ho : rngsOk xs with _ | _
    all_goals
      rw [ho] at cr hc
      have HC := Lib.hid hc
      clear ho hc
      go_enter Try.func75, Try.ntmps75
      go_wp2_with fail
      refine cr.out.mono ?_
      rintro e w1 ⟨rfl, hb⟩
      have HB := Lib.hid hb
      clear hb
      go_wp2_with fail
      go_ret
      exact ⟨by rw [HC.out]; rfl, HB.out⟩
end Go.Proofs.Ytbojgcaehlapiaa.Un
