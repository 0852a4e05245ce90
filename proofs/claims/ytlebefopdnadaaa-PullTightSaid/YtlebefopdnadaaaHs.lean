/- The contracts of has and hasSecond of the statements' package; the true course of a crystal. -/
import Derived.Test.YtlebefopdnadaaaIg
namespace Go.Proofs.Ytlebefopdnadaaa
open Go.RowKit
/-- Does a range have a number? -/
def haB (t : Int) (r : Rng) : Bool := decide (r.lo ≤ t) && decide (t ≤ r.hi)
set_option maxHeartbeats 1000000 in
theorem has_any (r : Rng) (t : Int) (w : World) : Calls Try.prog 39 #[.agg #[I r.lo, I r.hi], I t] w fun e w' => e = .returned (.bool (haB t r)) ∧ Below w.heap.size w w' := by
  obtain ⟨x, y⟩ := r
  unfold haB
  go_enter Try.func39, Try.ntmps39
  by_cases t1 : x ≤ t
  · by_cases t2 : t ≤ y
    · go_wp2_with fail
      go_ret
      exact ⟨by simp [t1, t2], (Below.refl _ _).alloc (Nat.le_refl _) _⟩
    · go_wp2_with fail
      go_ret
      exact ⟨by simp [t2], (Below.refl _ _).alloc (Nat.le_refl _) _⟩
  · go_wp2_with fail
    go_ret
    exact ⟨by simp; intro h; omega, (Below.refl _ _).alloc (Nat.le_refl _) _⟩
set_option maxHeartbeats 1000000 in
theorem hasSecond_any (A : Option Addr) (n c : Nat) (l : List Rng) (t : Int) (w : World) (hn : n = l.length) (hl : n ≤ 1000000) (hx : Rd w w.heap.size 2 A n (rR l)) :
    Calls Try.prog 40 #[.slice A n c, I t] w fun e w' => e = .returned (.bool (l.any (haB t))) ∧ Below w.heap.size w w' := by
  have Hx := Lib.hid hx
  have Hn := Lib.hid hn
  clear hx hn
  go_enter Try.func40, Try.ntmps40
  go_wp2_with fail
  go_loopw [5] (fun i wr => ∃ k : Nat, k ≤ n ∧ i = .int .i64 k ∧ (∀ j, j < k → haB t (at0 l j) = false) ∧ Le w wr) (fun i _ => n - (intOf i).toNat)
  case atStart => exact ⟨0, by omega, rfl, by omega, Le.refl _⟩
  case round =>
    obtain ⟨k, hk, rfl, hb, hbw⟩ := hrel
    have Hb := Lib.hid hb
    have HB : Hid (Le w wr) := hbw
    clear hb hbw
    by_cases hlt : k < n
    · obtain ⟨b, o, rfl, hB, s0, s1⟩ := (Hx.out.below HB.out).rng hlt
      have hin : Hid (at0 l k ∈ l) := at0_in (by rw [← Hn.out]; exact hlt)
      generalize hq : at0 l k = q at *
      have HQ := Lib.hid hq
      clear hq
      go_wp2_with fail
      refine (has_any q t wr).mono ?_
      rintro e w1 ⟨rfl, hb1⟩
      have H1 : Hid (Le w w1) := HB.out.trans hb1
      clear hb1
      rcases hh : haB t q with _ | _
      case true =>
        have hyes : Hid (l.any (haB t) = true) := List.any_eq_true.2 ⟨q, hin.out, hh⟩
        clear hh
        go_wp2_with fail
        go_ret
        exact ⟨by rw [hyes.out]; rfl, H1.out⟩
      have hno : Hid (haB t (at0 l k) = false) := by show _ = _; rw [HQ.out]; exact hh
      clear hh
      go_wp2_with fail
      go_roundw
      case rel => exact ⟨k + 1, by omega, by go_num, succ_case Hb.out hno.out, H1.out⟩
      case measure => simp [intOf]; omega
    · have hno : Hid (l.any (haB t) = false) := by
        show _ = _
        rw [List.any_eq_false]
        intro x hx
        obtain ⟨j, hj, rfl⟩ := at0_mem hx
        rw [Hb.out j (by rw [← Hn.out] at hj; omega)]; decide
      go_wp2_with fail
      go_ret
      exact ⟨by rw [hno.out]; rfl, HB.out⟩
end Go.Proofs.Ytlebefopdnadaaa
