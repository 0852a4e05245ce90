/- The contract of divisor of the statements' package, and the plain law of the simplest fraction. -/
import Derived.Test.YtmadlmmfbpmebaaU6
namespace Go.Proofs.Ytmadlmmfbpmebaa
open Go.RowKit
theorem gcd_step (a b : Int) : Int.gcd b (a.tmod b) = Int.gcd a b := by
  unfold Int.gcd
  rw [Int.natAbs_tmod, Nat.gcd_comm b.natAbs, ← Nat.gcd_rec, Nat.gcd_comm]
theorem tmod_bd {a b : Int} (hb : b ≠ 0) : (a.tmod b).natAbs < b.natAbs := by
  rw [Int.natAbs_tmod]
  exact Nat.mod_lt _ (by omega)
set_option maxRecDepth 100000 in
set_option maxHeartbeats 1000000 in
theorem divisor_any (a b : Int) (w : World) (ha : a.natAbs ≤ 1000000000000000) (hb : b.natAbs ≤ 1000000000000000) :
    Calls Try.prog 47 #[I a, I b] w fun e w' => e = .returned (I (Int.gcd a b : Nat)) ∧ Below w.heap.size w w' := by
  have HA := Lib.hid ha
  have HB := Lib.hid hb
  clear ha hb
  go_enter Try.func47, Try.ntmps47
  go_wp2_with fail
  go_loopw [0, 1] (fun x y wr => ∃ p q : Int, x = I p ∧ y = I q ∧ Int.gcd p q = Int.gcd a b ∧ p.natAbs ≤ 1000000000000000 ∧ q.natAbs ≤ 1000000000000000 ∧ Below w.heap.size w wr) (fun _ y _ => (intOf y).natAbs)
  case atStart => exact ⟨a, b, rfl, rfl, rfl, HA.out, HB.out, Below.refl _ _⟩
  case round =>
    obtain ⟨p, q, rfl, rfl, hg, hp, hq, hbw⟩ := hrel
    rename World => V
    have HBW := Lib.hid hbw
    have HG := Lib.hid hg
    clear hbw hg
    by_cases h0 : q = 0
    · have hb0 : (q == 0) = true := by simpa using h0
      have hgz : Hid (max p (-p) = ((Int.gcd a b : Nat) : Int)) := by
        show _ = _
        rw [← HG.out, h0, Int.gcd_zero_right]; omega
      have c1 : wrap64 (-p) = -p := by unfold wrap64; omega
      clear h0 hp hq
      go_wp2_with fail
      go_ret
      exact ⟨by rw [← hgz.out]; rfl, HBW.out⟩
    · have hb0 : (q == 0) = false := by simpa using h0
      have hb1 : decide (q = 0) = false := decide_eq_false h0
      have hgn : Hid (Int.gcd q (p.tmod q) = Int.gcd a b) := (gcd_step p q).trans HG.out
      have hlt := Lib.hid (tmod_bd (a := p) h0)
      have hql := Lib.hid hq
      go_upto_region 2 with (fail)
      refine wp_region_below_lit (by kernel_rfl) (by kernel_rfl) ?_
      repeat (go_big_quiet_step (fail))
      refine wpQuiet_nil ?_
      intro w1 hb1
      have HBW1 := Lib.hid (HBW.out.trans (hb1.mono HBW.out.size))
      clear hb1
      go_wp2_with fail
      go_roundw
      case rel => exact ⟨q, p.tmod q, rfl, rfl, hgn.out, hql.out, by have := hlt.out; have := hql.out; omega, HBW1.out⟩
      case measure => exact hlt.out
theorem fle_tr {a b c : Frc} (ha : 1 ≤ a.d) (hb : 1 ≤ b.d) (hc : 1 ≤ c.d) (h1 : fle a b) (h2 : fle b c) : fle a c := by
  unfold fle at *
  have e1 : a.n * b.d * c.d ≤ b.n * a.d * c.d := Int.mul_le_mul_of_nonneg_right h1 (by omega)
  have e2 : b.n * c.d * a.d ≤ c.n * b.d * a.d := Int.mul_le_mul_of_nonneg_right h2 (by omega)
  have e3 : b.n * a.d * c.d = b.n * c.d * a.d := by rw [Int.mul_assoc, Int.mul_comm a.d, ← Int.mul_assoc]
  have e4 : a.n * c.d * b.d ≤ c.n * a.d * b.d := by
    rw [show a.n * c.d * b.d = a.n * b.d * c.d by rw [Int.mul_assoc, Int.mul_comm c.d, ← Int.mul_assoc], show c.n * a.d * b.d = c.n * b.d * a.d by rw [Int.mul_assoc, Int.mul_comm a.d, ← Int.mul_assoc]]
    omega
  exact Int.le_of_mul_le_mul_right e4 (by omega)
/-- A quotient rounded up, of a part of a number. -/
theorem up_part {n d c : Int} (hc : 1 ≤ c) (hd : 0 ≤ d) (hdc : d ≤ c) (hn : -1000000000000000 ≤ n ∧ n ≤ 1000000000000000) :
    (-1000000000000000 ≤ (rnd (n * d) c 2).1 ∧ (rnd (n * d) c 2).1 ≤ 1000000000000000) ∧ n * d ≤ (rnd (n * d) c 2).1 * c := by
  have h1 := Int.mul_ediv_add_emod (n * d) c
  have h2 := Int.emod_nonneg (n * d) (show c ≠ 0 by omega)
  have h3 := Int.emod_lt_of_pos (n * d) (show 0 < c by omega)
  obtain ⟨p1, p2, _⟩ := part_le (a := n) (b := d) (c := c) hc hd hdc
  have h4 : n * d ≤ 1000000000000000 * c := by
    have e1 : n * d ≤ 1000000000000000 * d := Int.mul_le_mul_of_nonneg_right hn.2 hd
    have e2 : 1000000000000000 * d ≤ 1000000000000000 * c := Int.mul_le_mul_of_nonneg_left hdc (by omega)
    omega
  rw [Int.mul_comm] at h1
  generalize hv : n * d = v at *
  by_cases hr : 0 < v % c
  · rw [rnd_up (v := v) (c := c) (how := 2) ⟨hr, .inl rfl⟩]
    simp only
    generalize v / c = q at *
    have h5 : q * c < 1000000000000000 * c := by omega
    have h6 : q < 1000000000000000 := Int.lt_of_mul_lt_mul_right h5 (by omega)
    refine ⟨by omega, ?_⟩
    rw [Int.add_mul]; omega
  · rw [rnd_no (v := v) (c := c) (how := 2) (by omega)]
    simp only
    generalize v / c = q at *
    exact ⟨by omega, by omega⟩
end Go.Proofs.Ytmadlmmfbpmebaa
