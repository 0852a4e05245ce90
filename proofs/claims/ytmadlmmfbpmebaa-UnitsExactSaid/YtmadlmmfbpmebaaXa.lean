/- Contracts of mod, primes and exactly of the laws of chapter 1. -/
import Derived.Test.YtmadlmmfbpmebaaKb
namespace Go.Proofs.Ytmadlmmfbpmebaa
open Go.RowKit
theorem mod_fold {n p : Int} : (n.tmod p + p) % p = n % p := by
  rw [Int.add_emod_right]
  have h2 := Int.mul_tdiv_add_tmod n p
  have h3 : n.tmod p = n + p * (-(n.tdiv p)) := by rw [Int.mul_neg]; omega
  rw [h3, Int.add_mul_emod_self_left]
set_option maxRecDepth 100000 in
set_option maxHeartbeats 1000000 in
theorem mod_any (n p : Int) (w : World) (_hn : -9223372036854775808 ≤ n ∧ n ≤ 9223372036854775807) (hp : 2 ≤ p ∧ p ≤ 1073741824) :
    Calls Try.prog 87 #[I n, I p] w fun e w' => e = .returned (I (n % p)) ∧ Below w.heap.size w w' := by
  have c0 : (p == 0) = false := by rw [beq_eq_false_iff_ne]; omega
  have hf := Lib.hid (@mod_fold n p)
  have b1 := Int.lt_tmod_of_pos n (show 0 < p by omega)
  have b2 := Int.tmod_lt_of_pos n (show 0 < p by omega)
  go_enter Try.func87, Try.ntmps87
  go_wp2_with fail
  go_ret
  exact ⟨by rw [← hf.out]; rfl, Below.refl _ _⟩
def prL : List Int := [1000000007, 998244353, 1000000009, 999999937]
theorem prL_bd (k : Nat) (h : k < 4) : 2 ≤ at0 prL k ∧ at0 prL k ≤ 1073741824 := by
  rcases (show k = 0 ∨ k = 1 ∨ k = 2 ∨ k = 3 by omega) with rfl | rfl | rfl | rfl <;> decide
set_option maxRecDepth 100000 in
theorem primes_any (w : World) :
    Calls Try.prog 86 #[] w fun e w' => ∃ A, e = .returned (.slice A 4 4) ∧ Rd w' w'.heap.size 1 A 4 (rI prL) ∧ Below w.heap.size w w' := by
  go_enter Try.func86, Try.ntmps86
  go_wp2_with fail
  go_ret
  exact ⟨some ⟨w.heap.size, 0, none⟩, rfl, Rd_new (heap_last _ _ _ rfl) _ _ _ _ (by intro k hk; rcases (show k = 0 ∨ k = 1 ∨ k = 2 ∨ k = 3 by omega) with rfl | rfl | rfl | rfl <;> exact all1 rfl), (Below.refl _ _).alloc (Nat.le_refl _) _⟩
theorem ex_law {a b n c r p : Int} (h : a * b = n * c + r) : (a % p * (b % p)) % p = (n % p * (c % p) + r % p) % p := by
  rw [← Int.mul_emod, h, Int.add_emod, Int.mul_emod]
  simp [Int.add_emod]
theorem prod_bd {x y p : Int} (hp : 2 ≤ p ∧ p ≤ 1073741824) : 0 ≤ x % p * (y % p) ∧ x % p * (y % p) ≤ 1152921504606846976 := by
  have h1 := Int.emod_nonneg x (show p ≠ 0 by omega)
  have h2 := Int.emod_nonneg y (show p ≠ 0 by omega)
  have h3 := Int.emod_lt_of_pos x (show 0 < p by omega)
  have h4 := Int.emod_lt_of_pos y (show 0 < p by omega)
  refine ⟨Int.mul_nonneg h1 h2, ?_⟩
  have := Int.mul_le_mul (show x % p ≤ 1073741824 by omega) (show y % p ≤ 1073741824 by omega) h2 (by omega)
  omega
set_option maxRecDepth 100000 in
set_option maxHeartbeats 1000000 in
theorem exactly_any (a b n c r : Int) (w : World) (h : a * b = n * c + r)
    (ha : -9223372036854775808 ≤ a ∧ a ≤ 9223372036854775807) (hb : -9223372036854775808 ≤ b ∧ b ≤ 9223372036854775807) (hn : -9223372036854775808 ≤ n ∧ n ≤ 9223372036854775807) (hc : -9223372036854775808 ≤ c ∧ c ≤ 9223372036854775807) (hr : -9223372036854775808 ≤ r ∧ r ≤ 9223372036854775807) :
    Calls Try.prog 36 #[I a, I b, I n, I c, I r] w fun e w' => e = .returned (.bool true) ∧ Below w.heap.size w w' := by
  have hl := Lib.hid fun p : Int => @ex_law a b n c r p h
  have cp := Lib.hid fun W => primes_any W
  clear h
  go_enter Try.func36, Try.ntmps36
  go_wp2_with fail
  refine (cp.out _).mono ?_
  rintro e w1 ⟨A, rfl, hx, hb1⟩
  have HX : Hid (∀ u, Rd (ovr w1 u) w1.heap.size 1 A 4 (rI prL)) := fun u => hx.below ((ovr_below w1 u))
  have HB : Hid (∀ u, Below w.heap.size w (ovr w1 u)) := fun u => hb1.trans ((ovr_below w1 u).mono hb1.size)
  obtain ⟨u0, hu0⟩ := ovr_self w1
  have H0 := Lib.hid hu0
  clear hx hb1 hu0
  go_wp2_with fail
  go_loopw [12] (fun i wr => ∃ k : Nat, k ≤ 4 ∧ i = .int .i64 k ∧ ∃ u, wr = ovr w1 u) (fun i _ => 4 - (intOf i).toNat)
  case atStart => exact ⟨0, by omega, rfl, u0, H0.out⟩
  case round =>
    obtain ⟨k, hk, rfl, u, rfl⟩ := hrel
    by_cases hlt : k < 4
    · have kb : decide (k < 4) = true := decide_eq_true hlt
      obtain ⟨X, hX⟩ : ∃ X, X = ovr w1 u := ⟨_, rfl⟩
      have hxx := HX.out u
      rw [← hX] at hxx
      rw [← hX]
      obtain ⟨bb, o, rfl, _, e0⟩ := hxx.int (show k < prL.length from hlt)
      have hp := prL_bd k hlt
      obtain ⟨p, hv⟩ : ∃ v, at0 prL k = v := ⟨_, rfl⟩
      rw [hv] at e0 hp
      have hXb : Hid (∀ u, ∃ q, ovr X u = ovr w1 q) := fun u2 => ⟨_, ovr_of (by rw [hX]; exact (ovr_below w1 u).trans ((ovr_below (ovr w1 u) u2).mono (ovr_below w1 u).size))⟩
      have q1 := @prod_bd a b p hp
      have q2 := @prod_bd n c p hp
      have q3 := Int.emod_nonneg r (show p ≠ 0 by omega)
      have q4 := Int.emod_lt_of_pos r (show 0 < p by omega)
      have c0 : (p == 0) = false := by rw [beq_eq_false_iff_ne]; omega
      have hl1 := hl.out p
      have cA := Lib.hid fun W => mod_any a p W ha hp
      have cB := Lib.hid fun W => mod_any b p W hb hp
      have cN := Lib.hid fun W => mod_any n p W hn hp
      have cC := Lib.hid fun W => mod_any c p W hc hp
      have cR := Lib.hid fun W => mod_any r p W hr hp
      generalize a % p = xa at *
      generalize b % p = xb at *
      generalize n % p = xn at *
      generalize c % p = xc at *
      generalize r % p = xr at *
      obtain ⟨m1, hm1⟩ : ∃ m, xa * xb = m := ⟨_, rfl⟩
      obtain ⟨m2, hm2⟩ : ∃ m, xn * xc = m := ⟨_, rfl⟩
      rw [hm1] at q1 hl1
      rw [hm2] at q2 hl1
      have t1 : (m1 % p != (m2 + xr) % p) = false := by rw [hl1]; simp
      clear hxx hX hv hl1 ha hb hn hc hr
      go_upto_region 6 with (fail)
      refine wp_region_below_lit (by kernel_rfl) (by kernel_rfl) ?_
      repeat (go_big_quiet_step (fail))
      go_big_quiet_step ((go_at_call 87; exact call_below (cA.out _)))
      repeat (go_big_quiet_step (fail))
      go_big_quiet_step ((go_at_call 87; exact call_below (cB.out _)))
      repeat (go_big_quiet_step (fail))
      go_big_quiet_step ((go_at_call 87; exact call_below (cN.out _)))
      repeat (go_big_quiet_step (fail))
      go_big_quiet_step ((go_at_call 87; exact call_below (cC.out _)))
      repeat (go_big_quiet_step (fail))
      go_big_quiet_step ((go_at_call 87; exact call_below (cR.out _)))
      repeat (go_big_quiet_step (fail))
      refine wpQuiet_nil ?_
      intro w2 hb2
      obtain ⟨u1, rfl⟩ : ∃ u, w2 = ovr X u := ⟨w2, ovr_of hb2⟩
      clear hb2
      obtain ⟨q, hq⟩ := hXb.out u1
      rw [hq]
      go_wp2_with fail
      go_roundw
      case rel => exact ⟨k + 1, by omega, by go_num, q, rfl⟩
      case measure => simp [intOf]; omega
    · obtain rfl : k = 4 := by omega
      go_wp2_with fail
      go_ret
      exact ⟨rfl, HB.out _⟩
end Go.Proofs.Ytmadlmmfbpmebaa
