/- The contract of quotient of the reference of chapter 1. -/
import Derived.Test.YtmadlmmfbpmebaaKb
namespace Go.Proofs.Ytmadlmmfbpmebaa
open Go.RowKit
/-- The product of what is there of a, all but its last k bits, with b. -/
def hiP (a b k : Nat) : Nat := a / 2 ^ k * b
theorem hiP_step (a b k : Nat) : hiP a b k = 2 * hiP a b (k + 1) + a / 2 ^ k % 2 * b := by
  unfold hiP
  have h : a / 2 ^ (k + 1) = a / 2 ^ k / 2 := by rw [Nat.pow_succ, Nat.div_div_eq_div_mul]
  rw [h]
  have := Nat.div_add_mod (a / 2 ^ k) 2
  generalize a / 2 ^ k = x at *
  rw [← Nat.mul_assoc, ← Nat.add_mul]
  congr 1
  omega
theorem hiP_le (a b k : Nat) : hiP a b k ≤ a * b := Nat.mul_le_mul_right _ (Nat.div_le_self _ _)
theorem hiP_zero (a b : Nat) : hiP a b 0 = a * b := by simp [hiP]
theorem hiP_top {a b : Nat} (h : a < 2 ^ 50) : hiP a b 50 = 0 := by unfold hiP; rw [Nat.div_eq_of_lt h, Nat.zero_mul]
def quF (a b c : Nat) : Int × Int × Bool := if a * b / c ≤ 2000000000000000 then (((a * b / c : Nat) : Int), ((a * b % c : Nat) : Int), true) else (0, 0, false)
theorem qr_uniq {c q r H : Nat} (h : q * c + r = H) (hr : r < c) : q = H / c ∧ r = H % c := by
  have hc : 0 < c := by omega
  constructor
  · rw [← h, Nat.mul_comm, Nat.mul_add_div hc, Nat.div_eq_of_lt hr, Nat.add_zero]
  · rw [← h, Nat.mul_comm, Nat.mul_add_mod, Nat.mod_eq_of_lt hr]
set_option maxRecDepth 100000 in
set_option maxHeartbeats 4000000 in
theorem quotient_any (a b c : Nat) (w : World) (ha : a < 1125899906842624) (hb : b < 1125899906842624) (hc : 1 ≤ c ∧ c < 1125899906842624) :
    Calls Try.prog 108 #[.int .i64 (a : Int), .int .i64 (b : Int), .int .i64 (c : Int)] w fun e w' => e = .returned (.tuple #[I (quF a b c).1, I (quF a b c).2.1, .bool (quF a b c).2.2]) ∧ Below w.heap.size w w' := by
  have hfar : Hid (2000000000000000 < a * b / c → quF a b c = (0, 0, false)) := fun h => if_neg (by omega)
  have hnear : Hid (a * b / c ≤ 2000000000000000 → quF a b c = (((a * b / c : Nat) : Int), ((a * b % c : Nat) : Int), true)) := fun h => if_pos h
  obtain ⟨u0, hu0⟩ := ovr_self w
  have H0 := Lib.hid hu0
  have Htop : Hid (hiP a b 50 = 0) := hiP_top (by show a < 1125899906842624; exact ha)
  clear hu0
  have HUw : Hid (∀ u, Below w.heap.size w (ovr w u)) := fun u => ovr_below _ _
  go_enter Try.func108, Try.ntmps108
  go_wp2_with fail
  go_loopw [9, 10, 11] (fun q r i wr => ∃ k : Nat, k ≤ 50 ∧ i = .int .i64 ((k : Int) - 1) ∧ q = .int .i64 ((hiP a b k / c : Nat) : Int) ∧ r = .int .i64 ((hiP a b k % c : Nat) : Int) ∧ hiP a b k / c ≤ 2000000000000000 ∧ ∃ u, wr = ovr w u) (fun _ _ i _ => (intOf i + 1).toNat)
  case atStart => exact ⟨50, by omega, rfl, by rw [Htop.out]; simp, by rw [Htop.out]; simp, by rw [Htop.out]; simp, u0, H0.out⟩
  case round =>
    obtain ⟨k, hk, rfl, rfl, rfl, hq, u, rfl⟩ := hrel
    rcases Nat.eq_zero_or_pos k with rfl | hk0
    · have e : ((0 : Nat) : Int) - 1 = -1 := rfl
      rw [e]
      rw [hiP_zero] at hq ⊢
      have hn := hnear.out hq
      have Hn := Lib.hid hn
      clear hn hq e
      go_wp2_with fail
      go_ret3
      exact ⟨by rw [Hn.out]; rfl, ovr_below _ _⟩
    · obtain ⟨j, rfl⟩ : ∃ j, k = j + 1 := ⟨k - 1, by omega⟩
      have e : ((j + 1 : Nat) : Int) - 1 = (j : Int) := by omega
      rw [e]
      have hst := Lib.hid (hiP_step a b j)
      have hm := Nat.div_add_mod (hiP a b (j + 1)) c
      have hl := Nat.mod_lt (hiP a b (j + 1)) (show c > 0 by omega)
      obtain ⟨P, hP⟩ : ∃ P, hiP a b (j + 1) = P := ⟨_, rfl⟩
      rw [hP] at hq hm hl hst
      rw [hP]
      obtain ⟨q, hqe⟩ : ∃ q, P / c = q := ⟨_, rfl⟩
      obtain ⟨r, hre⟩ : ∃ r, P % c = r := ⟨_, rfl⟩
      rw [hqe] at hq hm
      rw [hre] at hl hm
      rw [hqe, hre]
      have Hm := Lib.hid hm
      have ba := and_one
      clear e hP hqe hre hm
      have tb : (b : Int).tdiv (c : Int) = ((b / c : Nat) : Int) := by rw [← Int.ofNat_tdiv]
      have tm : (b : Int).tmod (c : Int) = ((b % c : Nat) : Int) := by rw [← Int.ofNat_tmod]
      have hb1 := Nat.div_le_self b c
      have hb2 := Nat.mod_lt b (show c > 0 by omega)
      have hbm := Nat.div_add_mod b c
      obtain ⟨nb, hnb⟩ : ∃ n, b / c = n := ⟨_, rfl⟩
      obtain ⟨mb, hmb⟩ : ∃ n, b % c = n := ⟨_, rfl⟩
      rw [hnb] at tb hb1 hbm
      rw [hmb] at tm hb2 hbm
      have Hbm := Lib.hid hbm
      have c0 : ((c : Int) == 0) = false := by rw [beq_eq_false_iff_ne]; omega
      have c1 : IntKind.i64.wrap (2 * (q : Int) + (nb : Int)) = 2 * (q : Int) + (nb : Int) := IntWalk.i64_in _ (by omega)
      have c2 : IntKind.i64.wrap (2 * (r : Int) + (mb : Int)) = 2 * (r : Int) + (mb : Int) := IntWalk.i64_in _ (by omega)
      have c3 : IntKind.i64.wrap (nb : Int) = (nb : Int) := IntWalk.i64_in _ (by omega)
      have c4 : IntKind.i64.wrap (mb : Int) = (mb : Int) := IntWalk.i64_in _ (by omega)
      have cp : (0 : Int) < (c : Int) := by omega
      have cd : (b : Int) / (c : Int) = (nb : Int) := by rw [← Int.natCast_ediv, hnb]
      have cm : (b : Int) % (c : Int) = (mb : Int) := by rw [← Int.natCast_emod, hmb]
      clear hnb hmb hbm
      rcases Nat.mod_two_eq_zero_or_one (a / 2 ^ j) with hbit | hbit
      · have t1 : ((a : Int) / 2 ^ j % 2 == 1) = false := by
          rw [beq_eq_false_iff_ne, show (a : Int) / 2 ^ j % 2 = ((a / 2 ^ j % 2 : Nat) : Int) by rw [Int.natCast_emod, Int.natCast_ediv, Int.natCast_pow]; rfl, hbit]; decide
        have hs := hst.out
        rw [hbit] at hs
        have Hs : Hid (2 * q * c + 2 * r = hiP a b j) := by show _ = _; rw [hs, Nat.mul_assoc, Nat.mul_comm q c]; have := Hm.out; omega
        clear hs hbit tb tm c1 c2 c3 c4 cd cm
        go_wp2_with fail
        have HXx : Hid (hiP a b j / c ≤ 6000000000000000) := by
          show _ ≤ _
          have h := Hs.out
          have : hiP a b j / c < 2 * q + 3 := (Nat.div_lt_iff_lt_mul (by omega)).2 (by rw [← h, Nat.add_mul (2 * q) 3 c]; omega)
          omega
        go_loopw [9, 10] (fun x y wr => ∃ X Y : Nat, x = .int .i64 (X : Int) ∧ y = .int .i64 (Y : Int) ∧ X * c + Y = hiP a b j ∧ Y < 3 * c ∧ ∃ u, wr = ovr w u) (fun _ y _ => (intOf y).toNat)
        case atStart => exact ⟨2 * q, 2 * r, by go_num, by go_num, Hs.out, by omega, u, rfl⟩
        case round =>
          obtain ⟨X, Y, rfl, rfl, hxy, hy, u3, rfl⟩ := hrel
          have hX : X ≤ 6000000000000000 := Nat.le_trans ((Nat.le_div_iff_mul_le (by omega)).2 (by omega)) HXx.out
          by_cases hcy : c ≤ Y
          · have Hn : Hid ((X + 1) * c + (Y - c) = hiP a b j) := by show _ = _; rw [Nat.add_mul]; omega
            have kc : decide (c ≤ Y) = true := decide_eq_true hcy
            have kd : decide ((c : Int) ≤ (Y : Int)) = true := decide_eq_true (by omega)
            clear hxy
            go_wp2_with fail
            go_roundw
            case rel => exact ⟨X + 1, Y - c, by go_num, by congr 1; omega, Hn.out, by omega, u3, rfl⟩
            case measure => simp [intOf]; omega
          · have kc : decide (c ≤ Y) = false := decide_eq_false hcy
            have kd : decide ((c : Int) ≤ (Y : Int)) = false := decide_eq_false (by omega)
            have hqr := Lib.hid (qr_uniq hxy (by omega))
            clear hxy
            by_cases hbig : 2000000000000000 < X
            · have kb : decide (2000000000000000 < X) = true := decide_eq_true hbig
              have kb2 : decide ((2000000000000000 : Int) < (X : Int)) = true := decide_eq_true (by omega)
              have Hv : Hid (quF a b c = (0, 0, false)) := hfar.out (Nat.lt_of_lt_of_le (by rw [← hqr.out.1]; exact hbig) (Nat.div_le_div_right (hiP_le a b j)))
              go_wp2_with fail
              go_ret3
              exact ⟨by rw [Hv.out]; rfl, ovr_below _ _⟩
            · have kb : decide (2000000000000000 < X) = false := decide_eq_false hbig
              have kb2 : decide ((2000000000000000 : Int) < (X : Int)) = false := decide_eq_false (by omega)
              go_wp2_with fail
              go_roundw
              case rel => exact ⟨j, by omega, by first | rfl | go_num, by rw [hqr.out.1], by rw [hqr.out.2], by rw [← hqr.out.1]; omega, u3, rfl⟩
              case measure => simp [intOf]
      · have t1 : ((a : Int) / 2 ^ j % 2 == 1) = true := by
          rw [beq_iff_eq, show (a : Int) / 2 ^ j % 2 = ((a / 2 ^ j % 2 : Nat) : Int) by rw [Int.natCast_emod, Int.natCast_ediv, Int.natCast_pow]; rfl, hbit]; rfl
        have hs := hst.out
        rw [hbit] at hs
        have Hs : Hid ((2 * q + nb) * c + (2 * r + mb) = hiP a b j) := by
          show _ = _
          rw [hs, Nat.add_mul, Nat.mul_assoc, Nat.mul_comm q c, Nat.mul_comm nb c]; have := Hm.out; have := Hbm.out; omega
        clear hs hbit
        go_upto_region 7 with (fail)
        refine wp_region_below_lit (by kernel_rfl) (by kernel_rfl) ?_
        repeat (go_big_quiet_step (fail))
        refine wpQuiet_nil ?_
        intro w1 hb1
        obtain ⟨u1, rfl⟩ := ovr_next hb1
        clear hb1 tb tm c1 c2 c3 c4 cd cm
        go_wp2_with fail
        have HXx : Hid (hiP a b j / c ≤ 6000000000000000) := by
          show _ ≤ _
          have h := Hs.out
          have : hiP a b j / c < 2 * q + nb + 3 := (Nat.div_lt_iff_lt_mul (by omega)).2 (by rw [← h, Nat.add_mul (2 * q + nb) 3 c]; omega)
          omega
        go_loopw [9, 10] (fun x y wr => ∃ X Y : Nat, x = .int .i64 (X : Int) ∧ y = .int .i64 (Y : Int) ∧ X * c + Y = hiP a b j ∧ Y < 3 * c ∧ ∃ u, wr = ovr w u) (fun _ y _ => (intOf y).toNat)
        case atStart => exact ⟨2 * q + nb, 2 * r + mb, by go_num, by go_num, Hs.out, by omega, u1, rfl⟩
        case round =>
          obtain ⟨X, Y, rfl, rfl, hxy, hy, u3, rfl⟩ := hrel
          have hX : X ≤ 6000000000000000 := Nat.le_trans ((Nat.le_div_iff_mul_le (by omega)).2 (by omega)) HXx.out
          by_cases hcy : c ≤ Y
          · have Hn : Hid ((X + 1) * c + (Y - c) = hiP a b j) := by show _ = _; rw [Nat.add_mul]; omega
            have kc : decide (c ≤ Y) = true := decide_eq_true hcy
            have kd : decide ((c : Int) ≤ (Y : Int)) = true := decide_eq_true (by omega)
            clear hxy
            go_wp2_with fail
            go_roundw
            case rel => exact ⟨X + 1, Y - c, by go_num, by congr 1; omega, Hn.out, by omega, u3, rfl⟩
            case measure => simp [intOf]; omega
          · have kc : decide (c ≤ Y) = false := decide_eq_false hcy
            have kd : decide ((c : Int) ≤ (Y : Int)) = false := decide_eq_false (by omega)
            have hqr := Lib.hid (qr_uniq hxy (by omega))
            clear hxy
            by_cases hbig : 2000000000000000 < X
            · have kb : decide (2000000000000000 < X) = true := decide_eq_true hbig
              have kb2 : decide ((2000000000000000 : Int) < (X : Int)) = true := decide_eq_true (by omega)
              have Hv : Hid (quF a b c = (0, 0, false)) := hfar.out (Nat.lt_of_lt_of_le (by rw [← hqr.out.1]; exact hbig) (Nat.div_le_div_right (hiP_le a b j)))
              go_wp2_with fail
              go_ret3
              exact ⟨by rw [Hv.out]; rfl, ovr_below _ _⟩
            · have kb : decide (2000000000000000 < X) = false := decide_eq_false hbig
              have kb2 : decide ((2000000000000000 : Int) < (X : Int)) = false := decide_eq_false (by omega)
              go_wp2_with fail
              go_roundw
              case rel => exact ⟨j, by omega, by first | rfl | go_num, by rw [hqr.out.1], by rw [hqr.out.2], by rw [← hqr.out.1]; omega, u3, rfl⟩
              case measure => simp [intOf]
end Go.Proofs.Ytmadlmmfbpmebaa
