/- The contract of quotient of the reference of chapter 1. -/
import Derived.Test.YtljjpidigckheaaU5
namespace Go.Proofs.Ytljjpidigckheaa.Un
open Go.RowKit
/-- The product of what is there of a, all but its last k bits, with b. -/
def hiP (a b k : Nat) : Nat := a / 2 ^ k * b
theorem hiP_step (a b k : Nat) : hiP a b k = 2 * hiP a b (k + 1) + a / 2 ^ k % 2 * b := by
  unfold hiP
  have h : a / 2 ^ (k + 1) = a / 2 ^ k / 2 := by rw [Nat.pow_succ, Nat.div_div_eq_div_mul]
  rw [h]
  have := Nat.div_add_mod (a / 2 ^ k) 2
  generalize a / 2 ^ k = x at *
  rw [← Nat.mul_assoc, ← Nat.add_mul]
  congr 1
  omega
theorem hiP_le (a b k : Nat) : hiP a b k ≤ a * b := Nat.mul_le_mul_right _ (Nat.div_le_self _ _)
theorem hiP_zero (a b : Nat) : hiP a b 0 = a * b := by simp [hiP]
theorem hiP_top {a b : Nat} (h : a < 2 ^ 50) : hiP a b 50 = 0 := by unfold hiP; rw [Nat.div_eq_of_lt h, Nat.zero_mul]
def quF (a b c : Nat) : Int × Int × Bool := if a * b / c ≤ 2000000000000000 then (((a * b / c : Nat) : Int), ((a * b % c : Nat) : Int), true) else (0, 0, false)
theorem qr_uniq {c q r H : Nat} (h : q * c + r = H) (hr : r < c) : q = H / c ∧ r = H % c := by
  have hc : 0 < c := by omega
  constructor
  · rw [← h, Nat.mul_comm, Nat.mul_add_div hc, Nat.div_eq_of_lt hr, Nat.add_zero]
  · rw [← h, Nat.mul_comm, Nat.mul_add_mod, Nat.mod_eq_of_lt hr]
set_option maxRecDepth 100000 in
set_option maxHeartbeats 4000000 in
theorem quotient_any (a b c : Nat) (w : World) (ha : a < 1125899906842624) (hb : b < 1125899906842624) (hc : 1 ≤ c ∧ c < 1125899906842624) :
    Calls Try.prog 126 #[.int .i64 (a : Int), .int .i64 (b : Int), .int .i64 (c : Int)] w fun e w' => e = .returned (.tuple #[I (quF a b c).1, I (quF a b c).2.1, .bool (quF a b c).2.2]) ∧ Below w.heap.size w w' := by
  have hfar : Hid (2000000000000000 < a * b / c → quF a b c = (0, 0, false)) := fun h => if_neg (by omega)
  have hnear : Hid (a * b / c ≤ 2000000000000000 → quF a b c = (((a * b / c : Nat) : Int), ((a * b % c : Nat) : Int), true)) := fun h => if_pos h
  obtain ⟨u0, hu0⟩ := ovr_self w
  have H0 := Lib.hid hu0
  have Htop : Hid (hiP a b 50 = 0) := hiP_top (by show a < 1125899906842624; exact ha)
  clear hu0
  have HUw : Hid (∀ u, Below w.heap.size w (ovr w u)) := fun u => ovr_below _ _
  go_enter Try.func126, Try.ntmps126
  go_wp2_with fail
  go_loopw [9, 10, 11] (fun q r i wr => ∃ k : Nat, k ≤ 50 ∧ i = .int .i64 ((k : Int) - 1) ∧ q = .int .i64 ((hiP a b k / c : Nat) : Int) ∧ r = .int .i64 ((hiP a b k % c : Nat) : Int) ∧ hiP a b k / c ≤ 2000000000000000 ∧ ∃ u, wr = ovr w u) (fun _ _ i _ => (intOf i + 1).toNat)
  case atStart => exact ⟨50, by omega, rfl, by rw [Htop.out]; simp, by rw [Htop.out]; simp, by rw [Htop.out]; simp, u0, H0.out⟩
  case round =>
    obtain ⟨k, hk, rfl, rfl, rfl, hq, u, rfl⟩ := hrel
    rcases Nat.eq_zero_or_pos k with rfl | hk0
    · have e : ((0 : Nat) : Int) - 1 = -1 := rfl
      rw [e]
      rw [hiP_zero] at hq ⊢
      have hn := hnear.out hq
      have Hn := Lib.hid hn
      clear hn hq e
      go_wp2_with fail
      go_ret3
      exact ⟨by rw [Hn.out]; rfl, ovr_below _ _⟩
    · obtain ⟨j, rfl⟩ : ∃ j, k = j + 1 := ⟨k - 1, by omega⟩
      have e : ((j + 1 : Nat) : Int) - 1 = (j : Int) := by omega
      rw [e]
      have hst := Lib.hid (hiP_step a b j)
      have hm := Nat.div_add_mod (hiP a b (j + 1)) c
      have hl := Nat.mod_lt (hiP a b (j + 1)) (show c > 0 by omega)
      obtain ⟨P, hP⟩ : ∃ P, hiP a b (j + 1) = P := ⟨_, rfl⟩
      rw [hP] at hq hm hl hst
      rw [hP]
      obtain ⟨q, hqe⟩ : ∃ q, P / c = q := ⟨_, rfl⟩
      obtain ⟨r, hre⟩ : ∃ r, P % c = r := ⟨_, rfl⟩
      rw [hqe] at hq hm
      rw [hre] at hl hm
      rw [hqe, hre]
      have Hm := Lib.hid hm
      have ba := and_one
      clear e hP hqe hre hm
      have tb : (b : Int).tdiv (c : Int) = ((b / c : Nat) : Int) := by rw [← Int.ofNat_tdiv]
      have tm : (b : Int).tmod (c : Int) = ((b % c : Nat) : Int) := by rw [← Int.ofNat_tmod]
      have hb1 := Nat.div_le_self b c
      have hb2 := Nat.mod_lt b (show c > 0 by omega)
      have hbm := Nat.div_add_mod b c
      obtain ⟨nb, hnb⟩ : ∃ n, b / c = n := ⟨_, rfl⟩
      obtain ⟨mb, hmb⟩ : ∃ n, b % c = n := ⟨_, rfl⟩
      rw [hnb] at tb hb1 hbm
      rw [hmb] at tm hb2 hbm
      have Hbm := Lib.hid hbm
      have c0 : ((c : Int) == 0) = false := by rw [beq_eq_false_iff_ne]; omega
      have c1 : IntKind.i64.wrap (2 * (q : Int) + (nb : Int)) = 2 * (q : Int) + (nb : Int) := IntWalk.i64_in _ (by omega)
      have c2 : IntKind.i64.wrap (2 * (r : Int) + (mb : Int)) = 2 * (r : Int) + (mb : Int) := IntWalk.i64_in _ (by omega)
      have c3 : IntKind.i64.wrap (nb : Int) = (nb : Int) := IntWalk.i64_in _ (by omega)
      have c4 : IntKind.i64.wrap (mb : Int) = (mb : Int) := IntWalk.i64_in _ (by omega)
      have cp : (0 : Int) < (c : Int) := by omega
      have cd : (b : Int) / (c : Int) = (nb : Int) := by rw [← Int.natCast_ediv, hnb]
      have cm : (b : Int) % (c : Int) = (mb : Int) := by rw [← Int.natCast_emod, hmb]
      clear hnb hmb hbm
      rcases Nat.mod_two_eq_zero_or_one (a / 2 ^ j) with hbit | hbit
      · have t1 : ((a : Int) / 2 ^ j % 2 == 1) = false := by
          rw [beq_eq_false_iff_ne, show (a : Int) / 2 ^ j % 2 = ((a / 2 ^ j % 2 : Nat) : Int) by rw [Int.natCast_emod, Int.natCast_ediv, Int.natCast_pow]; rfl, hbit]; decide
        have hs := hst.out
        rw [hbit] at hs
        have Hs : Hid (2 * q * c + 2 * r = hiP a b j) := by show _ = _; rw [hs, Nat.mul_assoc, Nat.mul_comm q c]; have := Hm.out; omega
        clear hs hbit tb tm c1 c2 c3 c4 cd cm
        go_wp2_with fail
        have HXx : Hid (hiP a b j / c ≤ 6000000000000000) := by
          show _ ≤ _
          have h := Hs.out
          have : hiP a b j / c < 2 * q + 3 := (Nat.div_lt_iff_lt_mul (by omega)).2 (by rw [← h, Nat.add_mul (2 * q) 3 c]; omega)
          omega
        go_loopw [9, 10] (fun x y wr => ∃ X Y : Nat, x = .int .i64 (X : Int) ∧ y = .int .i64 (Y : Int) ∧ X * c + Y = hiP a b j ∧ Y < 3 * c ∧ ∃ u, wr = ovr w u) (fun _ y _ => (intOf y).toNat)
        case atStart => exact ⟨2 * q, 2 * r, by go_num, by go_num, Hs.out, by omega, u, rfl⟩
        case round =>
          obtain ⟨X, Y, rfl, rfl, hxy, hy, u3, rfl⟩ := hrel
          have hX : X ≤ 6000000000000000 := Nat.le_trans ((Nat.le_div_iff_mul_le (by omega)).2 (by omega)) HXx.out
          by_cases hcy : c ≤ Y
          · have Hn : Hid ((X + 1) * c + (Y - c) = hiP a b j) := by show _ = _; rw [Nat.add_mul]; omega
            have kc : decide (c ≤ Y) = true := decide_eq_true hcy
            have kd : decide ((c : Int) ≤ (Y : Int)) = true := decide_eq_true (by omega)
            clear hxy
            go_wp2_with fail
            go_roundw
            case rel => exact ⟨X + 1, Y - c, by go_num, by congr 1; omega, Hn.out, by omega, u3, rfl⟩
            case measure => simp [intOf]; omega
          · have kc : decide (c ≤ Y) = false := decide_eq_false hcy
            have kd : decide ((c : Int) ≤ (Y : Int)) = false := decide_eq_false (by omega)
            have hqr := Lib.hid (qr_uniq hxy (by omega))
            clear hxy
            by_cases hbig : 2000000000000000 < X
            · have kb : decide (2000000000000000 < X) = true := decide_eq_true hbig
              have kb2 : decide ((2000000000000000 : Int) < (X : Int)) = true := decide_eq_true (by omega)
              have Hv : Hid (quF a b c = (0, 0, false)) := hfar.out (Nat.lt_of_lt_of_le (by rw [← hqr.out.1]; exact hbig) (Nat.div_le_div_right (hiP_le a b j)))
              go_wp2_with fail
              go_ret3
              exact ⟨by rw [Hv.out]; rfl, ovr_below _ _⟩
            · have kb : decide (2000000000000000 < X) = false := decide_eq_false hbig
              have kb2 : decide ((2000000000000000 : Int) < (X : Int)) = false := decide_eq_false (by omega)
              go_wp2_with fail
              go_roundw
              case rel => exact ⟨j, by omega, by first | rfl | go_num, by rw [hqr.out.1], by rw [hqr.out.2], by rw [← hqr.out.1]; omega, u3, rfl⟩
              case measure => simp [intOf]
      · have t1 : ((a : Int) / 2 ^ j % 2 == 1) = true := by
          rw [beq_iff_eq, show (a : Int) / 2 ^ j % 2 = ((a / 2 ^ j % 2 : Nat) : Int) by rw [Int.natCast_emod, Int.natCast_ediv, Int.natCast_pow]; rfl, hbit]; rfl
        have hs := hst.out
        rw [hbit] at hs
        have Hs : Hid ((2 * q + nb) * c + (2 * r + mb) = hiP a b j) := by
          show _ = _
          rw [hs, Nat.add_mul, Nat.mul_assoc, Nat.mul_comm q c, Nat.mul_comm nb c]; have := Hm.out; have := Hbm.out; omega
        clear hs hbit
        go_upto_region 7 with (fail)
        refine wp_region_below_lit (by kernel_rfl) (by kernel_rfl) ?_
        repeat (go_big_quiet_step (fail))
        refine wpQuiet_nil ?_
        intro w1 hb1
        obtain ⟨u1, rfl⟩ := ovr_next hb1
        clear hb1 tb tm c1 c2 c3 c4 cd cm
        go_wp2_with fail
        have HXx : Hid (hiP a b j / c ≤ 6000000000000000) := by
          show _ ≤ _
          have h := Hs.out
          have : hiP a b j / c < 2 * q + nb + 3 := (Nat.div_lt_iff_lt_mul (by omega)).2 (by rw [← h, Nat.add_mul (2 * q + nb) 3 c]; omega)
          omega
        go_loopw [9, 10] (fun x y wr => ∃ X Y : Nat, x = .int .i64 (X : Int) ∧ y = .int .i64 (Y : Int) ∧ X * c + Y = hiP a b j ∧ Y < 3 * c ∧ ∃ u, wr = ovr w u) (fun _ y _ => (intOf y).toNat)
        case atStart => exact ⟨2 * q + nb, 2 * r + mb, by go_num, by go_num, Hs.out, by omega, u1, rfl⟩
        case round =>
          obtain ⟨X, Y, rfl, rfl, hxy, hy, u3, rfl⟩ := hrel
          have hX : X ≤ 6000000000000000 := Nat.le_trans ((Nat.le_div_iff_mul_le (by omega)).2 (by omega)) HXx.out
          by_cases hcy : c ≤ Y
          · have Hn : Hid ((X + 1) * c + (Y - c) = hiP a b j) := by show _ = _; rw [Nat.add_mul]; omega
            have kc : decide (c ≤ Y) = true := decide_eq_true hcy
            have kd : decide ((c : Int) ≤ (Y : Int)) = true := decide_eq_true (by omega)
            clear hxy
            go_wp2_with fail
            go_roundw
            case rel => exact ⟨X + 1, Y - c, by go_num, by congr 1; omega, Hn.out, by omega, u3, rfl⟩
            case measure => simp [intOf]; omega
          · have kc : decide (c ≤ Y) = false := decide_eq_false hcy
            have kd : decide ((c : Int) ≤ (Y : Int)) = false := decide_eq_false (by omega)
            have hqr := Lib.hid (qr_uniq hxy (by omega))
            clear hxy
            by_cases hbig : 2000000000000000 < X
            · have kb : decide (2000000000000000 < X) = true := decide_eq_true hbig
              have kb2 : decide ((2000000000000000 : Int) < (X : Int)) = true := decide_eq_true (by omega)
              have Hv : Hid (quF a b c = (0, 0, false)) := hfar.out (Nat.lt_of_lt_of_le (by rw [← hqr.out.1]; exact hbig) (Nat.div_le_div_right (hiP_le a b j)))
              go_wp2_with fail
              go_ret3
              exact ⟨by rw [Hv.out]; rfl, ovr_below _ _⟩
            · have kb : decide (2000000000000000 < X) = false := decide_eq_false hbig
              have kb2 : decide ((2000000000000000 : Int) < (X : Int)) = false := decide_eq_false (by omega)
              go_wp2_with fail
              go_roundw
              case rel => exact ⟨j, by omega, by first | rfl | go_num, by rw [hqr.out.1], by rw [hqr.out.2], by rw [← hqr.out.1]; omega, u3, rfl⟩
              case measure => simp [intOf]
end Go.Proofs.Ytljjpidigckheaa.Un
/- Contracts of Number, Floor and MulDiv of the reference of chapter 1. -/
namespace Go.Proofs.Ytljjpidigckheaa.Un
open Go.RowKit
set_option maxRecDepth 100000 in
set_option maxHeartbeats 4000000 in
theorem refNumber_any (n : Int) (w : World) :
    Calls Try.prog 96 #[I n] w fun e w' => e = .returned (.bool (numB n)) ∧ w' = w := by
  unfold numB
  go_enter Try.func96, Try.ntmps96
  go_wp2_with fail
  all_goals
    go_ret
    exact ⟨by first | (simp_all; done) | (simp_all; intros; omega), rfl⟩
/-- What Floor of the reference returns for a product. -/
def flR (v c : Int) : Int × Int × Bool := if v.natAbs / c.toNat ≤ 2000000000000000 then (v / c, v % c, true) else (0, 0, false)
theorem same_sign {a b : Int} (h : decide (a < 0) = decide (b < 0)) : a * b = ((a.natAbs * b.natAbs : Nat) : Int) := by
  have h1 : 0 ≤ a * b := by
    rcases Int.lt_or_le a 0 with h2 | h2
    · rw [decide_eq_true h2] at h
      have h3 : b < 0 := of_decide_eq_true h.symm
      exact Int.le_of_lt (Int.mul_pos_of_neg_of_neg h2 h3)
    · rw [decide_eq_false (by omega)] at h
      have h3 : ¬ b < 0 := of_decide_eq_false h.symm
      exact Int.mul_nonneg h2 (by omega)
  rw [← Int.natAbs_mul]
  omega
theorem other_sign {a b : Int} (h : decide (a < 0) = !decide (b < 0)) : a * b = -((a.natAbs * b.natAbs : Nat) : Int) := by
  have h1 : a * b ≤ 0 := by
    rcases Int.lt_or_le a 0 with h2 | h2
    · rw [decide_eq_true h2] at h
      have h3 : ¬ b < 0 := by intro h3; rw [decide_eq_true h3] at h; cases h
      exact Int.mul_nonpos_of_nonpos_of_nonneg (by omega) (by omega)
    · rw [decide_eq_false (by omega)] at h
      have h3 : b < 0 := by apply Classical.byContradiction; intro h3; rw [decide_eq_false h3] at h; cases h
      exact Int.mul_nonpos_of_nonneg_of_nonpos h2 (by omega)
  rw [← Int.natAbs_mul]
  omega
set_option maxRecDepth 100000 in
set_option maxHeartbeats 4000000 in
theorem floor_any (a b c : Int) (w : World) (ha : a.natAbs < 1125899906842624) (hb : b.natAbs < 1125899906842624) (hc : 1 ≤ c ∧ c < 1125899906842624) :
    Calls Try.prog 116 #[I a, I b, I c] w fun e w' => e = .returned (.tuple #[I (flR (a * b) c).1, I (flR (a * b) c).2.1, .bool (flR (a * b) c).2.2]) ∧ Below w.heap.size w w' := by
  have e1 : max a (-a) = ((a.natAbs : Nat) : Int) := by omega
  have e2 : max b (-b) = ((b.natAbs : Nat) : Int) := by omega
  obtain ⟨C, rfl⟩ : ∃ C : Nat, c = (C : Int) := ⟨c.toNat, by omega⟩
  have hC : 0 < C := by omega
  have Q := fun w => quotient_any a.natAbs b.natAbs C w ha hb (by omega)
  have hab : (a * b).natAbs = a.natAbs * b.natAbs := Int.natAbs_mul a b
  by_cases hbig : a.natAbs * b.natAbs / C ≤ 2000000000000000
  · have hq : quF a.natAbs b.natAbs C = (((a.natAbs * b.natAbs / C : Nat) : Int), ((a.natAbs * b.natAbs % C : Nat) : Int), true) := if_pos hbig
    have hf : flR (a * b) C = (a * b / C, a * b % C, true) := if_pos (by rw [hab]; exact hbig)
    rw [hq] at Q
    have hR : a.natAbs * b.natAbs % C < C := Nat.mod_lt _ hC
    obtain ⟨M, hM⟩ : ∃ M, a.natAbs * b.natAbs = M := ⟨_, rfl⟩
    rw [hM] at Q hR hbig
    have Q := Lib.hid Q
    by_cases hs : decide (a < 0) = decide (b < 0)
    · have hv := same_sign hs
      rw [hM] at hv
      have hf : Hid (flR (a * b) C = (((M / C : Nat) : Int), ((M % C : Nat) : Int), true)) := by
        show _ = _; rw [hf, hv]; rfl
      have k1 : (!decide (a < 0) == decide (b < 0)) = false := by rw [hs]; simp
      obtain ⟨H, hH⟩ : ∃ H, M / C = H := ⟨_, rfl⟩
      obtain ⟨R, hRR⟩ : ∃ R, M % C = R := ⟨_, rfl⟩
      rw [hH] at Q hf hbig
      rw [hRR] at Q hf hR
      clear hq hab hs hv hM hH hRR
      go_enter Try.func116, Try.ntmps116
      go_wp2_with fail
      refine (Q.out _).mono ?_
      rintro e w1 ⟨rfl, hb1⟩
      go_wp2_with fail
      go_ret3
      exact ⟨by rw [hf.out]; rfl, hb1⟩
    · have hs2 : decide (a < 0) = !decide (b < 0) := by
        revert hs; cases decide (a < 0) <;> cases decide (b < 0) <;> simp
      have hv := other_sign hs2
      rw [hM] at hv
      have k1 : (!decide (a < 0) == decide (b < 0)) = true := by rw [hs2]; simp
      have hd := floor_neg (m := M) hC
      have hm := mod_neg (m := M) hC
      by_cases hz : M % C = 0
      · rw [if_pos hz] at hd hm
        have hf : Hid (flR (a * b) C = (-((M / C : Nat) : Int), 0, true)) := by
          show _ = _; rw [hf, hv, hd, hm]
        obtain ⟨H, hH⟩ : ∃ H, M / C = H := ⟨_, rfl⟩
        rw [hH] at Q hf hbig
        rw [hz] at Q
        clear hq hab hs hv hM hH hd hm hz hs2 hR
        go_enter Try.func116, Try.ntmps116
        go_wp2_with fail
        refine (Q.out _).mono ?_
        rintro e w1 ⟨rfl, hb1⟩
        go_wp2_with fail
        go_ret3
        exact ⟨by rw [hf.out]; rfl, hb1⟩
      · rw [if_neg hz] at hd hm
        have hf : Hid (flR (a * b) C = (-((M / C : Nat) : Int) - 1, (C : Int) - ((M % C : Nat) : Int), true)) := by
          show _ = _; rw [hf, hv, hd, hm]
        obtain ⟨H, hH⟩ : ∃ H, M / C = H := ⟨_, rfl⟩
        obtain ⟨R, hRR⟩ : ∃ R, M % C = R := ⟨_, rfl⟩
        rw [hH] at Q hf hbig
        rw [hRR] at Q hf hR hz
        have k2 : decide (0 < R) = true := decide_eq_true (by omega)
        have k3 : decide ((0 : Int) < (R : Int)) = true := decide_eq_true (by omega)
        clear hq hab hs hv hM hH hd hm hs2 hRR
        go_enter Try.func116, Try.ntmps116
        go_wp2_with fail
        refine (Q.out _).mono ?_
        rintro e w1 ⟨rfl, hb1⟩
        go_wp2_with fail
        go_ret3
        exact ⟨by rw [hf.out]; rfl, hb1⟩
  · have hq : quF a.natAbs b.natAbs C = (0, 0, false) := if_neg hbig
    have hf : Hid (flR (a * b) C = (0, 0, false)) := if_neg (by rw [hab]; exact hbig)
    rw [hq] at Q
    have Q := Lib.hid Q
    clear hq hab hbig
    go_enter Try.func116, Try.ntmps116
    go_wp2_with fail
    refine (Q.out _).mono ?_
    rintro e w1 ⟨rfl, hb1⟩
    go_wp2_with fail
    go_ret3
    exact ⟨by rw [hf.out]; rfl, hb1⟩
end Go.Proofs.Ytljjpidigckheaa.Un
/- The contract of MulDiv of the reference of chapter 1. -/
namespace Go.Proofs.Ytljjpidigckheaa.Un
open Go.RowKit
theorem div_bd2 {v c : Int} (hc : 1 ≤ c) (h : v.natAbs / c.toNat ≤ 2000000000000000) : -2000000000000001 ≤ v / c ∧ v / c ≤ 2000000000000000 := by
  obtain ⟨C, rfl⟩ : ∃ C : Nat, c = C := ⟨c.toNat, by omega⟩
  rw [Int.toNat_natCast] at h
  rcases Int.lt_or_le v 0 with hv | hv
  · have e : v = -((v.natAbs : Nat) : Int) := by omega
    have f := floor_neg (m := v.natAbs) (C := C) (by omega)
    rw [← e] at f
    rw [f]
    generalize v.natAbs / C = q at *
    split <;> omega
  · have e : v = ((v.natAbs : Nat) : Int) := by omega
    have f : v / (C : Int) = ((v.natAbs / C : Nat) : Int) := by rw [Int.natCast_ediv, ← e]
    rw [f]
    generalize v.natAbs / C = q at *
    omega
end Go.Proofs.Ytljjpidigckheaa.Un
/- Contracts of Range, Frac and fits of the reference of chapter 1. -/
namespace Go.Proofs.Ytljjpidigckheaa.Un
open Go.RowKit
set_option maxRecDepth 100000 in
set_option maxHeartbeats 2000000 in
theorem refRange_any (r : Rng) (w : World) :
    Calls Try.prog 55 #[r.val] w fun e w' => e = .returned (.bool (rngOk r)) ∧ Below w.heap.size w w' := by
  have hf : Hid (rngOk r = (numB r.lo && (numB r.hi && decide (r.lo ≤ r.hi)))) := rfl
  have na := Lib.hid fun W => refNumber_any r.lo W
  have nb := Lib.hid fun W => refNumber_any r.hi W
  obtain ⟨x, y⟩ := r
  obtain ⟨W, hW⟩ : ∃ W, W = (w.alloc (.cells #[I x, I y] 24)) := ⟨_, rfl⟩
  have rowW0 : W.heap[w.heap.size]? = some (.cells #[I x, I y] 24 (0, 0)) := by rw [hW]; exact heap_last _ _ _ rfl
  have yW00 := ovr_cell (W := W) (b := w.heap.size) (o := 0) (v := I x) (by rw [cell_of_row _ _ _ _ _ _ rowW0]; rfl)
  have yW01 := ovr_cell (W := W) (b := w.heap.size) (o := 1) (v := I y) (by rw [cell_of_row _ _ _ _ _ _ rowW0]; rfl)
  have RrowW0 := Lib.hid (ovr_row rowW0)
  clear rowW0
  have HUW : Hid (∀ u, Below w.heap.size w (ovr W u)) := U1 hW
  have HW := Lib.hid hW
  clear hW
  rcases h1 : numB x with _ | _ <;> rcases h2 : numB y with _ | _ <;> rcases h3 : decide (x ≤ y) with _ | _
  all_goals
    simp only [h1, h2, h3] at hf na nb
    go_enter Try.func55, Try.ntmps55
    go_upto_region 1 with (fail)
    rw [← HW.out]
    obtain ⟨u0, hu0⟩ := ovr_self W
    rw [hu0]
    clear hu0
    go_wp2_with fail
    refine (na.out _).mono ?_
    rintro e w' ⟨rfl, rfl⟩
    go_wp2_with fail
    try
      refine (nb.out _).mono ?_
      rintro e w' ⟨rfl, rfl⟩
      go_wp2_with fail
    go_ret
    exact ⟨by rw [hf.out]; rfl, HUW.out _⟩
set_option maxRecDepth 100000 in
set_option maxHeartbeats 2000000 in
theorem refFrac_any (f : Frc) (w : World) :
    Calls Try.prog 70 #[f.val] w fun e w' => e = .returned (.bool (fok f)) ∧ Below w.heap.size w w' := by
  have hf : Hid (fok f = (numB f.n && (decide (1 ≤ f.d) && decide (f.d ≤ 1000000000000000)))) := rfl
  have na := Lib.hid fun W => refNumber_any f.n W
  obtain ⟨x, y⟩ := f
  obtain ⟨W, hW⟩ : ∃ W, W = (w.alloc (.cells #[I x, I y] 49)) := ⟨_, rfl⟩
  have rowW0 : W.heap[w.heap.size]? = some (.cells #[I x, I y] 49 (0, 0)) := by rw [hW]; exact heap_last _ _ _ rfl
  have yW00 := ovr_cell (W := W) (b := w.heap.size) (o := 0) (v := I x) (by rw [cell_of_row _ _ _ _ _ _ rowW0]; rfl)
  have yW01 := ovr_cell (W := W) (b := w.heap.size) (o := 1) (v := I y) (by rw [cell_of_row _ _ _ _ _ _ rowW0]; rfl)
  have RrowW0 := Lib.hid (ovr_row rowW0)
  clear rowW0
  have HUW : Hid (∀ u, Below w.heap.size w (ovr W u)) := U1 hW
  have HW := Lib.hid hW
  clear hW
  rcases h1 : numB x with _ | _ <;> rcases h2 : decide (1 ≤ y) with _ | _ <;> rcases h3 : decide (y ≤ 1000000000000000) with _ | _
  all_goals
    simp only [h1, h2, h3] at hf na
    go_enter Try.func70, Try.ntmps70
    go_upto_region 1 with (fail)
    rw [← HW.out]
    obtain ⟨u0, hu0⟩ := ovr_self W
    rw [hu0]
    clear hu0
    go_wp2_with fail
    refine (na.out _).mono ?_
    rintro e w' ⟨rfl, rfl⟩
    go_wp2_with fail
    go_ret
    exact ⟨by rw [hf.out]; rfl, HUW.out _⟩
/-- What fits of the reference returns. -/
def fiR (lo hi : Int) (ok : Bool) : Rng × Int := if ok && (numB lo && numB hi) then (⟨lo, hi⟩, 0) else (⟨0, 0⟩, 10)
set_option maxRecDepth 100000 in
set_option maxHeartbeats 2000000 in
theorem refFits_any (lo hi : Int) (ok : Bool) (w : World) : Calls Try.prog 99 #[I lo, I hi, .bool ok] w (RetRn w (fiR lo hi ok)) := by
  have hf : Hid (fiR lo hi ok = if ok && (numB lo && numB hi) then (⟨lo, hi⟩, 0) else (⟨0, 0⟩, 10)) := rfl
  have na := Lib.hid fun W => refNumber_any lo W
  have nb := Lib.hid fun W => refNumber_any hi W
  obtain ⟨W, hW⟩ : ∃ W, W = (w.alloc (.cells #[I 0, I 0] 24)) := ⟨_, rfl⟩
  have rowW0 : W.heap[w.heap.size]? = some (.cells #[I 0, I 0] 24 (0, 0)) := by rw [hW]; exact heap_last _ _ _ rfl
  have yW00 := ovr_cell (W := W) (b := w.heap.size) (o := 0) (v := I 0) (by rw [cell_of_row _ _ _ _ _ _ rowW0]; rfl)
  have yW01 := ovr_cell (W := W) (b := w.heap.size) (o := 1) (v := I 0) (by rw [cell_of_row _ _ _ _ _ _ rowW0]; rfl)
  have RrowW0 := Lib.hid (ovr_row rowW0)
  clear rowW0
  have HUW : Hid (∀ u, Below w.heap.size w (ovr W u)) := U1 hW
  have HW := Lib.hid hW
  clear hW
  rcases ok with _ | _ <;> rcases h1 : numB lo with _ | _ <;> rcases h2 : numB hi with _ | _
  all_goals
    simp only [h1, h2] at hf na nb
    go_enter Try.func99, Try.ntmps99
    go_upto_region 1 with (fail)
    rw [← HW.out]
    obtain ⟨u0, hu0⟩ := ovr_self W
    rw [hu0]
    clear hu0
    go_wp2_with (refine wpList_store_row rfl 24 _ _ rfl (w.heap.size) rfl _ _ (RrowW0.out _) _ rfl (one2 rfl rfl) rfl (by kernel_rfl) ?_)
    try
      refine (na.out _).mono ?_
      rintro e w' ⟨rfl, rfl⟩
      go_wp2_with (refine wpList_store_row rfl 24 _ _ rfl (w.heap.size) rfl _ _ (RrowW0.out _) _ rfl (one2 rfl rfl) rfl (by kernel_rfl) ?_)
    try
      refine (nb.out _).mono ?_
      rintro e w' ⟨rfl, rfl⟩
      go_wp2_with (refine wpList_store_row rfl 24 _ _ rfl (w.heap.size) rfl _ _ (RrowW0.out _) _ rfl (one2 rfl rfl) rfl (by kernel_rfl) ?_)
    refine bodyPost_ret (results_cell_tmp rfl _ _ (w.heap.size) 24 _ (0, 0) _ rfl (setRow_same (RrowW0.out _)) Try.underlying24 rfl (by kernel_rfl)) rfl ?_
    exact ⟨by rw [hf.out]; rfl, below_setRow (HUW.out _) (by omega) _⟩
end Go.Proofs.Ytljjpidigckheaa.Un
