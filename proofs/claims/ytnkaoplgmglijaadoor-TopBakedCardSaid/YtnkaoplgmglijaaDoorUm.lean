/- Plain arithmetic under bits.Div64: one digit of a long division. -/
import Derived.Test.YtnkaoplgmglijaaDoorMka
import Derived.Lib.Strings
import Derived.Lib.Slices
import Derived.Lib.Small
import Derived.Lib.Walk
import Derived.Lib.BitFns
import Derived.Lib.Mul64
import Derived.Laws.Bits64b
import Derived.Laws.Externs
import Derived.Deep.DeepCutAuto
import Derived.Deep.LoopGhost
import Derived.Deep.CutBlock
namespace Go.Proofs.YtnkaoplgmglijaaDoor
theorem est_high {u Y yn1 yn0 d1 q r : Nat} (hY : Y = yn1 * 4294967296 + yn0) (hu : u = q * yn1 + r) (ht : 4294967296 * r + d1 < q * yn0) : (u * 4294967296 + d1) / Y < q := by
 subst hY hu
 rcases Nat.eq_zero_or_pos (yn1 * 4294967296 + yn0) with h0 | h0
 · have : yn0 = 0 := by omega
   subst this
   omega
 rw [Nat.div_lt_iff_lt_mul h0]
 have e1 : q * (yn1 * 4294967296 + yn0) = q * yn1 * 4294967296 + q * yn0 := by rw [Nat.mul_add, Nat.mul_assoc]
 have e2 : (q * yn1 + r) * 4294967296 = q * yn1 * 4294967296 + r * 4294967296 := Nat.add_mul _ _ _
 omega
theorem est_low {u Y yn1 yn0 d1 q r : Nat} (h0 : 0 < Y) (hY : Y = yn1 * 4294967296 + yn0) (hu : u = q * yn1 + r) (ht : q * yn0 ≤ 4294967296 * r + d1) : q ≤ (u * 4294967296 + d1) / Y := by
 subst hY hu
 rw [Nat.le_div_iff_mul_le h0]
 have e1 : q * (yn1 * 4294967296 + yn0) = q * yn1 * 4294967296 + q * yn0 := by rw [Nat.mul_add, Nat.mul_assoc]
 have e2 : (q * yn1 + r) * 4294967296 = q * yn1 * 4294967296 + r * 4294967296 := Nat.add_mul _ _ _
 omega
structure Est (u Y yn1 yn0 d1 q r : Nat) : Prop where
 hu : u = q * yn1 + r
 ge : (u * 4294967296 + d1) / Y ≤ q
 le : q ≤ 4294967297
 first : r < 4294967296
theorem est_start {u Y yn1 yn0 d1 : Nat} (hY : Y = yn1 * 4294967296 + yn0) (h0 : yn0 < 4294967296) (h1 : 2147483648 ≤ yn1) (h2 : yn1 < 4294967296) (hu : u < Y) (hd : d1 < 4294967296) : Est u Y yn1 yn0 d1 (u / yn1) (u % yn1) := by
 have hm := Nat.div_add_mod u yn1
 have hl := Nat.mod_lt u (show 0 < yn1 by omega)
 have hu1 : u = u / yn1 * yn1 + u % yn1 := by rw [Nat.mul_comm]; exact hm.symm
 have hYp : 0 < Y := by omega
 refine ⟨hu1, ?_, ?_, by omega⟩
 · rw [← Nat.lt_succ_iff, Nat.div_lt_iff_lt_mul hYp]
   have e : (u / yn1 + 1) * Y = (u / yn1 * yn1 + yn1) * 4294967296 + (u / yn1 + 1) * yn0 := by
    rw [hY, Nat.mul_add, Nat.add_mul, Nat.add_mul, Nat.one_mul, Nat.add_mul, Nat.mul_assoc]
   show u * 4294967296 + d1 < (u / yn1 + 1) * Y
   have := Nat.zero_le ((u / yn1 + 1) * yn0)
   omega
 · have : u / yn1 < 4294967298 := by
    rw [Nat.div_lt_iff_lt_mul (by omega)]
    omega
   omega
theorem digit_lt {u Y d1 : Nat} (hu : u < Y) (hd : d1 < 4294967296) : (u * 4294967296 + d1) / Y < 4294967296 := by
 rw [Nat.div_lt_iff_lt_mul (by omega)]
 have : (u + 1) * 4294967296 ≤ Y * 4294967296 := Nat.mul_le_mul_right _ hu
 rw [Nat.mul_comm 4294967296 Y]
 omega
theorem est_next {u Y yn1 yn0 d1 q r : Nat} (h : Est u Y yn1 yn0 d1 q r) (hq : (u * 4294967296 + d1) / Y < q) (hr : r + yn1 < 4294967296) : Est u Y yn1 yn0 d1 (q - 1) (r + yn1) := by
 obtain ⟨h1, h2, h3, h4⟩ := h
 obtain ⟨k, rfl⟩ : ∃ k, q = k + 1 := ⟨q - 1, by have := Nat.lt_of_le_of_lt (Nat.zero_le _) hq; omega⟩
 refine ⟨?_, by omega, by omega, hr⟩
 rw [Nat.add_sub_cancel, h1, Nat.add_mul]
 omega
theorem est_break {u Y yn1 yn0 d1 q r : Nat} (hY : Y = yn1 * 4294967296 + yn0) (h0 : yn0 < 4294967296) (hp : 0 < Y) (h : Est u Y yn1 yn0 d1 q r) (hq : (u * 4294967296 + d1) / Y < q) (hr : 4294967296 ≤ r + yn1) : q - 1 = (u * 4294967296 + d1) / Y := by
 obtain ⟨h1, h2, h3, h4⟩ := h
 obtain ⟨k, rfl⟩ : ∃ k, q = k + 1 := ⟨q - 1, by have := Nat.lt_of_le_of_lt (Nat.zero_le _) hq; omega⟩
 have hk : k * yn0 ≤ 4294967296 * (r + yn1) + d1 := by
  have a1 : k * yn0 ≤ 4294967296 * yn0 := Nat.mul_le_mul_right _ (by omega)
  have a2 : 4294967296 * yn0 ≤ 4294967296 * (r + yn1) := Nat.mul_le_mul_left _ (by omega)
  omega
 have := est_low (u := u) (d1 := d1) hp hY (q := k) (r := r + yn1) (by rw [h1, Nat.add_mul]; omega) hk
 omega
theorem est_done {u Y yn1 yn0 d1 q r : Nat} (hY : Y = yn1 * 4294967296 + yn0) (hp : 0 < Y) (h : Est u Y yn1 yn0 d1 q r) (ht : q * yn0 ≤ 4294967296 * r + d1) : q = (u * 4294967296 + d1) / Y := by
 have := est_low (d1 := d1) hp hY h.hu ht
 have := h.ge
 omega
theorem two_digits {u Y d1 d0 K : Nat} (hp : 0 < Y) : (u * (K * K) + d1 * K + d0) / Y = (u * K + d1) / Y * K + ((u * K + d1) % Y * K + d0) / Y ∧
 (u * (K * K) + d1 * K + d0) % Y = ((u * K + d1) % Y * K + d0) % Y := by
 have hm := Nat.div_add_mod (u * K + d1) Y
 generalize (u * K + d1) / Y = a at *
 generalize (u * K + d1) % Y = b at *
 have h2 : (Y * a + b) * K = (u * K + d1) * K := by rw [hm]
 rw [Nat.add_mul, Nat.add_mul, Nat.mul_assoc, Nat.mul_assoc] at h2
 have e : u * (K * K) + d1 * K + d0 = (b * K + d0) + Y * (a * K) := by omega
 rw [e]
 exact ⟨by rw [Nat.add_mul_div_left _ _ hp]; omega, Nat.add_mul_mod_self_left _ _ _⟩
theorem scaled (a y s : Nat) (hs : 0 < s) : a * s / (y * s) = a / y ∧ a * s % (y * s) = a % y * s := ⟨Nat.mul_div_mul_right _ _ hs, Nat.mul_mod_mul_right _ _ _⟩
end Go.Proofs.YtnkaoplgmglijaaDoor
/- The contracts of the functions of math/bits that the package units calls: Mul64, Sub64, Len64, LeadingZeros64. -/
namespace Go.Proofs.YtnkaoplgmglijaaDoor
open Go.RowKit
theorem tab_at (b : Int) (h0 : 0 ≤ b) (h1 : b < 256) {h : b.toNat < Lib.len8tab.size} : ((Lib.len8tab[b.toNat]'h).toNat : Int) = (Lib.bitLen b.toNat : Int) := by
 have := Lib.len8_of b h0 (by omega)
 rw [← this]
 unfold Lib.len8
 rw [getElem?_pos Lib.len8tab b.toNat h]
 rfl
theorem qd2 (x a b c : Nat) (h : a * b = c) : (x : Int) / (a : Int) / (b : Int) = ((x / c : Nat) : Int) := by
 rw [← h, ← Nat.div_div_eq_div_mul, Int.natCast_ediv, Int.natCast_ediv]
theorem qd3 (x a b c d : Nat) (h : a * b * c = d) : (x : Int) / (a : Int) / (b : Int) / (c : Int) = ((x / d : Nat) : Int) := by
 rw [← h, ← Nat.div_div_eq_div_mul, ← Nat.div_div_eq_div_mul, Int.natCast_ediv, Int.natCast_ediv, Int.natCast_ediv]
theorem len_end (n m x : Nat) (b : Int) (hb : b = ((x / m : Nat) : Int)) (hm : x / m < 256) (hs : Lib.bitLen x = n + Lib.bitLen (x / m)) (hn : n ≤ 56) {h : b.toNat < Lib.len8tab.size} : wrap64 ((n : Int) + wrap64 ((Lib.len8tab[b.toNat]'h).toNat : Int)) = ((Lib.bitLen x : Nat) : Int) := by
 subst hb
 rw [tab_at ((x / m : Nat) : Int) (Int.natCast_nonneg _) (Int.ofNat_lt.2 hm), Int.toNat_natCast, hs]
 have l := Lib.bitLen_le8 ⟨x / m, hm⟩
 simp only at l
 generalize Lib.bitLen (x / m) = k at *
 unfold wrap64
 omega
set_option maxRecDepth 100000 in
set_option maxHeartbeats 1000000 in
theorem len64_0 (x : Nat) (w : World) (hx : x < 18446744073709551616) (c0 : 4294967296 ≤ x) (c1 : 281474976710656 ≤ x) (c2 : 72057594037927936 ≤ x) :
 Calls Tryd.prog 94 #[.int .u64 x] w fun e w' => e = .returned (.int .i64 (Lib.bitLen x)) ∧ w' = w := by
 have e0 : (x : Int) = ((x : Nat) : Int) := rfl
 have t0 : decide ((4294967296 : Int) ≤ (x : Int)) = true := decide_eq_true (by rw [e0]; omega)
 have e1 : (x : Int) / 4294967296 = ((x / 4294967296 : Nat) : Int) := (by rw [Int.natCast_ediv]; rfl)
 have t1 : decide ((65536 : Int) ≤ (x : Int) / 4294967296) = true := decide_eq_true (by rw [e1]; omega)
 have e2 : (x : Int) / 4294967296 / 65536 = ((x / 281474976710656 : Nat) : Int) := (qd2 x 4294967296 65536 281474976710656 rfl)
 have t2 : decide ((256 : Int) ≤ (x : Int) / 4294967296 / 65536) = true := decide_eq_true (by rw [e2]; omega)
 have eb : (x : Int) / 4294967296 / 65536 / 256 = ((x / 72057594037927936 : Nat) : Int) := qd3 x 4294967296 65536 256 72057594037927936 rfl
 have hb : x / 72057594037927936 < 256 := by omega
 have h2 : (x : Int) / 4294967296 / 65536 / 256 < 256 := by rw [eb]; omega
 have h3 : 0 ≤ (x : Int) / 4294967296 / 65536 / 256 := by rw [eb]; omega
 have Hs : Hid (Lib.bitLen x = 56 + Lib.bitLen (x / 72057594037927936)) := Lib.bitLen_shift56 x (by omega) hx
 have Eb := Lib.hid eb
 have Hb := Lib.hid hb
 clear eb e0 e1 e2 c0 c1 c2 hb
 go_enter Tryd.func94, Tryd.ntmps94
 go_wp2_with fail
 go_ret
 exact ⟨ret_int (len_end 56 72057594037927936 x _ Eb.out Hb.out Hs.out (by omega)), rfl⟩
set_option maxRecDepth 100000 in
set_option maxHeartbeats 1000000 in
theorem len64_1 (x : Nat) (w : World) (hx : x < 18446744073709551616) (c0 : 4294967296 ≤ x) (c1 : 281474976710656 ≤ x) (c2 : x < 72057594037927936) :
 Calls Tryd.prog 94 #[.int .u64 x] w fun e w' => e = .returned (.int .i64 (Lib.bitLen x)) ∧ w' = w := by
 have e0 : (x : Int) = ((x : Nat) : Int) := rfl
 have t0 : decide ((4294967296 : Int) ≤ (x : Int)) = true := decide_eq_true (by rw [e0]; omega)
 have e1 : (x : Int) / 4294967296 = ((x / 4294967296 : Nat) : Int) := (by rw [Int.natCast_ediv]; rfl)
 have t1 : decide ((65536 : Int) ≤ (x : Int) / 4294967296) = true := decide_eq_true (by rw [e1]; omega)
 have e2 : (x : Int) / 4294967296 / 65536 = ((x / 281474976710656 : Nat) : Int) := (qd2 x 4294967296 65536 281474976710656 rfl)
 have t2 : decide ((256 : Int) ≤ (x : Int) / 4294967296 / 65536) = false := decide_eq_false (by rw [e2]; omega)
 have eb : (x : Int) / 4294967296 / 65536 = ((x / 281474976710656 : Nat) : Int) := qd2 x 4294967296 65536 281474976710656 rfl
 have hb : x / 281474976710656 < 256 := by omega
 have h2 : (x : Int) / 4294967296 / 65536 < 256 := by rw [eb]; omega
 have h3 : 0 ≤ (x : Int) / 4294967296 / 65536 := by rw [eb]; omega
 have Hs : Hid (Lib.bitLen x = 48 + Lib.bitLen (x / 281474976710656)) := Lib.bitLen_shift48 x (by omega) hx
 have Eb := Lib.hid eb
 have Hb := Lib.hid hb
 clear eb e0 e1 e2 c0 c1 c2 hb
 go_enter Tryd.func94, Tryd.ntmps94
 go_wp2_with fail
 go_ret
 exact ⟨ret_int (len_end 48 281474976710656 x _ Eb.out Hb.out Hs.out (by omega)), rfl⟩
set_option maxRecDepth 100000 in
set_option maxHeartbeats 1000000 in
theorem len64_2 (x : Nat) (w : World) (hx : x < 18446744073709551616) (c0 : 4294967296 ≤ x) (c1 : x < 281474976710656) (c2 : 1099511627776 ≤ x) :
 Calls Tryd.prog 94 #[.int .u64 x] w fun e w' => e = .returned (.int .i64 (Lib.bitLen x)) ∧ w' = w := by
 have e0 : (x : Int) = ((x : Nat) : Int) := rfl
 have t0 : decide ((4294967296 : Int) ≤ (x : Int)) = true := decide_eq_true (by rw [e0]; omega)
 have e1 : (x : Int) / 4294967296 = ((x / 4294967296 : Nat) : Int) := (by rw [Int.natCast_ediv]; rfl)
 have t1 : decide ((65536 : Int) ≤ (x : Int) / 4294967296) = false := decide_eq_false (by rw [e1]; omega)
 have e2 : (x : Int) / 4294967296 = ((x / 4294967296 : Nat) : Int) := (by rw [Int.natCast_ediv]; rfl)
 have t2 : decide ((256 : Int) ≤ (x : Int) / 4294967296) = true := decide_eq_true (by rw [e2]; omega)
 have eb : (x : Int) / 4294967296 / 256 = ((x / 1099511627776 : Nat) : Int) := qd2 x 4294967296 256 1099511627776 rfl
 have hb : x / 1099511627776 < 256 := by omega
 have h2 : (x : Int) / 4294967296 / 256 < 256 := by rw [eb]; omega
 have h3 : 0 ≤ (x : Int) / 4294967296 / 256 := by rw [eb]; omega
 have Hs : Hid (Lib.bitLen x = 40 + Lib.bitLen (x / 1099511627776)) := Lib.bitLen_shift40 x (by omega) hx
 have Eb := Lib.hid eb
 have Hb := Lib.hid hb
 clear eb e0 e1 e2 c0 c1 c2 hb
 go_enter Tryd.func94, Tryd.ntmps94
 go_wp2_with fail
 go_ret
 exact ⟨ret_int (len_end 40 1099511627776 x _ Eb.out Hb.out Hs.out (by omega)), rfl⟩
set_option maxRecDepth 100000 in
set_option maxHeartbeats 1000000 in
theorem len64_3 (x : Nat) (w : World) (hx : x < 18446744073709551616) (c0 : 4294967296 ≤ x) (c1 : x < 281474976710656) (c2 : x < 1099511627776) :
 Calls Tryd.prog 94 #[.int .u64 x] w fun e w' => e = .returned (.int .i64 (Lib.bitLen x)) ∧ w' = w := by
 have e0 : (x : Int) = ((x : Nat) : Int) := rfl
 have t0 : decide ((4294967296 : Int) ≤ (x : Int)) = true := decide_eq_true (by rw [e0]; omega)
 have e1 : (x : Int) / 4294967296 = ((x / 4294967296 : Nat) : Int) := (by rw [Int.natCast_ediv]; rfl)
 have t1 : decide ((65536 : Int) ≤ (x : Int) / 4294967296) = false := decide_eq_false (by rw [e1]; omega)
 have e2 : (x : Int) / 4294967296 = ((x / 4294967296 : Nat) : Int) := (by rw [Int.natCast_ediv]; rfl)
 have t2 : decide ((256 : Int) ≤ (x : Int) / 4294967296) = false := decide_eq_false (by rw [e2]; omega)
 have eb : (x : Int) / 4294967296 = ((x / 4294967296 : Nat) : Int) := by rw [Int.natCast_ediv]; rfl
 have hb : x / 4294967296 < 256 := by omega
 have h2 : (x : Int) / 4294967296 < 256 := by rw [eb]; omega
 have h3 : 0 ≤ (x : Int) / 4294967296 := by rw [eb]; omega
 have Hs : Hid (Lib.bitLen x = 32 + Lib.bitLen (x / 4294967296)) := Lib.bitLen_shift32 x (by omega) hx
 have Eb := Lib.hid eb
 have Hb := Lib.hid hb
 clear eb e0 e1 e2 c0 c1 c2 hb
 go_enter Tryd.func94, Tryd.ntmps94
 go_wp2_with fail
 go_ret
 exact ⟨ret_int (len_end 32 4294967296 x _ Eb.out Hb.out Hs.out (by omega)), rfl⟩
set_option maxRecDepth 100000 in
set_option maxHeartbeats 1000000 in
theorem len64_4 (x : Nat) (w : World) (hx : x < 18446744073709551616) (c0 : x < 4294967296) (c1 : 65536 ≤ x) (c2 : 16777216 ≤ x) :
 Calls Tryd.prog 94 #[.int .u64 x] w fun e w' => e = .returned (.int .i64 (Lib.bitLen x)) ∧ w' = w := by
 have e0 : (x : Int) = ((x : Nat) : Int) := rfl
 have t0 : decide ((4294967296 : Int) ≤ (x : Int)) = false := decide_eq_false (by rw [e0]; omega)
 have e1 : (x : Int) = ((x : Nat) : Int) := rfl
 have t1 : decide ((65536 : Int) ≤ (x : Int)) = true := decide_eq_true (by rw [e1]; omega)
 have e2 : (x : Int) / 65536 = ((x / 65536 : Nat) : Int) := (by rw [Int.natCast_ediv]; rfl)
 have t2 : decide ((256 : Int) ≤ (x : Int) / 65536) = true := decide_eq_true (by rw [e2]; omega)
 have eb : (x : Int) / 65536 / 256 = ((x / 16777216 : Nat) : Int) := qd2 x 65536 256 16777216 rfl
 have hb : x / 16777216 < 256 := by omega
 have h2 : (x : Int) / 65536 / 256 < 256 := by rw [eb]; omega
 have h3 : 0 ≤ (x : Int) / 65536 / 256 := by rw [eb]; omega
 have Hs : Hid (Lib.bitLen x = 24 + Lib.bitLen (x / 16777216)) := Lib.bitLen_shift24 x (by omega) hx
 have Eb := Lib.hid eb
 have Hb := Lib.hid hb
 clear eb e0 e1 e2 c0 c1 c2 hb
 go_enter Tryd.func94, Tryd.ntmps94
 go_wp2_with fail
 go_ret
 exact ⟨ret_int (len_end 24 16777216 x _ Eb.out Hb.out Hs.out (by omega)), rfl⟩
set_option maxRecDepth 100000 in
set_option maxHeartbeats 1000000 in
theorem len64_5 (x : Nat) (w : World) (hx : x < 18446744073709551616) (c0 : x < 4294967296) (c1 : 65536 ≤ x) (c2 : x < 16777216) :
 Calls Tryd.prog 94 #[.int .u64 x] w fun e w' => e = .returned (.int .i64 (Lib.bitLen x)) ∧ w' = w := by
 have e0 : (x : Int) = ((x : Nat) : Int) := rfl
 have t0 : decide ((4294967296 : Int) ≤ (x : Int)) = false := decide_eq_false (by rw [e0]; omega)
 have e1 : (x : Int) = ((x : Nat) : Int) := rfl
 have t1 : decide ((65536 : Int) ≤ (x : Int)) = true := decide_eq_true (by rw [e1]; omega)
 have e2 : (x : Int) / 65536 = ((x / 65536 : Nat) : Int) := (by rw [Int.natCast_ediv]; rfl)
 have t2 : decide ((256 : Int) ≤ (x : Int) / 65536) = false := decide_eq_false (by rw [e2]; omega)
 have eb : (x : Int) / 65536 = ((x / 65536 : Nat) : Int) := by rw [Int.natCast_ediv]; rfl
 have hb : x / 65536 < 256 := by omega
 have h2 : (x : Int) / 65536 < 256 := by rw [eb]; omega
 have h3 : 0 ≤ (x : Int) / 65536 := by rw [eb]; omega
 have Hs : Hid (Lib.bitLen x = 16 + Lib.bitLen (x / 65536)) := Lib.bitLen_shift16 x (by omega) hx
 have Eb := Lib.hid eb
 have Hb := Lib.hid hb
 clear eb e0 e1 e2 c0 c1 c2 hb
 go_enter Tryd.func94, Tryd.ntmps94
 go_wp2_with fail
 go_ret
 exact ⟨ret_int (len_end 16 65536 x _ Eb.out Hb.out Hs.out (by omega)), rfl⟩
set_option maxRecDepth 100000 in
set_option maxHeartbeats 1000000 in
theorem len64_6 (x : Nat) (w : World) (hx : x < 18446744073709551616) (c0 : x < 4294967296) (c1 : x < 65536) (c2 : 256 ≤ x) :
 Calls Tryd.prog 94 #[.int .u64 x] w fun e w' => e = .returned (.int .i64 (Lib.bitLen x)) ∧ w' = w := by
 have e0 : (x : Int) = ((x : Nat) : Int) := rfl
 have t0 : decide ((4294967296 : Int) ≤ (x : Int)) = false := decide_eq_false (by rw [e0]; omega)
 have e1 : (x : Int) = ((x : Nat) : Int) := rfl
 have t1 : decide ((65536 : Int) ≤ (x : Int)) = false := decide_eq_false (by rw [e1]; omega)
 have e2 : (x : Int) = ((x : Nat) : Int) := rfl
 have t2 : decide ((256 : Int) ≤ (x : Int)) = true := decide_eq_true (by rw [e2]; omega)
 have eb : (x : Int) / 256 = ((x / 256 : Nat) : Int) := by rw [Int.natCast_ediv]; rfl
 have hb : x / 256 < 256 := by omega
 have h2 : (x : Int) / 256 < 256 := by rw [eb]; omega
 have h3 : 0 ≤ (x : Int) / 256 := by rw [eb]; omega
 have Hs : Hid (Lib.bitLen x = 8 + Lib.bitLen (x / 256)) := Lib.bitLen_shift8 x (by omega) hx
 have Eb := Lib.hid eb
 have Hb := Lib.hid hb
 clear eb e0 e1 e2 c0 c1 c2 hb
 go_enter Tryd.func94, Tryd.ntmps94
 go_wp2_with fail
 go_ret
 exact ⟨ret_int (len_end 8 256 x _ Eb.out Hb.out Hs.out (by omega)), rfl⟩
set_option maxRecDepth 100000 in
set_option maxHeartbeats 1000000 in
theorem len64_7 (x : Nat) (w : World) (hx : x < 18446744073709551616) (c0 : x < 4294967296) (c1 : x < 65536) (c2 : x < 256) :
 Calls Tryd.prog 94 #[.int .u64 x] w fun e w' => e = .returned (.int .i64 (Lib.bitLen x)) ∧ w' = w := by
 have e0 : (x : Int) = ((x : Nat) : Int) := rfl
 have t0 : decide ((4294967296 : Int) ≤ (x : Int)) = false := decide_eq_false (by rw [e0]; omega)
 have e1 : (x : Int) = ((x : Nat) : Int) := rfl
 have t1 : decide ((65536 : Int) ≤ (x : Int)) = false := decide_eq_false (by rw [e1]; omega)
 have e2 : (x : Int) = ((x : Nat) : Int) := rfl
 have t2 : decide ((256 : Int) ≤ (x : Int)) = false := decide_eq_false (by rw [e2]; omega)
 have eb : (x : Int) = ((x / 1 : Nat) : Int) := by rw [Nat.div_one]
 have hb : x / 1 < 256 := by omega
 have h2 : (x : Int) < 256 := by rw [eb]; omega
 have h3 : 0 ≤ (x : Int) := by rw [eb]; omega
 have Hs : Hid (Lib.bitLen x = 0 + Lib.bitLen (x / 1)) := by show _ = _; rw [Nat.div_one, Nat.zero_add]
 have Eb := Lib.hid eb
 have hsz : x < Lib.len8tab.size := by rw [Lib.len8tab_size]; omega
 have Hb := Lib.hid hb
 clear eb e0 e1 e2 c0 c1 c2 hb
 go_enter Tryd.func94, Tryd.ntmps94
 go_wp2_with fail
 go_ret
 have hfin := len_end 0 1 x (x : Int) Eb.out Hb.out Hs.out (by omega) (h := hsz)
 simp only [Int.natCast_zero, Int.zero_add] at hfin
 exact ⟨ret_int hfin, rfl⟩
theorem len64_any (x : Nat) (w : World) (hx : x < 18446744073709551616) :
 Calls Tryd.prog 94 #[.int .u64 x] w fun e w' => e = .returned (.int .i64 (Lib.bitLen x)) ∧ w' = w := by
 rcases Nat.lt_or_ge x 4294967296 with c0 | c0
 · rcases Nat.lt_or_ge x 65536 with c1 | c1
   · rcases Nat.lt_or_ge x 256 with c2 | c2
     · exact len64_7 x w hx c0 c1 c2
     · exact len64_6 x w hx c0 c1 c2
   · rcases Nat.lt_or_ge x 16777216 with c2 | c2
     · exact len64_5 x w hx c0 c1 c2
     · exact len64_4 x w hx c0 c1 c2
 · rcases Nat.lt_or_ge x 281474976710656 with c1 | c1
   · rcases Nat.lt_or_ge x 1099511627776 with c2 | c2
     · exact len64_3 x w hx c0 c1 c2
     · exact len64_2 x w hx c0 c1 c2
   · rcases Nat.lt_or_ge x 72057594037927936 with c2 | c2
     · exact len64_1 x w hx c0 c1 c2
     · exact len64_0 x w hx c0 c1 c2
theorem bitLen_lo {x k : Nat} (h : 2 ^ k ≤ x) (hx : x < 2 ^ 64) : k + 1 ≤ Lib.bitLen x := by
 rw [Lib.bitLen_shift k x h hx]
 have h1 : 1 ≤ x / 2 ^ k := by rw [Nat.le_div_iff_mul_le (Nat.two_pow_pos k)]; omega
 have h2 : x / 2 ^ k < 2 ^ 64 := Nat.lt_of_le_of_lt (Nat.div_le_self _ _) hx
 rw [Lib.bitLen_half (x / 2 ^ k) (by omega) h2]
 omega
theorem bitLen_hi {x : Nat} (hx : x < 2 ^ 64) : x < 2 ^ Lib.bitLen x := by
 rcases Nat.lt_or_ge x (2 ^ Lib.bitLen x) with h | h
 · exact h
 · have := bitLen_lo h hx
   omega
theorem bitLen_ge {x : Nat} (h0 : 0 < x) (hx : x < 2 ^ 64) : 1 ≤ Lib.bitLen x ∧ 2 ^ (Lib.bitLen x - 1) ≤ x := by
 have h1 : 1 ≤ Lib.bitLen x := bitLen_lo (k := 0) h0 hx
 refine ⟨h1, ?_⟩
 rcases Nat.lt_or_ge x (2 ^ (Lib.bitLen x - 1)) with h | h
 · have := Lib.bitLen_le x (Lib.bitLen x - 1) (by have := Lib.bitLen_le x 64 (Nat.le_refl _) hx; omega) h
   omega
 · exact h
theorem lz64_any (x : Nat) (w : World) (h1 : x < 18446744073709551616) :
 Calls Tryd.prog 115 #[.int .u64 x] w fun e w' => e = .returned (.int .i64 ((64 - Lib.bitLen x : Nat) : Int)) ∧ w' = w := by
 have hl := Lib.bitLen_le x 64 (Nat.le_refl _) h1
 have hc := len64_any x w h1
 generalize Lib.bitLen x = n at *
 go_enter Tryd.func115, Tryd.ntmps115
 go_wp2_with fail
 refine hc.mono ?_
 rintro e w' ⟨rfl, rfl⟩
 go_wp2_with fail
 go_ret
 exact ⟨ret_int (by omega), rfl⟩
theorem maskN (a : Nat) (ha : a < 18446744073709551616) : bits .and .u64 (a : Int) 4294967295 = ((a % 4294967296 : Nat) : Int) := by
 have h := bits_and_u64_nat a 4294967295 ha (by omega)
 have e : a &&& 4294967295 = a % 4294967296 := Nat.and_two_pow_sub_one_eq_mod a 32
 rw [e] at h
 exact h
theorem divN (a : Nat) : (a : Int) / 4294967296 = ((a / 4294967296 : Nat) : Int) := by omega
theorem mulN (a b : Nat) : (a : Int) * (b : Int) = ((a * b : Nat) : Int) := (Int.natCast_mul a b).symm
theorem addN (a b : Nat) : (a : Int) + (b : Int) = ((a + b : Nat) : Int) := (Int.natCast_add a b).symm
theorem wrapN (a : Nat) (ha : a < 18446744073709551616) : IntKind.u64.wrap (a : Int) = (a : Int) := by rw [IntKind.wrap_u64]; omega
theorem wrapM (a : Nat) : IntKind.u64.wrap (a : Int) = ((a % 18446744073709551616 : Nat) : Int) := by rw [IntKind.wrap_u64]; omega
set_option maxHeartbeats 1000000 in
theorem mul64_any (x y : Nat) (hx : x < 18446744073709551616) (hy : y < 18446744073709551616) (w : World) :
 Calls Tryd.prog 83 #[.int .u64 x, .int .u64 y] w fun e w' => e = .returned (.tuple #[.int .u64 ((x * y / 18446744073709551616 : Nat) : Int), .int .u64 ((x * y % 18446744073709551616 : Nat) : Int)]) ∧ w' = w := by
 obtain ⟨bd, bt, bw, hhi⟩ := Lib.mul64_hi x y hx hy
 have ba := Lib.half_mul_le (a := x / 4294967296) (b := y / 4294967296) (by omega) (by omega)
 have bb := Lib.half_mul_le (a := x / 4294967296) (b := y % 4294967296) (by omega) (by omega)
 have bc := Lib.half_mul_le (a := x % 4294967296) (b := y / 4294967296) (by omega) (by omega)
 have ba' : x / 4294967296 * (y / 4294967296) < 18446744073709551616 := by omega
 have bb' : x / 4294967296 * (y % 4294967296) < 18446744073709551616 := by omega
 have bc' : x % 4294967296 * (y / 4294967296) < 18446744073709551616 := by omega
 have bh1 : x / 4294967296 * (y / 4294967296) + (x / 4294967296 * (y % 4294967296) + x % 4294967296 * (y % 4294967296) / 4294967296) / 4294967296 < 18446744073709551616 := by omega
 have bh : x / 4294967296 * (y / 4294967296) + (x / 4294967296 * (y % 4294967296) + x % 4294967296 * (y % 4294967296) / 4294967296) / 4294967296 + ((x / 4294967296 * (y % 4294967296) + x % 4294967296 * (y % 4294967296) / 4294967296) % 4294967296 + x % 4294967296 * (y / 4294967296)) / 4294967296 < 18446744073709551616 := by omega
 go_enter Tryd.func83, Tryd.ntmps83
 go_wp2
 simp only [maskN x hx, maskN y hy, divN, mulN, addN, wrapN _ bd, wrapN _ bb', wrapN _ bt, maskN _ bt, wrapN _ bc', wrapN _ bw, wrapN _ ba', wrapN _ bh1, wrapN _ bh, wrapM (x * y)]
 rw [hhi]
 go_ret2
 exact ⟨rfl, rfl⟩
end Go.Proofs.YtnkaoplgmglijaaDoor
/- The contract of bits.Div64. -/
namespace Go.Proofs.YtnkaoplgmglijaaDoor
open Go.RowKit
theorem shifted {hi lo y s : Nat} (h0 : hi < y) (hl : lo < 2 ^ 64) (hs : s ≤ 63) (hY : y * 2 ^ s < 2 ^ 64) :
 hi * 2 ^ s + lo / 2 ^ (64 - s) < y * 2 ^ s ∧ hi * 2 ^ s < 2 ^ 64 ∧ lo / 2 ^ (64 - s) < 2 ^ s ∧ (hi * 2 ^ 64 + lo) * 2 ^ s = (hi * 2 ^ s + lo / 2 ^ (64 - s)) * 2 ^ 64 + lo * 2 ^ s % 2 ^ 64 := by
 have hp : 2 ^ 64 = 2 ^ (64 - s) * 2 ^ s := by rw [← Nat.pow_add]; congr 1; omega
 have h1 : (hi + 1) * 2 ^ s ≤ y * 2 ^ s := Nat.mul_le_mul_right _ h0
 rw [Nat.add_mul, Nat.one_mul] at h1
 have hq : lo / 2 ^ (64 - s) < 2 ^ s := by rw [Nat.div_lt_iff_lt_mul (Nat.two_pow_pos _), Nat.mul_comm, ← hp]; exact hl
 have hd : lo * 2 ^ s / 2 ^ 64 = lo / 2 ^ (64 - s) := by rw [hp, Nat.mul_div_mul_right _ _ (Nat.two_pow_pos _)]
 have hm := Nat.div_add_mod (lo * 2 ^ s) (2 ^ 64)
 rw [hd] at hm
 refine ⟨by omega, by omega, hq, ?_⟩
 rw [Nat.add_mul, Nat.add_mul, Nat.mul_right_comm, Nat.mul_comm (lo / 2 ^ (64 - s)) (2 ^ 64)]
 omega
theorem or_shift {hi b s : Nat} (hb : b < 2 ^ s) : hi * 2 ^ s ||| b = hi * 2 ^ s + b := by
 have := Nat.shiftLeft_add_eq_or_of_lt hb hi
 rw [Nat.shiftLeft_eq] at this
 exact this.symm
theorem fold4 (a b c r : Int) (h : a + b - c = r) (h0 : 0 ≤ r) (h1 : r < 18446744073709551616) : IntKind.u64.wrap (IntKind.u64.wrap (IntKind.u64.wrap a + b) - IntKind.u64.wrap c) = r := by
 rw [IntKind.wrap_u64, IntKind.wrap_u64, IntKind.wrap_u64, IntKind.wrap_u64]
 omega
set_option maxRecDepth 100000 in
set_option maxHeartbeats 2000000 in
theorem div64_any (hi lo y : Nat) (w : World) (h0 : hi < y) (hl : lo < 18446744073709551616) (hy : y < 18446744073709551616) :
 Calls Tryd.prog 114 #[.int .u64 hi, .int .u64 lo, .int .u64 y] w fun e w' => ∃ n, e = .returned (.tuple #[.int .u64 (((hi * 18446744073709551616 + lo) / y : Nat) : Int), .int .u64 (((hi * 18446744073709551616 + lo) % y : Nat) : Int)]) ∧ w' = w.drewN n := by
 rcases Nat.eq_zero_or_pos hi with hz | hz
 · subst hz
   have hy0 : (0 : Int) < (y : Int) := by omega
   have t0 : ((y : Int) == 0) = false := by simp; omega
   have t1 : decide ((y : Int) ≤ ((0 : Nat) : Int)) = false := decide_eq_false (by omega)
   have Hf : Hid ((((0 * 18446744073709551616 + lo) / y : Nat) : Int) = (lo : Int) / (y : Int) ∧ (((0 * 18446744073709551616 + lo) % y : Nat) : Int) = (lo : Int) % (y : Int)) := by
    show _ ∧ _
    rw [Nat.zero_mul, Nat.zero_add]
    exact ⟨Int.natCast_ediv _ _, Int.natCast_emod _ _⟩
   have Hw : Hid (IntKind.u64.wrap ((lo : Int) / (y : Int)) = (lo : Int) / (y : Int)) := by
    show _ = _
    rw [← Int.natCast_ediv, wrapN _ (Nat.lt_of_le_of_lt (Nat.div_le_self _ _) hl)]
   clear hl
   go_enter Tryd.func114, Tryd.ntmps114
   go_wp2_with fail
   go_quiet (fail)
   go_wp2_with fail
   rw [Hw.out]
   go_ret2
   exact ⟨_, by rw [Hf.out.1, Hf.out.2]; rfl, rfl⟩
 · have b1 := bitLen_ge (x := y) (by omega) hy
   have b2 := bitLen_hi (x := y) hy
   have b3 := Lib.bitLen_le y 64 (Nat.le_refl _) hy
   have hc := fun w => lz64_any y w hy
   obtain ⟨s, hs⟩ : ∃ s, 64 - Lib.bitLen y = s := ⟨_, rfl⟩
   rw [hs] at hc
   have Hc := Lib.hid hc
   have Hb : Hid (1 ≤ Lib.bitLen y ∧ 2 ^ (Lib.bitLen y - 1) ≤ y ∧ y < 2 ^ Lib.bitLen y ∧ Lib.bitLen y ≤ 64 ∧ 64 - Lib.bitLen y = s) := ⟨b1.1, b1.2, b2, b3, hs⟩
   have hs63 : s ≤ 63 := by omega
   have hy0 : ¬ ((y : Int) = 0) := by omega
   have t0 : ((y : Int) == 0) = false := by simp; omega
   have t1 : decide ((y : Int) ≤ (hi : Int)) = false := decide_eq_false (by omega)
   have t2 : ((hi : Int) == 0) = false := by simp; omega
   clear hc b1 b2 b3 hs
   go_enter Tryd.func114, Tryd.ntmps114
   go_wp2_with fail
   refine (Hc.out w).mono ?_
   rintro e w' ⟨rfl, rfl⟩
   go_upto_region 15 with (fail)
   have hb := Hb.out
   have hP : 2 ^ Lib.bitLen y * 2 ^ s = 2 ^ 64 := by rw [← Nat.pow_add]; congr 1; omega
   have hP2 : 2 ^ (Lib.bitLen y - 1) * 2 ^ s = 2 ^ 63 := by rw [← Nat.pow_add]; congr 1; omega
   have hY1 : y * 2 ^ s < 2 ^ 64 := by rw [← hP]; exact Nat.mul_lt_mul_of_pos_right hb.2.2.1 (Nat.two_pow_pos _)
   have hY2 : 2 ^ 63 ≤ y * 2 ^ s := by rw [← hP2]; exact Nat.mul_le_mul_right _ hb.2.1
   obtain ⟨g1, g2, g3, g4⟩ := shifted h0 hl hs63 hY1
   have hsc := scaled (hi * 18446744073709551616 + lo) y (2 ^ s) (Nat.two_pow_pos _)
   have e1 : IntKind.u64.wrap ((y : Int) * 2 ^ s) = ((y * 2 ^ s : Nat) : Int) := by
    rw [show (y : Int) * 2 ^ s = ((y * 2 ^ s : Nat) : Int) by rw [Int.natCast_mul, Int.natCast_pow]; rfl, wrapN _ hY1]
   have e4 : bits .or .u64 (IntKind.u64.wrap ((hi : Int) * 2 ^ s)) ((lo : Int) / 2 ^ (64 - s)) = ((hi * 2 ^ s + lo / 2 ^ (64 - s) : Nat) : Int) := by
    rw [show (hi : Int) * 2 ^ s = ((hi * 2 ^ s : Nat) : Int) by rw [Int.natCast_mul, Int.natCast_pow]; rfl, wrapN _ g2,
        show (lo : Int) / 2 ^ (64 - s) = ((lo / 2 ^ (64 - s) : Nat) : Int) by rw [Int.natCast_ediv, Int.natCast_pow]; rfl,
        bits_or_u64_nat _ _ g2 (Nat.lt_of_le_of_lt (Nat.div_le_self _ _) hl), or_shift g3]
   have e5 : IntKind.u64.wrap ((lo : Int) * 2 ^ s) = ((lo * 2 ^ s % 2 ^ 64 : Nat) : Int) := by
    rw [show (lo : Int) * 2 ^ s = ((lo * 2 ^ s : Nat) : Int) by rw [Int.natCast_mul, Int.natCast_pow]; rfl, wrapM]
   have hL : lo * 2 ^ s % 2 ^ 64 < 2 ^ 64 := Nat.mod_lt _ (by decide)
   rw [e1, e4, e5]
   have Hsc : Hid (∀ q r : Nat, (hi * 18446744073709551616 + lo) * 2 ^ s / (y * 2 ^ s) = q → (hi * 18446744073709551616 + lo) * 2 ^ s % (y * 2 ^ s) = r → q = (hi * 18446744073709551616 + lo) / y ∧ r / 2 ^ s = (hi * 18446744073709551616 + lo) % y) := fun q r hq hr => by
    rw [hsc.1] at hq
    rw [hsc.2] at hr
    exact ⟨hq.symm, by rw [← hr, Nat.mul_div_cancel _ (Nat.two_pow_pos _)]⟩
   have Hg4 : Hid ((hi * 18446744073709551616 + lo) * 2 ^ s = (hi * 2 ^ s + lo / 2 ^ (64 - s)) * (4294967296 * 4294967296) + lo * 2 ^ s % 2 ^ 64) := g4
   clear e1 e4 e5 g2 g3 g4 hP hP2 hb hsc
   generalize y * 2 ^ s = Y at *
   generalize hi * 2 ^ s + lo / 2 ^ (64 - s) = u at *
   generalize lo * 2 ^ s % 2 ^ 64 = L at *
   rw [maskN Y hY1, maskN L hL, divN, divN]
   obtain ⟨yn1, hy1⟩ : ∃ k, Y / 4294967296 = k := ⟨_, rfl⟩
   obtain ⟨yn0, hy2⟩ : ∃ k, Y % 4294967296 = k := ⟨_, rfl⟩
   obtain ⟨d1, hd1⟩ : ∃ k, L / 4294967296 = k := ⟨_, rfl⟩
   obtain ⟨d0, hd0⟩ : ∃ k, L % 4294967296 = k := ⟨_, rfl⟩
   rw [hy1, hy2, hd1, hd0]
   have HY : Hid (Y = yn1 * 4294967296 + yn0) := by show _ = _; omega
   have HL : Hid (L = d1 * 4294967296 + d0) := by show _ = _; omega
   have b1 : yn1 < 4294967296 ∧ 2147483648 ≤ yn1 := by omega
   have b0 : yn0 < 4294967296 := by omega
   have bd1 : d1 < 4294967296 := by omega
   have bd0 : d0 < 4294967296 := by omega
   have Hu : Hid (u < Y) := g1
   clear hy1 hy2 hd1 hd0 g1
   have p1 : (0 : Int) < (yn1 : Int) := by omega
   have hu64 : u < 2 ^ 64 := Nat.lt_trans Hu.out hY1
   have E15 : Hid (IntKind.u64.wrap ((u : Int) / (yn1 : Int)) = ((u / yn1 : Nat) : Int)) := by
    show _ = _
    rw [← Int.natCast_ediv, wrapN _ (Nat.lt_of_le_of_lt (Nat.div_le_self _ _) hu64)]
   have E15r : Hid (IntKind.u64.wrap ((u : Int) - IntKind.u64.wrap (((u / yn1 : Nat) : Int) * (yn1 : Int))) = ((u % yn1 : Nat) : Int)) := by
    show _ = _
    have hm := Nat.div_add_mod u yn1
    rw [Nat.mul_comm] at hm
    rw [mulN, wrapN _ (by omega), show (u : Int) - ((u / yn1 * yn1 : Nat) : Int) = ((u % yn1 : Nat) : Int) by omega, wrapN _ (by omega)]
   have hst := est_start HY.out b0 b1.2 b1.1 Hu.out bd1
   have Hst := Lib.hid hst
   have hp : 0 < Y := by omega
   have HD := Lib.hid (digit_lt (d1 := d1) Hu.out bd1)
   clear hst
   go_upto_block 0 with (fail)
   rw [E15.out]
   rw [E15r.out]
   go_cut [15, 16] (fun a b wx => w' = wx ∧ a = .int .u64 (((u * 4294967296 + d1) / Y : Nat) : Int) ∧ ∃ r : Nat, b = .int .u64 r)
   case first =>
    go_wp2_with fail
    go_loopg [15, 16] (u / yn1 + 1) (fun g a b wx => w' = wx ∧ ∃ q r : Nat, g = q + 1 ∧ a = .int .u64 q ∧ b = .int .u64 r ∧ Est u Y yn1 yn0 d1 q r)
    case atStart => exact ⟨rfl, u / yn1, u % yn1, rfl, rfl, rfl, Hst.out⟩
    case round =>
        obtain ⟨rfl, q, r, rfl, rfl, rfl, hE⟩ := hrel
        have HE := Lib.hid hE
        have hq3 := hE.le
        have hr3 := hE.first
        obtain ⟨m74, h74⟩ : ∃ m, 4294967296 * r = m := ⟨_, rfl⟩
        obtain ⟨m76, h76⟩ : ∃ m, m74 + d1 = m := ⟨_, rfl⟩
        obtain ⟨m72, h72⟩ : ∃ m, q * yn0 = m := ⟨_, rfl⟩
        obtain ⟨r2, hr2⟩ : ∃ m, r + yn1 = m := ⟨_, rfl⟩
        obtain ⟨q', hq'⟩ : ∃ m, q - 1 = m := ⟨_, rfl⟩
        have t74 : IntKind.u64.wrap (4294967296 * (r : Int)) = (m74 : Int) := by rw [show 4294967296 * (r : Int) = (m74 : Int) by omega, wrapN _ (by omega)]
        have t76 : IntKind.u64.wrap ((m74 : Int) + (d1 : Int)) = (m76 : Int) := by rw [show (m74 : Int) + (d1 : Int) = (m76 : Int) by omega, wrapN _ (by omega)]
        have t83 : IntKind.u64.wrap ((r : Int) + (yn1 : Int)) = (r2 : Int) := by rw [show (r : Int) + (yn1 : Int) = (r2 : Int) by omega, wrapN _ (by omega)]
        have key : Hid (∀ P : Prop, (4294967296 ≤ q → P) → (q < 4294967296 → m76 < m72 → P) → (q < 4294967296 → m72 ≤ m76 → P) → P) := fun P a1 a2 a3 => by
         rcases Nat.lt_or_ge q 4294967296 with h | h
         · rcases Nat.lt_or_ge m76 m72 with h2 | h2
           · exact a2 h h2
           · exact a3 h h2
         · exact a1 h
        have Hmul : Hid (q < 4294967296 → m72 < 18446744073709551616) := fun h => by
         have : q * yn0 ≤ 4294967295 * 4294967295 := Nat.mul_le_mul (by omega) (by omega)
         omega
        have H76 : Hid (4294967296 * r + d1 = m76) := by show _ = _; omega
        have H72 := Lib.hid h72
        have HR2 := Lib.hid hr2
        have HQ' := Lib.hid hq'
        clear hE hq3 hr3 h74 h76 h72 hr2 hq'
        refine key.out _ (fun c1 => ?_) (fun c1 c2 => ?_) (fun c1 c2 => ?_)
        · have hq : (u * 4294967296 + d1) / Y < q := Nat.lt_of_lt_of_le HD.out c1
          have Hq := Lib.hid hq
          have hq1 : 1 ≤ q := by omega
          have t78 : decide ((4294967296 : Int) ≤ (q : Int)) = true := decide_eq_true (by omega)
          clear hq c1
          have t80 : IntKind.u64.wrap ((q : Int) - 1) = (q' : Int) := by have h1 := HQ'.out; have h2 := HE.out.le; rw [show (q : Int) - 1 = (q' : Int) by omega, wrapN _ (by omega)]
          have Hq1 := Lib.hid hq1
          clear hq1
          rcases Nat.lt_or_ge r2 4294967296 with c3 | c3
          · have Hn := Lib.hid (est_next HE.out Hq.out (by rw [HR2.out]; exact c3))
            have t85 : decide ((4294967296 : Int) ≤ (r2 : Int)) = false := decide_eq_false (by omega)
            clear c3
            go_wp2_with fail
            go_roundg (q' + 1)
            case rel => exact ⟨rfl, q', r2, rfl, rfl, rfl, by rw [← HQ'.out, ← HR2.out]; exact Hn.out⟩
            case measure => have := HQ'.out; have := Hq1.out; omega
          · have Hn := Lib.hid (est_break HY.out b0 hp HE.out Hq.out (by rw [HR2.out]; exact c3))
            have t85 : decide ((4294967296 : Int) ≤ (r2 : Int)) = true := decide_eq_true (by omega)
            clear c3
            go_wp2_with fail
            go_meet
            case rel => exact ⟨rfl, by rw [← Hn.out, HQ'.out], r2, rfl⟩
        · have hq := est_high (u := u) (Y := Y) (d1 := d1) HY.out HE.out.hu (by rw [H76.out, H72.out]; exact c2)
          have Hq := Lib.hid hq
          have hm := Hmul.out c1
          have hq1 : 1 ≤ q := by have := Nat.lt_of_le_of_lt (Nat.zero_le _) hq; omega
          have t78 : decide ((4294967296 : Int) ≤ (q : Int)) = false := decide_eq_false (by omega)
          have t72 : IntKind.u64.wrap ((q : Int) * (yn0 : Int)) = (m72 : Int) := by rw [mulN, H72.out, wrapN _ hm]
          have t77 : decide (m76 < m72) = true := decide_eq_true c2
          clear hq c1 c2 hm
          have t80 : IntKind.u64.wrap ((q : Int) - 1) = (q' : Int) := by have h1 := HQ'.out; have h2 := HE.out.le; rw [show (q : Int) - 1 = (q' : Int) by omega, wrapN _ (by omega)]
          have Hq1 := Lib.hid hq1
          clear hq1
          rcases Nat.lt_or_ge r2 4294967296 with c3 | c3
          · have Hn := Lib.hid (est_next HE.out Hq.out (by rw [HR2.out]; exact c3))
            have t85 : decide ((4294967296 : Int) ≤ (r2 : Int)) = false := decide_eq_false (by omega)
            clear c3
            go_wp2_with fail
            go_roundg (q' + 1)
            case rel => exact ⟨rfl, q', r2, rfl, rfl, rfl, by rw [← HQ'.out, ← HR2.out]; exact Hn.out⟩
            case measure => have := HQ'.out; have := Hq1.out; omega
          · have Hn := Lib.hid (est_break HY.out b0 hp HE.out Hq.out (by rw [HR2.out]; exact c3))
            have t85 : decide ((4294967296 : Int) ≤ (r2 : Int)) = true := decide_eq_true (by omega)
            clear c3
            go_wp2_with fail
            go_meet
            case rel => exact ⟨rfl, by rw [← Hn.out, HQ'.out], r2, rfl⟩
        · have hd := est_done (u := u) (d1 := d1) HY.out hp HE.out (by rw [H76.out, H72.out]; exact c2)
          have Hd := Lib.hid hd
          have hm := Hmul.out c1
          have t78 : decide ((4294967296 : Int) ≤ (q : Int)) = false := decide_eq_false (by omega)
          have t72 : IntKind.u64.wrap ((q : Int) * (yn0 : Int)) = (m72 : Int) := by rw [mulN, H72.out, wrapN _ hm]
          have t77 : decide (m76 < m72) = false := decide_eq_false (by omega)
          clear hd c1 c2 hm
          go_wp2_with fail
          go_meet
          case rel => exact ⟨rfl, by rw [← Hd.out], _, rfl⟩
   case rest =>
    obtain ⟨rfl, rfl, r, rfl⟩ := hcut
    obtain ⟨D1, hD1⟩ : ∃ k, (u * 4294967296 + d1) / Y = k := ⟨_, rfl⟩
    obtain ⟨R1, hR1⟩ : ∃ k, (u * 4294967296 + d1) % Y = k := ⟨_, rfl⟩
    have hm1 := Nat.div_add_mod (u * 4294967296 + d1) Y
    have hR1Y : R1 < Y := by rw [← hR1]; exact Nat.mod_lt _ hp
    have hDl := HD.out
    rw [hD1, hR1, Nat.mul_comm] at hm1
    rw [hD1] at hDl
    have E17 : Hid (IntKind.u64.wrap (IntKind.u64.wrap (IntKind.u64.wrap ((u : Int) * 4294967296) + (d1 : Int)) - IntKind.u64.wrap ((D1 : Int) * (Y : Int))) = (R1 : Int)) := by
        show _ = _
        rw [mulN D1 Y, fold4 _ _ _ _ (show (u : Int) * 4294967296 + (d1 : Int) - ((D1 * Y : Nat) : Int) = (R1 : Int) by omega) (by omega) (by omega)]
    have E18 : Hid (IntKind.u64.wrap ((R1 : Int) / (yn1 : Int)) = ((R1 / yn1 : Nat) : Int)) := by
        show _ = _
        rw [← Int.natCast_ediv, wrapN _ (Nat.lt_of_le_of_lt (Nat.div_le_self _ _) (by omega))]
    have E18r : Hid (IntKind.u64.wrap ((R1 : Int) - IntKind.u64.wrap (((R1 / yn1 : Nat) : Int) * (yn1 : Int))) = ((R1 % yn1 : Nat) : Int)) := by
        show _ = _
        have hm := Nat.div_add_mod R1 yn1
        rw [Nat.mul_comm] at hm
        rw [mulN, wrapN _ (by omega), show (R1 : Int) - ((R1 / yn1 * yn1 : Nat) : Int) = ((R1 % yn1 : Nat) : Int) by omega, wrapN _ (by omega)]
    have hst2 := est_start HY.out b0 b1.2 b1.1 hR1Y bd0
    have Hst2 := Lib.hid hst2
    have HD0 := Lib.hid (digit_lt (d1 := d0) hR1Y bd0)
    have HD1 := Lib.hid hD1
    have HR1 := Lib.hid hR1
    have HDl := Lib.hid hDl
    have HR1Y := Lib.hid hR1Y
    rw [hD1]
    clear hst2 hm1 hR1Y hDl hD1 hR1
    go_upto_region 22 with (fail)
    rw [E17.out]
    go_upto_block 2 with (fail)
    rw [E18.out]
    rw [E18r.out]
    go_cut [18, 16] (fun a b wx => w' = wx ∧ a = .int .u64 (((R1 * 4294967296 + d0) / Y : Nat) : Int) ∧ ∃ r : Nat, b = .int .u64 r)
    case first =>
        go_wp2_with fail
        go_loopg [18, 16] (R1 / yn1 + 1) (fun g a b wx => w' = wx ∧ ∃ q r : Nat, g = q + 1 ∧ a = .int .u64 q ∧ b = .int .u64 r ∧ Est R1 Y yn1 yn0 d0 q r)
        case atStart => exact ⟨rfl, R1 / yn1, R1 % yn1, rfl, rfl, rfl, Hst2.out⟩
        case round =>
         obtain ⟨rfl, q, r, rfl, rfl, rfl, hE⟩ := hrel
         have HE := Lib.hid hE
         have hq3 := hE.le
         have hr3 := hE.first
         obtain ⟨m74, h74⟩ : ∃ m, 4294967296 * r = m := ⟨_, rfl⟩
         obtain ⟨m76, h76⟩ : ∃ m, m74 + d0 = m := ⟨_, rfl⟩
         obtain ⟨m72, h72⟩ : ∃ m, q * yn0 = m := ⟨_, rfl⟩
         obtain ⟨r2, hr2⟩ : ∃ m, r + yn1 = m := ⟨_, rfl⟩
         obtain ⟨q', hq'⟩ : ∃ m, q - 1 = m := ⟨_, rfl⟩
         have t74 : IntKind.u64.wrap (4294967296 * (r : Int)) = (m74 : Int) := by rw [show 4294967296 * (r : Int) = (m74 : Int) by omega, wrapN _ (by omega)]
         have t76 : IntKind.u64.wrap ((m74 : Int) + (d0 : Int)) = (m76 : Int) := by rw [show (m74 : Int) + (d0 : Int) = (m76 : Int) by omega, wrapN _ (by omega)]
         have t83 : IntKind.u64.wrap ((r : Int) + (yn1 : Int)) = (r2 : Int) := by rw [show (r : Int) + (yn1 : Int) = (r2 : Int) by omega, wrapN _ (by omega)]
         have key : Hid (∀ P : Prop, (4294967296 ≤ q → P) → (q < 4294967296 → m76 < m72 → P) → (q < 4294967296 → m72 ≤ m76 → P) → P) := fun P a1 a2 a3 => by
           rcases Nat.lt_or_ge q 4294967296 with h | h
           · rcases Nat.lt_or_ge m76 m72 with h2 | h2
             · exact a2 h h2
             · exact a3 h h2
           · exact a1 h
         have Hmul : Hid (q < 4294967296 → m72 < 18446744073709551616) := fun h => by
           have : q * yn0 ≤ 4294967295 * 4294967295 := Nat.mul_le_mul (by omega) (by omega)
           omega
         have H76 : Hid (4294967296 * r + d0 = m76) := by show _ = _; omega
         have H72 := Lib.hid h72
         have HR2 := Lib.hid hr2
         have HQ' := Lib.hid hq'
         clear hE hq3 hr3 h74 h76 h72 hr2 hq'
         refine key.out _ (fun c1 => ?_) (fun c1 c2 => ?_) (fun c1 c2 => ?_)
         · have hq : (R1 * 4294967296 + d0) / Y < q := Nat.lt_of_lt_of_le HD0.out c1
           have Hq := Lib.hid hq
           have hq1 : 1 ≤ q := by omega
           have t78 : decide ((4294967296 : Int) ≤ (q : Int)) = true := decide_eq_true (by omega)
           clear hq c1
           have t80 : IntKind.u64.wrap ((q : Int) - 1) = (q' : Int) := by have h1 := HQ'.out; have h2 := HE.out.le; rw [show (q : Int) - 1 = (q' : Int) by omega, wrapN _ (by omega)]
           have Hq1 := Lib.hid hq1
           clear hq1
           rcases Nat.lt_or_ge r2 4294967296 with c3 | c3
           · have Hn := Lib.hid (est_next HE.out Hq.out (by rw [HR2.out]; exact c3))
             have t85 : decide ((4294967296 : Int) ≤ (r2 : Int)) = false := decide_eq_false (by omega)
             clear c3
             go_wp2_with fail
             go_roundg (q' + 1)
             case rel => exact ⟨rfl, q', r2, rfl, rfl, rfl, by rw [← HQ'.out, ← HR2.out]; exact Hn.out⟩
             case measure => have := HQ'.out; have := Hq1.out; omega
           · have Hn := Lib.hid (est_break HY.out b0 hp HE.out Hq.out (by rw [HR2.out]; exact c3))
             have t85 : decide ((4294967296 : Int) ≤ (r2 : Int)) = true := decide_eq_true (by omega)
             clear c3
             go_wp2_with fail
             go_meet
             case rel => exact ⟨rfl, by rw [← Hn.out, HQ'.out], r2, rfl⟩
         · have hq := est_high (u := R1) (Y := Y) (d1 := d0) HY.out HE.out.hu (by rw [H76.out, H72.out]; exact c2)
           have Hq := Lib.hid hq
           have hm := Hmul.out c1
           have hq1 : 1 ≤ q := by have := Nat.lt_of_le_of_lt (Nat.zero_le _) hq; omega
           have t78 : decide ((4294967296 : Int) ≤ (q : Int)) = false := decide_eq_false (by omega)
           have t72 : IntKind.u64.wrap ((q : Int) * (yn0 : Int)) = (m72 : Int) := by rw [mulN, H72.out, wrapN _ hm]
           have t77 : decide (m76 < m72) = true := decide_eq_true c2
           clear hq c1 c2 hm
           have t80 : IntKind.u64.wrap ((q : Int) - 1) = (q' : Int) := by have h1 := HQ'.out; have h2 := HE.out.le; rw [show (q : Int) - 1 = (q' : Int) by omega, wrapN _ (by omega)]
           have Hq1 := Lib.hid hq1
           clear hq1
           rcases Nat.lt_or_ge r2 4294967296 with c3 | c3
           · have Hn := Lib.hid (est_next HE.out Hq.out (by rw [HR2.out]; exact c3))
             have t85 : decide ((4294967296 : Int) ≤ (r2 : Int)) = false := decide_eq_false (by omega)
             clear c3
             go_wp2_with fail
             go_roundg (q' + 1)
             case rel => exact ⟨rfl, q', r2, rfl, rfl, rfl, by rw [← HQ'.out, ← HR2.out]; exact Hn.out⟩
             case measure => have := HQ'.out; have := Hq1.out; omega
           · have Hn := Lib.hid (est_break HY.out b0 hp HE.out Hq.out (by rw [HR2.out]; exact c3))
             have t85 : decide ((4294967296 : Int) ≤ (r2 : Int)) = true := decide_eq_true (by omega)
             clear c3
             go_wp2_with fail
             go_meet
             case rel => exact ⟨rfl, by rw [← Hn.out, HQ'.out], r2, rfl⟩
         · have hd := est_done (u := R1) (d1 := d0) HY.out hp HE.out (by rw [H76.out, H72.out]; exact c2)
           have Hd := Lib.hid hd
           have hm := Hmul.out c1
           have t78 : decide ((4294967296 : Int) ≤ (q : Int)) = false := decide_eq_false (by omega)
           have t72 : IntKind.u64.wrap ((q : Int) * (yn0 : Int)) = (m72 : Int) := by rw [mulN, H72.out, wrapN _ hm]
           have t77 : decide (m76 < m72) = false := decide_eq_false (by omega)
           clear hd c1 c2 hm
           go_wp2_with fail
           go_meet
           case rel => exact ⟨rfl, by rw [← Hd.out], _, rfl⟩
    case rest =>
        obtain ⟨rfl, rfl, r, rfl⟩ := hcut
        obtain ⟨D0, hD0⟩ : ∃ k, (R1 * 4294967296 + d0) / Y = k := ⟨_, rfl⟩
        obtain ⟨R0, hR0⟩ : ∃ k, (R1 * 4294967296 + d0) % Y = k := ⟨_, rfl⟩
        have hm0 := Nat.div_add_mod (R1 * 4294967296 + d0) Y
        have hR0Y : R0 < Y := by rw [← hR0]; exact Nat.mod_lt _ hp
        have hDl0 := HD0.out
        rw [hD0, hR0, Nat.mul_comm] at hm0
        rw [hD0] at hDl0
        have htwo := two_digits (u := u) (d1 := d1) (d0 := d0) (K := 4294967296) hp
        rw [HD1.out, HR1.out, hD0, hR0, Nat.add_assoc, ← HL.out, ← Hg4.out] at htwo
        obtain ⟨f1, f2⟩ := Hsc.out _ _ htwo.1 htwo.2
        have E28 : Hid (IntKind.u64.wrap (IntKind.u64.wrap (IntKind.u64.wrap ((R1 : Int) * 4294967296) + (d0 : Int)) - IntKind.u64.wrap ((D0 : Int) * (Y : Int))) = (R0 : Int)) := by
         show _ = _
         rw [mulN D0 Y, fold4 _ _ _ _ (show (R1 : Int) * 4294967296 + (d0 : Int) - ((D0 * Y : Nat) : Int) = (R0 : Int) by omega) (by omega) (by omega)]
        have E29 : Hid (IntKind.u64.wrap (IntKind.u64.wrap ((D1 : Int) * 4294967296) + (D0 : Int)) = ((D1 * 4294967296 + D0 : Nat) : Int)) := by
         show _ = _
         have h1 := HDl.out
         rw [show (D1 : Int) * 4294967296 = ((D1 * 4294967296 : Nat) : Int) by omega, wrapN _ (by omega), addN, wrapN _ (by omega)]
        have F1 := Lib.hid f1
        have F2 := Lib.hid f2
        rw [hD0]
        clear hm0 hR0Y hDl0 htwo f1 f2 hD0 hR0
        go_wp2_with fail
        rw [E28.out, E29.out, show (R0 : Int) / 2 ^ s = ((R0 / 2 ^ s : Nat) : Int) by rw [Int.natCast_ediv, Int.natCast_pow]; rfl]
        go_ret2
        exact ⟨0, by rw [← F1.out, ← F2.out]; rfl, rfl⟩
end Go.Proofs.YtnkaoplgmglijaaDoor
