/- The contracts of the functions of math/bits that the package units calls: Mul64, Sub64, Len64, LeadingZeros64. -/
import Derived.Test.YtmadlmmfbpmebaaMka
import Derived.Lib.Strings
import Derived.Lib.Slices
import Derived.Lib.Small
import Derived.Lib.Walk
import Derived.Lib.BitFns
import Derived.Lib.Mul64
import Derived.Laws.Bits64b
import Derived.Laws.Externs
namespace Go.Proofs.Ytmadlmmfbpmebaa
open Go.RowKit
theorem tab_at (b : Int) (h0 : 0 ≤ b) (h1 : b < 256) {h : b.toNat < Lib.len8tab.size} : ((Lib.len8tab[b.toNat]'h).toNat : Int) = (Lib.bitLen b.toNat : Int) := by
  have := Lib.len8_of b h0 (by omega)
  rw [← this]
  unfold Lib.len8
  rw [getElem?_pos Lib.len8tab b.toNat h]
  rfl
theorem qd2 (x a b c : Nat) (h : a * b = c) : (x : Int) / (a : Int) / (b : Int) = ((x / c : Nat) : Int) := by
  rw [← h, ← Nat.div_div_eq_div_mul, Int.natCast_ediv, Int.natCast_ediv]
theorem qd3 (x a b c d : Nat) (h : a * b * c = d) : (x : Int) / (a : Int) / (b : Int) / (c : Int) = ((x / d : Nat) : Int) := by
  rw [← h, ← Nat.div_div_eq_div_mul, ← Nat.div_div_eq_div_mul, Int.natCast_ediv, Int.natCast_ediv, Int.natCast_ediv]
theorem len_end (n m x : Nat) (b : Int) (hb : b = ((x / m : Nat) : Int)) (hm : x / m < 256) (hs : Lib.bitLen x = n + Lib.bitLen (x / m)) (hn : n ≤ 56) {h : b.toNat < Lib.len8tab.size} : wrap64 ((n : Int) + wrap64 ((Lib.len8tab[b.toNat]'h).toNat : Int)) = ((Lib.bitLen x : Nat) : Int) := by
  subst hb
  rw [tab_at ((x / m : Nat) : Int) (Int.natCast_nonneg _) (Int.ofNat_lt.2 hm), Int.toNat_natCast, hs]
  have l := Lib.bitLen_le8 ⟨x / m, hm⟩
  simp only at l
  generalize Lib.bitLen (x / m) = k at *
  unfold wrap64
  omega
set_option maxRecDepth 100000 in
set_option maxHeartbeats 1000000 in
theorem len64_0 (x : Nat) (w : World) (hx : x < 18446744073709551616) (c0 : 4294967296 ≤ x) (c1 : 281474976710656 ≤ x) (c2 : 72057594037927936 ≤ x) :
    Calls Try.prog 131 #[.int .u64 x] w fun e w' => e = .returned (.int .i64 (Lib.bitLen x)) ∧ w' = w := by
  have e0 : (x : Int) = ((x : Nat) : Int) := rfl
  have t0 : decide ((4294967296 : Int) ≤ (x : Int)) = true := decide_eq_true (by rw [e0]; omega)
  have e1 : (x : Int) / 4294967296 = ((x / 4294967296 : Nat) : Int) := (by rw [Int.natCast_ediv]; rfl)
  have t1 : decide ((65536 : Int) ≤ (x : Int) / 4294967296) = true := decide_eq_true (by rw [e1]; omega)
  have e2 : (x : Int) / 4294967296 / 65536 = ((x / 281474976710656 : Nat) : Int) := (qd2 x 4294967296 65536 281474976710656 rfl)
  have t2 : decide ((256 : Int) ≤ (x : Int) / 4294967296 / 65536) = true := decide_eq_true (by rw [e2]; omega)
  have eb : (x : Int) / 4294967296 / 65536 / 256 = ((x / 72057594037927936 : Nat) : Int) := qd3 x 4294967296 65536 256 72057594037927936 rfl
  have hb : x / 72057594037927936 < 256 := by omega
  have h2 : (x : Int) / 4294967296 / 65536 / 256 < 256 := by rw [eb]; omega
  have h3 : 0 ≤ (x : Int) / 4294967296 / 65536 / 256 := by rw [eb]; omega
  have Hs : Hid (Lib.bitLen x = 56 + Lib.bitLen (x / 72057594037927936)) := Lib.bitLen_shift56 x (by omega) hx
  have Eb := Lib.hid eb
  have Hb := Lib.hid hb
  clear eb e0 e1 e2 c0 c1 c2 hb
  go_enter Try.func131, Try.ntmps131
  go_wp2_with fail
  go_ret
  exact ⟨ret_int (len_end 56 72057594037927936 x _ Eb.out Hb.out Hs.out (by omega)), rfl⟩
set_option maxRecDepth 100000 in
set_option maxHeartbeats 1000000 in
theorem len64_1 (x : Nat) (w : World) (hx : x < 18446744073709551616) (c0 : 4294967296 ≤ x) (c1 : 281474976710656 ≤ x) (c2 : x < 72057594037927936) :
    Calls Try.prog 131 #[.int .u64 x] w fun e w' => e = .returned (.int .i64 (Lib.bitLen x)) ∧ w' = w := by
  have e0 : (x : Int) = ((x : Nat) : Int) := rfl
  have t0 : decide ((4294967296 : Int) ≤ (x : Int)) = true := decide_eq_true (by rw [e0]; omega)
  have e1 : (x : Int) / 4294967296 = ((x / 4294967296 : Nat) : Int) := (by rw [Int.natCast_ediv]; rfl)
  have t1 : decide ((65536 : Int) ≤ (x : Int) / 4294967296) = true := decide_eq_true (by rw [e1]; omega)
  have e2 : (x : Int) / 4294967296 / 65536 = ((x / 281474976710656 : Nat) : Int) := (qd2 x 4294967296 65536 281474976710656 rfl)
  have t2 : decide ((256 : Int) ≤ (x : Int) / 4294967296 / 65536) = false := decide_eq_false (by rw [e2]; omega)
  have eb : (x : Int) / 4294967296 / 65536 = ((x / 281474976710656 : Nat) : Int) := qd2 x 4294967296 65536 281474976710656 rfl
  have hb : x / 281474976710656 < 256 := by omega
  have h2 : (x : Int) / 4294967296 / 65536 < 256 := by rw [eb]; omega
  have h3 : 0 ≤ (x : Int) / 4294967296 / 65536 := by rw [eb]; omega
  have Hs : Hid (Lib.bitLen x = 48 + Lib.bitLen (x / 281474976710656)) := Lib.bitLen_shift48 x (by omega) hx
  have Eb := Lib.hid eb
  have Hb := Lib.hid hb
  clear eb e0 e1 e2 c0 c1 c2 hb
  go_enter Try.func131, Try.ntmps131
  go_wp2_with fail
  go_ret
  exact ⟨ret_int (len_end 48 281474976710656 x _ Eb.out Hb.out Hs.out (by omega)), rfl⟩
set_option maxRecDepth 100000 in
set_option maxHeartbeats 1000000 in
theorem len64_2 (x : Nat) (w : World) (hx : x < 18446744073709551616) (c0 : 4294967296 ≤ x) (c1 : x < 281474976710656) (c2 : 1099511627776 ≤ x) :
    Calls Try.prog 131 #[.int .u64 x] w fun e w' => e = .returned (.int .i64 (Lib.bitLen x)) ∧ w' = w := by
  have e0 : (x : Int) = ((x : Nat) : Int) := rfl
  have t0 : decide ((4294967296 : Int) ≤ (x : Int)) = true := decide_eq_true (by rw [e0]; omega)
  have e1 : (x : Int) / 4294967296 = ((x / 4294967296 : Nat) : Int) := (by rw [Int.natCast_ediv]; rfl)
  have t1 : decide ((65536 : Int) ≤ (x : Int) / 4294967296) = false := decide_eq_false (by rw [e1]; omega)
  have e2 : (x : Int) / 4294967296 = ((x / 4294967296 : Nat) : Int) := (by rw [Int.natCast_ediv]; rfl)
  have t2 : decide ((256 : Int) ≤ (x : Int) / 4294967296) = true := decide_eq_true (by rw [e2]; omega)
  have eb : (x : Int) / 4294967296 / 256 = ((x / 1099511627776 : Nat) : Int) := qd2 x 4294967296 256 1099511627776 rfl
  have hb : x / 1099511627776 < 256 := by omega
  have h2 : (x : Int) / 4294967296 / 256 < 256 := by rw [eb]; omega
  have h3 : 0 ≤ (x : Int) / 4294967296 / 256 := by rw [eb]; omega
  have Hs : Hid (Lib.bitLen x = 40 + Lib.bitLen (x / 1099511627776)) := Lib.bitLen_shift40 x (by omega) hx
  have Eb := Lib.hid eb
  have Hb := Lib.hid hb
  clear eb e0 e1 e2 c0 c1 c2 hb
  go_enter Try.func131, Try.ntmps131
  go_wp2_with fail
  go_ret
  exact ⟨ret_int (len_end 40 1099511627776 x _ Eb.out Hb.out Hs.out (by omega)), rfl⟩
set_option maxRecDepth 100000 in
set_option maxHeartbeats 1000000 in
theorem len64_3 (x : Nat) (w : World) (hx : x < 18446744073709551616) (c0 : 4294967296 ≤ x) (c1 : x < 281474976710656) (c2 : x < 1099511627776) :
    Calls Try.prog 131 #[.int .u64 x] w fun e w' => e = .returned (.int .i64 (Lib.bitLen x)) ∧ w' = w := by
  have e0 : (x : Int) = ((x : Nat) : Int) := rfl
  have t0 : decide ((4294967296 : Int) ≤ (x : Int)) = true := decide_eq_true (by rw [e0]; omega)
  have e1 : (x : Int) / 4294967296 = ((x / 4294967296 : Nat) : Int) := (by rw [Int.natCast_ediv]; rfl)
  have t1 : decide ((65536 : Int) ≤ (x : Int) / 4294967296) = false := decide_eq_false (by rw [e1]; omega)
  have e2 : (x : Int) / 4294967296 = ((x / 4294967296 : Nat) : Int) := (by rw [Int.natCast_ediv]; rfl)
  have t2 : decide ((256 : Int) ≤ (x : Int) / 4294967296) = false := decide_eq_false (by rw [e2]; omega)
  have eb : (x : Int) / 4294967296 = ((x / 4294967296 : Nat) : Int) := by rw [Int.natCast_ediv]; rfl
  have hb : x / 4294967296 < 256 := by omega
  have h2 : (x : Int) / 4294967296 < 256 := by rw [eb]; omega
  have h3 : 0 ≤ (x : Int) / 4294967296 := by rw [eb]; omega
  have Hs : Hid (Lib.bitLen x = 32 + Lib.bitLen (x / 4294967296)) := Lib.bitLen_shift32 x (by omega) hx
  have Eb := Lib.hid eb
  have Hb := Lib.hid hb
  clear eb e0 e1 e2 c0 c1 c2 hb
  go_enter Try.func131, Try.ntmps131
  go_wp2_with fail
  go_ret
  exact ⟨ret_int (len_end 32 4294967296 x _ Eb.out Hb.out Hs.out (by omega)), rfl⟩
set_option maxRecDepth 100000 in
set_option maxHeartbeats 1000000 in
theorem len64_4 (x : Nat) (w : World) (hx : x < 18446744073709551616) (c0 : x < 4294967296) (c1 : 65536 ≤ x) (c2 : 16777216 ≤ x) :
    Calls Try.prog 131 #[.int .u64 x] w fun e w' => e = .returned (.int .i64 (Lib.bitLen x)) ∧ w' = w := by
  have e0 : (x : Int) = ((x : Nat) : Int) := rfl
  have t0 : decide ((4294967296 : Int) ≤ (x : Int)) = false := decide_eq_false (by rw [e0]; omega)
  have e1 : (x : Int) = ((x : Nat) : Int) := rfl
  have t1 : decide ((65536 : Int) ≤ (x : Int)) = true := decide_eq_true (by rw [e1]; omega)
  have e2 : (x : Int) / 65536 = ((x / 65536 : Nat) : Int) := (by rw [Int.natCast_ediv]; rfl)
  have t2 : decide ((256 : Int) ≤ (x : Int) / 65536) = true := decide_eq_true (by rw [e2]; omega)
  have eb : (x : Int) / 65536 / 256 = ((x / 16777216 : Nat) : Int) := qd2 x 65536 256 16777216 rfl
  have hb : x / 16777216 < 256 := by omega
  have h2 : (x : Int) / 65536 / 256 < 256 := by rw [eb]; omega
  have h3 : 0 ≤ (x : Int) / 65536 / 256 := by rw [eb]; omega
  have Hs : Hid (Lib.bitLen x = 24 + Lib.bitLen (x / 16777216)) := Lib.bitLen_shift24 x (by omega) hx
  have Eb := Lib.hid eb
  have Hb := Lib.hid hb
  clear eb e0 e1 e2 c0 c1 c2 hb
  go_enter Try.func131, Try.ntmps131
  go_wp2_with fail
  go_ret
  exact ⟨ret_int (len_end 24 16777216 x _ Eb.out Hb.out Hs.out (by omega)), rfl⟩
set_option maxRecDepth 100000 in
set_option maxHeartbeats 1000000 in
theorem len64_5 (x : Nat) (w : World) (hx : x < 18446744073709551616) (c0 : x < 4294967296) (c1 : 65536 ≤ x) (c2 : x < 16777216) :
    Calls Try.prog 131 #[.int .u64 x] w fun e w' => e = .returned (.int .i64 (Lib.bitLen x)) ∧ w' = w := by
  have e0 : (x : Int) = ((x : Nat) : Int) := rfl
  have t0 : decide ((4294967296 : Int) ≤ (x : Int)) = false := decide_eq_false (by rw [e0]; omega)
  have e1 : (x : Int) = ((x : Nat) : Int) := rfl
  have t1 : decide ((65536 : Int) ≤ (x : Int)) = true := decide_eq_true (by rw [e1]; omega)
  have e2 : (x : Int) / 65536 = ((x / 65536 : Nat) : Int) := (by rw [Int.natCast_ediv]; rfl)
  have t2 : decide ((256 : Int) ≤ (x : Int) / 65536) = false := decide_eq_false (by rw [e2]; omega)
  have eb : (x : Int) / 65536 = ((x / 65536 : Nat) : Int) := by rw [Int.natCast_ediv]; rfl
  have hb : x / 65536 < 256 := by omega
  have h2 : (x : Int) / 65536 < 256 := by rw [eb]; omega
  have h3 : 0 ≤ (x : Int) / 65536 := by rw [eb]; omega
  have Hs : Hid (Lib.bitLen x = 16 + Lib.bitLen (x / 65536)) := Lib.bitLen_shift16 x (by omega) hx
  have Eb := Lib.hid eb
  have Hb := Lib.hid hb
  clear eb e0 e1 e2 c0 c1 c2 hb
  go_enter Try.func131, Try.ntmps131
  go_wp2_with fail
  go_ret
  exact ⟨ret_int (len_end 16 65536 x _ Eb.out Hb.out Hs.out (by omega)), rfl⟩
set_option maxRecDepth 100000 in
set_option maxHeartbeats 1000000 in
theorem len64_6 (x : Nat) (w : World) (hx : x < 18446744073709551616) (c0 : x < 4294967296) (c1 : x < 65536) (c2 : 256 ≤ x) :
    Calls Try.prog 131 #[.int .u64 x] w fun e w' => e = .returned (.int .i64 (Lib.bitLen x)) ∧ w' = w := by
  have e0 : (x : Int) = ((x : Nat) : Int) := rfl
  have t0 : decide ((4294967296 : Int) ≤ (x : Int)) = false := decide_eq_false (by rw [e0]; omega)
  have e1 : (x : Int) = ((x : Nat) : Int) := rfl
  have t1 : decide ((65536 : Int) ≤ (x : Int)) = false := decide_eq_false (by rw [e1]; omega)
  have e2 : (x : Int) = ((x : Nat) : Int) := rfl
  have t2 : decide ((256 : Int) ≤ (x : Int)) = true := decide_eq_true (by rw [e2]; omega)
  have eb : (x : Int) / 256 = ((x / 256 : Nat) : Int) := by rw [Int.natCast_ediv]; rfl
  have hb : x / 256 < 256 := by omega
  have h2 : (x : Int) / 256 < 256 := by rw [eb]; omega
  have h3 : 0 ≤ (x : Int) / 256 := by rw [eb]; omega
  have Hs : Hid (Lib.bitLen x = 8 + Lib.bitLen (x / 256)) := Lib.bitLen_shift8 x (by omega) hx
  have Eb := Lib.hid eb
  have Hb := Lib.hid hb
  clear eb e0 e1 e2 c0 c1 c2 hb
  go_enter Try.func131, Try.ntmps131
  go_wp2_with fail
  go_ret
  exact ⟨ret_int (len_end 8 256 x _ Eb.out Hb.out Hs.out (by omega)), rfl⟩
set_option maxRecDepth 100000 in
set_option maxHeartbeats 1000000 in
theorem len64_7 (x : Nat) (w : World) (hx : x < 18446744073709551616) (c0 : x < 4294967296) (c1 : x < 65536) (c2 : x < 256) :
    Calls Try.prog 131 #[.int .u64 x] w fun e w' => e = .returned (.int .i64 (Lib.bitLen x)) ∧ w' = w := by
  have e0 : (x : Int) = ((x : Nat) : Int) := rfl
  have t0 : decide ((4294967296 : Int) ≤ (x : Int)) = false := decide_eq_false (by rw [e0]; omega)
  have e1 : (x : Int) = ((x : Nat) : Int) := rfl
  have t1 : decide ((65536 : Int) ≤ (x : Int)) = false := decide_eq_false (by rw [e1]; omega)
  have e2 : (x : Int) = ((x : Nat) : Int) := rfl
  have t2 : decide ((256 : Int) ≤ (x : Int)) = false := decide_eq_false (by rw [e2]; omega)
  have eb : (x : Int) = ((x / 1 : Nat) : Int) := by rw [Nat.div_one]
  have hb : x / 1 < 256 := by omega
  have h2 : (x : Int) < 256 := by rw [eb]; omega
  have h3 : 0 ≤ (x : Int) := by rw [eb]; omega
  have Hs : Hid (Lib.bitLen x = 0 + Lib.bitLen (x / 1)) := by show _ = _; rw [Nat.div_one, Nat.zero_add]
  have Eb := Lib.hid eb
  have hsz : x < Lib.len8tab.size := by rw [Lib.len8tab_size]; omega
  have Hb := Lib.hid hb
  clear eb e0 e1 e2 c0 c1 c2 hb
  go_enter Try.func131, Try.ntmps131
  go_wp2_with fail
  go_ret
  have hfin := len_end 0 1 x (x : Int) Eb.out Hb.out Hs.out (by omega) (h := hsz)
  simp only [Int.natCast_zero, Int.zero_add] at hfin
  exact ⟨ret_int hfin, rfl⟩
theorem len64_any (x : Nat) (w : World) (hx : x < 18446744073709551616) :
    Calls Try.prog 131 #[.int .u64 x] w fun e w' => e = .returned (.int .i64 (Lib.bitLen x)) ∧ w' = w := by
  rcases Nat.lt_or_ge x 4294967296 with c0 | c0
  · rcases Nat.lt_or_ge x 65536 with c1 | c1
    · rcases Nat.lt_or_ge x 256 with c2 | c2
      · exact len64_7 x w hx c0 c1 c2
      · exact len64_6 x w hx c0 c1 c2
    · rcases Nat.lt_or_ge x 16777216 with c2 | c2
      · exact len64_5 x w hx c0 c1 c2
      · exact len64_4 x w hx c0 c1 c2
  · rcases Nat.lt_or_ge x 281474976710656 with c1 | c1
    · rcases Nat.lt_or_ge x 1099511627776 with c2 | c2
      · exact len64_3 x w hx c0 c1 c2
      · exact len64_2 x w hx c0 c1 c2
    · rcases Nat.lt_or_ge x 72057594037927936 with c2 | c2
      · exact len64_1 x w hx c0 c1 c2
      · exact len64_0 x w hx c0 c1 c2
theorem bitLen_lo {x k : Nat} (h : 2 ^ k ≤ x) (hx : x < 2 ^ 64) : k + 1 ≤ Lib.bitLen x := by
  rw [Lib.bitLen_shift k x h hx]
  have h1 : 1 ≤ x / 2 ^ k := by rw [Nat.le_div_iff_mul_le (Nat.two_pow_pos k)]; omega
  have h2 : x / 2 ^ k < 2 ^ 64 := Nat.lt_of_le_of_lt (Nat.div_le_self _ _) hx
  rw [Lib.bitLen_half (x / 2 ^ k) (by omega) h2]
  omega
theorem bitLen_hi {x : Nat} (hx : x < 2 ^ 64) : x < 2 ^ Lib.bitLen x := by
  rcases Nat.lt_or_ge x (2 ^ Lib.bitLen x) with h | h
  · exact h
  · have := bitLen_lo h hx
    omega
theorem bitLen_ge {x : Nat} (h0 : 0 < x) (hx : x < 2 ^ 64) : 1 ≤ Lib.bitLen x ∧ 2 ^ (Lib.bitLen x - 1) ≤ x := by
  have h1 : 1 ≤ Lib.bitLen x := bitLen_lo (k := 0) h0 hx
  refine ⟨h1, ?_⟩
  rcases Nat.lt_or_ge x (2 ^ (Lib.bitLen x - 1)) with h | h
  · have := Lib.bitLen_le x (Lib.bitLen x - 1) (by have := Lib.bitLen_le x 64 (Nat.le_refl _) hx; omega) h
    omega
  · exact h
theorem lz64_any (x : Nat) (w : World) (h1 : x < 18446744073709551616) :
    Calls Try.prog 124 #[.int .u64 x] w fun e w' => e = .returned (.int .i64 ((64 - Lib.bitLen x : Nat) : Int)) ∧ w' = w := by
  have hl := Lib.bitLen_le x 64 (Nat.le_refl _) h1
  have hc := len64_any x w h1
  generalize Lib.bitLen x = n at *
  go_enter Try.func124, Try.ntmps124
  go_wp2_with fail
  refine hc.mono ?_
  rintro e w' ⟨rfl, rfl⟩
  go_wp2_with fail
  go_ret
  exact ⟨ret_int (by omega), rfl⟩
theorem maskN (a : Nat) (ha : a < 18446744073709551616) : bits .and .u64 (a : Int) 4294967295 = ((a % 4294967296 : Nat) : Int) := by
  have h := bits_and_u64_nat a 4294967295 ha (by omega)
  have e : a &&& 4294967295 = a % 4294967296 := Nat.and_two_pow_sub_one_eq_mod a 32
  rw [e] at h
  exact h
theorem divN (a : Nat) : (a : Int) / 4294967296 = ((a / 4294967296 : Nat) : Int) := by omega
theorem mulN (a b : Nat) : (a : Int) * (b : Int) = ((a * b : Nat) : Int) := (Int.natCast_mul a b).symm
theorem addN (a b : Nat) : (a : Int) + (b : Int) = ((a + b : Nat) : Int) := (Int.natCast_add a b).symm
theorem wrapN (a : Nat) (ha : a < 18446744073709551616) : IntKind.u64.wrap (a : Int) = (a : Int) := by rw [IntKind.wrap_u64]; omega
theorem wrapM (a : Nat) : IntKind.u64.wrap (a : Int) = ((a % 18446744073709551616 : Nat) : Int) := by rw [IntKind.wrap_u64]; omega
set_option maxHeartbeats 1000000 in
/-- The product's two words. -/
theorem mul64_any (x y : Nat) (hx : x < 18446744073709551616) (hy : y < 18446744073709551616) (w : World) :
    Calls Try.prog 106 #[.int .u64 x, .int .u64 y] w fun e w' => e = .returned (.tuple #[.int .u64 ((x * y / 18446744073709551616 : Nat) : Int), .int .u64 ((x * y % 18446744073709551616 : Nat) : Int)]) ∧ w' = w := by
  obtain ⟨bd, bt, bw, hhi⟩ := Lib.mul64_hi x y hx hy
  have ba := Lib.half_mul_le (a := x / 4294967296) (b := y / 4294967296) (by omega) (by omega)
  have bb := Lib.half_mul_le (a := x / 4294967296) (b := y % 4294967296) (by omega) (by omega)
  have bc := Lib.half_mul_le (a := x % 4294967296) (b := y / 4294967296) (by omega) (by omega)
  have ba' : x / 4294967296 * (y / 4294967296) < 18446744073709551616 := by omega
  have bb' : x / 4294967296 * (y % 4294967296) < 18446744073709551616 := by omega
  have bc' : x % 4294967296 * (y / 4294967296) < 18446744073709551616 := by omega
  have bh1 : x / 4294967296 * (y / 4294967296) + (x / 4294967296 * (y % 4294967296) + x % 4294967296 * (y % 4294967296) / 4294967296) / 4294967296 < 18446744073709551616 := by omega
  have bh : x / 4294967296 * (y / 4294967296) + (x / 4294967296 * (y % 4294967296) + x % 4294967296 * (y % 4294967296) / 4294967296) / 4294967296 + ((x / 4294967296 * (y % 4294967296) + x % 4294967296 * (y % 4294967296) / 4294967296) % 4294967296 + x % 4294967296 * (y / 4294967296)) / 4294967296 < 18446744073709551616 := by omega
  go_enter Try.func106, Try.ntmps106
  go_wp2
  simp only [maskN x hx, maskN y hy, divN, mulN, addN, wrapN _ bd, wrapN _ bb', wrapN _ bt, maskN _ bt, wrapN _ bc', wrapN _ bw, wrapN _ ba', wrapN _ bh1, wrapN _ bh, wrapM (x * y)]
  rw [hhi]
  go_ret2
  exact ⟨rfl, rfl⟩
def sub64Entry : Array Value → Sem Value := fun args => do
  let (x, y, b) ← Extern.MathBitsCarry.three "Sub64" args
  pure (Extern.MathBitsCarry.pair ((x + Extern.MathBitsCarry.m64 - y - b) % Extern.MathBitsCarry.m64) (if x < y + b then 1 else 0))
/-- The difference, and what is borrowed. -/
theorem sub64_run (x y b : Int) (h1 : 0 ≤ x ∧ x < 18446744073709551616) (h2 : 0 ≤ y ∧ y < 18446744073709551616) (h3 : 0 ≤ b ∧ b ≤ 1) (w : World) :
    (callFunc 130 #[.int .u64 x, .int .u64 y, .int .u64 b]).run Try.prog w = .ok (.value (.tuple #[.int .u64 ((x - y - b) % 18446744073709551616), .int .u64 (if x < y + b then 1 else 0)])) w := by
  have hf := run_callFunc_extern (P := Try.prog) (f := 130) (e := sub64Entry) Try.func130 (by kernel_rfl) (by kernel_rfl) (by kernel_rfl) (by kernel_rfl) #[.int .u64 x, .int .u64 y, .int .u64 b] w
  rw [hf]
  have key : ∀ k : Nat, k ≤ 1 → (sub64Entry #[.int .u64 x, .int .u64 y, .int .u64 (k : Int)]).run Try.prog w =
      .ok (Extern.MathBitsCarry.pair ((x.toNat + Extern.MathBitsCarry.m64 - y.toNat - k) % Extern.MathBitsCarry.m64) (if x.toNat < y.toNat + k then 1 else 0)) w := by
    intro k hk
    have : k = 0 ∨ k = 1 := by omega
    rcases this with rfl | rfl <;> rfl
  obtain ⟨k, rfl⟩ := Int.eq_ofNat_of_zero_le h3.1
  obtain ⟨X, rfl⟩ := Int.eq_ofNat_of_zero_le h1.1
  obtain ⟨Y, rfl⟩ := Int.eq_ofNat_of_zero_le h2.1
  rw [key k (by omega)]
  simp only [Extern.MathBitsCarry.pair, Extern.MathBitsCarry.m64, Int.toNat_natCast, Result.andThen_ok]
  have e1 : (Int.ofNat ((X + 2 ^ 64 - Y - k) % 2 ^ 64)) = ((X : Int) - Y - k) % 18446744073709551616 := by
    show (((X + 2 ^ 64 - Y - k) % 2 ^ 64 : Nat) : Int) = _
    omega
  have e2 : Int.ofNat (if X < Y + k then 1 else 0) = if (X : Int) < Y + k then 1 else 0 := by
    by_cases h : X < Y + k
    · rw [if_pos h, if_pos (by omega)]; rfl
    · rw [if_neg h, if_neg (by omega)]; rfl
  rw [e1, e2]
end Go.Proofs.Ytmadlmmfbpmebaa
