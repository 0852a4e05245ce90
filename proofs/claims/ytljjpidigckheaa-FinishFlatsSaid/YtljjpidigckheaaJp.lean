/- The contracts of whole, Cmp and Compare of the reference of chapter 1. -/
import Derived.Test.YtljjpidigckheaaR1s
namespace Go.Proofs.Ytljjpidigckheaa.Un
open Go.RowKit
set_option maxRecDepth 100000 in
set_option maxHeartbeats 1000000 in
theorem whole_any (n d : Int) (w : World) (b1 : -2000000000000000 ≤ n) (b2 : n ≤ 2000000000000000) (hd : 1 ≤ d) (b4 : d ≤ 2000000000000000) : Calls Try.prog 107 #[I n, I d] w fun e w' => e = .returned (.tuple #[I (n / d), I (n % d)]) ∧ Below w.heap.size w w' := by
 obtain ⟨q, hq⟩ : ∃ q, n.tdiv d = q := ⟨_, rfl⟩
 obtain ⟨r, hr⟩ : ∃ r, n.tmod d = r := ⟨_, rfl⟩
 have hqr : (-2000000000000000 ≤ q ∧ q ≤ 2000000000000000) ∧ -d < r ∧ r < d ∧ n / d = (if r < 0 then q - 1 else q) ∧ n % d = (if r < 0 then r + d else r) := by
  obtain ⟨D, rfl⟩ : ∃ D : Nat, d = D := ⟨d.toNat, by omega⟩
  by_cases hn : 0 ≤ n
  · obtain ⟨m, rfl⟩ : ∃ m : Nat, n = m := ⟨n.toNat, by omega⟩
    rw [← Int.ofNat_tdiv] at hq
    rw [← Int.ofNat_tmod] at hr
    have h1 := Nat.div_le_self m D
    have h2 := Nat.mod_lt m (show D > 0 by omega)
    rw [← Int.natCast_ediv, ← Int.natCast_emod]
    generalize m / D = k at *
    generalize m % D = j at *
    rw [if_neg (by omega), if_neg (by omega)]
    omega
  · obtain ⟨m, rfl⟩ : ∃ m : Nat, n = -(m : Int) := ⟨n.natAbs, by omega⟩
    rw [tdiv_neg] at hq
    rw [tmod_neg] at hr
    have h1 := Nat.div_le_self m D
    have h2 := Nat.mod_lt m (show D > 0 by omega)
    rw [floor_neg (by omega), mod_neg (by omega)]
    generalize m / D = k at *
    generalize m % D = j at *
    by_cases h0 : j = 0
    · rw [if_pos h0, if_pos h0, if_neg (by omega), if_neg (by omega)]; omega
    · rw [if_neg h0, if_neg h0, if_pos (by omega), if_pos (by omega)]; omega
 have d0 : decide (d = 0) = false := decide_eq_false (by omega)
 have HQ := Lib.hid hqr
 have HD := Lib.hid hd
 have HB := Lib.hid b4
 clear hqr b1 b2 b4
 obtain ⟨u0, hu0⟩ := ovr_self w
 have H0 := Lib.hid hu0
 clear hu0
 go_enter Try.func107, Try.ntmps107
 go_wp2_with fail
 refine wp_region_below_lit (by kernel_rfl) (by kernel_rfl) ?_
 repeat (go_big_quiet_step (fail))
 refine wpQuiet_nil ?_
 intro w1 hb1
 have cq : wrap64 q = q := by have := HQ.out; unfold wrap64; omega
 rw [cq]
 have HB1 := Lib.hid hb1
 clear hb1
 by_cases hs : r < 0
 · have e1 : q - 1 = n / d := by have := HQ.out.2.2.2.1; rw [if_pos hs] at this; omega
   have e2 : r + d = n % d := by have := HQ.out.2.2.2.2; rw [if_pos hs] at this; omega
   have hb := decide_eq_true hs
   have c1 : IntKind.i64.wrap (q - 1) = q - 1 := IntWalk.i64_in _ (by have := HQ.out; omega)
   have c2 : IntKind.i64.wrap (r + d) = r + d := IntWalk.i64_in _ (by have := HQ.out; have := HD.out; have := HB.out; omega)
   have E1 := Lib.hid e1
   have E2 := Lib.hid e2
   clear e1 e2 hs
   go_wp2_with fail
   go_ret2
   exact ⟨by rw [← E1.out, ← E2.out]; rfl, HB1.out⟩
 · have e1 : q = n / d := by have := HQ.out.2.2.2.1; rw [if_neg hs] at this; omega
   have e2 : r = n % d := by have := HQ.out.2.2.2.2; rw [if_neg hs] at this; omega
   have hb := decide_eq_false hs
   have E1 := Lib.hid e1
   have E2 := Lib.hid e2
   clear e1 e2 hs
   go_wp2_with fail
   go_ret2
   exact ⟨by rw [← E1.out, ← E2.out]; rfl, HB1.out⟩
theorem cmpI_shift (X u v : Int) : cmpI (X + u) (X + v) = cmpI u v := by
 unfold cmpI
 by_cases h1 : u < v
 · rw [if_pos h1, if_pos (by omega)]
 · rw [if_neg h1, if_neg (by omega)]
   by_cases h2 : u = v
   · rw [if_pos h2, if_pos (by omega)]
   · rw [if_neg h2, if_neg (by omega)]
theorem cmp_whole_lt {a b c d : Int} (hb : 1 ≤ b) (hd : 1 ≤ d) (h : a / b < c / d) : a * d < c * b := by
 have h1 : a < (a / b + 1) * b := Int.lt_ediv_add_one_mul_self a (by omega)
 have h2 : c / d * d ≤ c := Int.ediv_mul_le c (by omega)
 have h3 : a * d < (a / b + 1) * b * d := Int.mul_lt_mul_of_pos_right h1 (by omega)
 have h4 : (a / b + 1) * d ≤ c / d * d := Int.mul_le_mul_of_nonneg_right (by omega) (by omega)
 have h5 : (a / b + 1) * d * b ≤ c * b := Int.mul_le_mul_of_nonneg_right (by omega) (by omega)
 have h6 : (a / b + 1) * b * d = (a / b + 1) * d * b := by rw [Int.mul_assoc, Int.mul_comm b d, ← Int.mul_assoc]
 omega
theorem cmp_whole_eq {a b c d : Int} (h : a / b = c / d) : cmpI (a * d) (c * b) = cmpI (a % b * d) (c % d * b) := by
 have h1 : a = b * (a / b) + a % b := (Int.mul_ediv_add_emod a b).symm
 have h2 : c = d * (a / b) + c % d := by rw [h]; exact (Int.mul_ediv_add_emod c d).symm
 have e1 : a * d = b * (a / b) * d + a % b * d := by rw [← Int.add_mul, ← h1]
 have e2 : c * b = b * (a / b) * d + c % d * b := by
  rw [show b * (a / b) * d = d * (a / b) * b by rw [Int.mul_comm b, Int.mul_comm d, Int.mul_assoc, Int.mul_assoc, Int.mul_comm b d], ← Int.add_mul, ← h2]
 rw [e1, e2, cmpI_shift]
set_option maxRecDepth 100000 in
set_option maxHeartbeats 2000000 in
theorem cmp4_any : ∀ (m : Nat) (a b c d : Int) (w : World), -1000000000000000 ≤ a ∧ a ≤ 1000000000000000 → -1000000000000000 ≤ c ∧ c ≤ 1000000000000000 → 1 ≤ b ∧ b ≤ 1000000000000000 → 1 ≤ d ∧ d ≤ 1000000000000000 → b + d ≤ m →
 Calls Try.prog 71 #[I a, I b, I c, I d] w fun e w' => e = .returned (I (cmpI (a * d) (c * b))) ∧ Below w.heap.size w w'
 | 0, a, b, c, d, w, _, _, hb, hd, hm => by omega
 | m + 1, a, b, c, d, w, ha, hc, hb, hd, hm => by
   have Ih := Lib.hid (cmp4_any m)
   have ca := Lib.hid fun w => whole_any a b w (by omega) (by omega) hb.1 (by omega)
   have cc := Lib.hid fun w => whole_any c d w (by omega) (by omega) hd.1 (by omega)
   have l1 := Int.emod_lt_of_pos a (show 0 < b by omega)
   have l2 := Int.emod_lt_of_pos c (show 0 < d by omega)
   have n1 := Int.emod_nonneg a (show b ≠ 0 by omega)
   have n2 := Int.emod_nonneg c (show d ≠ 0 by omega)
   have Hlt := Lib.hid (@cmp_whole_lt a b c d hb.1 hd.1)
   have Hgt := Lib.hid (@cmp_whole_lt c d a b hd.1 hb.1)
   have Heq := Lib.hid (@cmp_whole_eq a b c d)
   have P := Lib.hid (And.intro hb (And.intro hd hm))
   clear ha hc hb hd hm
   obtain ⟨v, hv⟩ : ∃ v, cmpI (a * d) (c * b) = v := ⟨_, rfl⟩
   rw [hv]
   have HV := Lib.hid hv
   clear hv
   obtain ⟨r, hr⟩ : ∃ r, a % b = r := ⟨_, rfl⟩
   obtain ⟨s, hs⟩ : ∃ s, c % d = s := ⟨_, rfl⟩
   obtain ⟨p, hp⟩ : ∃ p, a / b = p := ⟨_, rfl⟩
   obtain ⟨q, hq⟩ : ∃ q, c / d = q := ⟨_, rfl⟩
   rw [hr] at l1 n1 ca Heq
   rw [hs] at l2 n2 cc Heq
   rw [hp] at ca Heq Hlt Hgt
   rw [hq] at cc Heq Hlt Hgt
   clear hr hs hp hq
   rcases Int.lt_trichotomy p q with h | h | h
   · have hb := decide_eq_true h
     have hw : Hid (v = -1) := by show v = _; rw [← HV.out]; exact cmpI_lt (Hlt.out h)
     clear h l1 l2 n1 n2
     go_enter Try.func71, Try.ntmps71
     go_wp2_with fail
     refine (ca.out _).mono ?_
     rintro e w1 ⟨rfl, hb1⟩
     have B1 := Lib.hid hb1
     clear hb1
     go_wp2_with fail
     refine (cc.out _).mono ?_
     rintro e w2 ⟨rfl, hb2⟩
     have B2 := Lib.hid (B1.out.trans (hb2.mono B1.out.size))
     clear hb2
     go_wp2_with fail
     go_ret
     exact ⟨by rw [hw.out]; rfl, B2.out⟩
   · subst h
     have h0 : decide (p < p) = false := decide_eq_false (by omega)
     have he := Heq.out rfl
     rw [HV.out] at he
     by_cases hr : r = 0
     · subst hr
       by_cases hs : s = 0
       · subst hs
         have hw : Hid (v = 0) := by show v = _; rw [he]; exact cmpI_eq (by simp)
         clear l1 l2 n1 n2 he
         go_enter Try.func71, Try.ntmps71
         go_wp2_with fail
         refine (ca.out _).mono ?_
         rintro e w1 ⟨rfl, hb1⟩
         have B1 := Lib.hid hb1
         clear hb1
         go_wp2_with fail
         refine (cc.out _).mono ?_
         rintro e w2 ⟨rfl, hb2⟩
         have B2 := Lib.hid (B1.out.trans (hb2.mono B1.out.size))
         clear hb2
         go_wp2_with fail
         go_ret
         exact ⟨by rw [hw.out]; rfl, B2.out⟩
       · have hsb : (s == 0) = false := by simpa using hs
         have hw : Hid (v = -1) := by
           show v = _
           rw [he]
           have : 0 < s * b := Int.mul_pos (by omega) (by have := P.out; omega)
           exact cmpI_lt (by simpa using this)
         clear l1 l2 n1 n2 he hs
         go_enter Try.func71, Try.ntmps71
         go_wp2_with fail
         refine (ca.out _).mono ?_
         rintro e w1 ⟨rfl, hb1⟩
         have B1 := Lib.hid hb1
         clear hb1
         go_wp2_with fail
         refine (cc.out _).mono ?_
         rintro e w2 ⟨rfl, hb2⟩
         have B2 := Lib.hid (B1.out.trans (hb2.mono B1.out.size))
         clear hb2
         go_wp2_with fail
         go_ret
         exact ⟨by rw [hw.out]; rfl, B2.out⟩
     · have hrb : (r == 0) = false := by simpa using hr
       by_cases hs : s = 0
       · subst hs
         have hw : Hid (v = 1) := by
           show v = _
           rw [he]
           have : 0 < r * d := Int.mul_pos (by omega) (by have := P.out; omega)
           exact cmpI_gt (by simpa using this)
         clear l1 l2 n1 n2 he hr
         go_enter Try.func71, Try.ntmps71
         go_wp2_with fail
         refine (ca.out _).mono ?_
         rintro e w1 ⟨rfl, hb1⟩
         have B1 := Lib.hid hb1
         clear hb1
         go_wp2_with fail
         refine (cc.out _).mono ?_
         rintro e w2 ⟨rfl, hb2⟩
         have B2 := Lib.hid (B1.out.trans (hb2.mono B1.out.size))
         clear hb2
         go_wp2_with fail
         go_ret
         exact ⟨by rw [hw.out]; rfl, B2.out⟩
       · have hsb : (s == 0) = false := by simpa using hs
         have hpp := P.out
         have Kr := Lib.hid fun w => Ih.out d s b r w (by omega) (by omega) (by omega) (by omega) (by omega)
         have hw : Hid (cmpI (d * r) (b * s) = v) := by show _ = v; rw [he, Int.mul_comm d r, Int.mul_comm b s]
         rw [hw.out] at Kr
         clear l1 l2 n1 n2 he hr hs hpp
         go_enter Try.func71, Try.ntmps71
         go_wp2_with fail
         refine (ca.out _).mono ?_
         rintro e w1 ⟨rfl, hb1⟩
         have B1 := Lib.hid hb1
         clear hb1
         go_wp2_with fail
         refine (cc.out _).mono ?_
         rintro e w2 ⟨rfl, hb2⟩
         have B2 := Lib.hid (B1.out.trans (hb2.mono B1.out.size))
         clear hb2
         go_wp2_with fail
         refine (Kr.out _).mono ?_
         rintro e w3 ⟨rfl, hb3⟩
         have B3 := Lib.hid (B2.out.trans (hb3.mono B2.out.size))
         clear hb3
         go_wp2_with fail
         go_ret
         exact ⟨rfl, B3.out⟩
   · have h0 : decide (p < q) = false := decide_eq_false (by omega)
     have hb := decide_eq_true h
     have hw : Hid (v = 1) := by show v = _; rw [← HV.out]; exact cmpI_gt (Hgt.out h)
     clear h l1 l2 n1 n2
     go_enter Try.func71, Try.ntmps71
     go_wp2_with fail
     refine (ca.out _).mono ?_
     rintro e w1 ⟨rfl, hb1⟩
     have B1 := Lib.hid hb1
     clear hb1
     go_wp2_with fail
     refine (cc.out _).mono ?_
     rintro e w2 ⟨rfl, hb2⟩
     have B2 := Lib.hid (B1.out.trans (hb2.mono B1.out.size))
     clear hb2
     go_wp2_with fail
     go_ret
     exact ⟨by rw [hw.out]; rfl, B2.out⟩
end Go.Proofs.Ytljjpidigckheaa.Un
