/- The contracts of over and cmp of package units: a wide number divided, and compared. -/
import Derived.Test.YtmadlmmfbpmebaaUe
namespace Go.Proofs.Ytmadlmmfbpmebaa
open Go.RowKit
/-- A number divided, rounded down, and the rest; false if it is far from any number. -/
def ovF (v c : Int) : Int × Int × Bool := if v.natAbs / c.toNat ≤ 1000000000000000 then (v / c, v % c, true) else (0, 0, false)
/-- Three numbers and an answer. -/
def RetOv (w : World) (q : Int × Int × Bool) (e : Ending) (w' : World) : Prop := e = .returned (.tuple #[I q.1, I q.2.1, .bool q.2.2]) ∧ Below w.heap.size w w'
theorem ovF_far {v c : Int} (h : 1000000000000000 < v.natAbs / c.toNat) : ovF v c = (0, 0, false) := if_neg (by omega)
theorem ovF_near {v c : Int} (h : v.natAbs / c.toNat ≤ 1000000000000000) : ovF v c = (v / c, v % c, true) := if_pos h
theorem floor_neg {m C : Nat} (hC : 0 < C) : (-(m : Int)) / (C : Int) = if m % C = 0 then -((m / C : Nat) : Int) else -((m / C : Nat) : Int) - 1 := by
  have hm := Nat.div_add_mod m C
  have hl := Nat.mod_lt m hC
  have hd := Int.mul_ediv_add_emod (-(m : Int)) (C : Int)
  have h1 := Int.emod_nonneg (-(m : Int)) (show (C : Int) ≠ 0 by omega)
  have h2 := Int.emod_lt_of_pos (-(m : Int)) (show (0 : Int) < (C : Int) by omega)
  generalize (-(m : Int)) % (C : Int) = r at *
  split
  · rename_i h0
    have e : (-(m : Int)) = (C : Int) * (-((m / C : Nat) : Int)) + 0 := by
      rw [Int.mul_neg, ← Int.natCast_mul]; omega
    rw [e, Int.mul_add_ediv_left _ _ (by omega)]
    simp
  · rename_i h0
    have e : (-(m : Int)) = (C : Int) * (-((m / C : Nat) : Int) - 1) + ((C - m % C : Nat) : Int) := by
      rw [Int.mul_sub, Int.mul_neg, ← Int.natCast_mul, Int.mul_one]; omega
    rw [e, Int.mul_add_ediv_left _ _ (by omega), Int.ediv_eq_zero_of_lt (by omega) (by omega)]
    omega
theorem mod_neg {m C : Nat} (hC : 0 < C) : (-(m : Int)) % (C : Int) = if m % C = 0 then 0 else (C : Int) - ((m % C : Nat) : Int) := by
  have h := floor_neg (m := m) hC
  have hm := Nat.div_add_mod m C
  have hd := Int.mul_ediv_add_emod (-(m : Int)) (C : Int)
  rw [h] at hd
  split at hd
  · rename_i h0
    rw [if_pos h0]
    rw [Int.mul_neg, ← Int.natCast_mul] at hd
    omega
  · rename_i h0
    rw [if_neg h0]
    rw [Int.mul_sub, Int.mul_neg, ← Int.natCast_mul, Int.mul_one] at hd
    omega
theorem ret3 {a b a' b' : Int} {t : Bool} (h1 : a = a') (h2 : b = b') : Ending.returned (.tuple #[I a, I b, .bool t]) = Ending.returned (.tuple #[I a', I b', .bool t]) := by rw [h1, h2]
set_option maxRecDepth 100000 in
set_option maxHeartbeats 1000000 in
theorem over_any (v c : Int) (w : World) (hc : 1 ≤ c ∧ c ≤ 4611686018427387904) :
    Calls Try.prog 69 #[wdV v, I c] w (RetOv w (ovF v c)) := by
  obtain ⟨C, rfl⟩ : ∃ C : Nat, c = C := ⟨c.toNat, by omega⟩
  obtain ⟨m, hm⟩ : ∃ m, v.natAbs = m := ⟨_, rfl⟩
  obtain ⟨vh, hvh⟩ : ∃ k, m / 18446744073709551616 = k := ⟨_, rfl⟩
  obtain ⟨vl, hvl⟩ : ∃ k, m % 18446744073709551616 = k := ⟨_, rfl⟩
  have hV : wdV v = .agg #[.int .u64 (vh : Int), .int .u64 (vl : Int), .bool (decide (v < 0))] := by rw [wdV, wdArr, hm, hvh, hvl]
  rw [hV]
  have hml : vh * 18446744073709551616 + vl = m := by rw [← hvh, ← hvl, Nat.mul_comm]; exact Nat.div_add_mod _ _
  have hC : 1 ≤ C ∧ C ≤ 4611686018427387904 := by omega
  have hvl2 : vl < 18446744073709551616 := by rw [← hvl]; exact Nat.mod_lt _ (by decide)
  have Hm := Lib.hid hm
  have HC := Lib.hid hC
  have hcw : IntKind.u64.wrap (C : Int) = (C : Int) := wrapN _ (by omega)
  clear hV hvh
  rcases Nat.lt_or_ge vh C with h1 | h1
  · have hdv := fun w => div64_any vh vl C w h1 hvl2 (by omega)
    rw [hml] at hdv
    obtain ⟨q, hq⟩ : ∃ k, m / C = k := ⟨_, rfl⟩
    obtain ⟨r, hr⟩ : ∃ k, m % C = k := ⟨_, rfl⟩
    rw [hq, hr] at hdv
    have Hdv := Lib.hid hdv
    have Hq := Lib.hid hq
    have Hr := Lib.hid hr
    have hrl : r < C := by rw [← hr]; exact Nat.mod_lt _ (by omega)
    have HRL := Lib.hid hrl
    have t13 : decide ((C : Int) ≤ (vh : Int)) = false := decide_eq_false (by omega)
    have t13b : decide (C ≤ vh) = false := decide_eq_false (by omega)
    clear hdv hq hr hrl h1 hml hvl hvl2 hm hC hc
    go_enter Try.func69, Try.ntmps69
    go_wp2_with fail
    refine (Hdv.out _).mono ?_
    rintro e w' ⟨nq, rfl, hw'⟩
    have HB : Hid (Below w.heap.size w w') := by
      show Below _ _ _
      rw [hw']; exact ((Below.refl _ _).alloc (Nat.le_refl _) _).trans ⟨rfl, rfl, rfl, Nat.le_refl _, fun _ _ => rfl⟩
    have x2 : w'.cell? ⟨w.heap.size, 2, none⟩ = some (.bool (decide (v < 0))) := by rw [hw']; exact cell_of_row _ _ _ _ _ _ (heap_last w (.cells #[.int .u64 (vh : Int), .int .u64 (vl : Int), .bool (decide (v < 0))] 104) _ rfl)
    clear hw' hcw
    rcases Nat.lt_or_ge 1000000000000000 q with h2 | h2
    · have hf := Lib.hid (ovF_far (v := v) (c := (C : Int)) (by rw [Hm.out, Int.toNat_natCast, Hq.out]; exact h2))
      have t25 : decide (1000000000000000 < (q : Int)) = true := decide_eq_true (by omega)
      clear h2
      go_wp2_with fail
      go_ret3
      exact ⟨by rw [hf.out]; rfl, HB.out⟩
    · have hf := Lib.hid (ovF_near (v := v) (c := (C : Int)) (by rw [Hm.out, Int.toNat_natCast, Hq.out]; exact h2))
      have t25 : decide (1000000000000000 < (q : Int)) = false := decide_eq_false (by omega)
      have hC := HC.out
      have hrl := HRL.out
      have c1 : IntKind.i64.wrap (q : Int) = (q : Int) := IntWalk.i64_in _ (by omega)
      have c2 : IntKind.i64.wrap (r : Int) = (r : Int) := IntWalk.i64_in _ (by omega)
      have n1 : wrap64 (-(q : Int)) = -(q : Int) := by unfold wrap64; omega
      have n2 : wrap64 (-(r : Int)) = -(r : Int) := by unfold wrap64; omega
      have Hq2 := Lib.hid h2
      by_cases hs : v < 0
      · have e : v = -(m : Int) := by have := Hm.out; omega
        have F1 : Hid (v / (C : Int) = if r = 0 then -(q : Int) else -(q : Int) - 1) := by show _ = _; rw [e, floor_neg (by omega), Hr.out, Hq.out]
        have F2 : Hid (v % (C : Int) = if r = 0 then 0 else (C : Int) - (r : Int)) := by show _ = _; rw [e, mod_neg (by omega), Hr.out]
        have d1 : decide (v < 0) = true := decide_eq_true hs
        rw [d1] at x2
        by_cases hr0 : r = 0
        · rw [if_pos hr0] at F1 F2
          subst hr0
          clear hs e d1 h2
          go_wp2_with fail
          go_ret3
          exact ⟨by rw [hf.out]; exact ret3 (by rw [F1.out]; exact n1) (by rw [F2.out]), HB.out⟩
        · rw [if_neg hr0] at F1 F2
          have hrp : 0 < r := by omega
          clear hs e d1 h2
          go_wp2_with fail
          go_ret3
          exact ⟨by rw [hf.out]; exact ret3 (by rw [F1.out]; show wrap64 (-(q : Int) - 1) = -(q : Int) - 1; have := Hq2.out; unfold wrap64; omega) (by rw [F2.out]; show -(r : Int) + (C : Int) = (C : Int) - (r : Int); omega), HB.out⟩
      · have e : v = (m : Int) := by have := Hm.out; omega
        have F1 : Hid (v / (C : Int) = (q : Int)) := by show _ = _; rw [e, ← Int.natCast_ediv, Hq.out]
        have F2 : Hid (v % (C : Int) = (r : Int)) := by show _ = _; rw [e, ← Int.natCast_emod, Hr.out]
        have d1 : decide (v < 0) = false := decide_eq_false hs
        rw [d1] at x2
        clear hs e d1 h2
        go_wp2_with fail
        go_ret3
        exact ⟨by rw [hf.out]; exact ret3 (by rw [F1.out]) (by rw [F2.out]), HB.out⟩
  · have hf := Lib.hid (ovF_far (v := v) (c := (C : Int)) (by
      rw [Hm.out, Int.toNat_natCast]
      have : 18446744073709551616 ≤ m / C := by rw [Nat.le_div_iff_mul_le (by omega)]; have := Nat.mul_le_mul_left 18446744073709551616 h1; omega
      omega))
    have t13 : decide ((C : Int) ≤ (vh : Int)) = true := decide_eq_true (by omega)
    have t13b : decide (C ≤ vh) = true := decide_eq_true (by omega)
    clear h1 hml hvl hvl2 hm hC hc
    go_enter Try.func69, Try.ntmps69
    go_wp2_with fail
    go_ret3
    exact ⟨by rw [hf.out]; rfl, (Below.refl _ _).alloc (Nat.le_refl _) _⟩
def cmpI (x y : Int) : Int := if x < y then -1 else if x = y then 0 else 1
theorem cmpI_lt {x y : Int} (h : x < y) : cmpI x y = -1 := if_pos h
theorem cmpI_eq {x y : Int} (h : x = y) : cmpI x y = 0 := by unfold cmpI; rw [if_neg (by omega), if_pos h]
theorem cmpI_gt {x y : Int} (h : y < x) : cmpI x y = 1 := by unfold cmpI; rw [if_neg (by omega), if_neg (by omega)]
set_option maxRecDepth 100000 in
set_option maxHeartbeats 2000000 in
theorem wcmp_any (x y : Int) (w : World) (hx : x.natAbs < 18446744073709551616 * 18446744073709551616) (hy : y.natAbs < 18446744073709551616 * 18446744073709551616) :
    Calls Try.prog 119 #[wdV x, wdV y] w fun e w' => e = .returned (I (cmpI x y)) ∧ Below w.heap.size w w' := by
  obtain ⟨xh, hxh⟩ : ∃ k, x.natAbs / 18446744073709551616 = k := ⟨_, rfl⟩
  obtain ⟨xl, hxl⟩ : ∃ k, x.natAbs % 18446744073709551616 = k := ⟨_, rfl⟩
  obtain ⟨yh, hyh⟩ : ∃ k, y.natAbs / 18446744073709551616 = k := ⟨_, rfl⟩
  obtain ⟨yl, hyl⟩ : ∃ k, y.natAbs % 18446744073709551616 = k := ⟨_, rfl⟩
  have hX : wdV x = .agg #[.int .u64 (xh : Int), .int .u64 (xl : Int), .bool (decide (x < 0))] := by rw [wdV, wdArr, hxh, hxl]
  have hY : wdV y = .agg #[.int .u64 (yh : Int), .int .u64 (yl : Int), .bool (decide (y < 0))] := by rw [wdV, wdArr, hyh, hyl]
  rw [hX, hY]
  have bx : xh < 18446744073709551616 ∧ xl < 18446744073709551616 := ⟨by rw [← hxh, Nat.div_lt_iff_lt_mul (by decide)]; exact hx, by rw [← hxl]; exact Nat.mod_lt _ (by decide)⟩
  have by_ : yh < 18446744073709551616 ∧ yl < 18446744073709551616 := ⟨by rw [← hyh, Nat.div_lt_iff_lt_mul (by decide)]; exact hy, by rw [← hyl]; exact Nat.mod_lt _ (by decide)⟩
  have hmx : x.natAbs = xh * 18446744073709551616 + xl := by rw [← hxh, ← hxl, Nat.mul_comm]; exact (Nat.div_add_mod _ _).symm
  have hmy : y.natAbs = yh * 18446744073709551616 + yl := by rw [← hyh, ← hyl, Nat.mul_comm]; exact (Nat.div_add_mod _ _).symm
  obtain ⟨b1, hb1⟩ : ∃ b : Int, (if (xl : Int) < (yl : Int) + 0 then 1 else 0) = b := ⟨_, rfl⟩
  obtain ⟨b2, hb2⟩ : ∃ b : Int, (if (xh : Int) < (yh : Int) + b1 then 1 else 0) = b := ⟨_, rfl⟩
  have r1 := fun w => sub64_run (xl : Int) (yl : Int) 0 (by omega) (by omega) (by omega) w
  have r2 := fun w => sub64_run (xh : Int) (yh : Int) b1 (by omega) (by omega) (by split at hb1 <;> omega) w
  rw [hb1] at r1
  rw [hb2] at r2
  have HM : Hid ((x.natAbs = xh * 18446744073709551616 + xl ∧ y.natAbs = yh * 18446744073709551616 + yl) ∧ xl < 18446744073709551616 ∧ yl < 18446744073709551616) := ⟨⟨hmx, hmy⟩, bx.2, by_.2⟩
  have HB : Hid ((b2 = 1 ∧ (xh < yh ∨ (xh = yh ∧ xl < yl))) ∨ (b2 = 0 ∧ xh = yh ∧ xl = yl) ∨ (b2 = 0 ∧ (yh < xh ∨ (xh = yh ∧ yl < xl)))) := by
    show _ ∨ _
    split at hb1 <;> split at hb2 <;> omega
  clear hxh hxl hyh hyl hX hY bx by_ hmx hmy hb1 hb2 hx hy
  by_cases s1 : x < 0 <;> by_cases s2 : y < 0
  · skip
    have d1 : decide (x < 0) = true := decide_eq_true s1
    have d2 : decide (y < 0) = true := decide_eq_true s2
    rw [d1, d2]
    rcases HB.out with ⟨rfl, h⟩ | ⟨rfl, h⟩ | ⟨rfl, h⟩
    · skip
      have hf : Hid (cmpI x y = 1) := cmpI_gt (by have := HM.out; omega)
      have Hh := Lib.hid h
      clear s1 s2 d1 d2 HB h
      go_enter Try.func119, Try.ntmps119
      go_wp2_with fail
      all_goals
        first
        | (exfalso; have := Hh.out; omega)
        | (go_ret; exact ⟨by rw [hf.out]; rfl, (((Below.refl _ _).alloc (Nat.le_refl _) _).alloc (by simp) _)⟩)
    · skip
      have hf : Hid (cmpI x y = 0) := cmpI_eq (by have := HM.out; omega)
      have Hh := Lib.hid h
      clear s1 s2 d1 d2 HB h
      go_enter Try.func119, Try.ntmps119
      go_wp2_with fail
      all_goals
        first
        | (exfalso; have := Hh.out; omega)
        | (go_ret; exact ⟨by rw [hf.out]; rfl, (((Below.refl _ _).alloc (Nat.le_refl _) _).alloc (by simp) _)⟩)
    · skip
      have hf : Hid (cmpI x y = -1) := cmpI_lt (by have := HM.out; omega)
      have Hh := Lib.hid h
      clear s1 s2 d1 d2 HB h
      go_enter Try.func119, Try.ntmps119
      go_wp2_with fail
      all_goals
        first
        | (exfalso; have := Hh.out; omega)
        | (go_ret; exact ⟨by rw [hf.out]; rfl, (((Below.refl _ _).alloc (Nat.le_refl _) _).alloc (by simp) _)⟩)
  · skip
    have d1 : decide (x < 0) = true := decide_eq_true s1
    have d2 : decide (y < 0) = false := decide_eq_false s2
    rw [d1, d2]
    have hf : Hid (cmpI x y = -1) := cmpI_lt (by omega)
    clear s1 s2 d1 d2 HB
    go_enter Try.func119, Try.ntmps119
    go_wp2_with fail
    go_ret
    exact ⟨by rw [hf.out]; rfl, (((Below.refl _ _).alloc (Nat.le_refl _) _).alloc (by simp) _)⟩
  · skip
    have d1 : decide (x < 0) = false := decide_eq_false s1
    have d2 : decide (y < 0) = true := decide_eq_true s2
    rw [d1, d2]
    have hf : Hid (cmpI x y = 1) := cmpI_gt (by omega)
    clear s1 s2 d1 d2 HB
    go_enter Try.func119, Try.ntmps119
    go_wp2_with fail
    go_ret
    exact ⟨by rw [hf.out]; rfl, (((Below.refl _ _).alloc (Nat.le_refl _) _).alloc (by simp) _)⟩
  · skip
    have d1 : decide (x < 0) = false := decide_eq_false s1
    have d2 : decide (y < 0) = false := decide_eq_false s2
    rw [d1, d2]
    rcases HB.out with ⟨rfl, h⟩ | ⟨rfl, h⟩ | ⟨rfl, h⟩
    · skip
      have hf : Hid (cmpI x y = -1) := cmpI_lt (by have := HM.out; omega)
      have Hh := Lib.hid h
      clear s1 s2 d1 d2 HB h
      go_enter Try.func119, Try.ntmps119
      go_wp2_with fail
      all_goals
        first
        | (exfalso; have := Hh.out; omega)
        | (go_ret; exact ⟨by rw [hf.out]; rfl, (((Below.refl _ _).alloc (Nat.le_refl _) _).alloc (by simp) _)⟩)
    · skip
      have hf : Hid (cmpI x y = 0) := cmpI_eq (by have := HM.out; omega)
      have Hh := Lib.hid h
      clear s1 s2 d1 d2 HB h
      go_enter Try.func119, Try.ntmps119
      go_wp2_with fail
      all_goals
        first
        | (exfalso; have := Hh.out; omega)
        | (go_ret; exact ⟨by rw [hf.out]; rfl, (((Below.refl _ _).alloc (Nat.le_refl _) _).alloc (by simp) _)⟩)
    · skip
      have hf : Hid (cmpI x y = 1) := cmpI_gt (by have := HM.out; omega)
      have Hh := Lib.hid h
      clear s1 s2 d1 d2 HB h
      go_enter Try.func119, Try.ntmps119
      go_wp2_with fail
      all_goals
        first
        | (exfalso; have := Hh.out; omega)
        | (go_ret; exact ⟨by rw [hf.out]; rfl, (((Below.refl _ _).alloc (Nat.le_refl _) _).alloc (by simp) _)⟩)
end Go.Proofs.Ytmadlmmfbpmebaa
