/- The contract of Table of the reference of chapter 1. -/
import Derived.Test.YtmadlmmfbpmebaaU6
import Derived.Test.YtmadlmmfbpmebaaR1
namespace Go.Proofs.Ytmadlmmfbpmebaa
open Go.RowKit
/-- The opposite of an i64, as Go has it. -/
def negI (x : Int) : Int := if x = -9223372036854775808 then -9223372036854775808 else -x
theorem neg_wrap {x : Int} (h : -9223372036854775808 ≤ x ∧ x ≤ 9223372036854775807) : wrap64 (-x) = negI x := by
  unfold negI wrap64
  split <;> omega
/-- What the reference asks of knot k. -/
theorem knot_bad {t : List Rng} {k : Nat} (hx : -9223372036854775808 ≤ (at0 t k).lo ∧ (at0 t k).lo ≤ 9223372036854775807) (hy : -9223372036854775808 ≤ (at0 t k).hi ∧ (at0 t k).hi ≤ 9223372036854775807) :
    (knB t k = false ∧ decide (1000000000000 < max (at0 t k).lo (negI (at0 t k).lo)) = true) ∨
    (knB t k = false ∧ decide (1000000000000 < max (at0 t k).lo (negI (at0 t k).lo)) = false ∧ decide (1000000000000 < max (at0 t k).hi (negI (at0 t k).hi)) = true) ∨
    (knB t k = false ∧ decide (1000000000000 < max (at0 t k).lo (negI (at0 t k).lo)) = false ∧ decide (1000000000000 < max (at0 t k).hi (negI (at0 t k).hi)) = false ∧ decide ((at0 t k).lo < -1000000000000) = true) ∨
    (knB t k = false ∧ decide (1000000000000 < max (at0 t k).lo (negI (at0 t k).lo)) = false ∧ decide (1000000000000 < max (at0 t k).hi (negI (at0 t k).hi)) = false ∧ decide ((at0 t k).lo < -1000000000000) = false ∧ decide ((at0 t k).hi < -1000000000000) = true) ∨
    (decide (1000000000000 < max (at0 t k).lo (negI (at0 t k).lo)) = false ∧ decide (1000000000000 < max (at0 t k).hi (negI (at0 t k).hi)) = false ∧ decide ((at0 t k).lo < -1000000000000) = false ∧ decide ((at0 t k).hi < -1000000000000) = false ∧ knB t k = (decide (k = 0) || decide ((at0 t (k - 1)).lo < (at0 t k).lo))) := by
  have e : knB t k = (wiC (at0 t k).lo && (wiC (at0 t k).hi && (decide (k = 0) || decide ((at0 t (k - 1)).lo < (at0 t k).lo)))) := rfl
  rw [e]
  simp only [decide_eq_true_eq, decide_eq_false_iff_not]
  generalize (at0 t k).lo = x at *
  generalize (at0 t k).hi = y at *
  generalize (decide (k = 0) || decide ((at0 t (k - 1)).lo < x)) = q at *
  have nx : negI x = if x = -9223372036854775808 then -9223372036854775808 else -x := rfl
  have ny : negI y = if y = -9223372036854775808 then -9223372036854775808 else -y := rfl
  rcases h1 : wiC x with _ | _
  · have g1 : ¬ (wiC x = true) := by rw [h1]; decide
    rw [wiC_iff] at g1
    simp only [Bool.false_and, true_and]
    split at nx <;> split at ny <;> omega
  · rw [wiC_iff] at h1
    rcases h2 : wiC y with _ | _
    · have g2 : ¬ (wiC y = true) := by rw [h2]; decide
      rw [wiC_iff] at g2
      simp only [Bool.false_and, Bool.and_false, true_and]
      split at nx <;> split at ny <;> omega
    · rw [wiC_iff] at h2
      simp only [Bool.true_and, and_true]
      right; right; right; right
      split at nx <;> split at ny <;> omega
theorem tab_false {t : List Rng} {k : Nat} (hk : k < t.length) (h : knB t k = false) : tabB t = false := by
  unfold tabB
  rw [Bool.and_eq_false_iff]
  left
  rw [List.all_eq_false]
  exact ⟨k, by simpa using hk, by rw [h]; decide⟩
theorem tab_len {t : List Rng} (h : ∀ j, j < t.length → knB t j = true) : tabB t = (decide (2 ≤ t.length) && decide (t.length ≤ 60)) := by
  unfold tabB
  rw [List.all_eq_true.2 (fun j hj => h j (by simpa using hj)), Bool.true_and]
set_option maxRecDepth 100000 in
set_option maxHeartbeats 4000000 in
theorem refTable_any (A : Option Addr) (c : Nat) (t : List Rng) (w : World) (B : Nat) (hm : t.length ≤ maxLen) (hB : B ≤ w.heap.size) (hx : Rd w B 2 A t.length (rR t))
    (hz : ∀ j, j < t.length → (-9223372036854775808 ≤ (at0 t j).lo ∧ (at0 t j).lo ≤ 9223372036854775807) ∧ (-9223372036854775808 ≤ (at0 t j).hi ∧ (at0 t j).hi ≤ 9223372036854775807)) :
    Calls Try.prog 35 #[.slice A t.length c] w fun e w' => e = .returned (.bool (tabB t)) ∧ Below w.heap.size w w' := by
  have HX : Hid (∀ u, Rd (ovr w u) B 2 A t.length (rR t)) := fun u => hx.below ((ovr_below w u).mono hB)
  have HZ := Lib.hid hz
  obtain ⟨u0, hu0⟩ := ovr_self w
  have H0 := Lib.hid hu0
  unfold maxLen at hm
  clear hx hB hu0 hz
  have HUw : Hid (∀ u, Below w.heap.size w (ovr w u)) := fun u => ovr_below _ _
  go_enter Try.func35, Try.ntmps35
  go_wp2_with fail
  go_loopw [3] (fun i wr => ∃ k : Nat, k ≤ t.length ∧ i = .int .i64 k ∧ (∀ j, j < k → knB t j = true) ∧ ∃ u, wr = ovr w u) (fun i _ => t.length - (intOf i).toNat)
  case atStart => exact ⟨0, by omega, rfl, fun j hj => absurd hj (by omega), u0, H0.out⟩
  case round =>
    obtain ⟨k, hk, rfl, hg, u, rfl⟩ := hrel
    have Hg := Lib.hid hg
    clear hg
    by_cases hlt : k < t.length
    · obtain ⟨b, o, hA, hbB, e0, e1⟩ := (HX.out u).rng hlt
      have hp : Hid (0 < k → (ovr w u).cell? ⟨b, o + (k - 1) * 2, none⟩ = some (I (at0 t (k - 1)).lo)) := fun h0 => by
        obtain ⟨b', o', hA', _, e0', _⟩ := (HX.out u).rng (show k - 1 < t.length by omega)
        rw [hA] at hA'
        (injection hA' with ea; injection ea with ea1 ea2; subst ea1 ea2)
        exact e0'
      subst hA
      have hkb := knot_bad (HZ.out k hlt).1 (HZ.out k hlt).2
      have n1 := neg_wrap (HZ.out k hlt).1
      have n2 := neg_wrap (HZ.out k hlt).2
      have hno0 : Hid (knB t k = false → tabB t = false) := fun h => tab_false hlt h
      generalize hxx : (at0 t k).lo = x at *
      generalize hyy : (at0 t k).hi = y at *
      generalize negI x = nx at *
      generalize negI y = ny at *
      have e01 := ovr_cell e0
      have e11 := ovr_cell e1
      clear e0 e1
      rcases hkb with ⟨h0, h1⟩ | ⟨h0, h1, h2⟩ | ⟨h0, h1, h2, h3⟩ | ⟨h0, h1, h2, h3, h4⟩ | ⟨h1, h2, h3, h4, h5⟩
      · have hno := Lib.hid (hno0.out h0)
        clear h0 hxx hyy
        go_upto_region 4 with (fail)
        refine wp_region_below_lit (by kernel_rfl) (by kernel_rfl) ?_
        repeat (go_big_quiet_step (fail))
        refine wpQuiet_nil ?_
        intro w1 hb1
        obtain ⟨u1, rfl⟩ := ovr_next hb1
        clear hb1
        go_wp2_with fail
        go_ret
        exact ⟨by rw [hno.out]; rfl, ovr_below _ _⟩
      · have hno := Lib.hid (hno0.out h0)
        clear h0 hxx hyy
        go_upto_region 4 with (fail)
        refine wp_region_below_lit (by kernel_rfl) (by kernel_rfl) ?_
        repeat (go_big_quiet_step (fail))
        refine wpQuiet_nil ?_
        intro w1 hb1
        obtain ⟨u1, rfl⟩ := ovr_next hb1
        clear hb1
        go_wp2_with fail
        go_ret
        exact ⟨by rw [hno.out]; rfl, ovr_below _ _⟩
      · have hno := Lib.hid (hno0.out h0)
        clear h0 hxx hyy
        go_upto_region 4 with (fail)
        refine wp_region_below_lit (by kernel_rfl) (by kernel_rfl) ?_
        repeat (go_big_quiet_step (fail))
        refine wpQuiet_nil ?_
        intro w1 hb1
        obtain ⟨u1, rfl⟩ := ovr_next hb1
        clear hb1
        go_wp2_with fail
        go_ret
        exact ⟨by rw [hno.out]; rfl, ovr_below _ _⟩
      · have hno := Lib.hid (hno0.out h0)
        clear h0 hxx hyy
        go_upto_region 4 with (fail)
        refine wp_region_below_lit (by kernel_rfl) (by kernel_rfl) ?_
        repeat (go_big_quiet_step (fail))
        refine wpQuiet_nil ?_
        intro w1 hb1
        obtain ⟨u1, rfl⟩ := ovr_next hb1
        clear hb1
        go_wp2_with fail
        go_ret
        exact ⟨by rw [hno.out]; rfl, ovr_below _ _⟩
      · by_cases hk0 : k = 0
        · rw [decide_eq_true hk0, Bool.true_or] at h5
          have hok := Lib.hid h5
          have hk0c : decide (0 < k) = false := decide_eq_false (by omega)
          have hk0d : decide ((0 : Int) < (k : Int)) = false := decide_eq_false (by omega)
          clear hk0 h5 hxx hyy
          go_upto_region 4 with (fail)
          refine wp_region_below_lit (by kernel_rfl) (by kernel_rfl) ?_
          repeat (go_big_quiet_step (fail))
          refine wpQuiet_nil ?_
          intro w1 hb1
          obtain ⟨u1, rfl⟩ := ovr_next hb1
          clear hb1
          go_wp2_with fail
          go_roundw
          case rel => exact ⟨k + 1, by omega, by go_num, succ_case Hg.out hok.out, u1, rfl⟩
          case measure => simp [intOf]; omega
        · rw [decide_eq_false hk0, Bool.false_or] at h5
          have hp1 := hp.out (by omega)
          have hk0c : decide (0 < k) = true := decide_eq_true (by omega)
          have hk0d : decide ((0 : Int) < (k : Int)) = true := decide_eq_true (by omega)
          have ck : IntKind.i64.wrap ((k : Int) - 1) = ((k - 1 : Nat) : Int) := by rw [IntWalk.i64_in _ (by omega)]; omega
          have ck2 : (k - 1 : Nat) < t.length := by omega
          generalize (at0 t (k - 1)).lo = p at *
          have e21 := ovr_cell hp1
          clear hp1
          by_cases hpx : p < x
          · rw [decide_eq_true hpx] at h5
            have hok := Lib.hid h5
            have h6 : decide (x ≤ p) = false := decide_eq_false (by omega)
            clear h5 hxx hyy hk0 hpx
            go_upto_region 4 with (fail)
            refine wp_region_below_lit (by kernel_rfl) (by kernel_rfl) ?_
            repeat (go_big_quiet_step (fail))
            refine wpQuiet_nil ?_
            intro w1 hb1
            obtain ⟨u1, rfl⟩ := ovr_next hb1
            clear hb1
            go_wp2_with fail
            go_roundw
            case rel => exact ⟨k + 1, by omega, by go_num, succ_case Hg.out hok.out, u1, rfl⟩
            case measure => simp [intOf]; omega
          · rw [decide_eq_false hpx] at h5
            have hno := Lib.hid (hno0.out h5)
            have h6 : decide (x ≤ p) = true := decide_eq_true (by omega)
            clear h5 hxx hyy hk0 hpx
            go_upto_region 4 with (fail)
            refine wp_region_below_lit (by kernel_rfl) (by kernel_rfl) ?_
            repeat (go_big_quiet_step (fail))
            refine wpQuiet_nil ?_
            intro w1 hb1
            obtain ⟨u1, rfl⟩ := ovr_next hb1
            clear hb1
            go_wp2_with fail
            go_ret
            exact ⟨by rw [hno.out]; rfl, ovr_below _ _⟩
    · obtain rfl : k = t.length := by omega
      have ht := Lib.hid (tab_len Hg.out)
      rcases h1 : decide (2 ≤ t.length) with _ | _ <;> rcases h2 : decide (t.length ≤ 60) with _ | _
      all_goals
        rw [h1, h2] at ht
        have g1 : decide ((2 : Int) ≤ (t.length : Int)) = decide (2 ≤ t.length) := by congr 1; exact propext ⟨fun h => by omega, fun h => by omega⟩
        have g2 : decide ((t.length : Int) ≤ (60 : Int)) = decide (t.length ≤ 60) := by congr 1; exact propext ⟨fun h => by omega, fun h => by omega⟩
        rw [h1] at g1
        rw [h2] at g2
        clear h1 h2
        go_wp2_with fail
        go_ret
        exact ⟨by rw [ht.out]; rfl, ovr_below _ _⟩
end Go.Proofs.Ytmadlmmfbpmebaa
