/- The reference of chapter 1: Table, At, Value. -/
import Derived.Test.YteibgenkklpoaaaGreatU6
import Derived.Test.YteibgenkklpoaaaGreatR1
namespace Go.Proofs.YteibgenkklpoaaaGreat.Un
open Go.RowKit
/-- The opposite of an i64, as Go has it. -/
def negI (x : Int) : Int := if x = -9223372036854775808 then -9223372036854775808 else -x
theorem neg_wrap {x : Int} (h : -9223372036854775808 ≤ x ∧ x ≤ 9223372036854775807) : wrap64 (-x) = negI x := by
  unfold negI wrap64
  split <;> omega
/-- What the reference asks of knot k. -/
theorem knot_bad {t : List Rng} {k : Nat} (hx : -9223372036854775808 ≤ (at0 t k).lo ∧ (at0 t k).lo ≤ 9223372036854775807) (hy : -9223372036854775808 ≤ (at0 t k).hi ∧ (at0 t k).hi ≤ 9223372036854775807) :
    (knB t k = false ∧ decide (1000000000000 < max (at0 t k).lo (negI (at0 t k).lo)) = true) ∨
    (knB t k = false ∧ decide (1000000000000 < max (at0 t k).lo (negI (at0 t k).lo)) = false ∧ decide (1000000000000 < max (at0 t k).hi (negI (at0 t k).hi)) = true) ∨
    (knB t k = false ∧ decide (1000000000000 < max (at0 t k).lo (negI (at0 t k).lo)) = false ∧ decide (1000000000000 < max (at0 t k).hi (negI (at0 t k).hi)) = false ∧ decide ((at0 t k).lo < -1000000000000) = true) ∨
    (knB t k = false ∧ decide (1000000000000 < max (at0 t k).lo (negI (at0 t k).lo)) = false ∧ decide (1000000000000 < max (at0 t k).hi (negI (at0 t k).hi)) = false ∧ decide ((at0 t k).lo < -1000000000000) = false ∧ decide ((at0 t k).hi < -1000000000000) = true) ∨
    (decide (1000000000000 < max (at0 t k).lo (negI (at0 t k).lo)) = false ∧ decide (1000000000000 < max (at0 t k).hi (negI (at0 t k).hi)) = false ∧ decide ((at0 t k).lo < -1000000000000) = false ∧ decide ((at0 t k).hi < -1000000000000) = false ∧ knB t k = (decide (k = 0) || decide ((at0 t (k - 1)).lo < (at0 t k).lo))) := by
  have e : knB t k = (wiC (at0 t k).lo && (wiC (at0 t k).hi && (decide (k = 0) || decide ((at0 t (k - 1)).lo < (at0 t k).lo)))) := rfl
  rw [e]
  simp only [decide_eq_true_eq, decide_eq_false_iff_not]
  generalize (at0 t k).lo = x at *
  generalize (at0 t k).hi = y at *
  generalize (decide (k = 0) || decide ((at0 t (k - 1)).lo < x)) = q at *
  have nx : negI x = if x = -9223372036854775808 then -9223372036854775808 else -x := rfl
  have ny : negI y = if y = -9223372036854775808 then -9223372036854775808 else -y := rfl
  rcases h1 : wiC x with _ | _
  · have g1 : ¬ (wiC x = true) := by rw [h1]; decide
    rw [wiC_iff] at g1
    simp only [Bool.false_and, true_and]
    split at nx <;> split at ny <;> omega
  · rw [wiC_iff] at h1
    rcases h2 : wiC y with _ | _
    · have g2 : ¬ (wiC y = true) := by rw [h2]; decide
      rw [wiC_iff] at g2
      simp only [Bool.false_and, Bool.and_false, true_and]
      split at nx <;> split at ny <;> omega
    · rw [wiC_iff] at h2
      simp only [Bool.true_and, and_true]
      right; right; right; right
      split at nx <;> split at ny <;> omega
theorem tab_false {t : List Rng} {k : Nat} (hk : k < t.length) (h : knB t k = false) : tabB t = false := by
  unfold tabB
  rw [Bool.and_eq_false_iff]
  left
  rw [List.all_eq_false]
  exact ⟨k, by simpa using hk, by rw [h]; decide⟩
theorem tab_len {t : List Rng} (h : ∀ j, j < t.length → knB t j = true) : tabB t = (decide (2 ≤ t.length) && decide (t.length ≤ 60)) := by
  unfold tabB
  rw [List.all_eq_true.2 (fun j hj => h j (by simpa using hj)), Bool.true_and]
set_option maxRecDepth 100000 in
set_option maxHeartbeats 4000000 in
theorem refTable_any (A : Option Addr) (c : Nat) (t : List Rng) (w : World) (B : Nat) (hm : t.length ≤ maxLen) (hB : B ≤ w.heap.size) (hx : Rd w B 2 A t.length (rR t))
    (hz : ∀ j, j < t.length → (-9223372036854775808 ≤ (at0 t j).lo ∧ (at0 t j).lo ≤ 9223372036854775807) ∧ (-9223372036854775808 ≤ (at0 t j).hi ∧ (at0 t j).hi ≤ 9223372036854775807)) :
    Calls Tryz.prog 49 #[.slice A t.length c] w fun e w' => e = .returned (.bool (tabB t)) ∧ Below w.heap.size w w' := by
  have HX : Hid (∀ u, Rd (ovr w u) B 2 A t.length (rR t)) := fun u => hx.below ((ovr_below w u).mono hB)
  have HZ := Lib.hid hz
  obtain ⟨u0, hu0⟩ := ovr_self w
  have H0 := Lib.hid hu0
  unfold maxLen at hm
  clear hx hB hu0 hz
  have HUw : Hid (∀ u, Below w.heap.size w (ovr w u)) := fun u => ovr_below _ _
  go_enter Tryz.func49, Tryz.ntmps49
  go_wp2_with fail
  go_loopw [3] (fun i wr => ∃ k : Nat, k ≤ t.length ∧ i = .int .i64 k ∧ (∀ j, j < k → knB t j = true) ∧ ∃ u, wr = ovr w u) (fun i _ => t.length - (intOf i).toNat)
  case atStart => exact ⟨0, by omega, rfl, fun j hj => absurd hj (by omega), u0, H0.out⟩
  case round =>
    obtain ⟨k, hk, rfl, hg, u, rfl⟩ := hrel
    have Hg := Lib.hid hg
    clear hg
    by_cases hlt : k < t.length
    · obtain ⟨b, o, hA, hbB, e0, e1⟩ := (HX.out u).rng hlt
      have hp : Hid (0 < k → (ovr w u).cell? ⟨b, o + (k - 1) * 2, none⟩ = some (I (at0 t (k - 1)).lo)) := fun h0 => by
        obtain ⟨b', o', hA', _, e0', _⟩ := (HX.out u).rng (show k - 1 < t.length by omega)
        rw [hA] at hA'
        (injection hA' with ea; injection ea with ea1 ea2; subst ea1 ea2)
        exact e0'
      subst hA
      have hkb := knot_bad (HZ.out k hlt).1 (HZ.out k hlt).2
      have n1 := neg_wrap (HZ.out k hlt).1
      have n2 := neg_wrap (HZ.out k hlt).2
      have hno0 : Hid (knB t k = false → tabB t = false) := fun h => tab_false hlt h
      generalize hxx : (at0 t k).lo = x at *
      generalize hyy : (at0 t k).hi = y at *
      generalize negI x = nx at *
      generalize negI y = ny at *
      have e01 := ovr_cell e0
      have e11 := ovr_cell e1
      clear e0 e1
      rcases hkb with ⟨h0, h1⟩ | ⟨h0, h1, h2⟩ | ⟨h0, h1, h2, h3⟩ | ⟨h0, h1, h2, h3, h4⟩ | ⟨h1, h2, h3, h4, h5⟩
      · have hno := Lib.hid (hno0.out h0)
        clear h0 hxx hyy
        go_upto_region 4 with (fail)
        refine wp_region_below_lit (by kernel_rfl) (by kernel_rfl) ?_
        repeat (go_big_quiet_step (fail))
        refine wpQuiet_nil ?_
        intro w1 hb1
        obtain ⟨u1, rfl⟩ := ovr_next hb1
        clear hb1
        go_wp2_with fail
        go_ret
        exact ⟨by rw [hno.out]; rfl, ovr_below _ _⟩
      · have hno := Lib.hid (hno0.out h0)
        clear h0 hxx hyy
        go_upto_region 4 with (fail)
        refine wp_region_below_lit (by kernel_rfl) (by kernel_rfl) ?_
        repeat (go_big_quiet_step (fail))
        refine wpQuiet_nil ?_
        intro w1 hb1
        obtain ⟨u1, rfl⟩ := ovr_next hb1
        clear hb1
        go_wp2_with fail
        go_ret
        exact ⟨by rw [hno.out]; rfl, ovr_below _ _⟩
      · have hno := Lib.hid (hno0.out h0)
        clear h0 hxx hyy
        go_upto_region 4 with (fail)
        refine wp_region_below_lit (by kernel_rfl) (by kernel_rfl) ?_
        repeat (go_big_quiet_step (fail))
        refine wpQuiet_nil ?_
        intro w1 hb1
        obtain ⟨u1, rfl⟩ := ovr_next hb1
        clear hb1
        go_wp2_with fail
        go_ret
        exact ⟨by rw [hno.out]; rfl, ovr_below _ _⟩
      · have hno := Lib.hid (hno0.out h0)
        clear h0 hxx hyy
        go_upto_region 4 with (fail)
        refine wp_region_below_lit (by kernel_rfl) (by kernel_rfl) ?_
        repeat (go_big_quiet_step (fail))
        refine wpQuiet_nil ?_
        intro w1 hb1
        obtain ⟨u1, rfl⟩ := ovr_next hb1
        clear hb1
        go_wp2_with fail
        go_ret
        exact ⟨by rw [hno.out]; rfl, ovr_below _ _⟩
      · by_cases hk0 : k = 0
        · rw [decide_eq_true hk0, Bool.true_or] at h5
          have hok := Lib.hid h5
          have hk0c : decide (0 < k) = false := decide_eq_false (by omega)
          have hk0d : decide ((0 : Int) < (k : Int)) = false := decide_eq_false (by omega)
          clear hk0 h5 hxx hyy
          go_upto_region 4 with (fail)
          refine wp_region_below_lit (by kernel_rfl) (by kernel_rfl) ?_
          repeat (go_big_quiet_step (fail))
          refine wpQuiet_nil ?_
          intro w1 hb1
          obtain ⟨u1, rfl⟩ := ovr_next hb1
          clear hb1
          go_wp2_with fail
          go_roundw
          case rel => exact ⟨k + 1, by omega, by go_num, succ_case Hg.out hok.out, u1, rfl⟩
          case measure => simp [intOf]; omega
        · rw [decide_eq_false hk0, Bool.false_or] at h5
          have hp1 := hp.out (by omega)
          have hk0c : decide (0 < k) = true := decide_eq_true (by omega)
          have hk0d : decide ((0 : Int) < (k : Int)) = true := decide_eq_true (by omega)
          have ck : IntKind.i64.wrap ((k : Int) - 1) = ((k - 1 : Nat) : Int) := by rw [IntWalk.i64_in _ (by omega)]; omega
          have ck2 : (k - 1 : Nat) < t.length := by omega
          generalize (at0 t (k - 1)).lo = p at *
          have e21 := ovr_cell hp1
          clear hp1
          by_cases hpx : p < x
          · rw [decide_eq_true hpx] at h5
            have hok := Lib.hid h5
            have h6 : decide (x ≤ p) = false := decide_eq_false (by omega)
            clear h5 hxx hyy hk0 hpx
            go_upto_region 4 with (fail)
            refine wp_region_below_lit (by kernel_rfl) (by kernel_rfl) ?_
            repeat (go_big_quiet_step (fail))
            refine wpQuiet_nil ?_
            intro w1 hb1
            obtain ⟨u1, rfl⟩ := ovr_next hb1
            clear hb1
            go_wp2_with fail
            go_roundw
            case rel => exact ⟨k + 1, by omega, by go_num, succ_case Hg.out hok.out, u1, rfl⟩
            case measure => simp [intOf]; omega
          · rw [decide_eq_false hpx] at h5
            have hno := Lib.hid (hno0.out h5)
            have h6 : decide (x ≤ p) = true := decide_eq_true (by omega)
            clear h5 hxx hyy hk0 hpx
            go_upto_region 4 with (fail)
            refine wp_region_below_lit (by kernel_rfl) (by kernel_rfl) ?_
            repeat (go_big_quiet_step (fail))
            refine wpQuiet_nil ?_
            intro w1 hb1
            obtain ⟨u1, rfl⟩ := ovr_next hb1
            clear hb1
            go_wp2_with fail
            go_ret
            exact ⟨by rw [hno.out]; rfl, ovr_below _ _⟩
    · obtain rfl : k = t.length := by omega
      have ht := Lib.hid (tab_len Hg.out)
      rcases h1 : decide (2 ≤ t.length) with _ | _ <;> rcases h2 : decide (t.length ≤ 60) with _ | _
      all_goals
        rw [h1, h2] at ht
        have g1 : decide ((2 : Int) ≤ (t.length : Int)) = decide (2 ≤ t.length) := by congr 1; exact propext ⟨fun h => by omega, fun h => by omega⟩
        have g2 : decide ((t.length : Int) ≤ (60 : Int)) = decide (t.length ≤ 60) := by congr 1; exact propext ⟨fun h => by omega, fun h => by omega⟩
        rw [h1] at g1
        rw [h2] at g2
        clear h1 h2
        go_wp2_with fail
        go_ret
        exact ⟨by rw [ht.out]; rfl, ovr_below _ _⟩
end Go.Proofs.YteibgenkklpoaaaGreat.Un
namespace Go.Proofs.YteibgenkklpoaaaGreat.Un
open Go.RowKit
/-- The piece at which the reference stops. -/
theorem place_of {t : List Rng} (ht : Tab t) {x : Int} {i : Nat} (h1 : 1 ≤ i) (hi : i < t.length) (hlt : ∀ j, 1 ≤ j → j < i → (at0 t j).lo < x) (hge : x ≤ (at0 t i).lo) : max (plc t x) 1 = i := by
  have hup : ∀ j, i ≤ j → j < t.length → x ≤ (at0 t j).lo := fun j hij hj => by
    rcases Nat.lt_or_ge i j with h | h
    · have := ht.asc i j h hj; omega
    · obtain rfl : j = i := by omega
      exact hge
  by_cases h0 : (at0 t 0).lo < x
  · have : plc t x = i := plc_of ⟨by omega, fun j hj => by
      rcases Nat.eq_zero_or_pos j with rfl | h
      · exact h0
      · exact hlt j h hj, hup⟩
    omega
  · by_cases h2 : i = 1
    · subst h2
      have : plc t x = 0 := plc_of ⟨by omega, fun j hj => absurd hj (by omega), fun j _ hj => by
        rcases Nat.eq_zero_or_pos j with rfl | h
        · omega
        · exact hup j h hj⟩
      omega
    · have := ht.asc 0 1 (by omega) (by omega)
      have := hlt 1 (by omega) (by omega)
      omega
theorem val_of {t : List Rng} (ht : Tab t) {x : Int} {i : Nat} (h1 : 1 ≤ i) (hi : i < t.length) (hlt : ∀ j, 1 ≤ j → j < i → (at0 t j).lo < x) (hge : x ≤ (at0 t i).lo) (h0 : (at0 t 0).lo ≤ x) :
    valF t x = atF (at0 t (i - 1)) (at0 t i) x ∧ LnOk (at0 t (i - 1)) (at0 t i) x := by
  refine ⟨?_, ?_⟩
  · unfold valF; rw [place_of ht h1 hi hlt hge]
  · have x0 := ht.x (i - 1) (by omega)
    have x1 := ht.x i hi
    have y0 := ht.y (i - 1) (by omega)
    have y1 := ht.y i hi
    refine ⟨x0.1, y0, x1.2, y1, ht.asc _ _ (by omega) hi, ?_, hge⟩
    rcases Nat.lt_or_ge 1 i with h | h
    · have := hlt (i - 1) (by omega) (by omega); omega
    · obtain rfl : i = 1 := by omega
      exact h0
set_option maxRecDepth 100000 in
set_option maxHeartbeats 4000000 in
theorem refAt_any (A : Option Addr) (c : Nat) (t : List Rng) (x : Int) (w : World) (B : Nat) (ht : Tab t) (h0 : (at0 t 0).lo ≤ x) (h1 : x ≤ (at0 t (t.length - 1)).lo) (hB : B ≤ w.heap.size) (hx : Rd w B 2 A t.length (rR t)) :
    Calls Tryz.prog 97 #[.slice A t.length c, I x] w fun e w' => e = .returned (.tuple #[I (valF t x).lo, I (valF t x).hi]) ∧ Below w.heap.size w w' := by
  have HX : Hid (∀ W, Below w.heap.size w W → Rd W B 2 A t.length (rR t)) := fun W h => hx.below (h.mono hB)
  obtain ⟨u0, hu0⟩ := ovr_self w
  have H0 := Lib.hid hu0
  have HT := Lib.hid ht
  have K0 := Lib.hid h0
  have K1 := Lib.hid h1
  have h60 := ht.n60
  have h2 := ht.n2
  clear hx hB hu0 ht h0 h1
  have HUw : Hid (∀ u, Below w.heap.size w (ovr w u)) := fun u => ovr_below _ _
  go_enter Tryz.func97, Tryz.ntmps97
  go_wp2_with fail
  go_loopw [6] (fun i wr => ∃ k : Nat, 1 ≤ k ∧ k < t.length ∧ i = .int .i64 k ∧ (∀ j, 1 ≤ j → j < k → (at0 t j).lo < x) ∧ ∃ u, wr = ovr w u) (fun i _ => t.length - (intOf i).toNat)
  case atStart => exact ⟨1, by omega, by omega, rfl, fun j h1 h2 => absurd h2 (by omega), u0, H0.out⟩
  case round =>
    obtain ⟨k, hk1, hk, rfl, hg, u, rfl⟩ := hrel
    have Hg := Lib.hid hg
    clear hg
    obtain ⟨b, o, hA, hbB, e0, e1⟩ := (HX.out _ (HUw.out u)).rng hk
    by_cases hlt : (at0 t k).lo < x
    · have hltb := decide_eq_true hlt
      have hkn : Hid (k + 1 < t.length) := by
        show k + 1 < t.length
        have := K1.out
        rcases Nat.lt_or_ge (k + 1) t.length with h | h
        · exact h
        · exfalso
          have e : t.length - 1 = k := by omega
          rw [e] at this; omega
      have hgn : Hid (∀ j, 1 ≤ j → j < k + 1 → (at0 t j).lo < x) := fun j h1 h2 => by
        rcases Nat.lt_or_ge j k with h | h
        · exact Hg.out j h1 h
        · obtain rfl : j = k := by omega
          exact hlt
      subst hA
      generalize at0 t k = q at *
      clear hlt
      go_wp2_with fail
      go_roundw
      case rel => exact ⟨k + 1, by omega, hkn.out, by go_num, hgn.out, u, rfl⟩
      case measure => simp [intOf]; omega
    · have hltb := decide_eq_false hlt
      obtain ⟨hv, hln⟩ := val_of HT.out hk1 hk Hg.out (by omega) K0.out
      obtain ⟨b', o', hA', _, f0, f1⟩ := (HX.out _ (HUw.out u)).rng (show k - 1 < t.length by omega)
      rw [hA] at hA'
      (injection hA' with ea; injection ea with ea1 ea2; subst ea1 ea2)
      subst hA
      have hf := Lib.hid hv
      have hkk : k - 1 < t.length := by omega
      have ck : IntKind.i64.wrap ((k : Int) - 1) = ((k - 1 : Nat) : Int) := by rw [IntWalk.i64_in _ (by omega)]; omega
      clear hv hlt
      generalize at0 t k = q at *
      generalize at0 t (k - 1) = p at *
      go_upto_region 4 with (fail)
      have hbX := ovr_below w u
      obtain ⟨X, hX⟩ : ∃ X, X = ovr w u := ⟨_, rfl⟩
      rw [← hX] at hbX
      rw [← hX]
      have hX' := Lib.hid hX
      clear hX
      have hbX' := Lib.hid hbX
      have reX : ∀ v, ∃ x, ovr X v = ovr w x := fun v => ovr_reB hbX v
      have HUX : Hid (∀ u, Below w.heap.size w (ovr X u)) := fun u => by obtain ⟨x, hx⟩ := reX u; rw [hx]; exact HUw.out x
      clear reX hbX
      rw [← hX'.out] at e0 e1 f0 f1
      obtain ⟨h1, h2, h3, h4, h5, h6, h7⟩ := hln
      have hp := part_le (a := q.hi - p.hi) (b := x - p.lo) (c := q.lo - p.lo) (by omega) (by omega) (by omega)
      have hfl : flR ((q.hi - p.hi) * (x - p.lo)) (q.lo - p.lo) = ((q.hi - p.hi) * (x - p.lo) / (q.lo - p.lo), (q.hi - p.hi) * (x - p.lo) % (q.lo - p.lo), true) := if_pos (by omega)
      have hm : 0 ≤ (q.hi - p.hi) * (x - p.lo) % (q.lo - p.lo) := Int.emod_nonneg _ (by omega)
      have cf : Hid (∀ W, Calls Tryz.prog 113 #[I (q.hi - p.hi), I (x - p.lo), I (q.lo - p.lo)] W fun e w' => e = .returned (.tuple #[I ((q.hi - p.hi) * (x - p.lo) / (q.lo - p.lo)), I ((q.hi - p.hi) * (x - p.lo) % (q.lo - p.lo)), .bool true]) ∧ Below W.heap.size W w') := fun W => by
        have := floor_any (q.hi - p.hi) (x - p.lo) (q.lo - p.lo) W (by omega) (by omega) (by omega)
        rw [hfl] at this; exact this
      have hat : Hid (atF p q x = ⟨p.hi + (q.hi - p.hi) * (x - p.lo) / (q.lo - p.lo), if 0 < (q.hi - p.hi) * (x - p.lo) % (q.lo - p.lo) then p.hi + (q.hi - p.hi) * (x - p.lo) / (q.lo - p.lo) + 1 else p.hi + (q.hi - p.hi) * (x - p.lo) / (q.lo - p.lo)⟩) := rfl
      have c1 : IntKind.i64.wrap (q.hi - p.hi) = q.hi - p.hi := IntWalk.i64_in _ (by omega)
      have c2 : IntKind.i64.wrap (x - p.lo) = x - p.lo := IntWalk.i64_in _ (by omega)
      have c3 : IntKind.i64.wrap (q.lo - p.lo) = q.lo - p.lo := IntWalk.i64_in _ (by omega)
      obtain ⟨n, hn⟩ : ∃ n, (q.hi - p.hi) * (x - p.lo) / (q.lo - p.lo) = n := ⟨_, rfl⟩
      obtain ⟨r, hr⟩ : ∃ r, (q.hi - p.hi) * (x - p.lo) % (q.lo - p.lo) = r := ⟨_, rfl⟩
      rw [hn, hr] at hat cf
      rw [hn] at hp
      rw [hr] at hm
      have hb : -2000000000000 ≤ n ∧ n ≤ 2000000000000 := by omega
      have c4 : IntKind.i64.wrap (p.hi + n) = p.hi + n := IntWalk.i64_in _ (by omega)
      have c5 : IntKind.i64.wrap (p.hi + n + 1) = p.hi + n + 1 := IntWalk.i64_in _ (by omega)
      clear hn hr hp hfl h1 h3 h5 h6 h7 hb h2 h4 hm
      go_cut [7, 8] (fun s7 s8 wx => ∃ pb qb : Nat, s7 = .pointer (some ⟨pb, 0, none⟩) ∧ s8 = .pointer (some ⟨qb, 0, none⟩) ∧ wx.heap[pb]? = some (.cells #[I p.lo, I p.hi] 88 (0, 0)) ∧ wx.heap[qb]? = some (.cells #[I q.lo, I q.hi] 88 (0, 0)) ∧ Below X.heap.size X wx)
      case first =>
        go_region_held3 (fun w' => w'.cell? ⟨b, o + (k - 1) * 2, none⟩ = some (I p.lo) ∧ w'.cell? ⟨b, o + (k - 1) * 2 + 1, none⟩ = some (I p.hi) ∧ w'.cell? ⟨b, o + k * 2, none⟩ = some (I q.lo) ∧ w'.cell? ⟨b, o + k * 2 + 1, none⟩ = some (I q.hi)) (go_keep) (fail)
        all_goals
          go_wp2_with fail
          go_meet
          case rel =>
            first
            | exact ⟨_, _, rfl, rfl, (by rw [heap_drew]; exact heap_before (heap_last _ _ _ rfl)), (by rw [heap_drew]; exact heap_last _ _ _ (by simp)), (((Below.refl _ _).alloc (Nat.le_refl _) _).alloc (by simp) _).drew⟩
            | exact ⟨_, _, rfl, rfl, (by rw [heap_drew]; exact heap_last _ _ _ (by simp)), (by rw [heap_drew]; exact heap_before (heap_last _ _ _ rfl)), (((Below.refl _ _).alloc (Nat.le_refl _) _).alloc (by simp) _).drew⟩
      case rest =>
        obtain ⟨pb, qb, rfl, rfl, rp, rq, hbV⟩ := hcut
        rename World => V
        have reV : ∀ v, ∃ x, ovr V v = ovr X x := fun v => ovr_reB hbV v
        have yV00 := ovr_cell (W := V) (b := pb) (o := 0) (v := I p.lo) (by rw [cell_of_row _ _ _ _ _ _ rp]; rfl)
        have yV01 := ovr_cell (W := V) (b := pb) (o := 1) (v := I p.hi) (by rw [cell_of_row _ _ _ _ _ _ rp]; rfl)
        have RrowV0 := Lib.hid (ovr_row rp)
        clear rp
        have yV10 := ovr_cell (W := V) (b := qb) (o := 0) (v := I q.lo) (by rw [cell_of_row _ _ _ _ _ _ rq]; rfl)
        have yV11 := ovr_cell (W := V) (b := qb) (o := 1) (v := I q.hi) (by rw [cell_of_row _ _ _ _ _ _ rq]; rfl)
        have RrowV1 := Lib.hid (ovr_row rq)
        clear rq
        have HUV : Hid (∀ u, Below w.heap.size w (ovr V u)) := fun u => by obtain ⟨x, hx⟩ := reV u; rw [hx]; exact HUX.out x
        clear reV hbV
        obtain ⟨u1, hu1⟩ := ovr_self V
        rw [hu1]
        clear hu1
        clear e0 e1 f0 f1
        go_wp2_with fail
        refine (cf.out _).mono ?_
        rintro e w1 ⟨rfl, hb1⟩
        obtain ⟨u2, rfl⟩ := ovr_next hb1
        clear hb1
        by_cases hr0 : 0 < r
        · have hrb := decide_eq_true hr0
          rw [if_pos hr0] at hat
          clear hr0
          have g1 := fun v => ovr_cell (yV01 u2) v
          have g2 := fun v => ovr_cell (yV11 u2) v
          go_upto_region 7 with (fail)
          refine wp_region_below_lit (by kernel_rfl) (by kernel_rfl) ?_
          repeat (go_big_quiet_step (fail))
          refine wpQuiet_nil ?_
          intro w1 hb1
          obtain ⟨u3, rfl⟩ := ovr_next hb1
          clear hb1
          go_wp2_with fail
          go_ret2
          exact ⟨by rw [hf.out, hat.out]; rfl, HUV.out u3⟩
        · have hrb := decide_eq_false hr0
          rw [if_neg hr0] at hat
          clear hr0
          have g1 := fun v => ovr_cell (yV01 u2) v
          have g2 := fun v => ovr_cell (yV11 u2) v
          go_upto_region 8 with (fail)
          refine wp_region_below_lit (by kernel_rfl) (by kernel_rfl) ?_
          repeat (go_big_quiet_step (fail))
          refine wpQuiet_nil ?_
          intro w1 hb1
          obtain ⟨u3, rfl⟩ := ovr_next hb1
          clear hb1
          go_wp2_with fail
          go_ret2
          exact ⟨by rw [hf.out, hat.out]; rfl, HUV.out u3⟩
end Go.Proofs.YteibgenkklpoaaaGreat.Un
namespace Go.Proofs.YteibgenkklpoaaaGreat.Un
open Go.RowKit
set_option maxRecDepth 100000 in
set_option maxHeartbeats 4000000 in
theorem refValue_any (A : Option Addr) (c : Nat) (t : List Rng) (x : Rng) (w : World) (B : Nat) (hm : t.length ≤ maxLen) (hB : B ≤ w.heap.size) (hx : Rd w B 2 A t.length (rR t))
    (hz : ∀ j, j < t.length → (-9223372036854775808 ≤ (at0 t j).lo ∧ (at0 t j).lo ≤ 9223372036854775807) ∧ (-9223372036854775808 ≤ (at0 t j).hi ∧ (at0 t j).hi ≤ 9223372036854775807)) :
    Calls Tryz.prog 74 #[.slice A t.length c, x.val] w (RetRn w (vaF t x)) := by
  have hf : Hid (vaF t x = if tabB t && rngOk x then (if decide (x.lo < (at0 t 0).lo) || decide ((at0 t (t.length - 1)).lo < x.hi) then (⟨0, 0⟩, 7) else (arK t x t.length, 0)) else (⟨0, 0⟩, 2)) := rfl
  have HX : Hid (∀ W', Below w.heap.size w W' → Rd W' B 2 A t.length (rR t) ∧ B ≤ W'.heap.size) := fun W' h => ⟨hx.below (h.mono hB), Nat.le_trans hB h.size⟩
  have ct : Hid (∀ W', Rd W' B 2 A t.length (rR t) ∧ B ≤ W'.heap.size → Calls Tryz.prog 49 #[.slice A t.length c] W' fun e w' => e = .returned (.bool (tabB t)) ∧ Below W'.heap.size W' w') := fun W' h => refTable_any A c t W' B hm h.2 h.1 hz
  have cr := Lib.hid fun W => refRange_any x W
  have ca : Hid (∀ W' y, Tab t → (at0 t 0).lo ≤ y → y ≤ (at0 t (t.length - 1)).lo → Rd W' B 2 A t.length (rR t) ∧ B ≤ W'.heap.size → Calls Tryz.prog 97 #[.slice A t.length c, I y] W' fun e w' => e = .returned (.tuple #[I (valF t y).lo, I (valF t y).hi]) ∧ Below W'.heap.size W' w') := fun W' y ht h1 h2 h => refAt_any A c t y W' B ht h1 h2 h.2 h.1
  clear hx hB hm hz
  obtain ⟨W, hW⟩ : ∃ W, W = ((w.alloc (.cells #[I x.lo, I x.hi] 23)).alloc (.cells #[I 0, I 0] 23)) := ⟨_, rfl⟩
  have rowW0 : W.heap[w.heap.size]? = some (.cells #[I x.lo, I x.hi] 23 (0, 0)) := by rw [hW]; exact heap_before (heap_last _ _ _ rfl)
  have yW00 := ovr_cell (W := W) (b := w.heap.size) (o := 0) (v := I x.lo) (by rw [cell_of_row _ _ _ _ _ _ rowW0]; rfl)
  have yW01 := ovr_cell (W := W) (b := w.heap.size) (o := 1) (v := I x.hi) (by rw [cell_of_row _ _ _ _ _ _ rowW0]; rfl)
  have RrowW0 := Lib.hid (ovr_row rowW0)
  clear rowW0
  have rowW1 : W.heap[w.heap.size + 1]? = some (.cells #[I 0, I 0] 23 (0, 0)) := by rw [hW]; exact heap_last _ _ _ (by simp)
  have yW10 := ovr_cell (W := W) (b := w.heap.size + 1) (o := 0) (v := I 0) (by rw [cell_of_row _ _ _ _ _ _ rowW1]; rfl)
  have yW11 := ovr_cell (W := W) (b := w.heap.size + 1) (o := 1) (v := I 0) (by rw [cell_of_row _ _ _ _ _ _ rowW1]; rfl)
  have RrowW1 := Lib.hid (ovr_row rowW1)
  clear rowW1
  have HUW : Hid (∀ u, Below w.heap.size w (ovr W u)) := U2 hW
  have HW := Lib.hid hW
  clear hW
  rcases h1 : tabB t with _ | _ <;> (rw [h1] at hf ct)
  · go_enter Tryz.func74, Tryz.ntmps74
    go_upto_region 1 with (fail)
    rw [← HW.out]
    obtain ⟨u0, hu0⟩ := ovr_self W
    rw [hu0]
    clear hu0
    go_wp2_with fail
    refine (ct.out _ (HX.out _ (HUW.out _))).mono ?_
    rintro e w1 ⟨rfl, hb1⟩
    obtain ⟨u1, rfl⟩ := ovr_next hb1
    clear hb1
    go_wp2_with (refine wpList_store_row rfl 23 _ _ rfl (w.heap.size + 1) rfl _ _ (RrowW1.out _) _ rfl (one2 rfl rfl) rfl (by kernel_rfl) ?_)
    refine bodyPost_ret (results_cell_tmp rfl _ _ (w.heap.size + 1) 23 _ (0, 0) _ rfl (setRow_same (RrowW1.out _)) Tryz.underlying23 rfl (by kernel_rfl)) rfl ?_
    exact ⟨by rw [hf.out]; rfl, below_setRow (HUW.out _) (by omega) _⟩
  have HT := Lib.hid (tab_iff.1 h1)
  clear h1
  rcases h2 : rngOk x with _ | _ <;> (rw [h2] at hf cr)
  · go_enter Tryz.func74, Tryz.ntmps74
    go_upto_region 1 with (fail)
    rw [← HW.out]
    obtain ⟨u0, hu0⟩ := ovr_self W
    rw [hu0]
    clear hu0
    go_wp2_with fail
    refine (ct.out _ (HX.out _ (HUW.out _))).mono ?_
    rintro e w1 ⟨rfl, hb1⟩
    obtain ⟨u1, rfl⟩ := ovr_next hb1
    clear hb1
    go_wp2_with fail
    refine (cr.out _).mono ?_
    rintro e w1 ⟨rfl, hb1⟩
    obtain ⟨u2, rfl⟩ := ovr_next hb1
    clear hb1
    go_wp2_with (refine wpList_store_row rfl 23 _ _ rfl (w.heap.size + 1) rfl _ _ (RrowW1.out _) _ rfl (one2 rfl rfl) rfl (by kernel_rfl) ?_)
    refine bodyPost_ret (results_cell_tmp rfl _ _ (w.heap.size + 1) 23 _ (0, 0) _ rfl (setRow_same (RrowW1.out _)) Tryz.underlying23 rfl (by kernel_rfl)) rfl ?_
    exact ⟨by rw [hf.out]; rfl, below_setRow (HUW.out _) (by omega) _⟩
  have HR := Lib.hid (rngOk_iff.1 h2)
  rw [if_pos (by rfl)] at hf
  clear h2
  have t60 := HT.out.n60
  have t2 := HT.out.n2
  have h0l : 0 < t.length := by omega
  have hll : t.length - 1 < t.length := by omega
  have ck : IntKind.i64.wrap ((t.length : Int) - 1) = ((t.length - 1 : Nat) : Int) := by rw [IntWalk.i64_in _ (by omega)]; omega
  go_enter Tryz.func74, Tryz.ntmps74
  go_upto_region 1 with (fail)
  rw [← HW.out]
  obtain ⟨u0, hu0⟩ := ovr_self W
  rw [hu0]
  clear hu0
  go_wp2_with fail
  refine (ct.out _ (HX.out _ (HUW.out _))).mono ?_
  rintro e w1 ⟨rfl, hb1⟩
  obtain ⟨u1, rfl⟩ := ovr_next hb1
  clear hb1
  go_wp2_with fail
  refine (cr.out _).mono ?_
  rintro e w1 ⟨rfl, hb1⟩
  obtain ⟨u2, rfl⟩ := ovr_next hb1
  clear hb1
  go_upto_region 3 with (fail)
  obtain ⟨b, o, hA, _, e0, _⟩ := (HX.out _ (HUW.out u2)).1.rng h0l
  obtain ⟨b', o', hA', _, f0, _⟩ := (HX.out _ (HUW.out u2)).1.rng hll
  rw [hA] at hA'
  (injection hA' with ea; injection ea with ea1 ea2; subst ea1 ea2)
  subst hA
  rw [Nat.zero_mul, Nat.add_zero] at e0
  have e01 := ovr_cell e0
  have f01 := ovr_cell f0
  have g0 := ovr_cell (yW00 u2)
  have g1 := ovr_cell (yW01 u2)
  obtain ⟨p, hp⟩ : ∃ p, (at0 t 0).lo = p := ⟨_, rfl⟩
  obtain ⟨q, hq⟩ : ∃ q, (at0 t (t.length - 1)).lo = q := ⟨_, rfl⟩
  rw [hp, hq] at hf
  rw [hp] at e0 e01
  rw [hq] at f0 f01
  have Hp := Lib.hid hp
  have Hq := Lib.hid hq
  clear hp hq
  by_cases d : x.lo < p ∨ q < x.hi
  · have d2 : (decide (x.lo < p) || decide (q < x.hi)) = true := by simpa using d
    rw [d2, if_pos rfl] at hf
    have d3 : (decide (x.lo < p) = true) ∨ (decide (x.lo < p) = false ∧ decide (q < x.hi) = true) := by simp only [decide_eq_true_eq, decide_eq_false_iff_not]; omega
    clear d d2
    rcases d3 with d3 | ⟨d3, d4⟩
    all_goals
      refine wp_region_below_lit (by kernel_rfl) (by kernel_rfl) ?_
      repeat (go_big_quiet_step (fail))
      refine wpQuiet_nil ?_
      intro w1 hb1
      obtain ⟨u3, rfl⟩ := ovr_next hb1
      clear hb1 e0 f0 e01 f01 g0 g1
      go_wp2_with (refine wpList_store_row rfl 23 _ _ rfl (w.heap.size + 1) rfl _ _ (RrowW1.out _) _ rfl (one2 rfl rfl) rfl (by kernel_rfl) ?_)
      refine bodyPost_ret (results_cell_tmp rfl _ _ (w.heap.size + 1) 23 _ (0, 0) _ rfl (setRow_same (RrowW1.out _)) Tryz.underlying23 rfl (by kernel_rfl)) rfl ?_
      exact ⟨by rw [hf.out]; rfl, below_setRow (HUW.out _) (by omega) _⟩
  have d2 : (decide (x.lo < p) || decide (q < x.hi)) = false := by simp; omega
  rw [d2, if_neg (by decide)] at hf
  have d3 : decide (x.lo < p) = false := decide_eq_false (by omega)
  have d4 : decide (q < x.hi) = false := decide_eq_false (by omega)
  have c1 : Hid (∀ W', Rd W' B 2 (some ⟨b, o, none⟩) t.length (rR t) ∧ B ≤ W'.heap.size → Calls Tryz.prog 97 #[.slice (some ⟨b, o, none⟩) t.length c, I x.lo] W' fun e w' => e = .returned (.tuple #[I (valF t x.lo).lo, I (valF t x.lo).hi]) ∧ Below W'.heap.size W' w') := fun W' h => ca.out W' x.lo HT.out (by rw [Hp.out]; omega) (by rw [Hq.out]; have := HR.out; omega) h
  have c2 : Hid (∀ W', Rd W' B 2 (some ⟨b, o, none⟩) t.length (rR t) ∧ B ≤ W'.heap.size → Calls Tryz.prog 97 #[.slice (some ⟨b, o, none⟩) t.length c, I x.hi] W' fun e w' => e = .returned (.tuple #[I (valF t x.hi).lo, I (valF t x.hi).hi]) ∧ Below W'.heap.size W' w') := fun W' h => ca.out W' x.hi HT.out (by rw [Hp.out]; have := HR.out; omega) (by rw [Hq.out]; omega) h
  have h0 : Hid (arK t x 0 = ⟨min (valF t x.lo).lo (valF t x.hi).lo, max (valF t x.lo).hi (valF t x.hi).hi⟩) := rfl
  generalize valF t x.lo = v at *
  generalize valF t x.hi = v' at *
  obtain ⟨v1, v2⟩ := v
  obtain ⟨v3, v4⟩ := v'
  simp only at c1 c2 h0
  clear d d2 ca
  refine wp_region_below_lit (by kernel_rfl) (by kernel_rfl) ?_
  repeat (go_big_quiet_step (fail))
  refine wpQuiet_nil ?_
  intro w1 hb1
  obtain ⟨u3, rfl⟩ := ovr_next hb1
  clear hb1 e0 f0 e01 f01 g0 g1
  go_wp2_with fail
  refine (c1.out _ (HX.out _ (HUW.out _))).mono ?_
  rintro e w1 ⟨rfl, hb1⟩
  obtain ⟨u4, rfl⟩ := ovr_next hb1
  clear hb1
  go_wp2_with fail
  refine (c2.out _ (HX.out _ (HUW.out _))).mono ?_
  rintro e w1 ⟨rfl, hb1⟩
  obtain ⟨u5, rfl⟩ := ovr_next hb1
  clear hb1
  go_wp2_with fail
  go_loopw [6, 7, 10] (fun lo hi i wr => ∃ k : Nat, k ≤ t.length ∧ i = .int .i64 k ∧ lo = I (arK t x k).lo ∧ hi = I (arK t x k).hi ∧ ∃ u, wr = ovr W u) (fun _ _ i _ => t.length - (intOf i).toNat)
  case atStart => exact ⟨0, by omega, rfl, by rw [h0.out], by rw [h0.out], u5, rfl⟩
  case round =>
    obtain ⟨k, hk, rfl, rfl, rfl, u, rfl⟩ := hrel
    by_cases hlt : k < t.length
    · have hltb : decide ((k : Int) < (t.length : Int)) = true := decide_eq_true (by omega)
      obtain ⟨b', o', hA', _, e0, e1⟩ := (HX.out _ (HUW.out u)).1.rng hlt
      (injection hA' with ea; injection ea with ea1 ea2; subst ea1 ea2)
      have e01 := ovr_cell e0
      have e11 := ovr_cell e1
      have g0 := ovr_cell (yW00 u)
      have g1 := ovr_cell (yW01 u)
      have hs : Hid (arK t x (k + 1) = if inX x (at0 t k) then huF (arK t x k) ⟨(at0 t k).hi, (at0 t k).hi⟩ else arK t x k) := rfl
      have hin : inX x (at0 t k) = (decide (x.lo < (at0 t k).lo) && decide ((at0 t k).lo < x.hi)) := rfl
      generalize arK t x k = s at *
      obtain ⟨y, hy⟩ : ∃ y, at0 t k = y := ⟨_, rfl⟩
      rw [hy] at hs hin e0 e1 e01 e11
      have Hy := Lib.hid hy
      clear hy
      rcases d5 : decide (x.lo < y.lo) with _ | _ <;> rcases d6 : decide (y.lo < x.hi) with _ | _
      · rw [d5, d6] at hin
        rw [hin] at hs
        clear hin
        go_upto_region 11 with (fail)
        refine wp_region_below_lit (by kernel_rfl) (by kernel_rfl) ?_
        repeat (go_big_quiet_step (fail))
        refine wpQuiet_nil ?_
        intro w1 hb1
        obtain ⟨u6, rfl⟩ := ovr_next hb1
        clear hb1 e0 e1 e01 e11 g0 g1
        rw [if_neg (by decide)] at hs
        go_wp2_with fail
        go_roundw
        case rel => exact ⟨k + 1, by omega, by go_num, by rw [hs.out], by rw [hs.out], u6, rfl⟩
        case measure => simp [intOf]; omega
      · rw [d5, d6] at hin
        rw [hin] at hs
        clear hin
        go_upto_region 11 with (fail)
        refine wp_region_below_lit (by kernel_rfl) (by kernel_rfl) ?_
        repeat (go_big_quiet_step (fail))
        refine wpQuiet_nil ?_
        intro w1 hb1
        obtain ⟨u6, rfl⟩ := ovr_next hb1
        clear hb1 e0 e1 e01 e11 g0 g1
        rw [if_neg (by decide)] at hs
        go_wp2_with fail
        go_roundw
        case rel => exact ⟨k + 1, by omega, by go_num, by rw [hs.out], by rw [hs.out], u6, rfl⟩
        case measure => simp [intOf]; omega
      · rw [d5, d6] at hin
        rw [hin] at hs
        clear hin
        go_upto_region 11 with (fail)
        refine wp_region_below_lit (by kernel_rfl) (by kernel_rfl) ?_
        repeat (go_big_quiet_step (fail))
        refine wpQuiet_nil ?_
        intro w1 hb1
        obtain ⟨u6, rfl⟩ := ovr_next hb1
        clear hb1 e0 e1 e01 e11 g0 g1
        rw [if_neg (by decide)] at hs
        go_wp2_with fail
        go_roundw
        case rel => exact ⟨k + 1, by omega, by go_num, by rw [hs.out], by rw [hs.out], u6, rfl⟩
        case measure => simp [intOf]; omega
      · rw [d5, d6] at hin
        rw [hin] at hs
        clear hin
        go_upto_region 11 with (fail)
        refine wp_region_below_lit (by kernel_rfl) (by kernel_rfl) ?_
        repeat (go_big_quiet_step (fail))
        refine wpQuiet_nil ?_
        intro w1 hb1
        obtain ⟨u6, rfl⟩ := ovr_next hb1
        clear hb1 e0 e1 e01 e11 g0 g1
        rw [if_pos (by rfl)] at hs
        obtain ⟨b', o', hA', _, e0, e1⟩ := (HX.out _ (HUW.out u6)).1.rng hlt
        (injection hA' with ea; injection ea with ea1 ea2; subst ea1 ea2)
        rw [Hy.out] at e0 e1
        have e01 := ovr_cell e0
        have e11 := ovr_cell e1
        go_upto_region 12 with (fail)
        refine wp_region_below_lit (by kernel_rfl) (by kernel_rfl) ?_
        repeat (go_big_quiet_step (fail))
        refine wpQuiet_nil ?_
        intro w1 hb1
        obtain ⟨u7, rfl⟩ := ovr_next hb1
        clear hb1 e0 e1 e01 e11
        go_wp2_with fail
        go_roundw
        case rel => exact ⟨k + 1, by omega, by go_num, by rw [hs.out]; rfl, by rw [hs.out]; rfl, u7, rfl⟩
        case measure => simp [intOf]; omega
    · obtain rfl : k = t.length := by omega
      have hltb : decide ((t.length : Int) < (t.length : Int)) = false := decide_eq_false (by omega)
      go_wp2_with (refine wpList_store_row rfl 23 _ _ rfl (w.heap.size + 1) rfl _ _ (RrowW1.out _) _ rfl (one2 rfl rfl) rfl (by kernel_rfl) ?_)
      refine bodyPost_ret (results_cell_tmp rfl _ _ (w.heap.size + 1) 23 _ (0, 0) _ rfl (setRow_same (RrowW1.out _)) Tryz.underlying23 rfl (by kernel_rfl)) rfl ?_
      exact ⟨by rw [hf.out]; rfl, below_setRow (HUW.out _) (by omega) _⟩
end Go.Proofs.YteibgenkklpoaaaGreat.Un
