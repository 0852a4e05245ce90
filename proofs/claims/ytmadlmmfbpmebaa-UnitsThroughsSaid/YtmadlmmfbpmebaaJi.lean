/- The contract of Value of the reference of chapter 1. -/
import Derived.Test.YtmadlmmfbpmebaaJh
namespace Go.Proofs.Ytmadlmmfbpmebaa
open Go.RowKit
set_option maxRecDepth 100000 in
set_option maxHeartbeats 4000000 in
theorem refValue_any (A : Option Addr) (c : Nat) (t : List Rng) (x : Rng) (w : World) (B : Nat) (hm : t.length ≤ maxLen) (hB : B ≤ w.heap.size) (hx : Rd w B 2 A t.length (rR t))
    (hz : ∀ j, j < t.length → (-9223372036854775808 ≤ (at0 t j).lo ∧ (at0 t j).lo ≤ 9223372036854775807) ∧ (-9223372036854775808 ≤ (at0 t j).hi ∧ (at0 t j).hi ≤ 9223372036854775807)) :
    Calls Try.prog 34 #[.slice A t.length c, x.val] w (RetRn w (vaF t x)) := by
  have hf : Hid (vaF t x = if tabB t && rngOk x then (if decide (x.lo < (at0 t 0).lo) || decide ((at0 t (t.length - 1)).lo < x.hi) then (⟨0, 0⟩, 7) else (arK t x t.length, 0)) else (⟨0, 0⟩, 2)) := rfl
  have HX : Hid (∀ W', Below w.heap.size w W' → Rd W' B 2 A t.length (rR t) ∧ B ≤ W'.heap.size) := fun W' h => ⟨hx.below (h.mono hB), Nat.le_trans hB h.size⟩
  have ct : Hid (∀ W', Rd W' B 2 A t.length (rR t) ∧ B ≤ W'.heap.size → Calls Try.prog 35 #[.slice A t.length c] W' fun e w' => e = .returned (.bool (tabB t)) ∧ Below W'.heap.size W' w') := fun W' h => refTable_any A c t W' B hm h.2 h.1 hz
  have cr := Lib.hid fun W => refRange_any x W
  have ca : Hid (∀ W' y, Tab t → (at0 t 0).lo ≤ y → y ≤ (at0 t (t.length - 1)).lo → Rd W' B 2 A t.length (rR t) ∧ B ≤ W'.heap.size → Calls Try.prog 85 #[.slice A t.length c, I y] W' fun e w' => e = .returned (.tuple #[I (valF t y).lo, I (valF t y).hi]) ∧ Below W'.heap.size W' w') := fun W' y ht h1 h2 h => refAt_any A c t y W' B ht h1 h2 h.2 h.1
  clear hx hB hm hz
  obtain ⟨W, hW⟩ : ∃ W, W = ((w.alloc (.cells #[I x.lo, I x.hi] 38)).alloc (.cells #[I 0, I 0] 38)) := ⟨_, rfl⟩
  have rowW0 : W.heap[w.heap.size]? = some (.cells #[I x.lo, I x.hi] 38 (0, 0)) := by rw [hW]; exact heap_before (heap_last _ _ _ rfl)
  have yW00 := ovr_cell (W := W) (b := w.heap.size) (o := 0) (v := I x.lo) (by rw [cell_of_row _ _ _ _ _ _ rowW0]; rfl)
  have yW01 := ovr_cell (W := W) (b := w.heap.size) (o := 1) (v := I x.hi) (by rw [cell_of_row _ _ _ _ _ _ rowW0]; rfl)
  have RrowW0 := Lib.hid (ovr_row rowW0)
  clear rowW0
  have rowW1 : W.heap[w.heap.size + 1]? = some (.cells #[I 0, I 0] 38 (0, 0)) := by rw [hW]; exact heap_last _ _ _ (by simp)
  have yW10 := ovr_cell (W := W) (b := w.heap.size + 1) (o := 0) (v := I 0) (by rw [cell_of_row _ _ _ _ _ _ rowW1]; rfl)
  have yW11 := ovr_cell (W := W) (b := w.heap.size + 1) (o := 1) (v := I 0) (by rw [cell_of_row _ _ _ _ _ _ rowW1]; rfl)
  have RrowW1 := Lib.hid (ovr_row rowW1)
  clear rowW1
  have HUW : Hid (∀ u, Below w.heap.size w (ovr W u)) := U2 hW
  have HW := Lib.hid hW
  clear hW
  rcases h1 : tabB t with _ | _ <;> (rw [h1] at hf ct)
  · go_enter Try.func34, Try.ntmps34
    go_upto_region 1 with (fail)
    rw [← HW.out]
    obtain ⟨u0, hu0⟩ := ovr_self W
    rw [hu0]
    clear hu0
    go_wp2_with fail
    refine (ct.out _ (HX.out _ (HUW.out _))).mono ?_
    rintro e w1 ⟨rfl, hb1⟩
    obtain ⟨u1, rfl⟩ := ovr_next hb1
    clear hb1
    go_wp2_with (refine wpList_store_row rfl 38 _ _ rfl (w.heap.size + 1) rfl _ _ (RrowW1.out _) _ rfl (one2 rfl rfl) rfl (by kernel_rfl) ?_)
    refine bodyPost_ret (results_cell_tmp rfl _ _ (w.heap.size + 1) 38 _ (0, 0) _ rfl (setRow_same (RrowW1.out _)) Try.underlying38 rfl (by kernel_rfl)) rfl ?_
    exact ⟨by rw [hf.out]; rfl, below_setRow (HUW.out _) (by omega) _⟩
  have HT := Lib.hid (tab_iff.1 h1)
  clear h1
  rcases h2 : rngOk x with _ | _ <;> (rw [h2] at hf cr)
  · go_enter Try.func34, Try.ntmps34
    go_upto_region 1 with (fail)
    rw [← HW.out]
    obtain ⟨u0, hu0⟩ := ovr_self W
    rw [hu0]
    clear hu0
    go_wp2_with fail
    refine (ct.out _ (HX.out _ (HUW.out _))).mono ?_
    rintro e w1 ⟨rfl, hb1⟩
    obtain ⟨u1, rfl⟩ := ovr_next hb1
    clear hb1
    go_wp2_with fail
    refine (cr.out _).mono ?_
    rintro e w1 ⟨rfl, hb1⟩
    obtain ⟨u2, rfl⟩ := ovr_next hb1
    clear hb1
    go_wp2_with (refine wpList_store_row rfl 38 _ _ rfl (w.heap.size + 1) rfl _ _ (RrowW1.out _) _ rfl (one2 rfl rfl) rfl (by kernel_rfl) ?_)
    refine bodyPost_ret (results_cell_tmp rfl _ _ (w.heap.size + 1) 38 _ (0, 0) _ rfl (setRow_same (RrowW1.out _)) Try.underlying38 rfl (by kernel_rfl)) rfl ?_
    exact ⟨by rw [hf.out]; rfl, below_setRow (HUW.out _) (by omega) _⟩
  have HR := Lib.hid (rngOk_iff.1 h2)
  rw [if_pos (by rfl)] at hf
  clear h2
  have t60 := HT.out.n60
  have t2 := HT.out.n2
  have h0l : 0 < t.length := by omega
  have hll : t.length - 1 < t.length := by omega
  have ck : IntKind.i64.wrap ((t.length : Int) - 1) = ((t.length - 1 : Nat) : Int) := by rw [IntWalk.i64_in _ (by omega)]; omega
  go_enter Try.func34, Try.ntmps34
  go_upto_region 1 with (fail)
  rw [← HW.out]
  obtain ⟨u0, hu0⟩ := ovr_self W
  rw [hu0]
  clear hu0
  go_wp2_with fail
  refine (ct.out _ (HX.out _ (HUW.out _))).mono ?_
  rintro e w1 ⟨rfl, hb1⟩
  obtain ⟨u1, rfl⟩ := ovr_next hb1
  clear hb1
  go_wp2_with fail
  refine (cr.out _).mono ?_
  rintro e w1 ⟨rfl, hb1⟩
  obtain ⟨u2, rfl⟩ := ovr_next hb1
  clear hb1
  go_upto_region 3 with (fail)
  obtain ⟨b, o, hA, _, e0, _⟩ := (HX.out _ (HUW.out u2)).1.rng h0l
  obtain ⟨b', o', hA', _, f0, _⟩ := (HX.out _ (HUW.out u2)).1.rng hll
  rw [hA] at hA'
  (injection hA' with ea; injection ea with ea1 ea2; subst ea1 ea2)
  subst hA
  rw [Nat.zero_mul, Nat.add_zero] at e0
  have e01 := ovr_cell e0
  have f01 := ovr_cell f0
  have g0 := ovr_cell (yW00 u2)
  have g1 := ovr_cell (yW01 u2)
  obtain ⟨p, hp⟩ : ∃ p, (at0 t 0).lo = p := ⟨_, rfl⟩
  obtain ⟨q, hq⟩ : ∃ q, (at0 t (t.length - 1)).lo = q := ⟨_, rfl⟩
  rw [hp, hq] at hf
  rw [hp] at e0 e01
  rw [hq] at f0 f01
  have Hp := Lib.hid hp
  have Hq := Lib.hid hq
  clear hp hq
  by_cases d : x.lo < p ∨ q < x.hi
  · have d2 : (decide (x.lo < p) || decide (q < x.hi)) = true := by simpa using d
    rw [d2, if_pos rfl] at hf
    have d3 : (decide (x.lo < p) = true) ∨ (decide (x.lo < p) = false ∧ decide (q < x.hi) = true) := by simp only [decide_eq_true_eq, decide_eq_false_iff_not]; omega
    clear d d2
    rcases d3 with d3 | ⟨d3, d4⟩
    all_goals
      refine wp_region_below_lit (by kernel_rfl) (by kernel_rfl) ?_
      repeat (go_big_quiet_step (fail))
      refine wpQuiet_nil ?_
      intro w1 hb1
      obtain ⟨u3, rfl⟩ := ovr_next hb1
      clear hb1 e0 f0 e01 f01 g0 g1
      go_wp2_with (refine wpList_store_row rfl 38 _ _ rfl (w.heap.size + 1) rfl _ _ (RrowW1.out _) _ rfl (one2 rfl rfl) rfl (by kernel_rfl) ?_)
      refine bodyPost_ret (results_cell_tmp rfl _ _ (w.heap.size + 1) 38 _ (0, 0) _ rfl (setRow_same (RrowW1.out _)) Try.underlying38 rfl (by kernel_rfl)) rfl ?_
      exact ⟨by rw [hf.out]; rfl, below_setRow (HUW.out _) (by omega) _⟩
  have d2 : (decide (x.lo < p) || decide (q < x.hi)) = false := by simp; omega
  rw [d2, if_neg (by decide)] at hf
  have d3 : decide (x.lo < p) = false := decide_eq_false (by omega)
  have d4 : decide (q < x.hi) = false := decide_eq_false (by omega)
  have c1 : Hid (∀ W', Rd W' B 2 (some ⟨b, o, none⟩) t.length (rR t) ∧ B ≤ W'.heap.size → Calls Try.prog 85 #[.slice (some ⟨b, o, none⟩) t.length c, I x.lo] W' fun e w' => e = .returned (.tuple #[I (valF t x.lo).lo, I (valF t x.lo).hi]) ∧ Below W'.heap.size W' w') := fun W' h => ca.out W' x.lo HT.out (by rw [Hp.out]; omega) (by rw [Hq.out]; have := HR.out; omega) h
  have c2 : Hid (∀ W', Rd W' B 2 (some ⟨b, o, none⟩) t.length (rR t) ∧ B ≤ W'.heap.size → Calls Try.prog 85 #[.slice (some ⟨b, o, none⟩) t.length c, I x.hi] W' fun e w' => e = .returned (.tuple #[I (valF t x.hi).lo, I (valF t x.hi).hi]) ∧ Below W'.heap.size W' w') := fun W' h => ca.out W' x.hi HT.out (by rw [Hp.out]; have := HR.out; omega) (by rw [Hq.out]; omega) h
  have h0 : Hid (arK t x 0 = ⟨min (valF t x.lo).lo (valF t x.hi).lo, max (valF t x.lo).hi (valF t x.hi).hi⟩) := rfl
  generalize valF t x.lo = v at *
  generalize valF t x.hi = v' at *
  obtain ⟨v1, v2⟩ := v
  obtain ⟨v3, v4⟩ := v'
  simp only at c1 c2 h0
  clear d d2 ca
  refine wp_region_below_lit (by kernel_rfl) (by kernel_rfl) ?_
  repeat (go_big_quiet_step (fail))
  refine wpQuiet_nil ?_
  intro w1 hb1
  obtain ⟨u3, rfl⟩ := ovr_next hb1
  clear hb1 e0 f0 e01 f01 g0 g1
  go_wp2_with fail
  refine (c1.out _ (HX.out _ (HUW.out _))).mono ?_
  rintro e w1 ⟨rfl, hb1⟩
  obtain ⟨u4, rfl⟩ := ovr_next hb1
  clear hb1
  go_wp2_with fail
  refine (c2.out _ (HX.out _ (HUW.out _))).mono ?_
  rintro e w1 ⟨rfl, hb1⟩
  obtain ⟨u5, rfl⟩ := ovr_next hb1
  clear hb1
  go_wp2_with fail
  go_loopw [6, 7, 10] (fun lo hi i wr => ∃ k : Nat, k ≤ t.length ∧ i = .int .i64 k ∧ lo = I (arK t x k).lo ∧ hi = I (arK t x k).hi ∧ ∃ u, wr = ovr W u) (fun _ _ i _ => t.length - (intOf i).toNat)
  case atStart => exact ⟨0, by omega, rfl, by rw [h0.out], by rw [h0.out], u5, rfl⟩
  case round =>
    obtain ⟨k, hk, rfl, rfl, rfl, u, rfl⟩ := hrel
    by_cases hlt : k < t.length
    · have hltb : decide ((k : Int) < (t.length : Int)) = true := decide_eq_true (by omega)
      obtain ⟨b', o', hA', _, e0, e1⟩ := (HX.out _ (HUW.out u)).1.rng hlt
      (injection hA' with ea; injection ea with ea1 ea2; subst ea1 ea2)
      have e01 := ovr_cell e0
      have e11 := ovr_cell e1
      have g0 := ovr_cell (yW00 u)
      have g1 := ovr_cell (yW01 u)
      have hs : Hid (arK t x (k + 1) = if inX x (at0 t k) then huF (arK t x k) ⟨(at0 t k).hi, (at0 t k).hi⟩ else arK t x k) := rfl
      have hin : inX x (at0 t k) = (decide (x.lo < (at0 t k).lo) && decide ((at0 t k).lo < x.hi)) := rfl
      generalize arK t x k = s at *
      obtain ⟨y, hy⟩ : ∃ y, at0 t k = y := ⟨_, rfl⟩
      rw [hy] at hs hin e0 e1 e01 e11
      have Hy := Lib.hid hy
      clear hy
      rcases d5 : decide (x.lo < y.lo) with _ | _ <;> rcases d6 : decide (y.lo < x.hi) with _ | _
      · rw [d5, d6] at hin
        rw [hin] at hs
        clear hin
        go_upto_region 11 with (fail)
        refine wp_region_below_lit (by kernel_rfl) (by kernel_rfl) ?_
        repeat (go_big_quiet_step (fail))
        refine wpQuiet_nil ?_
        intro w1 hb1
        obtain ⟨u6, rfl⟩ := ovr_next hb1
        clear hb1 e0 e1 e01 e11 g0 g1
        rw [if_neg (by decide)] at hs
        go_wp2_with fail
        go_roundw
        case rel => exact ⟨k + 1, by omega, by go_num, by rw [hs.out], by rw [hs.out], u6, rfl⟩
        case measure => simp [intOf]; omega
      · rw [d5, d6] at hin
        rw [hin] at hs
        clear hin
        go_upto_region 11 with (fail)
        refine wp_region_below_lit (by kernel_rfl) (by kernel_rfl) ?_
        repeat (go_big_quiet_step (fail))
        refine wpQuiet_nil ?_
        intro w1 hb1
        obtain ⟨u6, rfl⟩ := ovr_next hb1
        clear hb1 e0 e1 e01 e11 g0 g1
        rw [if_neg (by decide)] at hs
        go_wp2_with fail
        go_roundw
        case rel => exact ⟨k + 1, by omega, by go_num, by rw [hs.out], by rw [hs.out], u6, rfl⟩
        case measure => simp [intOf]; omega
      · rw [d5, d6] at hin
        rw [hin] at hs
        clear hin
        go_upto_region 11 with (fail)
        refine wp_region_below_lit (by kernel_rfl) (by kernel_rfl) ?_
        repeat (go_big_quiet_step (fail))
        refine wpQuiet_nil ?_
        intro w1 hb1
        obtain ⟨u6, rfl⟩ := ovr_next hb1
        clear hb1 e0 e1 e01 e11 g0 g1
        rw [if_neg (by decide)] at hs
        go_wp2_with fail
        go_roundw
        case rel => exact ⟨k + 1, by omega, by go_num, by rw [hs.out], by rw [hs.out], u6, rfl⟩
        case measure => simp [intOf]; omega
      · rw [d5, d6] at hin
        rw [hin] at hs
        clear hin
        go_upto_region 11 with (fail)
        refine wp_region_below_lit (by kernel_rfl) (by kernel_rfl) ?_
        repeat (go_big_quiet_step (fail))
        refine wpQuiet_nil ?_
        intro w1 hb1
        obtain ⟨u6, rfl⟩ := ovr_next hb1
        clear hb1 e0 e1 e01 e11 g0 g1
        rw [if_pos (by rfl)] at hs
        obtain ⟨b', o', hA', _, e0, e1⟩ := (HX.out _ (HUW.out u6)).1.rng hlt
        (injection hA' with ea; injection ea with ea1 ea2; subst ea1 ea2)
        rw [Hy.out] at e0 e1
        have e01 := ovr_cell e0
        have e11 := ovr_cell e1
        go_upto_region 12 with (fail)
        refine wp_region_below_lit (by kernel_rfl) (by kernel_rfl) ?_
        repeat (go_big_quiet_step (fail))
        refine wpQuiet_nil ?_
        intro w1 hb1
        obtain ⟨u7, rfl⟩ := ovr_next hb1
        clear hb1 e0 e1 e01 e11
        go_wp2_with fail
        go_roundw
        case rel => exact ⟨k + 1, by omega, by go_num, by rw [hs.out]; rfl, by rw [hs.out]; rfl, u7, rfl⟩
        case measure => simp [intOf]; omega
    · obtain rfl : k = t.length := by omega
      have hltb : decide ((t.length : Int) < (t.length : Int)) = false := decide_eq_false (by omega)
      go_wp2_with (refine wpList_store_row rfl 38 _ _ rfl (w.heap.size + 1) rfl _ _ (RrowW1.out _) _ rfl (one2 rfl rfl) rfl (by kernel_rfl) ?_)
      refine bodyPost_ret (results_cell_tmp rfl _ _ (w.heap.size + 1) 38 _ (0, 0) _ rfl (setRow_same (RrowW1.out _)) Try.underlying38 rfl (by kernel_rfl)) rfl ?_
      exact ⟨by rw [hf.out]; rfl, below_setRow (HUW.out _) (by omega) _⟩
end Go.Proofs.Ytmadlmmfbpmebaa
