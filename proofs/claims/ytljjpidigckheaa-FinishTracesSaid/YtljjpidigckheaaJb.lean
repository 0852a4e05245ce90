/- The contracts of Ranges, list and Sum of the reference of chapter 1. -/
import Derived.Test.YtljjpidigckheaaR1
namespace Go.Proofs.Ytljjpidigckheaa.Un
open Go.RowKit
theorem rngsOk_no {xs : List Rng} {k : Nat} (hk : k < xs.length) (h : rngOk (at0 xs k) = false) : rngsOk xs = false := by
  unfold rngsOk
  rw [Bool.not_eq_false', List.any_eq_true]
  exact ⟨at0 xs k, by rw [at0_get hk]; exact List.getElem_mem hk, by unfold badR; rw [h]; rfl⟩
theorem rngsOk_yes {xs : List Rng} (h : ∀ j, j < xs.length → rngOk (at0 xs j) = true) : rngsOk xs = true := by
  unfold rngsOk
  rw [Bool.not_eq_true', List.any_eq_false]
  intro x hx
  obtain ⟨j, hj, rfl⟩ := at0_mem hx
  unfold badR
  rw [h j hj]; decide
set_option maxRecDepth 100000 in
set_option maxHeartbeats 1000000 in
theorem refRanges_any (A : Option Addr) (c : Nat) (xs : List Rng) (w : World) (B : Nat) (hm : xs.length ≤ 1000) (hB : B ≤ w.heap.size) (hx : Rd w B 2 A xs.length (rR xs)) :
    Calls Try.prog 117 #[.slice A xs.length c] w fun e w' => e = .returned (.bool (rngsOk xs)) ∧ Below w.heap.size w w' := by
  have HX : Hid (∀ u, Rd (ovr w u) B 2 A xs.length (rR xs)) := fun u => hx.below ((ovr_below w u).mono hB)
  obtain ⟨u0, hu0⟩ := ovr_self w
  have H0 := Lib.hid hu0
  clear hx hB hu0
  have HUw : Hid (∀ u, Below w.heap.size w (ovr w u)) := fun u => ovr_below _ _
  go_enter Try.func117, Try.ntmps117
  go_wp2_with fail
  go_loopw [3] (fun i wr => ∃ k : Nat, k ≤ xs.length ∧ i = .int .i64 k ∧ (∀ j, j < k → rngOk (at0 xs j) = true) ∧ ∃ u, wr = ovr w u) (fun i _ => xs.length - (intOf i).toNat)
  case atStart => exact ⟨0, by omega, rfl, fun _ h => absurd h (by omega), u0, H0.out⟩
  case round =>
    obtain ⟨k, hk, rfl, hall, u, rfl⟩ := hrel
    have HA := Lib.hid hall
    clear hall
    by_cases hlt : k < xs.length
    · obtain ⟨b, o, rfl, _, e0, e1⟩ := (HX.out u).rng hlt
      rcases ho : rngOk (at0 xs k) with _ | _
      all_goals
        have HO := Lib.hid ho
        have cr := Lib.hid fun W => refRange_any (at0 xs k) W
        rw [ho] at cr
        clear ho
        obtain ⟨q, hq⟩ : ∃ q, at0 xs k = q := ⟨_, rfl⟩
        rw [hq] at e0 e1 cr
        clear hq
        go_wp2_with fail
        refine (cr.out _).mono ?_
        rintro e w1 ⟨rfl, hb1⟩
        obtain ⟨u1, rfl⟩ := ovr_next hb1
        clear hb1
      · have hn : Hid (rngsOk xs = false) := rngsOk_no hlt HO.out
        go_wp2_with fail
        go_ret
        exact ⟨by rw [hn.out]; rfl, ovr_below _ _⟩
      · go_wp2_with fail
        go_roundw
        case rel => exact ⟨k + 1, by omega, by go_num, succ_case HA.out HO.out, u1, rfl⟩
        case measure => simp [intOf]; omega
    · obtain rfl : k = xs.length := by omega
      have hn : Hid (rngsOk xs = true) := rngsOk_yes HA.out
      go_wp2_with fail
      go_ret
      exact ⟨by rw [hn.out]; rfl, ovr_below _ _⟩
set_option maxRecDepth 100000 in
set_option maxHeartbeats 1000000 in
theorem refList_any (A : Option Addr) (c : Nat) (xs : List Rng) (w : World) (B : Nat) (_ : xs.length ≤ maxLen) (hB : B ≤ w.heap.size) (hx : Rd w B 2 A xs.length (rR xs)) :
    Calls Try.prog 98 #[.slice A xs.length c] w fun e w' => e = .returned (I (chk xs)) ∧ Below w.heap.size w w' := by
  by_cases h1 : 100 < xs.length
  · have hf : Hid (chk xs = 5) := if_pos h1
    have h1b : decide (100 < (xs.length : Int)) = true := decide_eq_true (by omega)
    clear hx hB h1
    go_enter Try.func98, Try.ntmps98
    go_wp2_with fail
    go_ret
    exact ⟨by rw [hf.out]; rfl, Below.refl _ _⟩
  · have h1b : decide (100 < (xs.length : Int)) = false := decide_eq_false (by omega)
    have cr := Lib.hid (refRanges_any A c xs w B (by omega) hB hx)
    have hc : chk xs = if rngsOk xs then 0 else 2 := if_neg h1
    clear hx hB h1
    rcases ho : rngsOk xs with _ | _
    all_goals
      rw [ho] at cr hc
      have HC := Lib.hid hc
      clear ho hc
      go_enter Try.func98, Try.ntmps98
      go_wp2_with fail
      refine cr.out.mono ?_
      rintro e w1 ⟨rfl, hb⟩
      have HB := Lib.hid hb
      clear hb
      go_wp2_with fail
      go_ret
      exact ⟨by rw [HC.out]; rfl, HB.out⟩
set_option maxRecDepth 100000 in
set_option maxHeartbeats 2000000 in
theorem refSum_any (A : Option Addr) (c : Nat) (xs : List Rng) (w : World) (B : Nat) (hm : xs.length ≤ maxLen) (hB : B ≤ w.heap.size) (hx : Rd w B 2 A xs.length (rR xs)) :
    Calls Try.prog 57 #[.slice A xs.length c] w (RetRn w (suF xs)) := by
  have hf : Hid (suF xs = if chk xs = 0 then fiF (addK xs xs.length).1 (addK xs xs.length).2 else (⟨0, 0⟩, chk xs)) := rfl
  have HX : Hid (∀ W', Below w.heap.size w W' → Rd W' B 2 A xs.length (rR xs) ∧ B ≤ W'.heap.size) := fun W' h => ⟨hx.below (h.mono hB), Nat.le_trans hB h.size⟩
  have cl : Hid (∀ W', Rd W' B 2 A xs.length (rR xs) ∧ B ≤ W'.heap.size → Calls Try.prog 98 #[.slice A xs.length c] W' fun e w' => e = .returned (I (chk xs)) ∧ Below W'.heap.size W' w') := fun W' h => refList_any A c xs W' B hm h.2 h.1
  clear hx hB hm
  obtain ⟨W, hW⟩ : ∃ W, W = (w.alloc (.cells #[I 0, I 0] 24)) := ⟨_, rfl⟩
  have rowW0 : W.heap[w.heap.size]? = some (.cells #[I 0, I 0] 24 (0, 0)) := by rw [hW]; exact heap_last _ _ _ rfl
  have yW00 := ovr_cell (W := W) (b := w.heap.size) (o := 0) (v := I 0) (by rw [cell_of_row _ _ _ _ _ _ rowW0]; rfl)
  have yW01 := ovr_cell (W := W) (b := w.heap.size) (o := 1) (v := I 0) (by rw [cell_of_row _ _ _ _ _ _ rowW0]; rfl)
  have RrowW0 := Lib.hid (ovr_row rowW0)
  clear rowW0
  have HUW : Hid (∀ u, Below w.heap.size w (ovr W u)) := U1 hW
  have HW := Lib.hid hW
  clear hW
  go_enter Try.func57, Try.ntmps57
  go_upto_region 1 with (fail)
  rw [← HW.out]
  obtain ⟨u0, hu0⟩ := ovr_self W
  rw [hu0]
  clear hu0
  go_wp2_with fail
  refine (cl.out _ (HX.out _ (HUW.out _))).mono ?_
  rintro e w1 ⟨rfl, hb1⟩
  obtain ⟨u1, rfl⟩ := ovr_next hb1
  clear hb1
  by_cases h0 : chk xs = 0
  · rw [if_pos h0] at hf
    have hl := chk_ok h0
    rw [h0]
    clear h0
    have HL := Lib.hid hl
    have hlen := hl.1
    clear hl
    go_wp2_with fail
    go_loopw [5, 6, 7] (fun s t i wr => ∃ k : Nat, k ≤ xs.length ∧ i = .int .i64 k ∧ s = I (addK xs k).1 ∧ t = I (addK xs k).2 ∧ ∃ u, wr = ovr W u) (fun _ _ i _ => xs.length - (intOf i).toNat)
    case atStart => exact ⟨0, by omega, rfl, rfl, rfl, u1, rfl⟩
    case round =>
      obtain ⟨k, hk, rfl, rfl, rfl, u, rfl⟩ := hrel
      by_cases hlt : k < xs.length
      · obtain ⟨b, o, rfl, _, e0, e1⟩ := (HX.out _ (HUW.out u)).1.rng hlt
        have e01 := ovr_cell e0
        have e11 := ovr_cell e1
        have bd := addK_bd (fun j => rngs_at HL.out.2) k hk
        have bd1 := addK_bd (fun j => rngs_at HL.out.2) (k + 1) hlt
        have hs : Hid (addK xs (k + 1) = ((addK xs k).1 + (at0 xs k).lo, (addK xs k).2 + (at0 xs k).hi)) := rfl
        rw [hs.out] at bd1
        obtain ⟨p, hp⟩ : ∃ p, addK xs k = p := ⟨_, rfl⟩
        obtain ⟨q, hq⟩ : ∃ q, at0 xs k = q := ⟨_, rfl⟩
        rw [hp, hq] at hs bd1
        rw [hp] at bd
        rw [hp]
        rw [hq] at e0 e1 e01 e11
        have c1 : IntKind.i64.wrap (p.1 + q.lo) = p.1 + q.lo := IntWalk.i64_in _ (by simp only at bd1; omega)
        have c2 : IntKind.i64.wrap (p.2 + q.hi) = p.2 + q.hi := IntWalk.i64_in _ (by simp only at bd1; omega)
        clear bd bd1 hp hq
        go_upto_region 8 with (fail)
        refine wp_region_below_lit (by kernel_rfl) (by kernel_rfl) ?_
        repeat (go_big_quiet_step (fail))
        refine wpQuiet_nil ?_
        intro w1 hb1
        obtain ⟨u2, rfl⟩ := ovr_next hb1
        clear hb1 e0 e1 e01 e11
        go_wp2_with fail
        go_roundw
        case rel => exact ⟨k + 1, by omega, by go_num, by rw [hs.out], by rw [hs.out], u2, rfl⟩
        case measure => simp [intOf]; omega
      · obtain rfl : k = xs.length := by omega
        have cf := Lib.hid fun W => refFits_any (addK xs xs.length).1 (addK xs xs.length).2 true W
        have he : fiR (addK xs xs.length).1 (addK xs xs.length).2 true = fiF (addK xs xs.length).1 (addK xs xs.length).2 := rfl
        rw [he] at cf
        obtain ⟨q, hq⟩ : ∃ q, fiF (addK xs xs.length).1 (addK xs xs.length).2 = q := ⟨_, rfl⟩
        rw [hq] at hf cf
        clear he hq
        go_wp2_with fail
        refine (cf.out _).mono ?_
        rintro e w1 ⟨rfl, hb1⟩
        obtain ⟨u2, rfl⟩ := ovr_next hb1
        clear hb1
        go_wp2_with (refine wpList_store_row rfl 24 _ _ rfl (w.heap.size) rfl _ _ (RrowW0.out _) _ rfl (one2 rfl rfl) rfl (by kernel_rfl) ?_)
        refine bodyPost_ret (results_cell_tmp rfl _ _ (w.heap.size) 24 _ (0, 0) _ rfl (setRow_same (RrowW0.out _)) Try.underlying24 rfl (by kernel_rfl)) rfl ?_
        exact ⟨by rw [hf.out]; rfl, below_setRow (HUW.out _) (by omega) _⟩
  · rw [if_neg h0] at hf
    have h0b : (chk xs == 0) = false := by simpa using h0
    have h0c : (chk xs != 0) = true := by simpa using h0
    clear h0
    go_wp2_with (refine wpList_store_row rfl 24 _ _ rfl (w.heap.size) rfl _ _ (RrowW0.out _) _ rfl (one2 rfl rfl) rfl (by kernel_rfl) ?_)
    refine bodyPost_ret (results_cell_tmp rfl _ _ (w.heap.size) 24 _ (0, 0) _ rfl (setRow_same (RrowW0.out _)) Try.underlying24 rfl (by kernel_rfl)) rfl ?_
    exact ⟨by rw [hf.out]; rfl, below_setRow (HUW.out _) (by omega) _⟩
end Go.Proofs.Ytljjpidigckheaa.Un
