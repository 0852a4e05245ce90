/- The contract of Value of package units. -/
import Derived.Test.YtmadlmmfbpmebaaVc
namespace Go.Proofs.Ytmadlmmfbpmebaa
open Go.RowKit
def vaF (t : List Rng) (x : Rng) : Rng × Int :=
  if tabB t && rngOk x then (if decide (x.lo < (at0 t 0).lo) || decide ((at0 t (t.length - 1)).lo < x.hi) then (⟨0, 0⟩, 7) else (arK t x t.length, 0)) else (⟨0, 0⟩, 2)
set_option maxRecDepth 100000 in
set_option maxHeartbeats 4000000 in
theorem value2_any (A : Option Addr) (n c : Nat) (t : List Rng) (x : Rng) (w : World) (B : Nat) (hn : n = t.length) (hm : n ≤ maxLen) (hB : B ≤ w.heap.size) (hx : Rd w B 2 A n (rR t)) :
    Calls Try.prog 33 #[.slice A n c, x.val] w (RetRn w (vaF t x)) := by
  subst hn
  have hf : Hid (vaF t x = if tabB t && rngOk x then (if decide (x.lo < (at0 t 0).lo) || decide ((at0 t (t.length - 1)).lo < x.hi) then (⟨0, 0⟩, 7) else (arK t x t.length, 0)) else (⟨0, 0⟩, 2)) := rfl
  have HX : Hid (∀ W', Below w.heap.size w W' → Rd W' B 2 A t.length (rR t) ∧ B ≤ W'.heap.size) := fun W' h => ⟨hx.below (h.mono hB), Nat.le_trans hB h.size⟩
  have ct : Hid (∀ W', Rd W' B 2 A t.length (rR t) ∧ B ≤ W'.heap.size → Calls Try.prog 32 #[.slice A t.length c] W' fun e w' => e = .returned (I (ctF t)) ∧ Below W'.heap.size W' w') := fun W' h => table_any A t.length c t W' B rfl hm h.2 h.1
  have ca : Hid (∀ W', Tab t → Inside t x → Rd W' B 2 A t.length (rR t) ∧ B ≤ W'.heap.size → Calls Try.prog 84 #[.slice A t.length c, x.val] W' fun e w' => e = .returned ((arK t x t.length).val) ∧ Below W'.heap.size W' w') := fun W' ht hi h => around_any A t.length c t x W' B rfl ht hi h.2 h.1
  have cv := Lib.hid fun W k => valid_one x W k
  clear hx hB hm
  obtain ⟨W, hW⟩ : ∃ W, W = ((w.alloc (.cells #[I x.lo, I x.hi] 38)).alloc (.cells #[I 0, I 0] 38)) := ⟨_, rfl⟩
  have rowW0 : W.heap[w.heap.size]? = some (.cells #[I x.lo, I x.hi] 38 (0, 0)) := by rw [hW]; exact heap_before (heap_last _ _ _ rfl)
  have yW00 := ovr_cell (W := W) (b := w.heap.size) (o := 0) (v := I x.lo) (by rw [cell_of_row _ _ _ _ _ _ rowW0]; rfl)
  have yW01 := ovr_cell (W := W) (b := w.heap.size) (o := 1) (v := I x.hi) (by rw [cell_of_row _ _ _ _ _ _ rowW0]; rfl)
  have RrowW0 := Lib.hid (ovr_row rowW0)
  clear rowW0
  have rowW1 : W.heap[w.heap.size + 1]? = some (.cells #[I 0, I 0] 38 (0, 0)) := by rw [hW]; exact heap_last _ _ _ (by simp)
  have yW10 := ovr_cell (W := W) (b := w.heap.size + 1) (o := 0) (v := I 0) (by rw [cell_of_row _ _ _ _ _ _ rowW1]; rfl)
  have yW11 := ovr_cell (W := W) (b := w.heap.size + 1) (o := 1) (v := I 0) (by rw [cell_of_row _ _ _ _ _ _ rowW1]; rfl)
  have RrowW1 := Lib.hid (ovr_row rowW1)
  clear rowW1
  have HUW : Hid (∀ u, Below w.heap.size w (ovr W u)) := U2 hW
  have HW := Lib.hid hW
  clear hW
  rcases h1 : tabB t with _ | _
  · rw [h1] at hf
    have h2 : ctF t = 2 := by rw [ctF, h1]; rfl
    rw [h2] at ct
    clear h2
    go_enter Try.func33, Try.ntmps33
    go_upto_block 0 with (fail)
    rw [← HW.out]
    obtain ⟨u0, hu0⟩ := ovr_self W
    rw [hu0]
    clear hu0
    go_wp2_with fail
    refine (ct.out _ (HX.out _ (HUW.out _))).mono ?_
    rintro e w1 ⟨rfl, hb1⟩
    obtain ⟨u1, rfl⟩ := ovr_next hb1
    clear hb1
    go_wp2_with (refine wpList_store_row rfl 38 _ _ rfl (w.heap.size + 1) rfl _ _ (RrowW1.out _) _ rfl (one2 rfl rfl) rfl (by kernel_rfl) ?_)
    refine bodyPost_ret (results_cell_tmp rfl _ _ (w.heap.size + 1) 38 _ (0, 0) _ rfl (setRow_same (RrowW1.out _)) Try.underlying38 rfl (by kernel_rfl)) rfl ?_
    exact ⟨by rw [hf.out]; rfl, below_setRow (HUW.out _) (by omega) _⟩
  have h2 : ctF t = 0 := by rw [ctF, h1]; rfl
  have Ht := Lib.hid (tab_iff.1 h1)
  rw [h1] at hf
  rw [h2] at ct
  clear h1 h2
  rcases h1 : rngOk x with _ | _
  · rw [h1] at hf cv
    go_enter Try.func33, Try.ntmps33
    go_upto_block 0 with (fail)
    rw [← HW.out]
    obtain ⟨u0, hu0⟩ := ovr_self W
    rw [hu0]
    clear hu0
    go_wp2_with fail
    refine (ct.out _ (HX.out _ (HUW.out _))).mono ?_
    rintro e w1 ⟨rfl, hb1⟩
    obtain ⟨u1, rfl⟩ := ovr_next hb1
    clear hb1
    go_wp2_with fail
    refine (cv.out _ _ rfl).mono ?_
    rintro e w1 ⟨rfl, hb1⟩
    obtain ⟨u2, rfl⟩ := ovr_next hb1
    clear hb1
    go_wp2_with (refine wpList_store_row rfl 38 _ _ rfl (w.heap.size + 1) rfl _ _ (RrowW1.out _) _ rfl (one2 rfl rfl) rfl (by kernel_rfl) ?_)
    refine bodyPost_ret (results_cell_tmp rfl _ _ (w.heap.size + 1) 38 _ (0, 0) _ rfl (setRow_same (RrowW1.out _)) Try.underlying38 rfl (by kernel_rfl)) rfl ?_
    exact ⟨by rw [hf.out]; rfl, below_setRow (HUW.out _) (by omega) _⟩
  have Hx := Lib.hid (rngOk_iff.1 h1)
  rw [h1] at hf cv
  rw [if_pos (show (true && true) = true from rfl)] at hf
  clear h1
  have n2 := Ht.out.n2
  have n60 := Ht.out.n60
  go_enter Try.func33, Try.ntmps33
  go_upto_block 0 with (fail)
  rw [← HW.out]
  obtain ⟨u0, hu0⟩ := ovr_self W
  rw [hu0]
  clear hu0
  go_wp2_with fail
  refine (ct.out _ (HX.out _ (HUW.out _))).mono ?_
  rintro e w1 ⟨rfl, hb1⟩
  obtain ⟨u1, rfl⟩ := ovr_next hb1
  clear hb1
  go_wp2_with fail
  refine (cv.out _ _ rfl).mono ?_
  rintro e w1 ⟨rfl, hb1⟩
  obtain ⟨u2, rfl⟩ := ovr_next hb1
  clear hb1
  go_upto_region 3 with (fail)
  have hbX := ovr_below W u2
  obtain ⟨X, hX⟩ : ∃ X, X = ovr W u2 := ⟨_, rfl⟩
  rw [← hX] at hbX
  rw [← hX]
  clear hX
  have reX : ∀ v, ∃ x, ovr X v = ovr W x := fun v => ovr_reB hbX v
  replace yW00 := tr_cell reX yW00
  replace yW01 := tr_cell reX yW01
  replace RrowW0 := Lib.hid (tr_row reX RrowW0.out)
  replace yW10 := tr_cell reX yW10
  replace yW11 := tr_cell reX yW11
  replace RrowW1 := Lib.hid (tr_row reX RrowW1.out)
  have HUX : Hid (∀ u, Below w.heap.size w (ovr X u)) := fun u => by obtain ⟨x, hx⟩ := reX u; rw [hx]; exact HUW.out x
  clear reX hbX
  obtain ⟨b, o, rfl, hc⟩ := rng_all (HX.out X (by have := HUX.out X; rwa [← ovr_of (Below.refl _ _)] at this)).1 (show 0 < t.length by omega)
  have e0 := ovr_cell (hc 0 (by omega)).1
  have e1 := ovr_cell (hc (t.length - 1) (by omega)).1
  rw [Nat.zero_mul, Nat.add_zero] at e0
  have s1 : IntKind.i64.wrap ((t.length : Int) - 1) = (t.length : Int) - 1 := IntWalk.i64_in _ (by omega)
  have s2 : (0 : Int) ≤ (t.length : Int) - 1 := by omega
  have s3 : ((t.length : Int) - 1).toNat = t.length - 1 := by omega
  have s4 : (t.length : Int) - 1 < (t.length : Int) := by omega
  have s5 : (1 : Int) ≤ (t.length : Int) := by omega
  have s6 : 0 < t.length := by omega
  have Hin : Hid (decide (x.lo < (at0 t 0).lo) = false → decide ((at0 t (t.length - 1)).lo < x.hi) = false → Inside t x) := fun h1 h2 => by
    have h1 := of_decide_eq_false h1
    have h2 := of_decide_eq_false h2
    have := Hx.out
    exact ⟨by omega, by omega, by omega⟩
  clear hc
  rcases h1 : decide (x.lo < (at0 t 0).lo) with _ | _
  · rw [h1] at hf Hin
    rcases h2 : decide ((at0 t (t.length - 1)).lo < x.hi) with _ | _
    · rw [h2] at hf Hin
      have cb := Lib.hid fun W' => ca.out W' Ht.out (Hin.out rfl rfl)
      refine wp_region_below_lit (by kernel_rfl) (by kernel_rfl) ?_
      repeat (go_big_quiet_step (fail))
      refine wpQuiet_nil ?_
      intro w1 hb1
      obtain ⟨u3, rfl⟩ : ∃ u, w1 = ovr X u := ⟨w1, ovr_of hb1⟩
      clear hb1 s1 s2 s3 s4 s5 s6
      go_wp2_with fail
      refine (cb.out _ (HX.out _ (HUX.out _))).mono ?_
      rintro e w1 ⟨rfl, hb1⟩
      obtain ⟨u4, rfl⟩ := ovr_next hb1
      clear hb1
      go_wp2_with (refine wpList_store_row rfl 38 _ _ rfl (w.heap.size + 1) rfl _ _ (RrowW1.out _) _ rfl (one2 rfl rfl) rfl (by kernel_rfl) ?_)
      refine bodyPost_ret (results_cell_tmp rfl _ _ (w.heap.size + 1) 38 _ (0, 0) _ rfl (setRow_same (RrowW1.out _)) Try.underlying38 rfl (by kernel_rfl)) rfl ?_
      exact ⟨by rw [hf.out]; rfl, below_setRow (HUX.out _) (by omega) _⟩
    · rw [h2] at hf
      refine wp_region_below_lit (by kernel_rfl) (by kernel_rfl) ?_
      repeat (go_big_quiet_step (fail))
      refine wpQuiet_nil ?_
      intro w1 hb1
      obtain ⟨u3, rfl⟩ : ∃ u, w1 = ovr X u := ⟨w1, ovr_of hb1⟩
      clear hb1 s1 s2 s3 s4 s5 s6
      go_wp2_with (refine wpList_store_row rfl 38 _ _ rfl (w.heap.size + 1) rfl _ _ (RrowW1.out _) _ rfl (one2 rfl rfl) rfl (by kernel_rfl) ?_)
      refine bodyPost_ret (results_cell_tmp rfl _ _ (w.heap.size + 1) 38 _ (0, 0) _ rfl (setRow_same (RrowW1.out _)) Try.underlying38 rfl (by kernel_rfl)) rfl ?_
      exact ⟨by rw [hf.out]; rfl, below_setRow (HUX.out _) (by omega) _⟩
  · rw [h1] at hf
    refine wp_region_below_lit (by kernel_rfl) (by kernel_rfl) ?_
    repeat (go_big_quiet_step (fail))
    refine wpQuiet_nil ?_
    intro w1 hb1
    obtain ⟨u3, rfl⟩ : ∃ u, w1 = ovr X u := ⟨w1, ovr_of hb1⟩
    clear hb1 s1 s2 s3 s4 s5 s6
    go_wp2_with (refine wpList_store_row rfl 38 _ _ rfl (w.heap.size + 1) rfl _ _ (RrowW1.out _) _ rfl (one2 rfl rfl) rfl (by kernel_rfl) ?_)
    refine bodyPost_ret (results_cell_tmp rfl _ _ (w.heap.size + 1) 38 _ (0, 0) _ rfl (setRow_same (RrowW1.out _)) Try.underlying38 rfl (by kernel_rfl)) rfl ?_
    exact ⟨by rw [hf.out]; rfl, below_setRow (HUX.out _) (by omega) _⟩
end Go.Proofs.Ytmadlmmfbpmebaa
