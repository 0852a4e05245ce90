/- The contracts of Scale, Times, Over and Less of the reference of chapter 1. -/
import Derived.Test.YteibgenkklpoaaaGreatRf
namespace Go.Proofs.YteibgenkklpoaaaGreat.Un
open Go.RowKit
theorem cell_more {w : World} {b o : Nat} {v : Value} (x : Obj) (h : w.cell? ⟨b, o, none⟩ = some v) : (w.alloc x).cell? ⟨b, o, none⟩ = some v :=
  (((Below.refl _ _).alloc (Nat.le_refl _) x).cell (p := ⟨b, o, none⟩) (block_lt_of_cell h)).trans h
theorem pick_sp1 (x y n d : Int) (W : World) (k : Nat) (hk : W.heap.size = k) (hx : numB x = true ∧ numB y = true) (hn : numB n = true ∧ 1 ≤ d ∧ d ≤ 1000000000000000) :
    Calls Tryz.prog 98 #[.slice (some ⟨k, 0, none⟩) 2 2, .slice (some ⟨k + 1, 0, none⟩) 1 1] ((W.alloc (.cells #[I x, I y] 3)).alloc (.cells #[I n, I d] 140)) (RetRn W (fiR (spO [x, y] [⟨n, d⟩] 2).lo (spO [x, y] [⟨n, d⟩] 2).hi (spO [x, y] [⟨n, d⟩] 2).ok)) := by
  subst hk
  have h := spread_any (some ⟨W.heap.size, 0, none⟩) (some ⟨W.heap.size + 1, 0, none⟩) 2 1 [x, y] [⟨n, d⟩] ((W.alloc (.cells #[I x, I y] 3)).alloc (.cells #[I n, I d] 140)) _ ⟨by simp, by simp⟩ (Nat.le_refl _)
    (Rd_new (heap_before (heap_last _ _ _ rfl)) 1 2 0 _ (all2 (all1 rfl) (all1 rfl))) (Rd_new (heap_last _ _ _ (by simp)) 2 1 0 _ (all1 (all2 rfl rfl))) (all2 hx.1 hx.2) (all1 hn)
  exact h.mono fun e w' h2 => ⟨h2.1, under2 (under2 h2.2)⟩
theorem pick_sp2 (x y n d m e : Int) (W : World) (k : Nat) (hk : W.heap.size = k) (hx : numB x = true ∧ numB y = true) (hn : numB n = true ∧ 1 ≤ d ∧ d ≤ 1000000000000000) (hm : numB m = true ∧ 1 ≤ e ∧ e ≤ 1000000000000000) :
    Calls Tryz.prog 98 #[.slice (some ⟨k, 0, none⟩) 2 2, .slice (some ⟨k + 1, 0, none⟩) 2 2] ((W.alloc (.cells #[I x, I y] 3)).alloc (.cells #[I n, I d, I m, I e] 140)) (RetRn W (fiR (spO [x, y] [⟨n, d⟩, ⟨m, e⟩] 2).lo (spO [x, y] [⟨n, d⟩, ⟨m, e⟩] 2).hi (spO [x, y] [⟨n, d⟩, ⟨m, e⟩] 2).ok)) := by
  subst hk
  have h := spread_any (some ⟨W.heap.size, 0, none⟩) (some ⟨W.heap.size + 1, 0, none⟩) 2 2 [x, y] [⟨n, d⟩, ⟨m, e⟩] ((W.alloc (.cells #[I x, I y] 3)).alloc (.cells #[I n, I d, I m, I e] 140)) _ ⟨by simp, by simp⟩ (Nat.le_refl _)
    (Rd_new (heap_before (heap_last _ _ _ rfl)) 1 2 0 _ (all2 (all1 rfl) (all1 rfl))) (Rd_new (heap_last _ _ _ (by simp)) 2 2 0 _ (all2 (all2 rfl rfl) (all2 rfl rfl))) (all2 hx.1 hx.2) (all2 hn hm)
  exact h.mono fun e w' h2 => ⟨h2.1, under2 (under2 h2.2)⟩
set_option maxRecDepth 100000 in
set_option maxHeartbeats 2000000 in
theorem refTimes_any (a b : Rng) (c : Int) (w : World) : Calls Tryz.prog 75 #[a.val, b.val, I c] w (RetRn w (tmR a b c)) := by
  have hf : Hid (tmR a b c = if rngOk a && rngOk b then (if 1 ≤ c ∧ c ≤ 1000000000000000 then (fiR (spO [a.lo, a.hi] [⟨b.lo, c⟩, ⟨b.hi, c⟩] 2).lo (spO [a.lo, a.hi] [⟨b.lo, c⟩, ⟨b.hi, c⟩] 2).hi (spO [a.lo, a.hi] [⟨b.lo, c⟩, ⟨b.hi, c⟩] 2).ok) else (⟨0, 0⟩, 3)) else (⟨0, 0⟩, 2)) := rfl
  have ca := Lib.hid fun W => refRange_any a W
  have cb := Lib.hid fun W => refRange_any b W
  obtain ⟨W, hW⟩ : ∃ W, W = (((w.alloc (.cells #[I a.lo, I a.hi] 23)).alloc (.cells #[I b.lo, I b.hi] 23)).alloc (.cells #[I 0, I 0] 23)) := ⟨_, rfl⟩
  have rowW0 : W.heap[w.heap.size]? = some (.cells #[I a.lo, I a.hi] 23 (0, 0)) := by rw [hW]; exact heap_before (heap_before (heap_last _ _ _ rfl))
  have yW00 := ovr_cell (W := W) (b := w.heap.size) (o := 0) (v := I a.lo) (by rw [cell_of_row _ _ _ _ _ _ rowW0]; rfl)
  have yW01 := ovr_cell (W := W) (b := w.heap.size) (o := 1) (v := I a.hi) (by rw [cell_of_row _ _ _ _ _ _ rowW0]; rfl)
  have RrowW0 := Lib.hid (ovr_row rowW0)
  clear rowW0
  have rowW1 : W.heap[w.heap.size + 1]? = some (.cells #[I b.lo, I b.hi] 23 (0, 0)) := by rw [hW]; exact heap_before (heap_last _ _ _ (by simp))
  have yW10 := ovr_cell (W := W) (b := w.heap.size + 1) (o := 0) (v := I b.lo) (by rw [cell_of_row _ _ _ _ _ _ rowW1]; rfl)
  have yW11 := ovr_cell (W := W) (b := w.heap.size + 1) (o := 1) (v := I b.hi) (by rw [cell_of_row _ _ _ _ _ _ rowW1]; rfl)
  have RrowW1 := Lib.hid (ovr_row rowW1)
  clear rowW1
  have rowW2 : W.heap[w.heap.size + 1 + 1]? = some (.cells #[I 0, I 0] 23 (0, 0)) := by rw [hW]; exact heap_last _ _ _ (by simp)
  have yW20 := ovr_cell (W := W) (b := w.heap.size + 1 + 1) (o := 0) (v := I 0) (by rw [cell_of_row _ _ _ _ _ _ rowW2]; rfl)
  have yW21 := ovr_cell (W := W) (b := w.heap.size + 1 + 1) (o := 1) (v := I 0) (by rw [cell_of_row _ _ _ _ _ _ rowW2]; rfl)
  have RrowW2 := Lib.hid (ovr_row rowW2)
  clear rowW2
  have HUW : Hid (∀ u, Below w.heap.size w (ovr W u)) := U3 hW
  have HW := Lib.hid hW
  clear hW
  rcases h1 : rngOk a with _ | _ <;> (rw [h1] at hf ca)
  · go_enter Tryz.func75, Tryz.ntmps75
    go_upto_region 1 with (fail)
    rw [← HW.out]
    obtain ⟨u0, hu0⟩ := ovr_self W
    rw [hu0]
    clear hu0
    go_wp2_with fail
    refine (ca.out _).mono ?_
    rintro e w1 ⟨rfl, hb1⟩
    obtain ⟨u1, rfl⟩ := ovr_next hb1
    clear hb1
    go_wp2_with (refine wpList_store_row rfl 23 _ _ rfl (w.heap.size + 1 + 1) rfl _ _ (RrowW2.out _) _ rfl (one2 rfl rfl) rfl (by kernel_rfl) ?_)
    refine bodyPost_ret (results_cell_tmp rfl _ _ (w.heap.size + 1 + 1) 23 _ (0, 0) _ rfl (setRow_same (RrowW2.out _)) Tryz.underlying23 rfl (by kernel_rfl)) rfl ?_
    exact ⟨by rw [hf.out]; rfl, below_setRow (HUW.out _) (by omega) _⟩
  rcases h2 : rngOk b with _ | _ <;> (rw [h2] at hf cb)
  · go_enter Tryz.func75, Tryz.ntmps75
    go_upto_region 1 with (fail)
    rw [← HW.out]
    obtain ⟨u0, hu0⟩ := ovr_self W
    rw [hu0]
    clear hu0
    go_wp2_with fail
    refine (ca.out _).mono ?_
    rintro e w1 ⟨rfl, hb1⟩
    obtain ⟨u1, rfl⟩ := ovr_next hb1
    clear hb1
    go_wp2_with fail
    refine (cb.out _).mono ?_
    rintro e w1 ⟨rfl, hb1⟩
    obtain ⟨u2, rfl⟩ := ovr_next hb1
    clear hb1
    go_wp2_with (refine wpList_store_row rfl 23 _ _ rfl (w.heap.size + 1 + 1) rfl _ _ (RrowW2.out _) _ rfl (one2 rfl rfl) rfl (by kernel_rfl) ?_)
    refine bodyPost_ret (results_cell_tmp rfl _ _ (w.heap.size + 1 + 1) 23 _ (0, 0) _ rfl (setRow_same (RrowW2.out _)) Tryz.underlying23 rfl (by kernel_rfl)) rfl ?_
    exact ⟨by rw [hf.out]; rfl, below_setRow (HUW.out _) (by omega) _⟩
  rw [if_pos (by rfl)] at hf
  have Ka := rngOk_iff.1 h1
  have Kb := rngOk_iff.1 h2
  clear h1 h2
  by_cases h3 : 1 ≤ c ∧ c ≤ 1000000000000000
  · rw [if_pos h3] at hf
    have t1 : decide (c < 1) = false := decide_eq_false (by omega)
    have t2 : decide (1000000000000000 < c) = false := decide_eq_false (by omega)
    have cs := Lib.hid fun W k hk => pick_sp2 a.lo a.hi b.lo c b.hi c W k hk ⟨numB_iff.2 (by omega), numB_iff.2 (by omega)⟩ ⟨numB_iff.2 (by omega), by omega, by omega⟩ ⟨numB_iff.2 (by omega), by omega, by omega⟩
    obtain ⟨q, hq⟩ : ∃ q, fiR (spO [a.lo, a.hi] [⟨b.lo, c⟩, ⟨b.hi, c⟩] 2).lo (spO [a.lo, a.hi] [⟨b.lo, c⟩, ⟨b.hi, c⟩] 2).hi (spO [a.lo, a.hi] [⟨b.lo, c⟩, ⟨b.hi, c⟩] 2).ok = q := ⟨_, rfl⟩
    rw [hq] at hf cs
    clear h3 Ka Kb hq
    go_enter Tryz.func75, Tryz.ntmps75
    go_upto_region 1 with (fail)
    rw [← HW.out]
    obtain ⟨u0, hu0⟩ := ovr_self W
    rw [hu0]
    clear hu0
    go_wp2_with fail
    refine (ca.out _).mono ?_
    rintro e w1 ⟨rfl, hb1⟩
    obtain ⟨u1, rfl⟩ := ovr_next hb1
    clear hb1
    go_wp2_with fail
    refine (cb.out _).mono ?_
    rintro e w1 ⟨rfl, hb1⟩
    obtain ⟨u2, rfl⟩ := ovr_next hb1
    clear hb1
    have z0 := fun x => cell_more x (yW10 u2)
    have z1 := fun x => cell_more x (yW11 u2)
    go_wp2_with fail
    refine (cs.out _ _ rfl).mono ?_
    rintro e w1 ⟨rfl, hb1⟩
    obtain ⟨u3, rfl⟩ := ovr_next hb1
    clear hb1
    go_wp2_with (refine wpList_store_row rfl 23 _ _ rfl (w.heap.size + 1 + 1) rfl _ _ (RrowW2.out _) _ rfl (one2 rfl rfl) rfl (by kernel_rfl) ?_)
    refine bodyPost_ret (results_cell_tmp rfl _ _ (w.heap.size + 1 + 1) 23 _ (0, 0) _ rfl (setRow_same (RrowW2.out _)) Tryz.underlying23 rfl (by kernel_rfl)) rfl ?_
    exact ⟨by rw [hf.out]; rfl, below_setRow (HUW.out _) (by omega) _⟩
  · rw [if_neg h3] at hf
    have t0 : (decide (c < 1) = true) ∨ (decide (c < 1) = false ∧ decide (1000000000000000 < c) = true) := by simp only [decide_eq_true_eq, decide_eq_false_iff_not]; omega
    clear h3 Ka Kb
    rcases t0 with t2 | ⟨t2, t3⟩
    all_goals
      go_enter Tryz.func75, Tryz.ntmps75
      go_upto_region 1 with (fail)
      rw [← HW.out]
      obtain ⟨u0, hu0⟩ := ovr_self W
      rw [hu0]
      clear hu0
      go_wp2_with fail
      refine (ca.out _).mono ?_
      rintro e w1 ⟨rfl, hb1⟩
      obtain ⟨u1, rfl⟩ := ovr_next hb1
      clear hb1
      go_wp2_with fail
      refine (cb.out _).mono ?_
      rintro e w1 ⟨rfl, hb1⟩
      obtain ⟨u2, rfl⟩ := ovr_next hb1
      clear hb1
      go_wp2_with (refine wpList_store_row rfl 23 _ _ rfl (w.heap.size + 1 + 1) rfl _ _ (RrowW2.out _) _ rfl (one2 rfl rfl) rfl (by kernel_rfl) ?_)
      refine bodyPost_ret (results_cell_tmp rfl _ _ (w.heap.size + 1 + 1) 23 _ (0, 0) _ rfl (setRow_same (RrowW2.out _)) Tryz.underlying23 rfl (by kernel_rfl)) rfl ?_
      exact ⟨by rw [hf.out]; rfl, below_setRow (HUW.out _) (by omega) _⟩
end Go.Proofs.YteibgenkklpoaaaGreat.Un
