/- The contracts of Times of package units. -/
import Derived.Test.YtmadlmmfbpmebaaUu
namespace Go.Proofs.Ytmadlmmfbpmebaa
open Go.RowKit
def selR (r : Rng) (k : Nat) : Int := if k = 0 then r.lo else r.hi
theorem sel_num {r : Rng} (h : rngOk r = true) (k : Nat) : numB (selR r k) = true := by
  have := rngOk_iff.1 h
  unfold selR
  split <;> exact numB_iff.2 (by omega)
def hul0 : Hul := ⟨0, 0, false, false⟩
/-- The hull after k factors. -/
def tmI (h : Hul) (x : Int) (b : Rng) (c : Int) : Nat → Hul
  | 0 => h | k + 1 => addH (tmI h x b c k) (x * selR b k) c
def tmO (a b : Rng) (c : Int) : Nat → Hul
  | 0 => hul0 | k + 1 => tmI (tmO a b c k) (selR a k) b c 2
def tmF (a b : Rng) (c : Int) : Rng × Int := if rngOk a && rngOk b then (if 1 ≤ c ∧ c ≤ 1000000000000000 then reH (tmO a b c 2) else (⟨0, 0⟩, 3)) else (⟨0, 0⟩, 2)
theorem ix_two (x y : Int) (k : Nat) (hk : k < 2) (w : World) : (Instr.index 141 (.agg #[I x, I y]) (.int .i64 (k : Int))).run Try.prog w = .ok (I (if k = 0 then x else y)) w := by
  rcases k with _ | _ | k
  · kernel_rfl
  · kernel_rfl
  · omega
set_option maxRecDepth 100000 in
set_option maxHeartbeats 2000000 in
theorem times_any (a b : Rng) (c : Int) (w : World) : Calls Try.prog 56 #[a.val, b.val, I c] w (RetRn w (tmF a b c)) := by
  have hf : Hid (tmF a b c = if rngOk a && rngOk b then (if 1 ≤ c ∧ c ≤ 1000000000000000 then reH (tmO a b c 2) else (⟨0, 0⟩, 3)) else (⟨0, 0⟩, 2)) := rfl
  have cv := Lib.hid fun W k => valid_two a b W k
  obtain ⟨W, hW⟩ : ∃ W, W = (((w.alloc (.cells #[I a.lo, I a.hi] 38)).alloc (.cells #[I b.lo, I b.hi] 38)).alloc (.cells #[I 0, I 0] 38)) := ⟨_, rfl⟩
  have rowW0 : W.heap[w.heap.size]? = some (.cells #[I a.lo, I a.hi] 38 (0, 0)) := by rw [hW]; exact heap_before (heap_before (heap_last _ _ _ rfl))
  have yW00 := ovr_cell (W := W) (b := w.heap.size) (o := 0) (v := I a.lo) (by rw [cell_of_row _ _ _ _ _ _ rowW0]; rfl)
  have yW01 := ovr_cell (W := W) (b := w.heap.size) (o := 1) (v := I a.hi) (by rw [cell_of_row _ _ _ _ _ _ rowW0]; rfl)
  have RrowW0 := Lib.hid (ovr_row rowW0)
  clear rowW0
  have rowW1 : W.heap[w.heap.size + 1]? = some (.cells #[I b.lo, I b.hi] 38 (0, 0)) := by rw [hW]; exact heap_before (heap_last _ _ _ (by simp))
  have yW10 := ovr_cell (W := W) (b := w.heap.size + 1) (o := 0) (v := I b.lo) (by rw [cell_of_row _ _ _ _ _ _ rowW1]; rfl)
  have yW11 := ovr_cell (W := W) (b := w.heap.size + 1) (o := 1) (v := I b.hi) (by rw [cell_of_row _ _ _ _ _ _ rowW1]; rfl)
  have RrowW1 := Lib.hid (ovr_row rowW1)
  clear rowW1
  have rowW2 : W.heap[w.heap.size + 1 + 1]? = some (.cells #[I 0, I 0] 38 (0, 0)) := by rw [hW]; exact heap_last _ _ _ (by simp)
  have yW20 := ovr_cell (W := W) (b := w.heap.size + 1 + 1) (o := 0) (v := I 0) (by rw [cell_of_row _ _ _ _ _ _ rowW2]; rfl)
  have yW21 := ovr_cell (W := W) (b := w.heap.size + 1 + 1) (o := 1) (v := I 0) (by rw [cell_of_row _ _ _ _ _ _ rowW2]; rfl)
  have RrowW2 := Lib.hid (ovr_row rowW2)
  clear rowW2
  have HUW : Hid (∀ u, Below w.heap.size w (ovr W u)) := U3 hW
  have HW := Lib.hid hW
  clear hW
  rcases h1 : (rngOk a && rngOk b) with _ | _ <;> (rw [h1] at hf cv)
  · go_enter Try.func56, Try.ntmps56
    go_upto_block 0 with (fail)
    rw [← HW.out]
    obtain ⟨u0, hu0⟩ := ovr_self W
    rw [hu0]
    clear hu0
    go_wp2_with fail
    refine (cv.out _ _ rfl).mono ?_
    rintro e w1 ⟨rfl, hb1⟩
    obtain ⟨u1, rfl⟩ := ovr_next hb1
    clear hb1
    go_wp2_with (refine wpList_store_row rfl 38 _ _ rfl (w.heap.size + 1 + 1) rfl _ _ (RrowW2.out _) _ rfl (one2 rfl rfl) rfl (by kernel_rfl) ?_)
    refine bodyPost_ret (results_cell_tmp rfl _ _ (w.heap.size + 1 + 1) 38 _ (0, 0) _ rfl (setRow_same (RrowW2.out _)) Try.underlying38 rfl (by kernel_rfl)) rfl ?_
    exact ⟨by rw [hf.out]; rfl, below_setRow (HUW.out _) (by omega) _⟩
  rw [if_pos rfl] at hf
  obtain ⟨ka, kb⟩ := Bool.and_eq_true_iff.1 h1
  have Ka := Lib.hid ka
  have Kb := Lib.hid kb
  clear ka kb h1
  by_cases h2 : 1 ≤ c ∧ c ≤ 1000000000000000
  · rw [if_pos h2] at hf
    have H2 := Lib.hid h2
    have t1 : decide (c < 1) = false := decide_eq_false (by omega)
    have t2 : decide (1000000000000000 < c) = false := decide_eq_false (by omega)
    clear h2
    go_enter Try.func56, Try.ntmps56
    go_upto_block 0 with (fail)
    rw [← HW.out]
    obtain ⟨u0, hu0⟩ := ovr_self W
    rw [hu0]
    clear hu0
    go_wp2_with fail
    refine (cv.out _ _ rfl).mono ?_
    rintro e w1 ⟨rfl, hb1⟩
    obtain ⟨u1, rfl⟩ := ovr_next hb1
    clear hb1
    go_upto_region 6 with (fail)
    obtain ⟨V, hV⟩ : ∃ V, V = (ovr W u1).alloc (.cells #[I 0, I 0, .bool false, .bool false] 133) := ⟨_, rfl⟩
    have rV : V.heap[(ovr W u1).heap.size]? = some (.cells (huRow hul0) 133 (0, 0)) := by rw [hV]; exact heap_last _ _ _ rfl
    have bV : Below W.heap.size W V := by rw [hV]; exact (ovr_below W u1).alloc (ovr_below W u1).size _
    have sk := (ovr_below W u1).size
    rw [← hV]
    obtain ⟨kx, hkx⟩ : ∃ kx, (ovr W u1).heap.size = kx := ⟨_, rfl⟩
    rw [hkx] at rV sk
    rw [hkx]
    have RV := Lib.hid rV
    have BV := Lib.hid bV
    have SK := Lib.hid sk
    have fV : Hid (∀ u, Below W.heap.size W (ovr V u)) := fun u => BV.out.trans ((ovr_below V u).mono BV.out.size)
    clear hV hkx rV sk
    obtain ⟨u2, hu2⟩ := ovr_self V
    have e0 : V.cell? ⟨w.heap.size, 0, none⟩ = some (I a.lo) := by rw [ovr_of bV]; exact yW00 V
    have e1 : V.cell? ⟨w.heap.size, 1, none⟩ = some (I a.hi) := by rw [ovr_of bV]; exact yW01 V
    clear hu2 bV
    go_wp2_with fail
    go_loopw [33] (fun i wr => ∃ k : Nat, k ≤ 2 ∧ i = .int .i64 k ∧ wr.heap[kx]? = some (.cells (huRow (tmO a b c k)) 133 (0, 0)) ∧ Below W.heap.size W wr) (fun i _ => 2 - (intOf i).toNat)
    case atStart => exact ⟨0, by omega, rfl, RV.out, BV.out⟩
    case round =>
      obtain ⟨k, hk, rfl, hr, hb⟩ := hrel
      rename World => X
      clear e0 e1
      by_cases hlt : k < 2
      · have kb : decide ((k : Int) < 2) = true := decide_eq_true (by omega)
        have i1 := ix_two a.lo a.hi k hlt
        have Hr := Lib.hid hr
        have HB := Lib.hid hb
        clear hr
        have reX : ∀ v, ∃ x, ovr X v = ovr W x := fun v => ovr_reB hb v
        replace yW00 := tr_cell reX yW00
        replace yW01 := tr_cell reX yW01
        replace RrowW0 := Lib.hid (tr_row reX RrowW0.out)
        replace yW10 := tr_cell reX yW10
        replace yW11 := tr_cell reX yW11
        replace RrowW1 := Lib.hid (tr_row reX RrowW1.out)
        replace yW20 := tr_cell reX yW20
        replace yW21 := tr_cell reX yW21
        replace RrowW2 := Lib.hid (tr_row reX RrowW2.out)
        have HUX : Hid (∀ u, Below w.heap.size w (ovr X u)) := fun u => by obtain ⟨x, hx⟩ := reX u; rw [hx]; exact HUW.out x
        clear reX hb
        obtain ⟨u3, hu3⟩ := ovr_self X
        rw [hu3]
        clear hu3
        obtain ⟨x, hx⟩ : ∃ x, (if k = 0 then a.lo else a.hi) = x := ⟨_, rfl⟩
        rw [hx] at i1
        have HT : Hid (tmO a b c (k + 1) = tmI (tmO a b c k) x b c 2) := by show _ = _; rw [← hx]; rfl
        have Hn : Hid (numB x = true) := by rw [← hx]; exact sel_num Ka.out k
        clear hx
        go_wp2_with fail
        have Hr2 := Lib.hid ((ovr_row Hr.out) u3)
        have HB2 : Hid (Below W.heap.size W (ovr X u3)) := HB.out.trans ((ovr_below X u3).mono HB.out.size)
        clear yW00 yW01 yW10 yW11 yW20 yW21 i1
        obtain ⟨X2, hX2⟩ : ∃ X2, X2 = ovr X u3 := ⟨_, rfl⟩
        rw [← hX2] at Hr2 HB2
        rw [← hX2]
        clear hX2
        go_loopw [41] (fun i wr => ∃ j : Nat, j ≤ 2 ∧ i = .int .i64 j ∧ wr.heap[kx]? = some (.cells (huRow (tmI (tmO a b c k) x b c j)) 133 (0, 0)) ∧ Below W.heap.size W wr) (fun i _ => 2 - (intOf i).toNat)
        case atStart => exact ⟨0, by omega, rfl, Hr2.out, HB2.out⟩
        case round =>
          obtain ⟨j, hj, rfl, hr, hb⟩ := hrel
          rename World => Y
          by_cases hlt2 : j < 2
          · have i2 := ix_two b.lo b.hi j hlt2
            obtain ⟨y, hy⟩ : ∃ y, (if j = 0 then b.lo else b.hi) = y := ⟨_, rfl⟩
            rw [hy] at i2
            have HT2 : Hid (tmI (tmO a b c k) x b c (j + 1) = addH (tmI (tmO a b c k) x b c j) (x * y) c) := by show _ = _; rw [← hy]; rfl
            have Hm : Hid (numB y = true) := by rw [← hy]; exact sel_num Kb.out j
            have ca := add_any _ x y c kx Y Hn.out Hm.out H2.out hr
            rw [← HT2.out] at ca
            have Ca := Lib.hid ca
            have HB := Lib.hid hb
            clear hy hr hb ca
            go_wp2_with fail
            refine Ca.out.mono ?_
            rintro e w1 ⟨rfl, hr, hb⟩
            have HR1 := Lib.hid hr
            have HB1 := Lib.hid (HB.out.trans (hb.mono SK.out))
            clear hr hb
            go_wp2_with fail
            go_roundw
            case rel => exact ⟨j + 1, by omega, by go_num, HR1.out, HB1.out⟩
            case measure => simp [intOf]; omega
          · obtain rfl : j = 2 := by omega
            have HR1 := Lib.hid hr
            have HB1 := Lib.hid hb
            clear hr hb
            go_wp2_with fail
            go_roundw
            case rel => exact ⟨k + 1, by omega, by go_num, by rw [HT.out]; exact HR1.out, HB1.out⟩
            case measure => simp [intOf]; omega
      · obtain rfl : k = 2 := by omega
        have cr := result_any _ kx X hr
        obtain ⟨q, hq⟩ : ∃ q, reH (tmO a b c 2) = q := ⟨_, rfl⟩
        rw [hq] at hf cr
        have Cr := Lib.hid cr
        clear hq hr cr
        have reX : ∀ v, ∃ x, ovr X v = ovr W x := fun v => ovr_reB hb v
        replace yW00 := tr_cell reX yW00
        replace yW01 := tr_cell reX yW01
        replace RrowW0 := Lib.hid (tr_row reX RrowW0.out)
        replace yW10 := tr_cell reX yW10
        replace yW11 := tr_cell reX yW11
        replace RrowW1 := Lib.hid (tr_row reX RrowW1.out)
        replace yW20 := tr_cell reX yW20
        replace yW21 := tr_cell reX yW21
        replace RrowW2 := Lib.hid (tr_row reX RrowW2.out)
        have HUX : Hid (∀ u, Below w.heap.size w (ovr X u)) := fun u => by obtain ⟨x, hx⟩ := reX u; rw [hx]; exact HUW.out x
        clear reX hb
        go_wp2_with fail
        refine Cr.out.mono ?_
        rintro e w1 ⟨rfl, hb1⟩
        obtain ⟨u4, rfl⟩ : ∃ u, w1 = ovr X u := ⟨w1, ovr_of hb1⟩
        clear hb1
        go_wp2_with (refine wpList_store_row rfl 38 _ _ rfl (w.heap.size + 1 + 1) rfl _ _ (RrowW2.out _) _ rfl (one2 rfl rfl) rfl (by kernel_rfl) ?_)
        refine bodyPost_ret (results_cell_tmp rfl _ _ (w.heap.size + 1 + 1) 38 _ (0, 0) _ rfl (setRow_same (RrowW2.out _)) Try.underlying38 rfl (by kernel_rfl)) rfl ?_
        exact ⟨by rw [hf.out]; rfl, below_setRow (HUX.out _) (by omega) _⟩
  · rw [if_neg h2] at hf
    have t0 : (decide (c < 1) = true) ∨ (decide (c < 1) = false ∧ decide (1000000000000000 < c) = true) := by simp only [decide_eq_true_eq, decide_eq_false_iff_not]; omega
    rcases t0 with t2 | ⟨t2, t3⟩
    all_goals
      go_enter Try.func56, Try.ntmps56
      go_upto_block 0 with (fail)
      rw [← HW.out]
      obtain ⟨u0, hu0⟩ := ovr_self W
      rw [hu0]
      clear hu0
      go_wp2_with fail
      refine (cv.out _ _ rfl).mono ?_
      rintro e w1 ⟨rfl, hb1⟩
      obtain ⟨u1, rfl⟩ := ovr_next hb1
      clear hb1
      go_wp2_with (refine wpList_store_row rfl 38 _ _ rfl (w.heap.size + 1 + 1) rfl _ _ (RrowW2.out _) _ rfl (one2 rfl rfl) rfl (by kernel_rfl) ?_)
      refine bodyPost_ret (results_cell_tmp rfl _ _ (w.heap.size + 1 + 1) 38 _ (0, 0) _ rfl (setRow_same (RrowW2.out _)) Try.underlying38 rfl (by kernel_rfl)) rfl ?_
      exact ⟨by rw [hf.out]; rfl, below_setRow (HUW.out _) (by omega) _⟩
end Go.Proofs.Ytmadlmmfbpmebaa
