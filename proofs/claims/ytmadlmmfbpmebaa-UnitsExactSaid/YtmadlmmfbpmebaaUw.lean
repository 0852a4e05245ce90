/- The contracts of Scale and Over of package units. -/
import Derived.Test.YtmadlmmfbpmebaaUv
namespace Go.Proofs.Ytmadlmmfbpmebaa
open Go.RowKit
def scF (r : Rng) (f : Frc) : Rng × Int := if rngOk r && fok f then reH (addH (addH hul0 (r.lo * f.n) f.d) (r.hi * f.n) f.d) else (⟨0, 0⟩, 2)
set_option maxRecDepth 100000 in
set_option maxHeartbeats 2000000 in
theorem scale_any (r : Rng) (f : Frc) (w : World) : Calls Try.prog 48 #[r.val, f.val] w (RetRn w (scF r f)) := by
  have hf : Hid (scF r f = if rngOk r && fok f then reH (addH (addH hul0 (r.lo * f.n) f.d) (r.hi * f.n) f.d) else (⟨0, 0⟩, 2)) := rfl
  have cv := Lib.hid fun W k => valid_one r W k
  have ck := Lib.hid fun W => fok_any f W
  obtain ⟨W, hW⟩ : ∃ W, W = (((w.alloc (.cells #[I r.lo, I r.hi] 38)).alloc (.cells #[I f.n, I f.d] 71)).alloc (.cells #[I 0, I 0] 38)) := ⟨_, rfl⟩
  have rowW0 : W.heap[w.heap.size]? = some (.cells #[I r.lo, I r.hi] 38 (0, 0)) := by rw [hW]; exact heap_before (heap_before (heap_last _ _ _ rfl))
  have yW00 := ovr_cell (W := W) (b := w.heap.size) (o := 0) (v := I r.lo) (by rw [cell_of_row _ _ _ _ _ _ rowW0]; rfl)
  have yW01 := ovr_cell (W := W) (b := w.heap.size) (o := 1) (v := I r.hi) (by rw [cell_of_row _ _ _ _ _ _ rowW0]; rfl)
  have RrowW0 := Lib.hid (ovr_row rowW0)
  clear rowW0
  have rowW1 : W.heap[w.heap.size + 1]? = some (.cells #[I f.n, I f.d] 71 (0, 0)) := by rw [hW]; exact heap_before (heap_last _ _ _ (by simp))
  have yW10 := ovr_cell (W := W) (b := w.heap.size + 1) (o := 0) (v := I f.n) (by rw [cell_of_row _ _ _ _ _ _ rowW1]; rfl)
  have yW11 := ovr_cell (W := W) (b := w.heap.size + 1) (o := 1) (v := I f.d) (by rw [cell_of_row _ _ _ _ _ _ rowW1]; rfl)
  have RrowW1 := Lib.hid (ovr_row rowW1)
  clear rowW1
  have rowW2 : W.heap[w.heap.size + 1 + 1]? = some (.cells #[I 0, I 0] 38 (0, 0)) := by rw [hW]; exact heap_last _ _ _ (by simp)
  have yW20 := ovr_cell (W := W) (b := w.heap.size + 1 + 1) (o := 0) (v := I 0) (by rw [cell_of_row _ _ _ _ _ _ rowW2]; rfl)
  have yW21 := ovr_cell (W := W) (b := w.heap.size + 1 + 1) (o := 1) (v := I 0) (by rw [cell_of_row _ _ _ _ _ _ rowW2]; rfl)
  have RrowW2 := Lib.hid (ovr_row rowW2)
  clear rowW2
  have HUW : Hid (∀ u, Below w.heap.size w (ovr W u)) := U3 hW
  have HW := Lib.hid hW
  clear hW
  rcases h1 : rngOk r with _ | _ <;> (rw [h1] at hf cv)
  · go_enter Try.func48, Try.ntmps48
    go_upto_region 1 with (fail)
    rw [← HW.out]
    obtain ⟨u0, hu0⟩ := ovr_self W
    rw [hu0]
    clear hu0
    go_wp2_with fail
    refine (cv.out _ _ rfl).mono ?_
    rintro e w1 ⟨rfl, hb1⟩
    obtain ⟨u1, rfl⟩ := ovr_next hb1
    clear hb1
    go_wp2_with (refine wpList_store_row rfl 38 _ _ rfl (w.heap.size + 1 + 1) rfl _ _ (RrowW2.out _) _ rfl (one2 rfl rfl) rfl (by kernel_rfl) ?_)
    refine bodyPost_ret (results_cell_tmp rfl _ _ (w.heap.size + 1 + 1) 38 _ (0, 0) _ rfl (setRow_same (RrowW2.out _)) Try.underlying38 rfl (by kernel_rfl)) rfl ?_
    exact ⟨by rw [hf.out]; rfl, below_setRow (HUW.out _) (by omega) _⟩
  rcases h2 : fok f with _ | _ <;> (rw [h2] at hf ck)
  · go_enter Try.func48, Try.ntmps48
    go_upto_region 1 with (fail)
    rw [← HW.out]
    obtain ⟨u0, hu0⟩ := ovr_self W
    rw [hu0]
    clear hu0
    go_wp2_with fail
    refine (cv.out _ _ rfl).mono ?_
    rintro e w1 ⟨rfl, hb1⟩
    obtain ⟨u1, rfl⟩ := ovr_next hb1
    clear hb1
    go_wp2_with fail
    refine (ck.out _).mono ?_
    rintro e w1 ⟨rfl, hb1⟩
    obtain ⟨u2, rfl⟩ := ovr_next hb1
    clear hb1
    go_wp2_with (refine wpList_store_row rfl 38 _ _ rfl (w.heap.size + 1 + 1) rfl _ _ (RrowW2.out _) _ rfl (one2 rfl rfl) rfl (by kernel_rfl) ?_)
    refine bodyPost_ret (results_cell_tmp rfl _ _ (w.heap.size + 1 + 1) 38 _ (0, 0) _ rfl (setRow_same (RrowW2.out _)) Try.underlying38 rfl (by kernel_rfl)) rfl ?_
    exact ⟨by rw [hf.out]; rfl, below_setRow (HUW.out _) (by omega) _⟩
  rw [if_pos (by rfl)] at hf
  have Kr := rngOk_iff.1 h1
  have Kf := fok_iff.1 h2
  have n1 : Hid (numB r.lo = true) := numB_iff.2 (by omega)
  have n2 : Hid (numB r.hi = true) := numB_iff.2 (by omega)
  have n3 : Hid (numB f.n = true) := numB_iff.2 (by omega)
  have n4 : Hid (1 ≤ f.d ∧ f.d ≤ 1000000000000000) := by show _ ∧ _; omega
  clear h1 h2 Kr Kf
  go_enter Try.func48, Try.ntmps48
  go_upto_region 1 with (fail)
  rw [← HW.out]
  obtain ⟨u0, hu0⟩ := ovr_self W
  rw [hu0]
  clear hu0
  go_wp2_with fail
  refine (cv.out _ _ rfl).mono ?_
  rintro e w1 ⟨rfl, hb1⟩
  obtain ⟨u1, rfl⟩ := ovr_next hb1
  clear hb1
  go_wp2_with fail
  refine (ck.out _).mono ?_
  rintro e w1 ⟨rfl, hb1⟩
  obtain ⟨u2, rfl⟩ := ovr_next hb1
  clear hb1
  go_upto_region 4 with (fail)
  obtain ⟨V, hV⟩ : ∃ V, V = (ovr W u2).alloc (.cells #[I 0, I 0, .bool false, .bool false] 133) := ⟨_, rfl⟩
  have rV : V.heap[(ovr W u2).heap.size]? = some (.cells (huRow hul0) 133 (0, 0)) := by rw [hV]; exact heap_last _ _ _ rfl
  have bV : Below W.heap.size W V := by rw [hV]; exact (ovr_below W u2).alloc (ovr_below W u2).size _
  have sk := (ovr_below W u2).size
  rw [← hV]
  obtain ⟨kx, hkx⟩ : ∃ kx, (ovr W u2).heap.size = kx := ⟨_, rfl⟩
  rw [hkx] at rV sk
  rw [hkx]
  have SK := Lib.hid sk
  have c1 := Lib.hid (add_any _ r.lo f.n f.d kx V n1.out n3.out n4.out rV)
  clear hV hkx rV sk
  rw [ovr_of bV] at c1
  have BV : Hid (Below W.heap.size W (ovr W V)) := ovr_below W V
  rw [ovr_of bV]
  clear bV
  go_wp2_with fail
  refine c1.out.mono ?_
  rintro e w1 ⟨rfl, hr, hb⟩
  have b1 := BV.out.trans (hb.mono SK.out)
  have B1 := Lib.hid b1
  have c2 := Lib.hid (add_any _ r.hi f.n f.d kx w1 n2.out n3.out n4.out hr)
  clear hr hb c1
  rw [ovr_of b1] at c2
  rw [ovr_of b1]
  clear b1
  go_wp2_with fail
  refine c2.out.mono ?_
  rintro e w2 ⟨rfl, hr, hb⟩
  have b2 := (ovr_below W w1).trans (hb.mono SK.out)
  have cr := result_any _ kx w2 hr
  obtain ⟨q, hq⟩ : ∃ q, reH (addH (addH hul0 (r.lo * f.n) f.d) (r.hi * f.n) f.d) = q := ⟨_, rfl⟩
  rw [hq] at hf cr
  have Cr := Lib.hid cr
  clear hr hb c2 hq cr
  rw [ovr_of b2] at Cr
  rw [ovr_of b2]
  clear b2
  go_wp2_with fail
  refine Cr.out.mono ?_
  rintro e w1 ⟨rfl, hb1⟩
  obtain ⟨u5, rfl⟩ := ovr_next hb1
  clear hb1
  go_wp2_with (refine wpList_store_row rfl 38 _ _ rfl (w.heap.size + 1 + 1) rfl _ _ (RrowW2.out _) _ rfl (one2 rfl rfl) rfl (by kernel_rfl) ?_)
  refine bodyPost_ret (results_cell_tmp rfl _ _ (w.heap.size + 1 + 1) 38 _ (0, 0) _ rfl (setRow_same (RrowW2.out _)) Try.underlying38 rfl (by kernel_rfl)) rfl ?_
  exact ⟨by rw [hf.out]; rfl, below_setRow (HUW.out _) (by omega) _⟩
/-- The hull after k factors. -/
def ovO (a b : Rng) (c : Int) : Nat → Hul
  | 0 => hul0 | k + 1 => addH (addH (ovO a b c k) (selR a k * c) b.lo) (selR a k * c) b.hi
def oeF (a b : Rng) (c : Int) : Rng × Int := if rngOk a && rngOk b then (if 1 ≤ c ∧ c ≤ 1000000000000000 ∧ 1 ≤ b.lo then reH (ovO a b c 2) else (⟨0, 0⟩, 3)) else (⟨0, 0⟩, 2)
set_option maxRecDepth 100000 in
set_option maxHeartbeats 2000000 in
theorem over2_any (a b : Rng) (c : Int) (w : World) : Calls Try.prog 57 #[a.val, b.val, I c] w (RetRn w (oeF a b c)) := by
  have hf : Hid (oeF a b c = if rngOk a && rngOk b then (if 1 ≤ c ∧ c ≤ 1000000000000000 ∧ 1 ≤ b.lo then reH (ovO a b c 2) else (⟨0, 0⟩, 3)) else (⟨0, 0⟩, 2)) := rfl
  have cv := Lib.hid fun W k => valid_two a b W k
  obtain ⟨W, hW⟩ : ∃ W, W = (((w.alloc (.cells #[I a.lo, I a.hi] 38)).alloc (.cells #[I b.lo, I b.hi] 38)).alloc (.cells #[I 0, I 0] 38)) := ⟨_, rfl⟩
  have rowW0 : W.heap[w.heap.size]? = some (.cells #[I a.lo, I a.hi] 38 (0, 0)) := by rw [hW]; exact heap_before (heap_before (heap_last _ _ _ rfl))
  have yW00 := ovr_cell (W := W) (b := w.heap.size) (o := 0) (v := I a.lo) (by rw [cell_of_row _ _ _ _ _ _ rowW0]; rfl)
  have yW01 := ovr_cell (W := W) (b := w.heap.size) (o := 1) (v := I a.hi) (by rw [cell_of_row _ _ _ _ _ _ rowW0]; rfl)
  have RrowW0 := Lib.hid (ovr_row rowW0)
  clear rowW0
  have rowW1 : W.heap[w.heap.size + 1]? = some (.cells #[I b.lo, I b.hi] 38 (0, 0)) := by rw [hW]; exact heap_before (heap_last _ _ _ (by simp))
  have yW10 := ovr_cell (W := W) (b := w.heap.size + 1) (o := 0) (v := I b.lo) (by rw [cell_of_row _ _ _ _ _ _ rowW1]; rfl)
  have yW11 := ovr_cell (W := W) (b := w.heap.size + 1) (o := 1) (v := I b.hi) (by rw [cell_of_row _ _ _ _ _ _ rowW1]; rfl)
  have RrowW1 := Lib.hid (ovr_row rowW1)
  clear rowW1
  have rowW2 : W.heap[w.heap.size + 1 + 1]? = some (.cells #[I 0, I 0] 38 (0, 0)) := by rw [hW]; exact heap_last _ _ _ (by simp)
  have yW20 := ovr_cell (W := W) (b := w.heap.size + 1 + 1) (o := 0) (v := I 0) (by rw [cell_of_row _ _ _ _ _ _ rowW2]; rfl)
  have yW21 := ovr_cell (W := W) (b := w.heap.size + 1 + 1) (o := 1) (v := I 0) (by rw [cell_of_row _ _ _ _ _ _ rowW2]; rfl)
  have RrowW2 := Lib.hid (ovr_row rowW2)
  clear rowW2
  have HUW : Hid (∀ u, Below w.heap.size w (ovr W u)) := U3 hW
  have HW := Lib.hid hW
  clear hW
  rcases h1 : (rngOk a && rngOk b) with _ | _ <;> (rw [h1] at hf cv)
  · go_enter Try.func57, Try.ntmps57
    go_upto_block 0 with (fail)
    rw [← HW.out]
    obtain ⟨u0, hu0⟩ := ovr_self W
    rw [hu0]
    clear hu0
    go_wp2_with fail
    refine (cv.out _ _ rfl).mono ?_
    rintro e w1 ⟨rfl, hb1⟩
    obtain ⟨u1, rfl⟩ := ovr_next hb1
    clear hb1
    go_wp2_with (refine wpList_store_row rfl 38 _ _ rfl (w.heap.size + 1 + 1) rfl _ _ (RrowW2.out _) _ rfl (one2 rfl rfl) rfl (by kernel_rfl) ?_)
    refine bodyPost_ret (results_cell_tmp rfl _ _ (w.heap.size + 1 + 1) 38 _ (0, 0) _ rfl (setRow_same (RrowW2.out _)) Try.underlying38 rfl (by kernel_rfl)) rfl ?_
    exact ⟨by rw [hf.out]; rfl, below_setRow (HUW.out _) (by omega) _⟩
  rw [if_pos rfl] at hf
  obtain ⟨ka, kb⟩ := Bool.and_eq_true_iff.1 h1
  have Ka := Lib.hid ka
  have Kb := Lib.hid kb
  clear ka kb h1
  by_cases h2 : 1 ≤ c ∧ c ≤ 1000000000000000 ∧ 1 ≤ b.lo
  · rw [if_pos h2] at hf
    have H2 := Lib.hid h2
    have t1 : decide (c < 1) = false := decide_eq_false (by omega)
    have t2 : decide (1000000000000000 < c) = false := decide_eq_false (by omega)
    have t3 : decide (b.lo < 1) = false := decide_eq_false (by omega)
    have kbb := rngOk_iff.1 Kb.out
    have Hc : Hid (numB c = true) := numB_iff.2 (by omega)
    have Hlo : Hid (1 ≤ b.lo ∧ b.lo ≤ 1000000000000000) := by show _ ∧ _; omega
    have Hhi : Hid (1 ≤ b.hi ∧ b.hi ≤ 1000000000000000) := by show _ ∧ _; omega
    clear kbb
    clear h2
    go_enter Try.func57, Try.ntmps57
    go_upto_block 0 with (fail)
    rw [← HW.out]
    obtain ⟨u0, hu0⟩ := ovr_self W
    rw [hu0]
    clear hu0
    go_wp2_with fail
    refine (cv.out _ _ rfl).mono ?_
    rintro e w1 ⟨rfl, hb1⟩
    obtain ⟨u1, rfl⟩ := ovr_next hb1
    clear hb1
    go_upto_region 6 with (fail)
    obtain ⟨V, hV⟩ : ∃ V, V = (ovr W u1).alloc (.cells #[I 0, I 0, .bool false, .bool false] 133) := ⟨_, rfl⟩
    have rV : V.heap[(ovr W u1).heap.size]? = some (.cells (huRow hul0) 133 (0, 0)) := by rw [hV]; exact heap_last _ _ _ rfl
    have bV : Below W.heap.size W V := by rw [hV]; exact (ovr_below W u1).alloc (ovr_below W u1).size _
    have sk := (ovr_below W u1).size
    rw [← hV]
    obtain ⟨kx, hkx⟩ : ∃ kx, (ovr W u1).heap.size = kx := ⟨_, rfl⟩
    rw [hkx] at rV sk
    rw [hkx]
    have RV := Lib.hid rV
    have BV := Lib.hid bV
    have SK := Lib.hid sk
    have fV : Hid (∀ u, Below W.heap.size W (ovr V u)) := fun u => BV.out.trans ((ovr_below V u).mono BV.out.size)
    clear hV hkx rV sk
    obtain ⟨u2, hu2⟩ := ovr_self V
    have e0 : V.cell? ⟨w.heap.size, 0, none⟩ = some (I a.lo) := by rw [ovr_of bV]; exact yW00 V
    have e1 : V.cell? ⟨w.heap.size, 1, none⟩ = some (I a.hi) := by rw [ovr_of bV]; exact yW01 V
    clear hu2 bV
    go_wp2_with fail
    go_loopw [36] (fun i wr => ∃ k : Nat, k ≤ 2 ∧ i = .int .i64 k ∧ wr.heap[kx]? = some (.cells (huRow (ovO a b c k)) 133 (0, 0)) ∧ Below W.heap.size W wr) (fun i _ => 2 - (intOf i).toNat)
    case atStart => exact ⟨0, by omega, rfl, RV.out, BV.out⟩
    case round =>
      obtain ⟨k, hk, rfl, hr, hb⟩ := hrel
      rename World => X
      clear e0 e1
      by_cases hlt : k < 2
      · have kb : decide ((k : Int) < 2) = true := decide_eq_true (by omega)
        have i1 := ix_two a.lo a.hi k hlt
        obtain ⟨x, hx⟩ : ∃ x, (if k = 0 then a.lo else a.hi) = x := ⟨_, rfl⟩
        rw [hx] at i1
        have HT : Hid (ovO a b c (k + 1) = addH (addH (ovO a b c k) (x * c) b.lo) (x * c) b.hi) := by show _ = _; rw [← hx]; rfl
        have Hn : Hid (numB x = true) := by rw [← hx]; exact sel_num Ka.out k
        have c1 := Lib.hid (add_any _ x c b.lo kx X Hn.out Hc.out Hlo.out hr)
        clear hx hr
        rw [ovr_of hb] at c1
        rw [ovr_of hb]
        clear hb
        go_wp2_with fail
        refine c1.out.mono ?_
        rintro e w1 ⟨rfl, hr, hb⟩
        have b1 := (ovr_below W X).trans (hb.mono SK.out)
        have c2 := Lib.hid (add_any _ x c b.hi kx w1 Hn.out Hc.out Hhi.out hr)
        clear hr hb c1
        rw [ovr_of b1] at c2
        rw [ovr_of b1]
        clear b1
        go_wp2_with fail
        refine c2.out.mono ?_
        rintro e w2 ⟨rfl, hr, hb⟩
        have HR1 := Lib.hid hr
        have HB1 := Lib.hid ((ovr_below W w1).trans (hb.mono SK.out))
        clear hr hb
        go_wp2_with fail
        go_roundw
        case rel => exact ⟨k + 1, by omega, by go_num, by rw [HT.out]; exact HR1.out, HB1.out⟩
        case measure => simp [intOf]; omega
      · obtain rfl : k = 2 := by omega
        have cr := result_any _ kx X hr
        obtain ⟨q, hq⟩ : ∃ q, reH (ovO a b c 2) = q := ⟨_, rfl⟩
        rw [hq] at hf cr
        have Cr := Lib.hid cr
        clear hq hr cr
        have reX : ∀ v, ∃ x, ovr X v = ovr W x := fun v => ovr_reB hb v
        replace yW00 := tr_cell reX yW00
        replace yW01 := tr_cell reX yW01
        replace RrowW0 := Lib.hid (tr_row reX RrowW0.out)
        replace yW10 := tr_cell reX yW10
        replace yW11 := tr_cell reX yW11
        replace RrowW1 := Lib.hid (tr_row reX RrowW1.out)
        replace yW20 := tr_cell reX yW20
        replace yW21 := tr_cell reX yW21
        replace RrowW2 := Lib.hid (tr_row reX RrowW2.out)
        have HUX : Hid (∀ u, Below w.heap.size w (ovr X u)) := fun u => by obtain ⟨x, hx⟩ := reX u; rw [hx]; exact HUW.out x
        clear reX hb
        go_wp2_with fail
        refine Cr.out.mono ?_
        rintro e w1 ⟨rfl, hb1⟩
        obtain ⟨u4, rfl⟩ : ∃ u, w1 = ovr X u := ⟨w1, ovr_of hb1⟩
        clear hb1
        go_wp2_with (refine wpList_store_row rfl 38 _ _ rfl (w.heap.size + 1 + 1) rfl _ _ (RrowW2.out _) _ rfl (one2 rfl rfl) rfl (by kernel_rfl) ?_)
        refine bodyPost_ret (results_cell_tmp rfl _ _ (w.heap.size + 1 + 1) 38 _ (0, 0) _ rfl (setRow_same (RrowW2.out _)) Try.underlying38 rfl (by kernel_rfl)) rfl ?_
        exact ⟨by rw [hf.out]; rfl, below_setRow (HUX.out _) (by omega) _⟩
  · rw [if_neg h2] at hf
    have t0 : (decide (c < 1) = true) ∨ (decide (c < 1) = false ∧ decide (1000000000000000 < c) = true) ∨ (decide (c < 1) = false ∧ decide (1000000000000000 < c) = false ∧ decide (b.lo < 1) = true) := by simp only [decide_eq_true_eq, decide_eq_false_iff_not]; omega
    rcases t0 with t2 | ⟨t2, t3⟩ | ⟨t2, t3, t4⟩
    all_goals
      go_enter Try.func57, Try.ntmps57
      go_upto_block 0 with (fail)
      rw [← HW.out]
      obtain ⟨u0, hu0⟩ := ovr_self W
      rw [hu0]
      clear hu0
      go_wp2_with fail
      refine (cv.out _ _ rfl).mono ?_
      rintro e w1 ⟨rfl, hb1⟩
      obtain ⟨u1, rfl⟩ := ovr_next hb1
      clear hb1
      go_wp2_with (refine wpList_store_row rfl 38 _ _ rfl (w.heap.size + 1 + 1) rfl _ _ (RrowW2.out _) _ rfl (one2 rfl rfl) rfl (by kernel_rfl) ?_)
      refine bodyPost_ret (results_cell_tmp rfl _ _ (w.heap.size + 1 + 1) 38 _ (0, 0) _ rfl (setRow_same (RrowW2.out _)) Try.underlying38 rfl (by kernel_rfl)) rfl ?_
      exact ⟨by rw [hf.out]; rfl, below_setRow (HUW.out _) (by omega) _⟩
end Go.Proofs.Ytmadlmmfbpmebaa
