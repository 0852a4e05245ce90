/- The contracts of Sum, Less, cut, Hull$1 of package units. -/
import Derived.Test.YtmadlmmfbpmebaaUr
namespace Go.Proofs.Ytmadlmmfbpmebaa
open Go.RowKit
def suF (xs : List Rng) : Rng × Int := if chk xs = 0 then fiF (addK xs xs.length).1 (addK xs xs.length).2 else (⟨0, 0⟩, chk xs)
theorem chk_ok {xs : List Rng} (h : chk xs = 0) : xs.length ≤ 100 ∧ rngsOk xs = true := by
  unfold chk at h
  split at h
  · cases h
  · rename_i h1
    split at h
    · rename_i h2; exact ⟨by omega, h2⟩
    · cases h
set_option maxRecDepth 100000 in
set_option maxHeartbeats 1000000 in
theorem sum_any (A : Option Addr) (n c : Nat) (xs : List Rng) (w : World) (B : Nat) (hn : n = xs.length) (hm : n ≤ maxLen) (hB : B ≤ w.heap.size) (hx : Rd w B 2 A n (rR xs)) :
    Calls Try.prog 61 #[.slice A n c] w (RetRn w (suF xs)) := by
  subst hn
  have hf : Hid (suF xs = if chk xs = 0 then fiF (addK xs xs.length).1 (addK xs xs.length).2 else (⟨0, 0⟩, chk xs)) := rfl
  have HX : Hid (∀ W', Below w.heap.size w W' → Rd W' B 2 A xs.length (rR xs) ∧ B ≤ W'.heap.size) := fun W' h => ⟨hx.below (h.mono hB), Nat.le_trans hB h.size⟩
  have cc : Hid (∀ W', Rd W' B 2 A xs.length (rR xs) ∧ B ≤ W'.heap.size → Calls Try.prog 77 #[.slice A xs.length c] W' fun e w' => e = .returned (I (chk xs)) ∧ Below W'.heap.size W' w') := fun W' h => check_any A xs.length c xs W' B rfl hm h.2 h.1
  have ca : Hid (∀ W', chk xs = 0 → Rd W' B 2 A xs.length (rR xs) ∧ B ≤ W'.heap.size → Calls Try.prog 79 #[.slice A xs.length c] W' (RetTw W' (addK xs xs.length))) := fun W' h0 h => added_any A c xs W' B (by have := (chk_ok h0).1; omega) (chk_ok h0).2 h.2 h.1
  clear hx hB hm
  obtain ⟨W, hW⟩ : ∃ W, W = (w.alloc (.cells #[I 0, I 0] 38)) := ⟨_, rfl⟩
  have rowW0 : W.heap[w.heap.size]? = some (.cells #[I 0, I 0] 38 (0, 0)) := by rw [hW]; exact heap_last _ _ _ rfl
  have yW00 := ovr_cell (W := W) (b := w.heap.size) (o := 0) (v := I 0) (by rw [cell_of_row _ _ _ _ _ _ rowW0]; rfl)
  have yW01 := ovr_cell (W := W) (b := w.heap.size) (o := 1) (v := I 0) (by rw [cell_of_row _ _ _ _ _ _ rowW0]; rfl)
  have RrowW0 := Lib.hid (ovr_row rowW0)
  clear rowW0
  have HUW : Hid (∀ u, Below w.heap.size w (ovr W u)) := U1 hW
  have HW := Lib.hid hW
  clear hW
  go_enter Try.func61, Try.ntmps61
  go_upto_region 1 with (fail)
  rw [← HW.out]
  obtain ⟨u0, hu0⟩ := ovr_self W
  rw [hu0]
  clear hu0
  go_wp2_with fail
  refine (cc.out _ (HX.out _ (HUW.out _))).mono ?_
  rintro e w1 ⟨rfl, hb1⟩
  obtain ⟨u1, rfl⟩ := ovr_next hb1
  clear hb1
  by_cases h0 : chk xs = 0
  · have cb := Lib.hid fun W' => ca.out W' h0
    rw [if_pos h0] at hf
    rw [h0]
    clear h0 ca
    go_wp2_with fail
    refine (cb.out _ (HX.out _ (HUW.out _))).mono ?_
    rintro e w1 ⟨rfl, hb1⟩
    obtain ⟨u2, rfl⟩ := ovr_next hb1
    clear hb1
    go_wp2_with fail
    refine (fits_any _ _ _).mono ?_
    rintro e w1 ⟨rfl, hb1⟩
    obtain ⟨u3, rfl⟩ := ovr_next hb1
    clear hb1
    go_wp2_with (refine wpList_store_row rfl 38 _ _ rfl (w.heap.size) rfl _ _ (RrowW0.out _) _ rfl (one2 rfl rfl) rfl (by kernel_rfl) ?_)
    refine bodyPost_ret (results_cell_tmp rfl _ _ (w.heap.size) 38 _ (0, 0) _ rfl (setRow_same (RrowW0.out _)) Try.underlying38 rfl (by kernel_rfl)) rfl ?_
    exact ⟨by rw [hf.out]; rfl, below_setRow (HUW.out _) (by omega) _⟩
  · rw [if_neg h0] at hf
    have h0b : (chk xs == 0) = false := by simpa using h0
    have h0c : (chk xs != 0) = true := by simpa using h0
    clear h0
    go_wp2_with (refine wpList_store_row rfl 38 _ _ rfl (w.heap.size) rfl _ _ (RrowW0.out _) _ rfl (one2 rfl rfl) rfl (by kernel_rfl) ?_)
    refine bodyPost_ret (results_cell_tmp rfl _ _ (w.heap.size) 38 _ (0, 0) _ rfl (setRow_same (RrowW0.out _)) Try.underlying38 rfl (by kernel_rfl)) rfl ?_
    exact ⟨by rw [hf.out]; rfl, below_setRow (HUW.out _) (by omega) _⟩
theorem valid_two (a b : Rng) (W : World) (k : Nat) (hk : W.heap.size = k) : Calls Try.prog 78 #[.slice (some ⟨k, 0, none⟩) 2 2] (W.alloc (.cells #[I a.lo, I a.hi, I b.lo, I b.hi] 38)) fun e w' => e = .returned (.bool (rngOk a && rngOk b)) ∧ Below W.heap.size W w' := by
  subst hk
  have h := valid_any (some ⟨W.heap.size, 0, none⟩) 2 2 [a, b] (W.alloc (.cells #[I a.lo, I a.hi, I b.lo, I b.hi] 38)) _ rfl (by unfold maxLen; omega) (by simp) (Rd_new (heap_last _ _ _ rfl) _ _ _ _ (all2 (all2 rfl rfl) (all2 rfl rfl)))
  have e : rngsOk [a, b] = (rngOk a && rngOk b) := by simp [rngsOk, badR]
  rw [e] at h
  refine h.mono ?_
  rintro e w' ⟨rfl, hb⟩
  exact ⟨rfl, under2 hb⟩
theorem valid_one (a : Rng) (W : World) (k : Nat) (hk : W.heap.size = k) : Calls Try.prog 78 #[.slice (some ⟨k, 0, none⟩) 1 1] (W.alloc (.cells #[I a.lo, I a.hi] 38)) fun e w' => e = .returned (.bool (rngOk a)) ∧ Below W.heap.size W w' := by
  subst hk
  have h := valid_any (some ⟨W.heap.size, 0, none⟩) 1 1 [a] (W.alloc (.cells #[I a.lo, I a.hi] 38)) _ rfl (by unfold maxLen; omega) (by simp) (Rd_new (heap_last _ _ _ rfl) _ _ _ _ (all1 (all2 rfl rfl)))
  have e : rngsOk [a] = rngOk a := by simp [rngsOk, badR]
  rw [e] at h
  refine h.mono ?_
  rintro e w' ⟨rfl, hb⟩
  exact ⟨rfl, under2 hb⟩
def leF (a b : Rng) : Rng × Int := if rngOk a && rngOk b then fiF (a.lo - b.hi) (a.hi - b.lo) else (⟨0, 0⟩, 2)
set_option maxRecDepth 100000 in
set_option maxHeartbeats 1000000 in
theorem less_any (a b : Rng) (w : World) : Calls Try.prog 55 #[a.val, b.val] w (RetRn w (leF a b)) := by
  have hf : Hid (leF a b = if rngOk a && rngOk b then fiF (a.lo - b.hi) (a.hi - b.lo) else (⟨0, 0⟩, 2)) := rfl
  have cv := Lib.hid fun W k => valid_two a b W k
  obtain ⟨W, hW⟩ : ∃ W, W = (((w.alloc (.cells #[I a.lo, I a.hi] 38)).alloc (.cells #[I b.lo, I b.hi] 38)).alloc (.cells #[I 0, I 0] 38)) := ⟨_, rfl⟩
  have rowW0 : W.heap[w.heap.size]? = some (.cells #[I a.lo, I a.hi] 38 (0, 0)) := by rw [hW]; exact heap_before (heap_before (heap_last _ _ _ rfl))
  have yW00 := ovr_cell (W := W) (b := w.heap.size) (o := 0) (v := I a.lo) (by rw [cell_of_row _ _ _ _ _ _ rowW0]; rfl)
  have yW01 := ovr_cell (W := W) (b := w.heap.size) (o := 1) (v := I a.hi) (by rw [cell_of_row _ _ _ _ _ _ rowW0]; rfl)
  have RrowW0 := Lib.hid (ovr_row rowW0)
  clear rowW0
  have rowW1 : W.heap[w.heap.size + 1]? = some (.cells #[I b.lo, I b.hi] 38 (0, 0)) := by rw [hW]; exact heap_before (heap_last _ _ _ (by simp))
  have yW10 := ovr_cell (W := W) (b := w.heap.size + 1) (o := 0) (v := I b.lo) (by rw [cell_of_row _ _ _ _ _ _ rowW1]; rfl)
  have yW11 := ovr_cell (W := W) (b := w.heap.size + 1) (o := 1) (v := I b.hi) (by rw [cell_of_row _ _ _ _ _ _ rowW1]; rfl)
  have RrowW1 := Lib.hid (ovr_row rowW1)
  clear rowW1
  have rowW2 : W.heap[w.heap.size + 1 + 1]? = some (.cells #[I 0, I 0] 38 (0, 0)) := by rw [hW]; exact heap_last _ _ _ (by simp)
  have yW20 := ovr_cell (W := W) (b := w.heap.size + 1 + 1) (o := 0) (v := I 0) (by rw [cell_of_row _ _ _ _ _ _ rowW2]; rfl)
  have yW21 := ovr_cell (W := W) (b := w.heap.size + 1 + 1) (o := 1) (v := I 0) (by rw [cell_of_row _ _ _ _ _ _ rowW2]; rfl)
  have RrowW2 := Lib.hid (ovr_row rowW2)
  clear rowW2
  have HUW : Hid (∀ u, Below w.heap.size w (ovr W u)) := U3 hW
  have HW := Lib.hid hW
  clear hW
  rcases h1 : (rngOk a && rngOk b) with _ | _ <;> (rw [h1] at hf cv)
  · go_enter Try.func55, Try.ntmps55
    go_upto_region 1 with (fail)
    rw [← HW.out]
    obtain ⟨u0, hu0⟩ := ovr_self W
    rw [hu0]
    clear hu0
    go_wp2_with fail
    refine (cv.out _ _ rfl).mono ?_
    rintro e w1 ⟨rfl, hb1⟩
    obtain ⟨u1, rfl⟩ := ovr_next hb1
    clear hb1
    go_wp2_with (refine wpList_store_row rfl 38 _ _ rfl (w.heap.size + 1 + 1) rfl _ _ (RrowW2.out _) _ rfl (one2 rfl rfl) rfl (by kernel_rfl) ?_)
    refine bodyPost_ret (results_cell_tmp rfl _ _ (w.heap.size + 1 + 1) 38 _ (0, 0) _ rfl (setRow_same (RrowW2.out _)) Try.underlying38 rfl (by kernel_rfl)) rfl ?_
    exact ⟨by rw [hf.out]; rfl, below_setRow (HUW.out _) (by omega) _⟩
  · obtain ⟨k1, k2⟩ := Bool.and_eq_true_iff.1 h1
    have k1 := rngOk_iff.1 k1
    have k2 := rngOk_iff.1 k2
    have c1 : IntKind.i64.wrap (a.lo - b.hi) = a.lo - b.hi := IntWalk.i64_in _ (by omega)
    have c2 : IntKind.i64.wrap (a.hi - b.lo) = a.hi - b.lo := IntWalk.i64_in _ (by omega)
    clear k1 k2 h1
    go_enter Try.func55, Try.ntmps55
    go_upto_region 1 with (fail)
    rw [← HW.out]
    obtain ⟨u0, hu0⟩ := ovr_self W
    rw [hu0]
    clear hu0
    go_wp2_with fail
    refine (cv.out _ _ rfl).mono ?_
    rintro e w1 ⟨rfl, hb1⟩
    obtain ⟨u1, rfl⟩ := ovr_next hb1
    clear hb1
    go_wp2_with fail
    refine (fits_any _ _ _).mono ?_
    rintro e w1 ⟨rfl, hb1⟩
    obtain ⟨u2, rfl⟩ := ovr_next hb1
    clear hb1
    go_wp2_with (refine wpList_store_row rfl 38 _ _ rfl (w.heap.size + 1 + 1) rfl _ _ (RrowW2.out _) _ rfl (one2 rfl rfl) rfl (by kernel_rfl) ?_)
    refine bodyPost_ret (results_cell_tmp rfl _ _ (w.heap.size + 1 + 1) 38 _ (0, 0) _ rfl (setRow_same (RrowW2.out _)) Try.underlying38 rfl (by kernel_rfl)) rfl ?_
    exact ⟨by rw [hf.out]; rfl, below_setRow (HUW.out _) (by omega) _⟩
/-- What two ranges have in common, and the range round both. -/
def cuF (a b : Rng) : Rng := ⟨max a.lo b.lo, min a.hi b.hi⟩
def huF (a b : Rng) : Rng := ⟨min a.lo b.lo, max a.hi b.hi⟩
set_option maxRecDepth 100000 in
set_option maxHeartbeats 1000000 in
theorem cut_any (a b : Rng) (w : World) : Calls Try.prog 80 #[a.val, b.val] w fun e w' => e = .returned ((cuF a b).val) ∧ Below w.heap.size w w' := by
  obtain ⟨W, hW⟩ : ∃ W, W = (((w.alloc (.cells #[I a.lo, I a.hi] 38)).alloc (.cells #[I b.lo, I b.hi] 38)).alloc (.cells #[I 0, I 0] 38)) := ⟨_, rfl⟩
  have rowW0 : W.heap[w.heap.size]? = some (.cells #[I a.lo, I a.hi] 38 (0, 0)) := by rw [hW]; exact heap_before (heap_before (heap_last _ _ _ rfl))
  have yW00 := ovr_cell (W := W) (b := w.heap.size) (o := 0) (v := I a.lo) (by rw [cell_of_row _ _ _ _ _ _ rowW0]; rfl)
  have yW01 := ovr_cell (W := W) (b := w.heap.size) (o := 1) (v := I a.hi) (by rw [cell_of_row _ _ _ _ _ _ rowW0]; rfl)
  have RrowW0 := Lib.hid (ovr_row rowW0)
  clear rowW0
  have rowW1 : W.heap[w.heap.size + 1]? = some (.cells #[I b.lo, I b.hi] 38 (0, 0)) := by rw [hW]; exact heap_before (heap_last _ _ _ (by simp))
  have yW10 := ovr_cell (W := W) (b := w.heap.size + 1) (o := 0) (v := I b.lo) (by rw [cell_of_row _ _ _ _ _ _ rowW1]; rfl)
  have yW11 := ovr_cell (W := W) (b := w.heap.size + 1) (o := 1) (v := I b.hi) (by rw [cell_of_row _ _ _ _ _ _ rowW1]; rfl)
  have RrowW1 := Lib.hid (ovr_row rowW1)
  clear rowW1
  have rowW2 : W.heap[w.heap.size + 1 + 1]? = some (.cells #[I 0, I 0] 38 (0, 0)) := by rw [hW]; exact heap_last _ _ _ (by simp)
  have yW20 := ovr_cell (W := W) (b := w.heap.size + 1 + 1) (o := 0) (v := I 0) (by rw [cell_of_row _ _ _ _ _ _ rowW2]; rfl)
  have yW21 := ovr_cell (W := W) (b := w.heap.size + 1 + 1) (o := 1) (v := I 0) (by rw [cell_of_row _ _ _ _ _ _ rowW2]; rfl)
  have RrowW2 := Lib.hid (ovr_row rowW2)
  clear rowW2
  have HUW : Hid (∀ u, Below w.heap.size w (ovr W u)) := U3 hW
  have HW := Lib.hid hW
  clear hW
  go_enter Try.func80, Try.ntmps80
  go_upto_region 1 with (fail)
  rw [← HW.out]
  obtain ⟨u0, hu0⟩ := ovr_self W
  rw [hu0]
  clear hu0
  go_wp2_with (refine wpList_store_row rfl 38 _ _ rfl (w.heap.size + 1 + 1) rfl _ _ (RrowW2.out _) _ rfl (one2 rfl rfl) rfl (by kernel_rfl) ?_)
  refine bodyPost_ret (results_cell_only rfl _ _ (w.heap.size + 1 + 1) 38 _ (0, 0) _ rfl (setRow_same (RrowW2.out _)) Try.underlying38 rfl (by kernel_rfl)) rfl ?_
  exact ⟨by rfl, below_setRow (HUW.out _) (by omega) _⟩
set_option maxRecDepth 100000 in
set_option maxHeartbeats 1000000 in
theorem hullf_any (a b : Rng) (w : World) : Calls Try.prog 103 #[a.val, b.val] w fun e w' => e = .returned ((huF a b).val) ∧ Below w.heap.size w w' := by
  obtain ⟨W, hW⟩ : ∃ W, W = (((w.alloc (.cells #[I a.lo, I a.hi] 38)).alloc (.cells #[I b.lo, I b.hi] 38)).alloc (.cells #[I 0, I 0] 38)) := ⟨_, rfl⟩
  have rowW0 : W.heap[w.heap.size]? = some (.cells #[I a.lo, I a.hi] 38 (0, 0)) := by rw [hW]; exact heap_before (heap_before (heap_last _ _ _ rfl))
  have yW00 := ovr_cell (W := W) (b := w.heap.size) (o := 0) (v := I a.lo) (by rw [cell_of_row _ _ _ _ _ _ rowW0]; rfl)
  have yW01 := ovr_cell (W := W) (b := w.heap.size) (o := 1) (v := I a.hi) (by rw [cell_of_row _ _ _ _ _ _ rowW0]; rfl)
  have RrowW0 := Lib.hid (ovr_row rowW0)
  clear rowW0
  have rowW1 : W.heap[w.heap.size + 1]? = some (.cells #[I b.lo, I b.hi] 38 (0, 0)) := by rw [hW]; exact heap_before (heap_last _ _ _ (by simp))
  have yW10 := ovr_cell (W := W) (b := w.heap.size + 1) (o := 0) (v := I b.lo) (by rw [cell_of_row _ _ _ _ _ _ rowW1]; rfl)
  have yW11 := ovr_cell (W := W) (b := w.heap.size + 1) (o := 1) (v := I b.hi) (by rw [cell_of_row _ _ _ _ _ _ rowW1]; rfl)
  have RrowW1 := Lib.hid (ovr_row rowW1)
  clear rowW1
  have rowW2 : W.heap[w.heap.size + 1 + 1]? = some (.cells #[I 0, I 0] 38 (0, 0)) := by rw [hW]; exact heap_last _ _ _ (by simp)
  have yW20 := ovr_cell (W := W) (b := w.heap.size + 1 + 1) (o := 0) (v := I 0) (by rw [cell_of_row _ _ _ _ _ _ rowW2]; rfl)
  have yW21 := ovr_cell (W := W) (b := w.heap.size + 1 + 1) (o := 1) (v := I 0) (by rw [cell_of_row _ _ _ _ _ _ rowW2]; rfl)
  have RrowW2 := Lib.hid (ovr_row rowW2)
  clear rowW2
  have HUW : Hid (∀ u, Below w.heap.size w (ovr W u)) := U3 hW
  have HW := Lib.hid hW
  clear hW
  go_enter Try.func103, Try.ntmps103
  go_upto_region 1 with (fail)
  rw [← HW.out]
  obtain ⟨u0, hu0⟩ := ovr_self W
  rw [hu0]
  clear hu0
  go_wp2_with (refine wpList_store_row rfl 38 _ _ rfl (w.heap.size + 1 + 1) rfl _ _ (RrowW2.out _) _ rfl (one2 rfl rfl) rfl (by kernel_rfl) ?_)
  refine bodyPost_ret (results_cell_only rfl _ _ (w.heap.size + 1 + 1) 38 _ (0, 0) _ rfl (setRow_same (RrowW2.out _)) Try.underlying38 rfl (by kernel_rfl)) rfl ?_
  exact ⟨by rfl, below_setRow (HUW.out _) (by omega) _⟩
end Go.Proofs.Ytmadlmmfbpmebaa
