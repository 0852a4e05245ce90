/- The contracts of place, part, inside and point of the statements' package. -/
import Derived.Test.YtmadlmmfbpmebaaU5
namespace Go.Proofs.Ytmadlmmfbpmebaa
open Go.RowKit
/-- A number of a range. -/
def plF (r : Rng) (by' : Int) : Int := if r.hi ≤ r.lo ∨ r.lo < -1000000000000000 ∨ 1000000000000000 < r.hi then r.lo else r.lo + by'.tmod (r.hi - r.lo + 1)
theorem plF_in {r : Rng} {k : Int} (hk : 0 ≤ k) (h : r.lo ≤ r.hi) : r.lo ≤ plF r k ∧ plF r k ≤ r.hi := by
  unfold plF
  split
  · omega
  · have h1 := Int.tmod_nonneg (b := r.hi - r.lo + 1) hk
    have h2 := Int.tmod_lt_of_pos k (show 0 < r.hi - r.lo + 1 by omega)
    omega
set_option maxRecDepth 100000 in
set_option maxHeartbeats 2000000 in
theorem place_any (r : Rng) (k : Int) (w : World) (hk : 0 ≤ k ∧ k ≤ 65535) : Calls Try.prog 37 #[r.val, .int .u16 k] w fun e w' => e = .returned (I (plF r k)) ∧ Below w.heap.size w w' := by
  obtain ⟨x, y⟩ := r
  have HK := Lib.hid hk
  clear hk
  obtain ⟨W, hW⟩ : ∃ W, W = (w.alloc (.cells #[I x, I y] 38)) := ⟨_, rfl⟩
  have rowW0 : W.heap[w.heap.size]? = some (.cells #[I x, I y] 38 (0, 0)) := by rw [hW]; exact heap_last _ _ _ rfl
  have yW00 := ovr_cell (W := W) (b := w.heap.size) (o := 0) (v := I x) (by rw [cell_of_row _ _ _ _ _ _ rowW0]; rfl)
  have yW01 := ovr_cell (W := W) (b := w.heap.size) (o := 1) (v := I y) (by rw [cell_of_row _ _ _ _ _ _ rowW0]; rfl)
  have RrowW0 := Lib.hid (ovr_row rowW0)
  clear rowW0
  have HUW : Hid (∀ u, Below w.heap.size w (ovr W u)) := U1 hW
  have HW := Lib.hid hW
  clear hW
  by_cases h : y ≤ x ∨ x < -1000000000000000 ∨ 1000000000000000 < y
  · have hf : Hid (plF ⟨x, y⟩ k = x) := if_pos h
    have h3 : (decide (y ≤ x) = true) ∨ (decide (y ≤ x) = false ∧ decide (x < -1000000000000000) = true) ∨ (decide (y ≤ x) = false ∧ decide (x < -1000000000000000) = false ∧ decide (1000000000000000 < y) = true) := by simp only [decide_eq_true_eq, decide_eq_false_iff_not]; omega
    clear h
    rcases h3 with h1 | ⟨h1, h2⟩ | ⟨h1, h2, h3⟩
    all_goals
      go_enter Try.func37, Try.ntmps37
      go_upto_region 1 with (fail)
      rw [← HW.out]
      obtain ⟨u0, hu0⟩ := ovr_self W
      rw [hu0]
      clear hu0
      go_wp2_with fail
      go_ret
      exact ⟨by rw [hf.out]; rfl, HUW.out _⟩
  · have hf : Hid (plF ⟨x, y⟩ k = x + k.tmod (y - x + 1)) := if_neg h
    have h1 : decide (y ≤ x) = false := decide_eq_false (by omega)
    have h2 : decide (x < -1000000000000000) = false := decide_eq_false (by omega)
    have h3 : decide (1000000000000000 < y) = false := decide_eq_false (by omega)
    have c1 : IntKind.i64.wrap (y - x) = y - x := IntWalk.i64_in _ (by omega)
    have c2 : IntKind.i64.wrap (y - x + 1) = y - x + 1 := IntWalk.i64_in _ (by omega)
    obtain ⟨m, hm⟩ : ∃ m, k.tmod (y - x + 1) = m := ⟨_, rfl⟩
    have hmb : 0 ≤ m ∧ m < y - x + 1 := by rw [← hm]; exact ⟨Int.tmod_nonneg _ HK.out.1, Int.tmod_lt_of_pos _ (by omega)⟩
    rw [hm] at hf
    have c3 : IntKind.i64.wrap (x + m) = x + m := IntWalk.i64_in _ (by omega)
    have c4 : IntKind.i64.wrap k = k := IntWalk.i64_in _ (by have := HK.out; omega)
    have d0 : ¬ (y - x + 1 = 0) := by omega
    have d1 : decide (y - x + 1 = 0) = false := decide_eq_false d0
    clear h hmb
    go_enter Try.func37, Try.ntmps37
    go_upto_region 1 with (fail)
    rw [← HW.out]
    obtain ⟨u0, hu0⟩ := ovr_self W
    rw [hu0]
    clear hu0
    have g0 := ovr_cell (yW00 u0)
    have g1 := ovr_cell (yW01 u0)
    go_upto_region 3 with (fail)
    refine wp_region_below_lit (by kernel_rfl) (by kernel_rfl) ?_
    repeat (go_big_quiet_step (fail))
    refine wpQuiet_nil ?_
    intro w1 hb1
    obtain ⟨u1, rfl⟩ := ovr_next hb1
    clear hb1 g0 g1
    go_wp2_with fail
    go_ret
    exact ⟨by rw [hf.out]; rfl, HUW.out _⟩
def insB (a b : Rng) : Bool := decide (b.lo ≤ a.lo) && (decide (a.hi ≤ b.hi) && decide (a.lo ≤ a.hi))
theorem insB_iff {a b : Rng} : insB a b = true ↔ b.lo ≤ a.lo ∧ a.hi ≤ b.hi ∧ a.lo ≤ a.hi := by
  unfold insB
  rw [Bool.and_eq_true, Bool.and_eq_true, decide_eq_true_eq, decide_eq_true_eq, decide_eq_true_eq]
set_option maxRecDepth 100000 in
set_option maxHeartbeats 2000000 in
theorem inside_any (a b : Rng) (w : World) : Calls Try.prog 38 #[a.val, b.val] w fun e w' => e = .returned (.bool (insB a b)) ∧ Below w.heap.size w w' := by
  have hf : Hid (insB a b = (decide (b.lo ≤ a.lo) && (decide (a.hi ≤ b.hi) && decide (a.lo ≤ a.hi)))) := rfl
  obtain ⟨x, y⟩ := a
  obtain ⟨p, q⟩ := b
  obtain ⟨W, hW⟩ : ∃ W, W = ((w.alloc (.cells #[I x, I y] 38)).alloc (.cells #[I p, I q] 38)) := ⟨_, rfl⟩
  have rowW0 : W.heap[w.heap.size]? = some (.cells #[I x, I y] 38 (0, 0)) := by rw [hW]; exact heap_before (heap_last _ _ _ rfl)
  have yW00 := ovr_cell (W := W) (b := w.heap.size) (o := 0) (v := I x) (by rw [cell_of_row _ _ _ _ _ _ rowW0]; rfl)
  have yW01 := ovr_cell (W := W) (b := w.heap.size) (o := 1) (v := I y) (by rw [cell_of_row _ _ _ _ _ _ rowW0]; rfl)
  have RrowW0 := Lib.hid (ovr_row rowW0)
  clear rowW0
  have rowW1 : W.heap[w.heap.size + 1]? = some (.cells #[I p, I q] 38 (0, 0)) := by rw [hW]; exact heap_last _ _ _ (by simp)
  have yW10 := ovr_cell (W := W) (b := w.heap.size + 1) (o := 0) (v := I p) (by rw [cell_of_row _ _ _ _ _ _ rowW1]; rfl)
  have yW11 := ovr_cell (W := W) (b := w.heap.size + 1) (o := 1) (v := I q) (by rw [cell_of_row _ _ _ _ _ _ rowW1]; rfl)
  have RrowW1 := Lib.hid (ovr_row rowW1)
  clear rowW1
  have HUW : Hid (∀ u, Below w.heap.size w (ovr W u)) := U2 hW
  have HW := Lib.hid hW
  clear hW
  rcases h1 : decide (p ≤ x) with _ | _ <;> rcases h2 : decide (y ≤ q) with _ | _ <;> rcases h3 : decide (x ≤ y) with _ | _
  all_goals
    simp only [h1, h2, h3] at hf
    go_enter Try.func38, Try.ntmps38
    go_upto_region 1 with (fail)
    rw [← HW.out]
    obtain ⟨u0, hu0⟩ := ovr_self W
    rw [hu0]
    clear hu0
    go_wp2_with fail
    go_ret
    exact ⟨by rw [hf.out]; rfl, HUW.out _⟩
set_option maxRecDepth 100000 in
theorem point_any (n : Int) (w : World) : Calls Try.prog 40 #[I n] w fun e w' => e = .returned ((⟨n, n⟩ : Rng).val) ∧ Below w.heap.size w w' := by
  obtain ⟨W, hW⟩ : ∃ W, W = (w.alloc (.cells #[I 0, I 0] 38)) := ⟨_, rfl⟩
  have rowW0 : W.heap[w.heap.size]? = some (.cells #[I 0, I 0] 38 (0, 0)) := by rw [hW]; exact heap_last _ _ _ rfl
  have yW00 := ovr_cell (W := W) (b := w.heap.size) (o := 0) (v := I 0) (by rw [cell_of_row _ _ _ _ _ _ rowW0]; rfl)
  have yW01 := ovr_cell (W := W) (b := w.heap.size) (o := 1) (v := I 0) (by rw [cell_of_row _ _ _ _ _ _ rowW0]; rfl)
  have RrowW0 := Lib.hid (ovr_row rowW0)
  clear rowW0
  have HUW : Hid (∀ u, Below w.heap.size w (ovr W u)) := U1 hW
  have HW := Lib.hid hW
  clear hW
  go_enter Try.func40, Try.ntmps40
  go_upto_region 1 with (fail)
  rw [← HW.out]
  obtain ⟨u0, hu0⟩ := ovr_self W
  rw [hu0]
  clear hu0
  go_wp2_with (refine wpList_store_row rfl 38 _ _ rfl (w.heap.size) rfl _ _ (RrowW0.out _) _ rfl (one2 rfl rfl) rfl (by kernel_rfl) ?_)
  refine bodyPost_ret (results_cell_only rfl _ _ (w.heap.size) 38 _ (0, 0) _ rfl (setRow_same (RrowW0.out _)) Try.underlying38 rfl (by kernel_rfl)) rfl ?_
  exact ⟨by rfl, below_setRow (HUW.out _) (by omega) _⟩
/-- A part of a range. -/
def paF (r : Rng) (x y : Int) : Rng := ⟨min (plF r x) (plF r y), max (plF r x) (plF r y)⟩
theorem paF_in {r : Rng} {x y : Int} (hx : 0 ≤ x) (hy : 0 ≤ y) (h : r.lo ≤ r.hi) : r.lo ≤ (paF r x y).lo ∧ (paF r x y).lo ≤ (paF r x y).hi ∧ (paF r x y).hi ≤ r.hi := by
  have h1 := plF_in (k := x) hx h
  have h2 := plF_in (k := y) hy h
  unfold paF
  simp only
  omega
set_option maxRecDepth 100000 in
set_option maxHeartbeats 2000000 in
theorem part_any (r : Rng) (x y : Int) (w : World) (hx : 0 ≤ x ∧ x ≤ 65535) (hy : 0 ≤ y ∧ y ≤ 65535) : Calls Try.prog 39 #[r.val, .agg #[.int .u16 x, .int .u16 y]] w fun e w' => e = .returned ((paF r x y).val) ∧ Below w.heap.size w w' := by
  have cp : Hid (∀ W k, 0 ≤ k → k ≤ 65535 → Calls Try.prog 37 #[r.val, .int .u16 k] W fun e w' => e = .returned (I (plF r k)) ∧ Below W.heap.size W w') := fun W k h1 h2 => place_any r k W ⟨h1, h2⟩
  have hf : Hid (paF r x y = ⟨min (plF r x) (plF r y), max (plF r x) (plF r y)⟩) := rfl
  obtain ⟨W, hW⟩ : ∃ W, W = (((w.alloc (.cells #[I r.lo, I r.hi] 38)).alloc (.cells #[.int .u16 x, .int .u16 y] 64)).alloc (.cells #[I 0, I 0] 38)) := ⟨_, rfl⟩
  have rowW0 : W.heap[w.heap.size]? = some (.cells #[I r.lo, I r.hi] 38 (0, 0)) := by rw [hW]; exact heap_before (heap_before (heap_last _ _ _ rfl))
  have yW00 := ovr_cell (W := W) (b := w.heap.size) (o := 0) (v := I r.lo) (by rw [cell_of_row _ _ _ _ _ _ rowW0]; rfl)
  have yW01 := ovr_cell (W := W) (b := w.heap.size) (o := 1) (v := I r.hi) (by rw [cell_of_row _ _ _ _ _ _ rowW0]; rfl)
  have RrowW0 := Lib.hid (ovr_row rowW0)
  clear rowW0
  have rowW1 : W.heap[w.heap.size + 1]? = some (.cells #[.int .u16 x, .int .u16 y] 64 (0, 0)) := by rw [hW]; exact heap_before (heap_last _ _ _ (by simp))
  have yW10 := ovr_cell (W := W) (b := w.heap.size + 1) (o := 0) (v := .int .u16 x) (by rw [cell_of_row _ _ _ _ _ _ rowW1]; rfl)
  have yW11 := ovr_cell (W := W) (b := w.heap.size + 1) (o := 1) (v := .int .u16 y) (by rw [cell_of_row _ _ _ _ _ _ rowW1]; rfl)
  have RrowW1 := Lib.hid (ovr_row rowW1)
  clear rowW1
  have rowW2 : W.heap[w.heap.size + 1 + 1]? = some (.cells #[I 0, I 0] 38 (0, 0)) := by rw [hW]; exact heap_last _ _ _ (by simp)
  have yW20 := ovr_cell (W := W) (b := w.heap.size + 1 + 1) (o := 0) (v := I 0) (by rw [cell_of_row _ _ _ _ _ _ rowW2]; rfl)
  have yW21 := ovr_cell (W := W) (b := w.heap.size + 1 + 1) (o := 1) (v := I 0) (by rw [cell_of_row _ _ _ _ _ _ rowW2]; rfl)
  have RrowW2 := Lib.hid (ovr_row rowW2)
  clear rowW2
  have HUW : Hid (∀ u, Below w.heap.size w (ovr W u)) := U3 hW
  have HW := Lib.hid hW
  clear hW
  go_enter Try.func39, Try.ntmps39
  go_upto_region 1 with (fail)
  rw [← HW.out]
  refine wp_region_below_lit (by kernel_rfl) (by kernel_rfl) ?_
  repeat (go_big_quiet_step ((go_at_call 37; exact call_below (cp.out _ _ (by omega) (by omega)))))
  refine wpQuiet_nil ?_
  intro w1 hb1
  obtain ⟨u1, rfl⟩ : ∃ u, w1 = ovr W u := ⟨w1, ovr_of hb1⟩
  clear hb1
  go_wp2_with (refine wpList_store_row rfl 38 _ _ rfl (w.heap.size + 1 + 1) rfl _ _ (RrowW2.out _) _ rfl (one2 rfl rfl) rfl (by kernel_rfl) ?_)
  refine bodyPost_ret (results_cell_only rfl _ _ (w.heap.size + 1 + 1) 38 _ (0, 0) _ rfl (setRow_same (RrowW2.out _)) Try.underlying38 rfl (by kernel_rfl)) rfl ?_
  exact ⟨by rw [hf.out], below_setRow (HUW.out _) (by omega) _⟩
end Go.Proofs.Ytmadlmmfbpmebaa
