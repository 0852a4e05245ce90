/- Contracts of the law's helpers: sameRanges, silicon, zones; of ends and inside of package defect. -/
import Derived.Test.YtliddmhifnigdaaDd
import Derived.Test.YtliddmhifnigdaaU5
namespace Go.Proofs.Ytliddmhifnigdaa.Un
open Go.RowKit
def sameL (a b : List Rng) : Bool := decide (a = b)
theorem sameL_at {a b : List Rng} {k : Nat} (_hk : k < a.length) (h : ¬ at0 a k = at0 b k) : sameL a b = false := by
  unfold sameL
  rw [decide_eq_false_iff_not]
  intro e
  exact h (by rw [e])
theorem sameL_all {a b : List Rng} (hl : a.length = b.length) (h : ∀ k, k < a.length → at0 a k = at0 b k) : sameL a b = true := by
  unfold sameL
  rw [decide_eq_true_eq]
  apply List.ext_getElem hl
  intro i h1 h2
  rw [← at0_get h1, ← at0_get h2]
  exact h i h1
/-- A range without what is outside of limits. -/
def insF (r : Rng) (l h : Int) : Rng := ⟨min (max r.lo l) h, min (max r.hi l) h⟩
set_option maxRecDepth 100000 in
set_option maxHeartbeats 1000000 in
theorem inside_any (r : Rng) (l h : Int) (w : World) : Calls Try.prog 62 #[r.val, I l, I h] w fun e w' => e = .returned ((insF r l h).val) ∧ Below w.heap.size w w' := by
  obtain ⟨lo, hi⟩ := r
  obtain ⟨W, hW⟩ : ∃ W, W = ((w.alloc (.cells #[I lo, I hi] 23)).alloc (.cells #[I 0, I 0] 23)) := ⟨_, rfl⟩
  have rowW0 : W.heap[w.heap.size]? = some (.cells #[I lo, I hi] 23 (0, 0)) := by rw [hW]; exact heap_before (heap_last _ _ _ rfl)
  have yW00 := ovr_cell (W := W) (b := w.heap.size) (o := 0) (v := I lo) (by rw [cell_of_row _ _ _ _ _ _ rowW0]; rfl)
  have yW01 := ovr_cell (W := W) (b := w.heap.size) (o := 1) (v := I hi) (by rw [cell_of_row _ _ _ _ _ _ rowW0]; rfl)
  have RrowW0 := Lib.hid (ovr_row rowW0)
  clear rowW0
  have rowW1 : W.heap[w.heap.size + 1]? = some (.cells #[I 0, I 0] 23 (0, 0)) := by rw [hW]; exact heap_last _ _ _ (by simp)
  have yW10 := ovr_cell (W := W) (b := w.heap.size + 1) (o := 0) (v := I 0) (by rw [cell_of_row _ _ _ _ _ _ rowW1]; rfl)
  have yW11 := ovr_cell (W := W) (b := w.heap.size + 1) (o := 1) (v := I 0) (by rw [cell_of_row _ _ _ _ _ _ rowW1]; rfl)
  have RrowW1 := Lib.hid (ovr_row rowW1)
  clear rowW1
  have HUW : Hid (∀ u, Below w.heap.size w (ovr W u)) := U2 hW
  have HW := Lib.hid hW
  clear hW
  go_enter Try.func62, Try.ntmps62
  go_upto_region 1 with (fail)
  rw [← HW.out]
  obtain ⟨u0, hu0⟩ := ovr_self W
  rw [hu0]
  clear hu0
  go_wp2_with (with_reducible show wpList _ _ _ (⟨none, Op.store _ _ _, _, _, _, _⟩ :: _) _ _; refine Hid.out ?_)
  refine Lib.hid ?_
  refine wpList_store_row rfl 23 _ _ rfl (w.heap.size + 1) rfl _ _ (RrowW1.out u0) #[I (min (max lo l) h), I (min (max hi l) h)] rfl (one2 rfl rfl) rfl (by kernel_rfl) ?_
  go_wp2_with fail
  simp only [Act.put]
  refine bodyPost_ret (results_cell_only rfl _ _ (w.heap.size + 1) 23 _ (0, 0) _ rfl (setRow_same (RrowW1.out _)) Try.underlying23 rfl (by kernel_rfl)) rfl ?_
  exact ⟨rfl, below_setRow (HUW.out _) (Nat.le_succ _) _⟩
set_option maxRecDepth 100000 in
set_option maxHeartbeats 1000000 in
theorem ends_any (A : Option Addr) (c : Nat) (t : List Rng) (w : World) (B : Nat) (h0 : 0 < t.length) (hl : t.length ≤ 1000000) (hx : Rd w B 2 A t.length (rR t)) :
    Calls Try.prog 35 #[.slice A t.length c] w fun e w' => e = .returned (.tuple #[I (at0 t 0).lo, I (at0 t (t.length - 1)).lo]) ∧ Below w.heap.size w w' := by
  obtain ⟨b, o, rfl, _, e0, _⟩ := hx.rng h0
  obtain ⟨b', o', he, _, e1, _⟩ := hx.rng (k := t.length - 1) (by omega)
  obtain ⟨rfl, rfl⟩ : b = b' ∧ o = o' := by simp at he; exact he
  rw [Nat.zero_mul, Nat.add_zero] at e0
  have z0 := ovr_cell e0
  have z1 := ovr_cell e1
  obtain ⟨k, hk⟩ : ∃ k, t.length = k + 1 := ⟨t.length - 1, by omega⟩
  rw [hk] at z1 hl ⊢
  rw [Nat.add_sub_cancel] at z1 ⊢
  clear hk h0 he e0 e1 hx
  go_enter Try.func35, Try.ntmps35
  go_upto_region 1 with fail
  have kk : IntKind.i64.wrap ((k : Int) + 1 - 1) = k := by rw [show (k : Int) + 1 - 1 = k by omega]; exact IntWalk.i64_in _ (by omega)
  refine wp_region_below_lit (by kernel_rfl) (by kernel_rfl) ?_
  repeat (go_big_quiet_step (fail))
  refine wpQuiet_nil ?_
  intro V2 hb2
  go_wp2_with fail
  go_ret2
  exact ⟨rfl, hb2⟩
end Go.Proofs.Ytliddmhifnigdaa.Un
