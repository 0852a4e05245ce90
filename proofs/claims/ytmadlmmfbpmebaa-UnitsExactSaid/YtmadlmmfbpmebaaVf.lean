/- The contract of where of a line of package units. -/
import Derived.Test.YtmadlmmfbpmebaaVe
namespace Go.Proofs.Ytmadlmmfbpmebaa
open Go.RowKit
def whF (p q y : Rng) : Rng := if q.hi < p.hi then ⟨frF ⟨p.lo, -p.hi⟩ ⟨q.lo, -q.hi⟩ (-y.hi), utF ⟨p.lo, -p.hi⟩ ⟨q.lo, -q.hi⟩ (-y.lo)⟩ else ⟨frF p q y.lo, utF p q y.hi⟩
theorem ro {w : World} {k b i : Nat} {o : Obj} {v : Value} (h : w.heap[k]? = some o) (hne : k ≠ b) : (w.setCell ⟨b, i, none⟩ v).heap[k]? = some o := (heap_setCell_other w ⟨b, i, none⟩ k v hne).trans h
/-- A piece, and a valid range. -/
structure PcOk (p q y : Rng) : Prop where
  x0 : -1000000000000 ≤ p.lo
  y0 : -1000000000000 ≤ p.hi ∧ p.hi ≤ 1000000000000
  x1 : q.lo ≤ 1000000000000
  y1 : -1000000000000 ≤ q.hi ∧ q.hi ≤ 1000000000000
  up : p.lo < q.lo
  num : rngOk y = true
abbrev lnV (p q : Rng) : Value := .agg #[I p.lo, I p.hi, I q.lo, I q.hi]
set_option maxRecDepth 100000 in
set_option maxHeartbeats 4000000 in
theorem where_any (p q y : Rng) (w : World) (h : PcOk p q y) : Calls Try.prog 89 #[lnV p q, y.val] w fun e w' => e = .returned ((whF p q y).val) ∧ Below w.heap.size w w' := by
  have Hh := Lib.hid h
  have hat : Hid (whF p q y = if q.hi < p.hi then ⟨frF ⟨p.lo, -p.hi⟩ ⟨q.lo, -q.hi⟩ (-y.hi), utF ⟨p.lo, -p.hi⟩ ⟨q.lo, -q.hi⟩ (-y.lo)⟩ else ⟨frF p q y.lo, utF p q y.hi⟩) := rfl
  obtain ⟨pl, ph⟩ := p
  obtain ⟨ql, qh⟩ := q
  obtain ⟨yl, yh⟩ := y
  have hn := rngOk_iff.1 h.num
  simp only at hn
  by_cases hd : qh < ph
  · have hr : Hid (∀ z, (-1000000000000000 ≤ z ∧ z ≤ 1000000000000000) → RsOk ⟨pl, -ph⟩ ⟨ql, -qh⟩ z) := fun z hz => ⟨h.x0, by have := h.y0; simp only at this ⊢; omega, h.x1, by have := h.y1; simp only at this ⊢; omega, h.up, by simp only; omega, hz⟩
    rw [if_pos hd] at hat
    have cf := Lib.hid fun w => from_any ⟨pl, -ph⟩ ⟨ql, -qh⟩ (-yh) w (hr.out _ (by omega))
    have cu := Lib.hid fun w => upto_any ⟨pl, -ph⟩ ⟨ql, -qh⟩ (-yl) w (hr.out _ (by omega))
    have hdb : decide (qh < ph) = true := decide_eq_true hd
    have b1 : -1000000000000 ≤ ph ∧ ph ≤ 1000000000000 := h.y0
    have b2 : -1000000000000 ≤ qh ∧ qh ≤ 1000000000000 := h.y1
    have c1 : IntKind.i64.wrap (-ph) = -ph := IntWalk.i64_in _ (by omega)
    have c2 : IntKind.i64.wrap (-qh) = -qh := IntWalk.i64_in _ (by omega)
    have c3 : IntKind.i64.wrap (-yl) = -yl := IntWalk.i64_in _ (by omega)
    have c4 : IntKind.i64.wrap (-yh) = -yh := IntWalk.i64_in _ (by omega)
    clear hr hn hd h b1 b2
    obtain ⟨W, hW⟩ : ∃ W, W = (((w.alloc (.cells #[I pl, I ph, I ql, I qh] 126)).alloc (.cells #[I yl, I yh] 38)).alloc (.cells #[I 0, I 0] 38)) := ⟨_, rfl⟩
    have rowW0 : W.heap[w.heap.size]? = some (.cells #[I pl, I ph, I ql, I qh] 126 (0, 0)) := by rw [hW]; exact heap_before (heap_before (heap_last _ _ _ rfl))
    have yW00 := ovr_cell (W := W) (b := w.heap.size) (o := 0) (v := I pl) (by rw [cell_of_row _ _ _ _ _ _ rowW0]; rfl)
    have yW01 := ovr_cell (W := W) (b := w.heap.size) (o := 1) (v := I ph) (by rw [cell_of_row _ _ _ _ _ _ rowW0]; rfl)
    have yW02 := ovr_cell (W := W) (b := w.heap.size) (o := 2) (v := I ql) (by rw [cell_of_row _ _ _ _ _ _ rowW0]; rfl)
    have yW03 := ovr_cell (W := W) (b := w.heap.size) (o := 3) (v := I qh) (by rw [cell_of_row _ _ _ _ _ _ rowW0]; rfl)
    have RrowW0 := Lib.hid (ovr_row rowW0)
    clear rowW0
    have rowW1 : W.heap[w.heap.size + 1]? = some (.cells #[I yl, I yh] 38 (0, 0)) := by rw [hW]; exact heap_before (heap_last _ _ _ (by simp))
    have yW10 := ovr_cell (W := W) (b := w.heap.size + 1) (o := 0) (v := I yl) (by rw [cell_of_row _ _ _ _ _ _ rowW1]; rfl)
    have yW11 := ovr_cell (W := W) (b := w.heap.size + 1) (o := 1) (v := I yh) (by rw [cell_of_row _ _ _ _ _ _ rowW1]; rfl)
    have RrowW1 := Lib.hid (ovr_row rowW1)
    clear rowW1
    have rowW2 : W.heap[w.heap.size + 1 + 1]? = some (.cells #[I 0, I 0] 38 (0, 0)) := by rw [hW]; exact heap_last _ _ _ (by simp)
    have yW20 := ovr_cell (W := W) (b := w.heap.size + 1 + 1) (o := 0) (v := I 0) (by rw [cell_of_row _ _ _ _ _ _ rowW2]; rfl)
    have yW21 := ovr_cell (W := W) (b := w.heap.size + 1 + 1) (o := 1) (v := I 0) (by rw [cell_of_row _ _ _ _ _ _ rowW2]; rfl)
    have RrowW2 := Lib.hid (ovr_row rowW2)
    clear rowW2
    have HUW : Hid (∀ u, Below w.heap.size w (ovr W u)) := U3 hW
    have HW := Lib.hid hW
    clear hW
    have z0 := fun u => frozen_of_row _ _ 1 _ _ (RrowW0.out u)
    have z1 := fun u => frozen_of_row _ _ 3 _ _ (RrowW0.out u)
    have z2 := fun u => frozen_of_row _ _ 0 _ _ (RrowW1.out u)
    have z3 := fun u => frozen_of_row _ _ 1 _ _ (RrowW1.out u)
    go_enter Try.func89, Try.ntmps89
    go_upto_region 1 with (fail)
    rw [← HW.out]
    obtain ⟨u0, hu0⟩ := ovr_self W
    rw [hu0]
    clear hu0
    go_upto_region 2 with (fail)
    go_region
    go_upto_region 3 with (fail)
    have r0 := rs (rs (RrowW0.out u0) 1 (I (-ph))) 3 (I (-qh))
    have r0 := ro (b := w.heap.size + 1) (i := 0) (v := I (-yh)) r0 (by omega)
    have r0 := ro (b := w.heap.size + 1) (i := 1) (v := I (-yl)) r0 (by omega)
    have r1 := ro (b := w.heap.size) (i := 1) (v := I (-ph)) (RrowW1.out u0) (by omega)
    have r1 := ro (b := w.heap.size) (i := 3) (v := I (-qh)) r1 (by omega)
    have r1 := rs (rs r1 0 (I (-yh))) 1 (I (-yl))
    have r2 := ro (b := w.heap.size) (i := 1) (v := I (-ph)) (RrowW2.out u0) (by omega)
    have r2 := ro (b := w.heap.size) (i := 3) (v := I (-qh)) r2 (by omega)
    have r2 := ro (b := w.heap.size + 1) (i := 0) (v := I (-yh)) r2 (by omega)
    have r2 := ro (b := w.heap.size + 1) (i := 1) (v := I (-yl)) r2 (by omega)
    have hUX := (((((HUW.out u0).setCell (p := ⟨w.heap.size, 1, none⟩) (Nat.le_refl _) (I (-ph))).setCell (p := ⟨w.heap.size, 3, none⟩) (Nat.le_refl _) (I (-qh))).setCell (p := ⟨w.heap.size + 1, 0, none⟩) (by simp) (I (-yh))).setCell (p := ⟨w.heap.size + 1, 1, none⟩) (by simp) (I (-yl))).drew
    obtain ⟨X, hX⟩ : ∃ X, X = (((((ovr W u0).setCell ⟨w.heap.size, 1, none⟩ (I (-ph))).setCell ⟨w.heap.size, 3, none⟩ (I (-qh))).setCell ⟨w.heap.size + 1, 0, none⟩ (I (-yh))).setCell ⟨w.heap.size + 1, 1, none⟩ (I (-yl))).drew := ⟨_, rfl⟩
    rw [← hX] at hUX
    have r0 : X.heap[w.heap.size]? = some (.cells #[I pl, I (-ph), I ql, I (-qh)] 126 (0, 0)) := by rw [hX]; exact r0
    have r1 : X.heap[w.heap.size + 1]? = some (.cells #[I (-yh), I (-yl)] 38 (0, 0)) := by rw [hX]; exact r1
    have r2 : X.heap[w.heap.size + 1 + 1]? = some (.cells #[I 0, I 0] 38 (0, 0)) := by rw [hX]; exact r2
    rw [← hX]
    have HUX : Hid (∀ u, Below w.heap.size w (ovr X u)) := fun u => hUX.trans ((ovr_below X u).mono hUX.size)
    have RR := Lib.hid (ovr_row r2)
    clear hX hUX r2 z0 z1 z2 z3 c1 c2 c3 c4 yW00 yW01 yW02 yW03 yW10 yW11 yW20 yW21
    have yX00 := ovr_cell (W := X) (b := w.heap.size) (o := 0) (v := I pl) (by rw [cell_of_row _ _ _ _ _ _ r0]; rfl)
    have zX00 : ∀ u, (ovr X u).frozen? ⟨w.heap.size, 0, none⟩ = false := fun u => frozen_of_row _ _ _ _ _ (ovr_row r0 u)
    have yX01 := ovr_cell (W := X) (b := w.heap.size) (o := 1) (v := I (-ph)) (by rw [cell_of_row _ _ _ _ _ _ r0]; rfl)
    have zX01 : ∀ u, (ovr X u).frozen? ⟨w.heap.size, 1, none⟩ = false := fun u => frozen_of_row _ _ _ _ _ (ovr_row r0 u)
    have yX02 := ovr_cell (W := X) (b := w.heap.size) (o := 2) (v := I ql) (by rw [cell_of_row _ _ _ _ _ _ r0]; rfl)
    have zX02 : ∀ u, (ovr X u).frozen? ⟨w.heap.size, 2, none⟩ = false := fun u => frozen_of_row _ _ _ _ _ (ovr_row r0 u)
    have yX03 := ovr_cell (W := X) (b := w.heap.size) (o := 3) (v := I (-qh)) (by rw [cell_of_row _ _ _ _ _ _ r0]; rfl)
    have zX03 : ∀ u, (ovr X u).frozen? ⟨w.heap.size, 3, none⟩ = false := fun u => frozen_of_row _ _ _ _ _ (ovr_row r0 u)
    have RrowX0 := Lib.hid (ovr_row r0)
    clear r0
    have yX10 := ovr_cell (W := X) (b := w.heap.size + 1) (o := 0) (v := I (-yh)) (by rw [cell_of_row _ _ _ _ _ _ r1]; rfl)
    have zX10 : ∀ u, (ovr X u).frozen? ⟨w.heap.size + 1, 0, none⟩ = false := fun u => frozen_of_row _ _ _ _ _ (ovr_row r1 u)
    have yX11 := ovr_cell (W := X) (b := w.heap.size + 1) (o := 1) (v := I (-yl)) (by rw [cell_of_row _ _ _ _ _ _ r1]; rfl)
    have zX11 : ∀ u, (ovr X u).frozen? ⟨w.heap.size + 1, 1, none⟩ = false := fun u => frozen_of_row _ _ _ _ _ (ovr_row r1 u)
    have RrowX1 := Lib.hid (ovr_row r1)
    clear r1
    obtain ⟨f1, hf1⟩ : ∃ f, frF ⟨pl, -ph⟩ ⟨ql, -qh⟩ (-yh) = f := ⟨_, rfl⟩
    obtain ⟨f2, hf2⟩ : ∃ f, utF ⟨pl, -ph⟩ ⟨ql, -qh⟩ (-yl) = f := ⟨_, rfl⟩
    rw [hf1, hf2] at hat
    rw [hf1] at cf
    rw [hf2] at cu
    clear hf1 hf2
    refine wp_region_seq 9 (fun j => if j = 3 then some (fun u _ => u = I f1) else if j = 7 then some (fun u _ => u = I f2) else none) (by kernel_rfl) (by kernel_rfl) (by kernel_rfl) (by kernel_rfl) ?_
    simp only [List.take_succ_cons, List.take_zero, List.drop_succ_cons, List.drop_zero]
    repeat (refine wpG_one rfl rfl rfl ?_; intro K hK; go_big_quiet_op; go_big_quiet_on)
    refine wpG_make (fun u _ => u = I f1) rfl rfl (fun w' hw' _ => ?_) (fun u hu => ?_)
    · go_simp
      exact call_grow (cf.out _)
    obtain ⟨_, _, rfl⟩ := hu
    simp only [Act.put, List.setIfInBounds_toArray, List.set_cons_zero, List.set_cons_succ]
    repeat (refine wpG_one rfl rfl rfl ?_; intro K hK; go_big_quiet_op; go_big_quiet_on)
    refine wpG_make (fun u _ => u = I f2) rfl rfl (fun w' hw' _ => ?_) (fun u hu => ?_)
    · go_simp
      exact call_grow (cu.out _)
    obtain ⟨_, _, rfl⟩ := hu
    simp only [Act.put, List.setIfInBounds_toArray, List.set_cons_zero, List.set_cons_succ]
    repeat (refine wpG_one rfl rfl rfl ?_; intro K hK; go_big_quiet_op; go_big_quiet_on)
    refine wpG_nil (fun w5 hw5 hG => ?_)
    clear hG
    obtain ⟨u9, rfl⟩ : ∃ x, w5 = ovr X x := ⟨w5, ovr_of hw5.le⟩
    clear hw5
    refine wpTail_cons ?_
    refine wp_store_row 38 _ _ rfl (w.heap.size + 1 + 1) rfl _ _ (RR.out _) _ rfl (one2 rfl rfl) rfl (by kernel_rfl) ?_
    refine wpTail_nil ?_
    simp only [Act.put]
    go_wp2_with fail
    refine bodyPost_ret (results_cell_only rfl _ _ (w.heap.size + 1 + 1) 38 _ (0, 0) _ rfl (setRow_same (RR.out _)) Try.underlying38 rfl (by kernel_rfl)) rfl ?_
    exact ⟨by rw [hat.out], below_setRow (HUX.out _) (by omega) _⟩
  · have hr : Hid (∀ z, (-1000000000000000 ≤ z ∧ z ≤ 1000000000000000) → RsOk ⟨pl, ph⟩ ⟨ql, qh⟩ z) := fun z hz => ⟨h.x0, h.y0, h.x1, h.y1, h.up, by simp only; omega, hz⟩
    rw [if_neg hd] at hat
    have cf := Lib.hid fun w => from_any ⟨pl, ph⟩ ⟨ql, qh⟩ yl w (hr.out _ (by omega))
    have cu := Lib.hid fun w => upto_any ⟨pl, ph⟩ ⟨ql, qh⟩ yh w (hr.out _ (by omega))
    have hdb : decide (qh < ph) = false := decide_eq_false hd
    clear hr hn hd h
    obtain ⟨W, hW⟩ : ∃ W, W = (((w.alloc (.cells #[I pl, I ph, I ql, I qh] 126)).alloc (.cells #[I yl, I yh] 38)).alloc (.cells #[I 0, I 0] 38)) := ⟨_, rfl⟩
    have rowW0 : W.heap[w.heap.size]? = some (.cells #[I pl, I ph, I ql, I qh] 126 (0, 0)) := by rw [hW]; exact heap_before (heap_before (heap_last _ _ _ rfl))
    have yW00 := ovr_cell (W := W) (b := w.heap.size) (o := 0) (v := I pl) (by rw [cell_of_row _ _ _ _ _ _ rowW0]; rfl)
    have yW01 := ovr_cell (W := W) (b := w.heap.size) (o := 1) (v := I ph) (by rw [cell_of_row _ _ _ _ _ _ rowW0]; rfl)
    have yW02 := ovr_cell (W := W) (b := w.heap.size) (o := 2) (v := I ql) (by rw [cell_of_row _ _ _ _ _ _ rowW0]; rfl)
    have yW03 := ovr_cell (W := W) (b := w.heap.size) (o := 3) (v := I qh) (by rw [cell_of_row _ _ _ _ _ _ rowW0]; rfl)
    have RrowW0 := Lib.hid (ovr_row rowW0)
    clear rowW0
    have rowW1 : W.heap[w.heap.size + 1]? = some (.cells #[I yl, I yh] 38 (0, 0)) := by rw [hW]; exact heap_before (heap_last _ _ _ (by simp))
    have yW10 := ovr_cell (W := W) (b := w.heap.size + 1) (o := 0) (v := I yl) (by rw [cell_of_row _ _ _ _ _ _ rowW1]; rfl)
    have yW11 := ovr_cell (W := W) (b := w.heap.size + 1) (o := 1) (v := I yh) (by rw [cell_of_row _ _ _ _ _ _ rowW1]; rfl)
    have RrowW1 := Lib.hid (ovr_row rowW1)
    clear rowW1
    have rowW2 : W.heap[w.heap.size + 1 + 1]? = some (.cells #[I 0, I 0] 38 (0, 0)) := by rw [hW]; exact heap_last _ _ _ (by simp)
    have yW20 := ovr_cell (W := W) (b := w.heap.size + 1 + 1) (o := 0) (v := I 0) (by rw [cell_of_row _ _ _ _ _ _ rowW2]; rfl)
    have yW21 := ovr_cell (W := W) (b := w.heap.size + 1 + 1) (o := 1) (v := I 0) (by rw [cell_of_row _ _ _ _ _ _ rowW2]; rfl)
    have RrowW2 := Lib.hid (ovr_row rowW2)
    clear rowW2
    have HUW : Hid (∀ u, Below w.heap.size w (ovr W u)) := U3 hW
    have HW := Lib.hid hW
    clear hW
    go_enter Try.func89, Try.ntmps89
    go_upto_region 1 with (fail)
    rw [← HW.out]
    obtain ⟨u0, hu0⟩ := ovr_self W
    rw [hu0]
    clear hu0
    go_upto_region 3 with (fail)
    have hbX := ovr_below W u0
    obtain ⟨X, hX⟩ : ∃ X, X = ovr W u0 := ⟨_, rfl⟩
    rw [← hX] at hbX
    rw [← hX]
    clear hX
    have reX : ∀ v, ∃ x, ovr X v = ovr W x := fun v => ovr_reB hbX v
    replace yW00 := tr_cell reX yW00
    replace yW01 := tr_cell reX yW01
    replace yW02 := tr_cell reX yW02
    replace yW03 := tr_cell reX yW03
    replace RrowW0 := Lib.hid (tr_row reX RrowW0.out)
    replace yW10 := tr_cell reX yW10
    replace yW11 := tr_cell reX yW11
    replace RrowW1 := Lib.hid (tr_row reX RrowW1.out)
    replace yW20 := tr_cell reX yW20
    replace yW21 := tr_cell reX yW21
    replace RrowW2 := Lib.hid (tr_row reX RrowW2.out)
    have HUX : Hid (∀ u, Below w.heap.size w (ovr X u)) := fun u => by obtain ⟨x, hx⟩ := reX u; rw [hx]; exact HUW.out x
    clear reX hbX
    have RR := RrowW2
    obtain ⟨f1, hf1⟩ : ∃ f, frF ⟨pl, ph⟩ ⟨ql, qh⟩ yl = f := ⟨_, rfl⟩
    obtain ⟨f2, hf2⟩ : ∃ f, utF ⟨pl, ph⟩ ⟨ql, qh⟩ yh = f := ⟨_, rfl⟩
    simp only at hat
    rw [hf1, hf2] at hat
    rw [hf1] at cf
    rw [hf2] at cu
    clear hf1 hf2
    refine wp_region_seq 9 (fun j => if j = 3 then some (fun u _ => u = I f1) else if j = 7 then some (fun u _ => u = I f2) else none) (by kernel_rfl) (by kernel_rfl) (by kernel_rfl) (by kernel_rfl) ?_
    simp only [List.take_succ_cons, List.take_zero, List.drop_succ_cons, List.drop_zero]
    repeat (refine wpG_one rfl rfl rfl ?_; intro K hK; go_big_quiet_op; go_big_quiet_on)
    refine wpG_make (fun u _ => u = I f1) rfl rfl (fun w' hw' _ => ?_) (fun u hu => ?_)
    · go_simp
      exact call_grow (cf.out _)
    obtain ⟨_, _, rfl⟩ := hu
    simp only [Act.put, List.setIfInBounds_toArray, List.set_cons_zero, List.set_cons_succ]
    repeat (refine wpG_one rfl rfl rfl ?_; intro K hK; go_big_quiet_op; go_big_quiet_on)
    refine wpG_make (fun u _ => u = I f2) rfl rfl (fun w' hw' _ => ?_) (fun u hu => ?_)
    · go_simp
      exact call_grow (cu.out _)
    obtain ⟨_, _, rfl⟩ := hu
    simp only [Act.put, List.setIfInBounds_toArray, List.set_cons_zero, List.set_cons_succ]
    repeat (refine wpG_one rfl rfl rfl ?_; intro K hK; go_big_quiet_op; go_big_quiet_on)
    refine wpG_nil (fun w5 hw5 hG => ?_)
    clear hG
    obtain ⟨u9, rfl⟩ : ∃ x, w5 = ovr X x := ⟨w5, ovr_of hw5.le⟩
    clear hw5
    refine wpTail_cons ?_
    refine wp_store_row 38 _ _ rfl (w.heap.size + 1 + 1) rfl _ _ (RR.out _) _ rfl (one2 rfl rfl) rfl (by kernel_rfl) ?_
    refine wpTail_nil ?_
    simp only [Act.put]
    go_wp2_with fail
    refine bodyPost_ret (results_cell_only rfl _ _ (w.heap.size + 1 + 1) 38 _ (0, 0) _ rfl (setRow_same (RR.out _)) Try.underlying38 rfl (by kernel_rfl)) rfl ?_
    exact ⟨by rw [hat.out], below_setRow (HUX.out _) (by omega) _⟩
end Go.Proofs.Ytmadlmmfbpmebaa
