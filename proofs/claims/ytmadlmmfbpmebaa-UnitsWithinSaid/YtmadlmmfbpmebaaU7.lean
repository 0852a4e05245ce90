/- The contracts of from, upto, where of a line of package units. -/
import Derived.Test.YtmadlmmfbpmebaaU6
import Derived.Test.YtmadlmmfbpmebaaSqf
import Derived.RangeFuncNested
import Derived.RangeFuncBound
import Derived.RangeFuncCalls
import Derived.RangeFuncLeaves
import Derived.Shelf.Abstract
import Derived.Shelf.RegionOpen
import Derived.OwnWalkIn
import Derived.TacticsInMore
import Derived.LoopNIn
import Derived.LoopIn
import Derived.Sort.CutIn
import Derived.Laws.OwnMore
namespace Go.Proofs.Ytmadlmmfbpmebaa
open Go.RowKit
/-- A rising piece, and a number. -/
structure RsOk (p q : Rng) (y : Int) : Prop where
  x0 : -1000000000000 ≤ p.lo
  y0 : -1000000000000 ≤ p.hi ∧ p.hi ≤ 1000000000000
  x1 : q.lo ≤ 1000000000000
  y1 : -1000000000000 ≤ q.hi ∧ q.hi ≤ 1000000000000
  up : p.lo < q.lo
  rise : p.hi ≤ q.hi
  num : -1000000000000000 ≤ y ∧ y ≤ 1000000000000000
def frF (p q : Rng) (y : Int) : Int :=
  if y ≤ p.hi then p.lo else if q.hi < y then q.lo + 1 else if 0 < (y - p.hi) * (q.lo - p.lo) % (q.hi - p.hi) then p.lo + ((y - p.hi) * (q.lo - p.lo) / (q.hi - p.hi) + 1) else p.lo + (y - p.hi) * (q.lo - p.lo) / (q.hi - p.hi)
def utF (p q : Rng) (y : Int) : Int :=
  if q.hi ≤ y then q.lo else if y < p.hi then p.lo - 1 else p.lo + (y - p.hi) * (q.lo - p.lo) / (q.hi - p.hi)
set_option maxRecDepth 100000 in
set_option maxHeartbeats 4000000 in
theorem from_any (p q : Rng) (y : Int) (w : World) (h : RsOk p q y) : Calls Try.prog 117 #[.agg #[I p.lo, I p.hi, I q.lo, I q.hi], I y] w fun e w' => e = .returned (I (frF p q y)) ∧ Below w.heap.size w w' := by
  have Hh := Lib.hid h
  obtain ⟨h1, h2, h3, h4, h5, h6, h7⟩ := h
  have hat : Hid (frF p q y = if y ≤ p.hi then p.lo else if q.hi < y then q.lo + 1 else if 0 < (y - p.hi) * (q.lo - p.lo) % (q.hi - p.hi) then p.lo + ((y - p.hi) * (q.lo - p.lo) / (q.hi - p.hi) + 1) else p.lo + (y - p.hi) * (q.lo - p.lo) / (q.hi - p.hi)) := rfl
  have c1 : IntKind.i64.wrap (q.hi - p.hi) = q.hi - p.hi := IntWalk.i64_in _ (by omega)
  have c3 : IntKind.i64.wrap (q.lo - p.lo) = q.lo - p.lo := IntWalk.i64_in _ (by omega)
  have c6 : Hid (IntKind.i64.wrap (q.lo + 1) = q.lo + 1) := IntWalk.i64_in _ (by omega)
  clear h1 h2 h3 h4 h5 h6 h7
  obtain ⟨pl, ph⟩ := p
  obtain ⟨ql, qh⟩ := q
  simp only at hat c1 c3 c6
  obtain ⟨W, hW⟩ : ∃ W, W = (w.alloc (.cells #[I pl, I ph, I ql, I qh] 126)) := ⟨_, rfl⟩
  have rowW0 : W.heap[w.heap.size]? = some (.cells #[I pl, I ph, I ql, I qh] 126 (0, 0)) := by rw [hW]; exact heap_last _ _ _ rfl
  have yW00 := ovr_cell (W := W) (b := w.heap.size) (o := 0) (v := I pl) (by rw [cell_of_row _ _ _ _ _ _ rowW0]; rfl)
  have yW01 := ovr_cell (W := W) (b := w.heap.size) (o := 1) (v := I ph) (by rw [cell_of_row _ _ _ _ _ _ rowW0]; rfl)
  have yW02 := ovr_cell (W := W) (b := w.heap.size) (o := 2) (v := I ql) (by rw [cell_of_row _ _ _ _ _ _ rowW0]; rfl)
  have yW03 := ovr_cell (W := W) (b := w.heap.size) (o := 3) (v := I qh) (by rw [cell_of_row _ _ _ _ _ _ rowW0]; rfl)
  have RrowW0 := Lib.hid (ovr_row rowW0)
  clear rowW0
  have HUW : Hid (∀ u, Below w.heap.size w (ovr W u)) := U1 hW
  have HW := Lib.hid hW
  clear hW
  go_enter Try.func117, Try.ntmps117
  go_upto_region 1 with (fail)
  rw [← HW.out]
  refine wp_region_below_lit (by kernel_rfl) (by kernel_rfl) ?_
  repeat (go_big_quiet_step (fail))
  refine wpQuiet_nil ?_
  intro w1 hb1
  obtain ⟨u1, rfl⟩ : ∃ u, w1 = ovr W u := ⟨w1, ovr_of hb1⟩
  clear hb1 c1 c3
  have c6 := c6.out
  by_cases k1 : y ≤ ph
  · rw [if_pos k1] at hat
    have k1b : decide (y ≤ ph) = true := decide_eq_true k1
    clear k1
    go_wp2_with fail
    go_ret
    exact ⟨ret_int hat.out.symm, HUW.out _⟩
  rw [if_neg k1] at hat
  have k1b : decide (y ≤ ph) = false := decide_eq_false k1
  by_cases k2 : qh < y
  · rw [if_pos k2] at hat
    have k2b : decide (qh < y) = true := decide_eq_true k2
    have K1 := Lib.hid k1
    clear k1 k2
    go_wp2_with fail
    go_ret
    exact ⟨ret_int hat.out.symm, HUW.out _⟩
  rw [if_neg k2] at hat
  have k2b : decide (qh < y) = false := decide_eq_false k2
  have hh := Hh.out
  obtain ⟨h1, h2, h3, h4, h5, h6, h7⟩ := hh
  simp only at h1 h2 h3 h4 h5 h6 h7
  have hp := part_le (a := ql - pl) (b := y - ph) (c := qh - ph) (by omega) (by omega) (by omega)
  rw [Int.mul_comm] at hp
  have hfa := ovF_near (v := (y - ph) * (ql - pl)) (c := qh - ph) (by omega)
  have hm : 0 ≤ (y - ph) * (ql - pl) % (qh - ph) := Int.emod_nonneg _ (by omega)
  have cp : Hid (∀ W, Calls Try.prog 68 #[I (y - ph), I (ql - pl)] W fun e w' => e = .returned (wdV ((y - ph) * (ql - pl))) ∧ Below W.heap.size W w') := fun W => product_any _ _ W (by omega) (by omega)
  have co : Hid (∀ W, Calls Try.prog 69 #[wdV ((y - ph) * (ql - pl)), I (qh - ph)] W fun e w' => e = .returned (.tuple #[I ((y - ph) * (ql - pl) / (qh - ph)), I ((y - ph) * (ql - pl) % (qh - ph)), .bool true]) ∧ Below W.heap.size W w') := fun W => by
    have := over_any ((y - ph) * (ql - pl)) (qh - ph) W (by omega)
    rw [hfa] at this
    exact this
  obtain ⟨n, hn⟩ : ∃ n, (y - ph) * (ql - pl) / (qh - ph) = n := ⟨_, rfl⟩
  obtain ⟨r, hr⟩ : ∃ r, (y - ph) * (ql - pl) % (qh - ph) = r := ⟨_, rfl⟩
  rw [hn, hr] at hat co
  rw [hn] at hp
  have hb : -2000000000000 ≤ n ∧ n ≤ 2000000000000 := by omega
  have c2 : IntKind.i64.wrap (y - ph) = y - ph := IntWalk.i64_in _ (by omega)
  have c4 : IntKind.i64.wrap (pl + n) = pl + n := IntWalk.i64_in _ (by omega)
  have c5 : IntKind.i64.wrap (n + 1) = n + 1 := IntWalk.i64_in _ (by omega)
  have c7 : IntKind.i64.wrap (pl + (n + 1)) = pl + (n + 1) := IntWalk.i64_in _ (by omega)
  have Kk := Lib.hid (And.intro k1 k2)
  clear hn hr hp hfa hm h1 h2 h3 h4 h5 h6 h7 k1 k2
  go_wp2_with fail
  refine (cp.out _).mono ?_
  rintro e w1 ⟨rfl, hb1⟩
  obtain ⟨u2, rfl⟩ := ovr_next hb1
  clear hb1
  go_wp2_with fail
  refine (co.out _).mono ?_
  rintro e w1 ⟨rfl, hb1⟩
  obtain ⟨u3, rfl⟩ := ovr_next hb1
  clear hb1
  by_cases hr0 : 0 < r
  · rw [if_pos hr0] at hat
    have hrb : decide (0 < r) = true := decide_eq_true hr0
    clear hr0
    go_wp2_with fail
    go_ret
    exact ⟨ret_int hat.out.symm, HUW.out _⟩
  · rw [if_neg hr0] at hat
    have hrb : decide (0 < r) = false := decide_eq_false hr0
    clear hr0
    go_wp2_with fail
    go_ret
    exact ⟨ret_int hat.out.symm, HUW.out _⟩
set_option maxRecDepth 100000 in
set_option maxHeartbeats 4000000 in
theorem upto_any (p q : Rng) (y : Int) (w : World) (h : RsOk p q y) : Calls Try.prog 118 #[.agg #[I p.lo, I p.hi, I q.lo, I q.hi], I y] w fun e w' => e = .returned (I (utF p q y)) ∧ Below w.heap.size w w' := by
  have Hh := Lib.hid h
  obtain ⟨h1, h2, h3, h4, h5, h6, h7⟩ := h
  have hat : Hid (utF p q y = if q.hi ≤ y then q.lo else if y < p.hi then p.lo - 1 else p.lo + (y - p.hi) * (q.lo - p.lo) / (q.hi - p.hi)) := rfl
  have c1 : IntKind.i64.wrap (q.hi - p.hi) = q.hi - p.hi := IntWalk.i64_in _ (by omega)
  have c3 : IntKind.i64.wrap (q.lo - p.lo) = q.lo - p.lo := IntWalk.i64_in _ (by omega)
  have c6 : Hid (IntKind.i64.wrap (p.lo - 1) = p.lo - 1) := IntWalk.i64_in _ (by omega)
  clear h1 h2 h3 h4 h5 h6 h7
  obtain ⟨pl, ph⟩ := p
  obtain ⟨ql, qh⟩ := q
  simp only at hat c1 c3 c6
  obtain ⟨W, hW⟩ : ∃ W, W = (w.alloc (.cells #[I pl, I ph, I ql, I qh] 126)) := ⟨_, rfl⟩
  have rowW0 : W.heap[w.heap.size]? = some (.cells #[I pl, I ph, I ql, I qh] 126 (0, 0)) := by rw [hW]; exact heap_last _ _ _ rfl
  have yW00 := ovr_cell (W := W) (b := w.heap.size) (o := 0) (v := I pl) (by rw [cell_of_row _ _ _ _ _ _ rowW0]; rfl)
  have yW01 := ovr_cell (W := W) (b := w.heap.size) (o := 1) (v := I ph) (by rw [cell_of_row _ _ _ _ _ _ rowW0]; rfl)
  have yW02 := ovr_cell (W := W) (b := w.heap.size) (o := 2) (v := I ql) (by rw [cell_of_row _ _ _ _ _ _ rowW0]; rfl)
  have yW03 := ovr_cell (W := W) (b := w.heap.size) (o := 3) (v := I qh) (by rw [cell_of_row _ _ _ _ _ _ rowW0]; rfl)
  have RrowW0 := Lib.hid (ovr_row rowW0)
  clear rowW0
  have HUW : Hid (∀ u, Below w.heap.size w (ovr W u)) := U1 hW
  have HW := Lib.hid hW
  clear hW
  go_enter Try.func118, Try.ntmps118
  go_upto_region 1 with (fail)
  rw [← HW.out]
  refine wp_region_below_lit (by kernel_rfl) (by kernel_rfl) ?_
  repeat (go_big_quiet_step (fail))
  refine wpQuiet_nil ?_
  intro w1 hb1
  obtain ⟨u1, rfl⟩ : ∃ u, w1 = ovr W u := ⟨w1, ovr_of hb1⟩
  clear hb1 c1 c3
  have c6 := c6.out
  by_cases k1 : qh ≤ y
  · rw [if_pos k1] at hat
    have k1b : decide (qh ≤ y) = true := decide_eq_true k1
    clear k1
    go_wp2_with fail
    go_ret
    exact ⟨ret_int hat.out.symm, HUW.out _⟩
  rw [if_neg k1] at hat
  have k1b : decide (qh ≤ y) = false := decide_eq_false k1
  by_cases k2 : y < ph
  · rw [if_pos k2] at hat
    have k2b : decide (y < ph) = true := decide_eq_true k2
    have K1 := Lib.hid k1
    clear k1 k2
    go_wp2_with fail
    go_ret
    exact ⟨ret_int hat.out.symm, HUW.out _⟩
  rw [if_neg k2] at hat
  have k2b : decide (y < ph) = false := decide_eq_false k2
  have hh := Hh.out
  obtain ⟨h1, h2, h3, h4, h5, h6, h7⟩ := hh
  simp only at h1 h2 h3 h4 h5 h6 h7
  have hp := part_le (a := ql - pl) (b := y - ph) (c := qh - ph) (by omega) (by omega) (by omega)
  rw [Int.mul_comm] at hp
  have hfa := ovF_near (v := (y - ph) * (ql - pl)) (c := qh - ph) (by omega)
  have cp : Hid (∀ W, Calls Try.prog 68 #[I (y - ph), I (ql - pl)] W fun e w' => e = .returned (wdV ((y - ph) * (ql - pl))) ∧ Below W.heap.size W w') := fun W => product_any _ _ W (by omega) (by omega)
  have co : Hid (∀ W, Calls Try.prog 69 #[wdV ((y - ph) * (ql - pl)), I (qh - ph)] W fun e w' => e = .returned (.tuple #[I ((y - ph) * (ql - pl) / (qh - ph)), I ((y - ph) * (ql - pl) % (qh - ph)), .bool true]) ∧ Below W.heap.size W w') := fun W => by
    have := over_any ((y - ph) * (ql - pl)) (qh - ph) W (by omega)
    rw [hfa] at this
    exact this
  obtain ⟨n, hn⟩ : ∃ n, (y - ph) * (ql - pl) / (qh - ph) = n := ⟨_, rfl⟩
  obtain ⟨r, hr⟩ : ∃ r, (y - ph) * (ql - pl) % (qh - ph) = r := ⟨_, rfl⟩
  rw [hn] at hat
  rw [hn, hr] at co
  rw [hn] at hp
  have hb : -2000000000000 ≤ n ∧ n ≤ 2000000000000 := by omega
  have c2 : IntKind.i64.wrap (y - ph) = y - ph := IntWalk.i64_in _ (by omega)
  have c4 : IntKind.i64.wrap (pl + n) = pl + n := IntWalk.i64_in _ (by omega)
  have Kk := Lib.hid (And.intro k1 k2)
  clear hn hr hp hfa h1 h2 h3 h4 h5 h6 h7 k1 k2
  go_wp2_with fail
  refine (cp.out _).mono ?_
  rintro e w1 ⟨rfl, hb1⟩
  obtain ⟨u2, rfl⟩ := ovr_next hb1
  clear hb1
  go_wp2_with fail
  refine (co.out _).mono ?_
  rintro e w1 ⟨rfl, hb1⟩
  obtain ⟨u3, rfl⟩ := ovr_next hb1
  clear hb1
  go_wp2_with fail
  go_ret
  exact ⟨ret_int hat.out.symm, HUW.out _⟩
end Go.Proofs.Ytmadlmmfbpmebaa
/- The contract of where of a line of package units. -/
namespace Go.Proofs.Ytmadlmmfbpmebaa
open Go.RowKit
def whF (p q y : Rng) : Rng := if q.hi < p.hi then ⟨frF ⟨p.lo, -p.hi⟩ ⟨q.lo, -q.hi⟩ (-y.hi), utF ⟨p.lo, -p.hi⟩ ⟨q.lo, -q.hi⟩ (-y.lo)⟩ else ⟨frF p q y.lo, utF p q y.hi⟩
theorem ro {w : World} {k b i : Nat} {o : Obj} {v : Value} (h : w.heap[k]? = some o) (hne : k ≠ b) : (w.setCell ⟨b, i, none⟩ v).heap[k]? = some o := (heap_setCell_other w ⟨b, i, none⟩ k v hne).trans h
/-- A piece, and a valid range. -/
structure PcOk (p q y : Rng) : Prop where
  x0 : -1000000000000 ≤ p.lo
  y0 : -1000000000000 ≤ p.hi ∧ p.hi ≤ 1000000000000
  x1 : q.lo ≤ 1000000000000
  y1 : -1000000000000 ≤ q.hi ∧ q.hi ≤ 1000000000000
  up : p.lo < q.lo
  num : rngOk y = true
abbrev lnV (p q : Rng) : Value := .agg #[I p.lo, I p.hi, I q.lo, I q.hi]
set_option maxRecDepth 100000 in
set_option maxHeartbeats 4000000 in
theorem where_any (p q y : Rng) (w : World) (h : PcOk p q y) : Calls Try.prog 89 #[lnV p q, y.val] w fun e w' => e = .returned ((whF p q y).val) ∧ Below w.heap.size w w' := by
  have Hh := Lib.hid h
  have hat : Hid (whF p q y = if q.hi < p.hi then ⟨frF ⟨p.lo, -p.hi⟩ ⟨q.lo, -q.hi⟩ (-y.hi), utF ⟨p.lo, -p.hi⟩ ⟨q.lo, -q.hi⟩ (-y.lo)⟩ else ⟨frF p q y.lo, utF p q y.hi⟩) := rfl
  obtain ⟨pl, ph⟩ := p
  obtain ⟨ql, qh⟩ := q
  obtain ⟨yl, yh⟩ := y
  have hn := rngOk_iff.1 h.num
  simp only at hn
  by_cases hd : qh < ph
  · have hr : Hid (∀ z, (-1000000000000000 ≤ z ∧ z ≤ 1000000000000000) → RsOk ⟨pl, -ph⟩ ⟨ql, -qh⟩ z) := fun z hz => ⟨h.x0, by have := h.y0; simp only at this ⊢; omega, h.x1, by have := h.y1; simp only at this ⊢; omega, h.up, by simp only; omega, hz⟩
    rw [if_pos hd] at hat
    have cf := Lib.hid fun w => from_any ⟨pl, -ph⟩ ⟨ql, -qh⟩ (-yh) w (hr.out _ (by omega))
    have cu := Lib.hid fun w => upto_any ⟨pl, -ph⟩ ⟨ql, -qh⟩ (-yl) w (hr.out _ (by omega))
    have hdb : decide (qh < ph) = true := decide_eq_true hd
    have b1 : -1000000000000 ≤ ph ∧ ph ≤ 1000000000000 := h.y0
    have b2 : -1000000000000 ≤ qh ∧ qh ≤ 1000000000000 := h.y1
    have c1 : IntKind.i64.wrap (-ph) = -ph := IntWalk.i64_in _ (by omega)
    have c2 : IntKind.i64.wrap (-qh) = -qh := IntWalk.i64_in _ (by omega)
    have c3 : IntKind.i64.wrap (-yl) = -yl := IntWalk.i64_in _ (by omega)
    have c4 : IntKind.i64.wrap (-yh) = -yh := IntWalk.i64_in _ (by omega)
    clear hr hn hd h b1 b2
    obtain ⟨W, hW⟩ : ∃ W, W = (((w.alloc (.cells #[I pl, I ph, I ql, I qh] 126)).alloc (.cells #[I yl, I yh] 38)).alloc (.cells #[I 0, I 0] 38)) := ⟨_, rfl⟩
    have rowW0 : W.heap[w.heap.size]? = some (.cells #[I pl, I ph, I ql, I qh] 126 (0, 0)) := by rw [hW]; exact heap_before (heap_before (heap_last _ _ _ rfl))
    have yW00 := ovr_cell (W := W) (b := w.heap.size) (o := 0) (v := I pl) (by rw [cell_of_row _ _ _ _ _ _ rowW0]; rfl)
    have yW01 := ovr_cell (W := W) (b := w.heap.size) (o := 1) (v := I ph) (by rw [cell_of_row _ _ _ _ _ _ rowW0]; rfl)
    have yW02 := ovr_cell (W := W) (b := w.heap.size) (o := 2) (v := I ql) (by rw [cell_of_row _ _ _ _ _ _ rowW0]; rfl)
    have yW03 := ovr_cell (W := W) (b := w.heap.size) (o := 3) (v := I qh) (by rw [cell_of_row _ _ _ _ _ _ rowW0]; rfl)
    have RrowW0 := Lib.hid (ovr_row rowW0)
    clear rowW0
    have rowW1 : W.heap[w.heap.size + 1]? = some (.cells #[I yl, I yh] 38 (0, 0)) := by rw [hW]; exact heap_before (heap_last _ _ _ (by simp))
    have yW10 := ovr_cell (W := W) (b := w.heap.size + 1) (o := 0) (v := I yl) (by rw [cell_of_row _ _ _ _ _ _ rowW1]; rfl)
    have yW11 := ovr_cell (W := W) (b := w.heap.size + 1) (o := 1) (v := I yh) (by rw [cell_of_row _ _ _ _ _ _ rowW1]; rfl)
    have RrowW1 := Lib.hid (ovr_row rowW1)
    clear rowW1
    have rowW2 : W.heap[w.heap.size + 1 + 1]? = some (.cells #[I 0, I 0] 38 (0, 0)) := by rw [hW]; exact heap_last _ _ _ (by simp)
    have yW20 := ovr_cell (W := W) (b := w.heap.size + 1 + 1) (o := 0) (v := I 0) (by rw [cell_of_row _ _ _ _ _ _ rowW2]; rfl)
    have yW21 := ovr_cell (W := W) (b := w.heap.size + 1 + 1) (o := 1) (v := I 0) (by rw [cell_of_row _ _ _ _ _ _ rowW2]; rfl)
    have RrowW2 := Lib.hid (ovr_row rowW2)
    clear rowW2
    have HUW : Hid (∀ u, Below w.heap.size w (ovr W u)) := U3 hW
    have HW := Lib.hid hW
    clear hW
    have z0 := fun u => frozen_of_row _ _ 1 _ _ (RrowW0.out u)
    have z1 := fun u => frozen_of_row _ _ 3 _ _ (RrowW0.out u)
    have z2 := fun u => frozen_of_row _ _ 0 _ _ (RrowW1.out u)
    have z3 := fun u => frozen_of_row _ _ 1 _ _ (RrowW1.out u)
    go_enter Try.func89, Try.ntmps89
    go_upto_region 1 with (fail)
    rw [← HW.out]
    obtain ⟨u0, hu0⟩ := ovr_self W
    rw [hu0]
    clear hu0
    go_upto_region 2 with (fail)
    go_region
    go_upto_region 3 with (fail)
    have r0 := rs (rs (RrowW0.out u0) 1 (I (-ph))) 3 (I (-qh))
    have r0 := ro (b := w.heap.size + 1) (i := 0) (v := I (-yh)) r0 (by omega)
    have r0 := ro (b := w.heap.size + 1) (i := 1) (v := I (-yl)) r0 (by omega)
    have r1 := ro (b := w.heap.size) (i := 1) (v := I (-ph)) (RrowW1.out u0) (by omega)
    have r1 := ro (b := w.heap.size) (i := 3) (v := I (-qh)) r1 (by omega)
    have r1 := rs (rs r1 0 (I (-yh))) 1 (I (-yl))
    have r2 := ro (b := w.heap.size) (i := 1) (v := I (-ph)) (RrowW2.out u0) (by omega)
    have r2 := ro (b := w.heap.size) (i := 3) (v := I (-qh)) r2 (by omega)
    have r2 := ro (b := w.heap.size + 1) (i := 0) (v := I (-yh)) r2 (by omega)
    have r2 := ro (b := w.heap.size + 1) (i := 1) (v := I (-yl)) r2 (by omega)
    have hUX := (((((HUW.out u0).setCell (p := ⟨w.heap.size, 1, none⟩) (Nat.le_refl _) (I (-ph))).setCell (p := ⟨w.heap.size, 3, none⟩) (Nat.le_refl _) (I (-qh))).setCell (p := ⟨w.heap.size + 1, 0, none⟩) (by simp) (I (-yh))).setCell (p := ⟨w.heap.size + 1, 1, none⟩) (by simp) (I (-yl))).drew
    obtain ⟨X, hX⟩ : ∃ X, X = (((((ovr W u0).setCell ⟨w.heap.size, 1, none⟩ (I (-ph))).setCell ⟨w.heap.size, 3, none⟩ (I (-qh))).setCell ⟨w.heap.size + 1, 0, none⟩ (I (-yh))).setCell ⟨w.heap.size + 1, 1, none⟩ (I (-yl))).drew := ⟨_, rfl⟩
    rw [← hX] at hUX
    have r0 : X.heap[w.heap.size]? = some (.cells #[I pl, I (-ph), I ql, I (-qh)] 126 (0, 0)) := by rw [hX]; exact r0
    have r1 : X.heap[w.heap.size + 1]? = some (.cells #[I (-yh), I (-yl)] 38 (0, 0)) := by rw [hX]; exact r1
    have r2 : X.heap[w.heap.size + 1 + 1]? = some (.cells #[I 0, I 0] 38 (0, 0)) := by rw [hX]; exact r2
    rw [← hX]
    have HUX : Hid (∀ u, Below w.heap.size w (ovr X u)) := fun u => hUX.trans ((ovr_below X u).mono hUX.size)
    have RR := Lib.hid (ovr_row r2)
    clear hX hUX r2 z0 z1 z2 z3 c1 c2 c3 c4 yW00 yW01 yW02 yW03 yW10 yW11 yW20 yW21
    have yX00 := ovr_cell (W := X) (b := w.heap.size) (o := 0) (v := I pl) (by rw [cell_of_row _ _ _ _ _ _ r0]; rfl)
    have zX00 : ∀ u, (ovr X u).frozen? ⟨w.heap.size, 0, none⟩ = false := fun u => frozen_of_row _ _ _ _ _ (ovr_row r0 u)
    have yX01 := ovr_cell (W := X) (b := w.heap.size) (o := 1) (v := I (-ph)) (by rw [cell_of_row _ _ _ _ _ _ r0]; rfl)
    have zX01 : ∀ u, (ovr X u).frozen? ⟨w.heap.size, 1, none⟩ = false := fun u => frozen_of_row _ _ _ _ _ (ovr_row r0 u)
    have yX02 := ovr_cell (W := X) (b := w.heap.size) (o := 2) (v := I ql) (by rw [cell_of_row _ _ _ _ _ _ r0]; rfl)
    have zX02 : ∀ u, (ovr X u).frozen? ⟨w.heap.size, 2, none⟩ = false := fun u => frozen_of_row _ _ _ _ _ (ovr_row r0 u)
    have yX03 := ovr_cell (W := X) (b := w.heap.size) (o := 3) (v := I (-qh)) (by rw [cell_of_row _ _ _ _ _ _ r0]; rfl)
    have zX03 : ∀ u, (ovr X u).frozen? ⟨w.heap.size, 3, none⟩ = false := fun u => frozen_of_row _ _ _ _ _ (ovr_row r0 u)
    have RrowX0 := Lib.hid (ovr_row r0)
    clear r0
    have yX10 := ovr_cell (W := X) (b := w.heap.size + 1) (o := 0) (v := I (-yh)) (by rw [cell_of_row _ _ _ _ _ _ r1]; rfl)
    have zX10 : ∀ u, (ovr X u).frozen? ⟨w.heap.size + 1, 0, none⟩ = false := fun u => frozen_of_row _ _ _ _ _ (ovr_row r1 u)
    have yX11 := ovr_cell (W := X) (b := w.heap.size + 1) (o := 1) (v := I (-yl)) (by rw [cell_of_row _ _ _ _ _ _ r1]; rfl)
    have zX11 : ∀ u, (ovr X u).frozen? ⟨w.heap.size + 1, 1, none⟩ = false := fun u => frozen_of_row _ _ _ _ _ (ovr_row r1 u)
    have RrowX1 := Lib.hid (ovr_row r1)
    clear r1
    obtain ⟨f1, hf1⟩ : ∃ f, frF ⟨pl, -ph⟩ ⟨ql, -qh⟩ (-yh) = f := ⟨_, rfl⟩
    obtain ⟨f2, hf2⟩ : ∃ f, utF ⟨pl, -ph⟩ ⟨ql, -qh⟩ (-yl) = f := ⟨_, rfl⟩
    rw [hf1, hf2] at hat
    rw [hf1] at cf
    rw [hf2] at cu
    clear hf1 hf2
    refine wp_region_seq 9 (fun j => if j = 3 then some (fun u _ => u = I f1) else if j = 7 then some (fun u _ => u = I f2) else none) (by kernel_rfl) (by kernel_rfl) (by kernel_rfl) (by kernel_rfl) ?_
    simp only [List.take_succ_cons, List.take_zero, List.drop_succ_cons, List.drop_zero]
    repeat (first | (refine wpG_one rfl rfl rfl ?_; intro K hK; go_big_quiet_op; go_big_quiet_on) | (refine wpG_skip rfl ?_; simp only [Act.put, List.setIfInBounds_toArray, List.set_cons_zero, List.set_cons_succ]))
    refine wpG_make (fun u _ => u = I f1) rfl rfl (fun w' hw' _ => ?_) (fun u hu => ?_)
    · go_simp
      exact call_grow (cf.out _)
    obtain ⟨_, _, rfl⟩ := hu
    simp only [Act.put, List.setIfInBounds_toArray, List.set_cons_zero, List.set_cons_succ]
    repeat (first | (refine wpG_one rfl rfl rfl ?_; intro K hK; go_big_quiet_op; go_big_quiet_on) | (refine wpG_skip rfl ?_; simp only [Act.put, List.setIfInBounds_toArray, List.set_cons_zero, List.set_cons_succ]))
    refine wpG_make (fun u _ => u = I f2) rfl rfl (fun w' hw' _ => ?_) (fun u hu => ?_)
    · go_simp
      exact call_grow (cu.out _)
    obtain ⟨_, _, rfl⟩ := hu
    simp only [Act.put, List.setIfInBounds_toArray, List.set_cons_zero, List.set_cons_succ]
    repeat (first | (refine wpG_one rfl rfl rfl ?_; intro K hK; go_big_quiet_op; go_big_quiet_on) | (refine wpG_skip rfl ?_; simp only [Act.put, List.setIfInBounds_toArray, List.set_cons_zero, List.set_cons_succ]))
    refine wpG_nil (fun w5 hw5 hG => ?_)
    clear hG
    obtain ⟨u9, rfl⟩ : ∃ x, w5 = ovr X x := ⟨w5, ovr_of hw5.le⟩
    clear hw5
    refine wpTail_cons ?_
    refine wp_store_row 38 _ _ rfl (w.heap.size + 1 + 1) rfl _ _ (RR.out _) _ rfl (one2 rfl rfl) rfl (by kernel_rfl) ?_
    refine wpTail_nil ?_
    simp only [Act.put]
    go_wp2_with fail
    refine bodyPost_ret (results_cell_only rfl _ _ (w.heap.size + 1 + 1) 38 _ (0, 0) _ rfl (setRow_same (RR.out _)) Try.underlying38 rfl (by kernel_rfl)) rfl ?_
    exact ⟨by rw [hat.out], below_setRow (HUX.out _) (by omega) _⟩
  · have hr : Hid (∀ z, (-1000000000000000 ≤ z ∧ z ≤ 1000000000000000) → RsOk ⟨pl, ph⟩ ⟨ql, qh⟩ z) := fun z hz => ⟨h.x0, h.y0, h.x1, h.y1, h.up, by simp only; omega, hz⟩
    rw [if_neg hd] at hat
    have cf := Lib.hid fun w => from_any ⟨pl, ph⟩ ⟨ql, qh⟩ yl w (hr.out _ (by omega))
    have cu := Lib.hid fun w => upto_any ⟨pl, ph⟩ ⟨ql, qh⟩ yh w (hr.out _ (by omega))
    have hdb : decide (qh < ph) = false := decide_eq_false hd
    clear hr hn hd h
    obtain ⟨W, hW⟩ : ∃ W, W = (((w.alloc (.cells #[I pl, I ph, I ql, I qh] 126)).alloc (.cells #[I yl, I yh] 38)).alloc (.cells #[I 0, I 0] 38)) := ⟨_, rfl⟩
    have rowW0 : W.heap[w.heap.size]? = some (.cells #[I pl, I ph, I ql, I qh] 126 (0, 0)) := by rw [hW]; exact heap_before (heap_before (heap_last _ _ _ rfl))
    have yW00 := ovr_cell (W := W) (b := w.heap.size) (o := 0) (v := I pl) (by rw [cell_of_row _ _ _ _ _ _ rowW0]; rfl)
    have yW01 := ovr_cell (W := W) (b := w.heap.size) (o := 1) (v := I ph) (by rw [cell_of_row _ _ _ _ _ _ rowW0]; rfl)
    have yW02 := ovr_cell (W := W) (b := w.heap.size) (o := 2) (v := I ql) (by rw [cell_of_row _ _ _ _ _ _ rowW0]; rfl)
    have yW03 := ovr_cell (W := W) (b := w.heap.size) (o := 3) (v := I qh) (by rw [cell_of_row _ _ _ _ _ _ rowW0]; rfl)
    have RrowW0 := Lib.hid (ovr_row rowW0)
    clear rowW0
    have rowW1 : W.heap[w.heap.size + 1]? = some (.cells #[I yl, I yh] 38 (0, 0)) := by rw [hW]; exact heap_before (heap_last _ _ _ (by simp))
    have yW10 := ovr_cell (W := W) (b := w.heap.size + 1) (o := 0) (v := I yl) (by rw [cell_of_row _ _ _ _ _ _ rowW1]; rfl)
    have yW11 := ovr_cell (W := W) (b := w.heap.size + 1) (o := 1) (v := I yh) (by rw [cell_of_row _ _ _ _ _ _ rowW1]; rfl)
    have RrowW1 := Lib.hid (ovr_row rowW1)
    clear rowW1
    have rowW2 : W.heap[w.heap.size + 1 + 1]? = some (.cells #[I 0, I 0] 38 (0, 0)) := by rw [hW]; exact heap_last _ _ _ (by simp)
    have yW20 := ovr_cell (W := W) (b := w.heap.size + 1 + 1) (o := 0) (v := I 0) (by rw [cell_of_row _ _ _ _ _ _ rowW2]; rfl)
    have yW21 := ovr_cell (W := W) (b := w.heap.size + 1 + 1) (o := 1) (v := I 0) (by rw [cell_of_row _ _ _ _ _ _ rowW2]; rfl)
    have RrowW2 := Lib.hid (ovr_row rowW2)
    clear rowW2
    have HUW : Hid (∀ u, Below w.heap.size w (ovr W u)) := U3 hW
    have HW := Lib.hid hW
    clear hW
    go_enter Try.func89, Try.ntmps89
    go_upto_region 1 with (fail)
    rw [← HW.out]
    obtain ⟨u0, hu0⟩ := ovr_self W
    rw [hu0]
    clear hu0
    go_upto_region 3 with (fail)
    have hbX := ovr_below W u0
    obtain ⟨X, hX⟩ : ∃ X, X = ovr W u0 := ⟨_, rfl⟩
    rw [← hX] at hbX
    rw [← hX]
    have hX' := Lib.hid hX
    clear hX
    have hbX' := Lib.hid hbX
    have reX : ∀ v, ∃ x, ovr X v = ovr W x := fun v => ovr_reB hbX v
    replace yW00 := tr_cell reX yW00
    replace yW01 := tr_cell reX yW01
    replace yW02 := tr_cell reX yW02
    replace yW03 := tr_cell reX yW03
    replace RrowW0 := Lib.hid (tr_row reX RrowW0.out)
    replace yW10 := tr_cell reX yW10
    replace yW11 := tr_cell reX yW11
    replace RrowW1 := Lib.hid (tr_row reX RrowW1.out)
    replace yW20 := tr_cell reX yW20
    replace yW21 := tr_cell reX yW21
    replace RrowW2 := Lib.hid (tr_row reX RrowW2.out)
    have HUX : Hid (∀ u, Below w.heap.size w (ovr X u)) := fun u => by obtain ⟨x, hx⟩ := reX u; rw [hx]; exact HUW.out x
    clear reX hbX
    have RR := RrowW2
    obtain ⟨f1, hf1⟩ : ∃ f, frF ⟨pl, ph⟩ ⟨ql, qh⟩ yl = f := ⟨_, rfl⟩
    obtain ⟨f2, hf2⟩ : ∃ f, utF ⟨pl, ph⟩ ⟨ql, qh⟩ yh = f := ⟨_, rfl⟩
    simp only at hat
    rw [hf1, hf2] at hat
    rw [hf1] at cf
    rw [hf2] at cu
    clear hf1 hf2
    refine wp_region_seq 9 (fun j => if j = 3 then some (fun u _ => u = I f1) else if j = 7 then some (fun u _ => u = I f2) else none) (by kernel_rfl) (by kernel_rfl) (by kernel_rfl) (by kernel_rfl) ?_
    simp only [List.take_succ_cons, List.take_zero, List.drop_succ_cons, List.drop_zero]
    repeat (first | (refine wpG_one rfl rfl rfl ?_; intro K hK; go_big_quiet_op; go_big_quiet_on) | (refine wpG_skip rfl ?_; simp only [Act.put, List.setIfInBounds_toArray, List.set_cons_zero, List.set_cons_succ]))
    refine wpG_make (fun u _ => u = I f1) rfl rfl (fun w' hw' _ => ?_) (fun u hu => ?_)
    · go_simp
      exact call_grow (cf.out _)
    obtain ⟨_, _, rfl⟩ := hu
    simp only [Act.put, List.setIfInBounds_toArray, List.set_cons_zero, List.set_cons_succ]
    repeat (first | (refine wpG_one rfl rfl rfl ?_; intro K hK; go_big_quiet_op; go_big_quiet_on) | (refine wpG_skip rfl ?_; simp only [Act.put, List.setIfInBounds_toArray, List.set_cons_zero, List.set_cons_succ]))
    refine wpG_make (fun u _ => u = I f2) rfl rfl (fun w' hw' _ => ?_) (fun u hu => ?_)
    · go_simp
      exact call_grow (cu.out _)
    obtain ⟨_, _, rfl⟩ := hu
    simp only [Act.put, List.setIfInBounds_toArray, List.set_cons_zero, List.set_cons_succ]
    repeat (first | (refine wpG_one rfl rfl rfl ?_; intro K hK; go_big_quiet_op; go_big_quiet_on) | (refine wpG_skip rfl ?_; simp only [Act.put, List.setIfInBounds_toArray, List.set_cons_zero, List.set_cons_succ]))
    refine wpG_nil (fun w5 hw5 hG => ?_)
    clear hG
    obtain ⟨u9, rfl⟩ : ∃ x, w5 = ovr X x := ⟨w5, ovr_of hw5.le⟩
    clear hw5
    refine wpTail_cons ?_
    refine wp_store_row 38 _ _ rfl (w.heap.size + 1 + 1) rfl _ _ (RR.out _) _ rfl (one2 rfl rfl) rfl (by kernel_rfl) ?_
    refine wpTail_nil ?_
    simp only [Act.put]
    go_wp2_with fail
    refine bodyPost_ret (results_cell_only rfl _ _ (w.heap.size + 1 + 1) 38 _ (0, 0) _ rfl (setRow_same (RR.out _)) Try.underlying38 rfl (by kernel_rfl)) rfl ?_
    exact ⟨by rw [hat.out], below_setRow (HUX.out _) (by omega) _⟩
end Go.Proofs.Ytmadlmmfbpmebaa
/- The iterator over the pieces of a table, of package units. -/
namespace Go.Proofs.Ytmadlmmfbpmebaa
open Go.RowKit
attribute [local go_sem] Oper.semAt_some
/-- A piece, by its first knot. -/
abbrev Pc (t : List Rng) : Type := { k : Nat // k + 1 < t.length }
def pcs (t : List Rng) : Nat → List (Pc t)
  | 0 => [] | k + 1 => if h : k + 1 < t.length then pcs t k ++ [⟨k, h⟩] else pcs t k
theorem pcs_succ {t : List Rng} {k : Nat} (h : k + 1 < t.length) : pcs t (k + 1) = pcs t k ++ [⟨k, h⟩] := by rw [pcs, dif_pos h]
theorem pcs_len {t : List Rng} : ∀ {k : Nat}, k < t.length → (pcs t k).length = k
  | 0, _ => rfl
  | k + 1, h => by rw [pcs_succ h, List.length_append, pcs_len (by omega)]; rfl
abbrev pcV {t : List Rng} (x : Pc t) : Value := lnV (at0 t x.1) (at0 t (x.1 + 1))
/-- Of the first n blocks only q may change. -/
def KpX (n q : Nat) (W W' : World) : Prop := ∀ k, k < n → k ≠ q → W'.heap[k]? = W.heap[k]?
theorem KpX.refl {n q : Nat} (W : World) : KpX n q W W := fun _ _ _ => rfl
theorem KpX.trans {n q : Nat} {A B C : World} (h : KpX n q A B) (h' : KpX n q B C) : KpX n q A C := fun k hk hq => (h' k hk hq).trans (h k hk hq)
theorem KpX.of_below {n q m : Nat} {A B : World} (h : Below m A B) (hm : n ≤ m) : KpX n q A B := fun k hk _ => h.block k (by omega)
theorem KpX.cell {n q b o : Nat} {A B : World} (h : KpX n q A B) (hb : b < n) (hq : b ≠ q) : B.cell? ⟨b, o, none⟩ = A.cell? ⟨b, o, none⟩ := by
  unfold World.cell?
  rw [h b hb hq]
set_option maxRecDepth 100000 in
set_option maxHeartbeats 4000000 in
theorem lines1_in (t : List Rng) (A : Option Addr) (n c l Bn n₀ q B N : Nat) (hN : 1 ≤ N) (hn : n = t.length) (h2 : 2 ≤ n) (hm : n ≤ 1000) (hBn : Bn < n₀) (hB : B ≤ n₀) (hq : Bn ≠ q) (hBq : B ≤ q) (J Jx : List (Pc t) → World → Prop) (W : World) (hJ : AbidesFrom W.heap.size J) (hn₀ : n₀ ≤ W.heap.size)
    (hY : ∀ pre x W1, J pre W1 → pre.length < n - 1 → YieldAt Fence.wide (N - 1) Try.prog l #[pcV x] W1 fun e W' =>
      (e = .returned (.bool true) ∧ J (pre ++ [x]) W' ∧ KpX n₀ q W1 W' ∧ W1.heap.size ≤ W'.heap.size) ∨ (e = .returned (.bool false) ∧ Jx (pre ++ [x]) W'))
    (hc : W.cell? ⟨Bn, 0, none⟩ = some (.slice A n c)) (hx : Rd W B 2 A n (rR t)) (h0 : J [] W) :
    CallsIn Fence.wide N Try.prog 116 #[.func (.yield l) #[] #[], .pointer (some ⟨Bn, 0, none⟩)] W fun e W' => (∃ v, e = .returned v) ∧
      ((∃ ys, ys = pcs t (t.length - 1) ∧ J ys W') ∨ (∃ pre, True ∧ Jx pre W')) := by
  subst hn
  have HX : Hid (∀ W', KpX n₀ q W W' → Rd W' B 2 A t.length (rR t) ∧ W'.cell? ⟨Bn, 0, none⟩ = some (.slice A t.length c)) := fun W' h => ⟨hx.keep fun b o hb => h.cell (by omega) (by omega), (h.cell hBn hq).trans hc⟩
  have HJ := Lib.hid hJ
  have HY := Lib.hid hY
  have H0 := Lib.hid h0
  clear hx hJ hY h0
  refine callsIn_of_wp Try.func116 rfl trivial ?_ rfl
  simp only [Try.ntmps116, List.size_toArray, List.length_cons, List.length_nil, Nat.reduceAdd, Nat.reduceSub, Array.replicate_succ, Array.replicate_zero, List.push_toArray, List.append_toArray, List.nil_append, List.cons_append]
  gi_wp2
  clear hc
  gi_loopw [7] (fun i wr => ∃ k : Nat, k ≤ t.length - 1 ∧ i = .int .i64 k ∧ J (pcs t k) wr ∧ KpX n₀ q W wr ∧ W.heap.size ≤ wr.heap.size)
    (fun i _ => t.length - (intOf i).toNat)
  case atStart => exact ⟨0, Nat.zero_le _, rfl, H0.out, KpX.refl _, Nat.le_refl _⟩
  case round =>
    obtain ⟨k, hk, rfl, hJs, hnx, hsz⟩ := hrel
    by_cases hlt : k + 1 < t.length
    · rename World => X
      have hF := Wd.wide
      obtain ⟨hrd, hbc⟩ := HX.out X hnx
      obtain ⟨b, o, rfl, hcc⟩ := rng_all hrd (show 0 < t.length by omega)
      have y0 := ovr_cell hbc
      have e0 := ovr_cell (hcc k (by omega)).1
      have e1 := ovr_cell (hcc k (by omega)).2
      have e2 := ovr_cell (hcc (k + 1) (by omega)).1
      have e3 := ovr_cell (hcc (k + 1) (by omega)).2
      have Hnx := Lib.hid hnx
      have HJs := Lib.hid hJs
      have kb : decide ((k : Int) < (t.length : Int) - 1) = true := decide_eq_true (by omega)
      have n1 : IntKind.i64.wrap ((k : Int) + 1) = (k : Int) + 1 := IntWalk.i64_in _ (by omega)
      have n2 : (0 : Int) ≤ (k : Int) + 1 := by omega
      have n3 : ((k : Int) + 1).toNat = k + 1 := by omega
      have n4 : (k : Int) + 1 < (t.length : Int) := by omega
      have n5 : k < t.length := by omega
      clear hcc hrd hbc hnx hJs
      gi_wp2
      refine wpIn_region_seq 11 hF  (fun _ => none) (by kernel_rfl) (by kernel_rfl) (by kernel_rfl) (by kernel_rfl) (by kernel_rfl) ?_
      simp only [List.take_succ_cons, List.take_zero, List.drop_succ_cons, List.drop_zero]
      repeat (first | (refine wpG_one rfl rfl rfl ?_; intro K hK; go_big_quiet_op; go_big_quiet_on) | (refine wpG_skip rfl ?_; simp only [Act.put, List.setIfInBounds_toArray, List.set_cons_zero, List.set_cons_succ]))
      refine wpG_nil (fun w5 hw5 hG => ?_)
      clear hG
      have hb5 : Below X.heap.size X w5 := hw5.le
      have hJ5 : J (pcs t k) w5 := HJ.out _ X w5 none HJs.out ⟨hb5.os, hb5.tape, hb5.output, hb5.size, fun j hj _ => hb5.block j hj⟩ (fun r e => by cases e)
      obtain ⟨fn, tmps, assign, body, hy, hR⟩ := HY.out (pcs t k) ⟨k, hlt⟩ w5 hJ5 (by rw [pcs_len (by omega)]; omega)
      have Hb5 : Hid (KpX n₀ q W w5 ∧ W.heap.size ≤ w5.heap.size) := ⟨Hnx.out.trans (KpX.of_below hb5 (by omega)), Nat.le_trans hsz hb5.size⟩
      clear hb5 hJ5 hw5 n1 n2 n3 n4 e0 e1 e2 e3 y0
      dsimp only [pcV, lnV] at hy
      show Oper.wpIn _ _ _ _ _ _ _ _
      refine ⟨fun _ _ => trivial, ?_⟩
      go_simp
      refine hR.mono ?_
      rintro e W3 (⟨rfl, hJ3, hk3⟩ | ⟨rfl, hJx3⟩)
      · refine wpTailIn_cons hF (by intro c h; cases h) ?_
        unfold Oper.wp
        go_simp
        refine wpTailIn_nil ?_
        gi_wp2
        go_roundw
        case rel => exact ⟨k + 1, by omega, by go_num, by rw [pcs_succ hlt]; exact hJ3, Hb5.out.1.trans hk3.1, Nat.le_trans Hb5.out.2 hk3.2⟩
        case measure => simp [intOf]; omega
      · refine wpTailIn_cons hF (by intro c h; cases h) ?_
        unfold Oper.wp
        go_simp
        refine wpTailIn_nil ?_
        gi_wp2
        (try simp only [Exit.inBlock, Exit.then])
        refine bodyPost_ret (results_none rfl _ _ _) rfl ?_
        exact ⟨⟨_, rfl⟩, .inr ⟨_, trivial, hJx3⟩⟩
    · obtain rfl : k = t.length - 1 := by omega
      have kb : decide (((t.length - 1 : Nat) : Int) < (t.length : Int) - 1) = false := decide_eq_false (by omega)
      have HJs := Lib.hid hJs
      clear hJs hnx
      gi_wp2
      go_end0
      exact ⟨⟨_, rfl⟩, .inl ⟨_, rfl, HJs.out⟩⟩
/-- What a round keeps: the table, and where it lies; and nothing goes away. -/
def KpL (n q : Nat) (W W' : World) : Prop := KpX n q W W' ∧ W.heap.size ≤ W'.heap.size
theorem lines_stops (t : List Rng) (A : Option Addr) (n c Bn n₀ q B N : Nat) (w : World) (hN : 1 ≤ N) (hn : n = t.length) (h2 : 2 ≤ n) (hm : n ≤ 1000) (hBn : Bn < n₀) (hB : B ≤ n₀) (hq : Bn ≠ q) (hBq : B ≤ q) (hn₀ : n₀ ≤ w.heap.size)
    (hc : w.cell? ⟨Bn, 0, none⟩ = some (.slice A n c)) (hx : Rd w B 2 A n (rR t)) :
    SeqStopsK Fence.wide N Try.prog 116 #[.pointer (some ⟨Bn, 0, none⟩)] (fun x : Pc t => #[pcV x]) (KpL n₀ q) (fun ys => ys = pcs t (t.length - 1)) (fun _ => True) (n - 1) w := fun l J Jx W hW hJ hJx hY h0 =>
  lines1_in t A n c l Bn n₀ q B N hN hn h2 hm hBn hB hq hBq J Jx W hJ (Nat.le_trans hn₀ hW.size) hY ((hW.cell (p := ⟨Bn, 0, none⟩) (by show Bn < _; omega)).trans hc) (hx.below (hW.mono (Nat.le_trans hB hn₀))) h0
theorem lines_any (A : Option Addr) (n c : Nat) (w : World) : Calls Try.prog 88 #[.slice A n c] w fun e w' => e = .returned (.func (.func 116) #[] #[.pointer (some ⟨w.heap.size, 0, none⟩)]) ∧ w' = w.alloc (.cells #[.slice A n c] 44) := by
  go_enter Try.func88, Try.ntmps88
  go_wp2
  go_ret
  exact ⟨rfl, rfl⟩
end Go.Proofs.Ytmadlmmfbpmebaa
/- Plain laws of the runs of Where of package units. -/
namespace Go.Proofs.Ytmadlmmfbpmebaa
open Go.RowKit
/-- One more piece's run is taken in. -/
def whStep (y : Rng) (l : List Rng) (p q : Rng) : List Rng :=
  if (whF p q y).hi < (whF p q y).lo then l else if l.length ≠ 0 ∧ (whF p q y).lo ≤ (at0 l (l.length - 1)).hi + 1 then l.take (l.length - 1) ++ [⟨(at0 l (l.length - 1)).lo, (whF p q y).hi⟩] else l ++ [whF p q y]
def whL (t : List Rng) (y : Rng) (pre : List (Pc t)) : List Rng := pre.foldl (fun l x => whStep y l (at0 t x.1) (at0 t (x.1 + 1))) []
theorem whL_snoc (t : List Rng) (y : Rng) (pre : List (Pc t)) (x : Pc t) : whL t y (pre ++ [x]) = whStep y (whL t y pre) (at0 t x.1) (at0 t (x.1 + 1)) := by simp [whL]
theorem pc_ok {t : List Rng} {y : Rng} (ht : Tab t) (hy : rngOk y = true) (x : Pc t) : PcOk (at0 t x.1) (at0 t (x.1 + 1)) y :=
  ⟨(ht.x x.1 (by have := x.2; omega)).1, ht.y x.1 (by have := x.2; omega), (ht.x (x.1 + 1) x.2).2, ht.y (x.1 + 1) x.2, ht.asc x.1 (x.1 + 1) (by omega) x.2, hy⟩
theorem ut_bd {p q : Rng} {y : Int} (h : RsOk p q y) : -3000000000000 ≤ utF p q y ∧ utF p q y ≤ 3000000000000 := by
  obtain ⟨h1, h2, h3, h4, h5, h6, h7⟩ := h
  unfold utF
  split
  · omega
  · split
    · omega
    · have hp := part_le (a := q.lo - p.lo) (b := y - p.hi) (c := q.hi - p.hi) (by omega) (by omega) (by omega)
      rw [Int.mul_comm] at hp
      omega
theorem fr_bd {p q : Rng} {y : Int} (h : RsOk p q y) : -3000000000000 ≤ frF p q y ∧ frF p q y ≤ 3000000000001 := by
  obtain ⟨h1, h2, h3, h4, h5, h6, h7⟩ := h
  unfold frF
  split
  · omega
  · split
    · omega
    · have hp := part_le (a := q.lo - p.lo) (b := y - p.hi) (c := q.hi - p.hi) (by omega) (by omega) (by omega)
      rw [Int.mul_comm] at hp
      split <;> omega
theorem wh_bd {p q y : Rng} (h : PcOk p q y) : (-3000000000000 ≤ (whF p q y).lo ∧ (whF p q y).lo ≤ 3000000000001) ∧ -3000000000000 ≤ (whF p q y).hi ∧ (whF p q y).hi ≤ 3000000000000 := by
  have hn := rngOk_iff.1 h.num
  unfold whF
  split
  · rename_i hd
    have hr : ∀ z, (-1000000000000000 ≤ z ∧ z ≤ 1000000000000000) → RsOk ⟨p.lo, -p.hi⟩ ⟨q.lo, -q.hi⟩ z := fun z hz => ⟨h.x0, by have := h.y0; simp only; omega, h.x1, by have := h.y1; simp only; omega, h.up, by simp only; omega, hz⟩
    exact ⟨fr_bd (hr _ (by omega)), ut_bd (hr _ (by omega))⟩
  · rename_i hd
    have hr : ∀ z, (-1000000000000000 ≤ z ∧ z ≤ 1000000000000000) → RsOk p q z := fun z hz => ⟨h.x0, h.y0, h.x1, h.y1, h.up, by omega, hz⟩
    exact ⟨fr_bd (hr _ (by omega)), ut_bd (hr _ (by omega))⟩
def RunBd (l : List Rng) : Prop := ∀ j, j < l.length → -3000000000000 ≤ (at0 l j).hi ∧ (at0 l j).hi ≤ 3000000000000
theorem step_bd {y : Rng} {l : List Rng} {p q : Rng} (h : PcOk p q y) (hl : RunBd l) : RunBd (whStep y l p q) := by
  have hw := wh_bd h
  unfold whStep
  split
  · exact hl
  · split
    · rename_i h2
      intro j hj
      have hlen : (l.take (l.length - 1)).length = l.length - 1 := by simp
      rw [List.length_append, hlen] at hj
      simp only [List.length_cons, List.length_nil] at hj
      rcases Nat.lt_or_ge j (l.length - 1) with h3 | h3
      · rw [at0_app _ _ (by omega), at0_get (by omega), List.getElem_take, ← at0_get (by omega)]
        exact hl j (by omega)
      · obtain rfl : j = l.length - 1 := by omega
        have := at0_last (l.take (l.length - 1)) (⟨(at0 l (l.length - 1)).lo, (whF p q y).hi⟩ : Rng)
        rw [hlen] at this
        rw [this]
        exact hw.2
    · intro j hj
      rw [List.length_append] at hj
      simp only [List.length_cons, List.length_nil] at hj
      rcases Nat.lt_or_ge j l.length with h3 | h3
      · rw [at0_app _ _ h3]; exact hl j h3
      · obtain rfl : j = l.length := by omega
        rw [at0_last]; exact hw.2
theorem whStep_len {y : Rng} {l : List Rng} {p q : Rng} : (whStep y l p q).length ≤ l.length + 1 := by
  unfold whStep
  split
  · omega
  · split
    · simp
    · simp
theorem whL_facts {t : List Rng} {y : Rng} (ht : Tab t) (hy : rngOk y = true) (pre : List (Pc t)) : RunBd (whL t y pre) ∧ (whL t y pre).length ≤ pre.length := by
  have : ∀ (l : List (Pc t)) (a : List Rng), RunBd a → RunBd (l.foldl (fun l x => whStep y l (at0 t x.1) (at0 t (x.1 + 1))) a) ∧ (l.foldl (fun l x => whStep y l (at0 t x.1) (at0 t (x.1 + 1))) a).length ≤ a.length + l.length := by
    intro l
    induction l with
    | nil => intro a ha; exact ⟨ha, by simp⟩
    | cons x r ih =>
      intro a ha
      obtain ⟨i1, i2⟩ := ih _ (step_bd (pc_ok ht hy x) ha)
      refine ⟨i1, Nat.le_trans i2 ?_⟩
      have := whStep_len (y := y) (l := a) (p := at0 t x.1) (q := at0 t (x.1 + 1))
      simp only [List.length_cons]
      omega
  obtain ⟨h1, h2⟩ := this pre [] (fun j hj => absurd hj (by simp))
  exact ⟨h1, by rw [List.length_nil, Nat.zero_add] at h2; exact h2⟩
/-- The last run is made longer. -/
theorem rc_set {l : List Rng} (h : l.length ≠ 0) (v : Int) : rc (l.take (l.length - 1) ++ [⟨(at0 l (l.length - 1)).lo, v⟩]) = (rc l).set ((l.length - 1) * 2 + 1) (I v) := by
  obtain ⟨i, x, rfl⟩ : ∃ i x, l = i ++ [x] := ⟨l.dropLast, l.getLast (by intro e; subst e; simp at h), (List.dropLast_concat_getLast _).symm⟩
  have hl : (i ++ [x]).length - 1 = i.length := by simp
  have hr : (rc i).length = i.length * 2 := by rw [rc_flat, flat_len]
  rw [hl, at0_last, List.take_left' rfl, rc_app, rc_app, List.set_append_right _ _ (by omega), hr]
  have : i.length * 2 + 1 - i.length * 2 = 1 := by omega
  rw [this]
  rfl
end Go.Proofs.Ytmadlmmfbpmebaa
/- The contract of Where of package units. -/
namespace Go.Proofs.Ytmadlmmfbpmebaa
open Go.RowKit
attribute [local go_sem] Oper.semAt_some
def weF (t : List Rng) (y : Rng) : List Rng × Int := if tabB t && rngOk y then (whL t y (pcs t (t.length - 1)), 0) else ([], 2)
/-- Ranges in new memory, and an error's number. -/
def RetL (w : World) (q : List Rng × Int) (e : Ending) (w' : World) : Prop := ∃ A n c, e = .returned (.tuple #[.slice A n c, I q.2]) ∧ n = q.1.length ∧ n ≤ c ∧ Rd w' w'.heap.size 2 A n (rR q.1) ∧ Below w.heap.size w w'
theorem own_cells {w : World} {base size n : Nat} {e : TypeId} {v : Value} {xs : List Value} (h : w.ownsRow base e size v n xs) {g : Nat} (hg : v.ownBlock = some g) : base ≤ g ∧ ∃ o, w.heap[g]? = some o ∧ o.isCells = true := by
  rcases h.2 with ⟨rfl, _⟩ | ⟨g', cap, cur, rfl, hb, hgg, _⟩
  · simp [Value.ownBlock] at hg
  · simp [Value.ownBlock] at hg
    subst hg
    exact ⟨hb, _, hgg, rfl⟩
theorem row_kept {W W' : World} {row : Option Nat} {b : Nat} {cs : Array Value} {t : TypeId} {B : Nat} (h : W.heap[b]? = some (.cells cs t (0, 0))) (hg : W.grownBy W' row) (hr : ∀ r, row = some r → B ≤ r ∧ ∃ o : Obj, W.heap[r]? = some o ∧ o.isCells = false) : W'.heap[b]? = some (.cells cs t (0, 0)) :=
  (hg.block b (Array.getElem?_eq_some_iff.1 h).1 (fun e => by
    obtain ⟨_, o, ho, hc⟩ := hr b e.symm
    rw [h] at ho; cases ho; cases hc)).trans h
theorem row_own {β : Type} (B b : Nat) (cs : Array Value) (t : TypeId) : OwnFrom B (fun (_ : β) W => W.heap[b]? = some (.cells cs t (0, 0))) := fun _ _ _ _ hs hg hr => row_kept hs hg hr
set_option maxRecDepth 100000 in
set_option maxHeartbeats 4000000 in
theorem where2_any (A : Option Addr) (n c : Nat) (t : List Rng) (y : Rng) (w : World) (B : Nat) (hn : n = t.length) (hm : n ≤ maxLen) (hB : B ≤ w.heap.size) (hx : Rd w B 2 A n (rR t)) :
    Calls Try.prog 41 #[.slice A n c, y.val] w (RetL w (weF t y)) := by
  subst hn
  have hf : Hid (weF t y = if tabB t && rngOk y then (whL t y (pcs t (t.length - 1)), 0) else ([], 2)) := rfl
  have HX : Hid (∀ W', Below w.heap.size w W' → Rd W' B 2 A t.length (rR t) ∧ B ≤ W'.heap.size) := fun W' h => ⟨hx.below (h.mono hB), Nat.le_trans hB h.size⟩
  have ct : Hid (∀ W', Rd W' B 2 A t.length (rR t) ∧ B ≤ W'.heap.size → Calls Try.prog 32 #[.slice A t.length c] W' fun e w' => e = .returned (I (ctF t)) ∧ Below W'.heap.size W' w') := fun W' h => table_any A t.length c t W' B rfl hm h.2 h.1
  have cv := Lib.hid fun W k => valid_one y W k
  have HBw := Lib.hid hB
  clear hx hB hm
  obtain ⟨W, hW⟩ : ∃ W, W = (w.alloc (.cells #[I y.lo, I y.hi] 38)) := ⟨_, rfl⟩
  have rowW0 : W.heap[w.heap.size]? = some (.cells #[I y.lo, I y.hi] 38 (0, 0)) := by rw [hW]; exact heap_last _ _ _ rfl
  have yW00 := ovr_cell (W := W) (b := w.heap.size) (o := 0) (v := I y.lo) (by rw [cell_of_row _ _ _ _ _ _ rowW0]; rfl)
  have yW01 := ovr_cell (W := W) (b := w.heap.size) (o := 1) (v := I y.hi) (by rw [cell_of_row _ _ _ _ _ _ rowW0]; rfl)
  have RrowW0 := Lib.hid (ovr_row rowW0)
  clear rowW0
  have HUW : Hid (∀ u, Below w.heap.size w (ovr W u)) := U1 hW
  have HW := Lib.hid hW
  clear hW
  rcases h1 : tabB t with _ | _
  · rw [h1] at hf
    have h2 : ctF t = 2 := by rw [ctF, h1]; rfl
    rw [h2] at ct
    clear h2
    go_enter Try.func41, Try.ntmps41
    go_upto_region 1 with (fail)
    rw [← HW.out]
    obtain ⟨u0, hu0⟩ := ovr_self W
    rw [hu0]
    clear hu0
    go_wp2_with fail
    refine (ct.out _ (HX.out _ (HUW.out _))).mono ?_
    rintro e w1 ⟨rfl, hb1⟩
    obtain ⟨u1, rfl⟩ := ovr_next hb1
    clear hb1
    go_wp2_with fail
    go_ret2
    exact ⟨none, 0, 0, by rw [hf.out]; rfl, by rw [hf.out]; rfl, Nat.le_refl _, Rd.nil, HUW.out _⟩
  have h2 : ctF t = 0 := by rw [ctF, h1]; rfl
  have Ht := Lib.hid (tab_iff.1 h1)
  rw [h1] at hf
  rw [h2] at ct
  clear h1 h2
  rcases h1 : rngOk y with _ | _
  · rw [h1] at hf cv
    go_enter Try.func41, Try.ntmps41
    go_upto_region 1 with (fail)
    rw [← HW.out]
    obtain ⟨u0, hu0⟩ := ovr_self W
    rw [hu0]
    clear hu0
    go_wp2_with fail
    refine (ct.out _ (HX.out _ (HUW.out _))).mono ?_
    rintro e w1 ⟨rfl, hb1⟩
    obtain ⟨u1, rfl⟩ := ovr_next hb1
    clear hb1
    go_wp2_with fail
    refine (cv.out _ _ rfl).mono ?_
    rintro e w1 ⟨rfl, hb1⟩
    obtain ⟨u2, rfl⟩ := ovr_next hb1
    clear hb1
    go_wp2_with fail
    go_ret2
    exact ⟨none, 0, 0, by rw [hf.out]; rfl, by rw [hf.out]; rfl, Nat.le_refl _, Rd.nil, HUW.out _⟩
  have Hy := Lib.hid h1
  rw [h1] at hf cv
  rw [if_pos (show (true && true) = true from rfl)] at hf
  clear h1
  refine (callsIn_wide (n := 5)).1 ?_
  refine callsIn_of_wp_marks Try.func41 rfl trivial ?_ rfl
  simp only [Try.ntmps41, List.size_toArray, List.length_cons, List.length_nil, Nat.reduceAdd, Nat.reduceSub, Array.replicate_succ, Array.replicate_zero, List.push_toArray, List.append_toArray, List.nil_append, List.cons_append]
  refine wpIn_wide.2 ?_
  go_upto_region 1 with (fail)
  rw [← HW.out]
  obtain ⟨u0, hu0⟩ := ovr_self W
  rw [hu0]
  clear hu0
  go_wp2_with fail
  refine (ct.out _ (HX.out _ (HUW.out _))).mono ?_
  rintro e w1 ⟨rfl, hb1⟩
  obtain ⟨u1, rfl⟩ := ovr_next hb1
  clear hb1
  go_wp2_with fail
  refine (cv.out _ _ rfl).mono ?_
  rintro e w1 ⟨rfl, hb1⟩
  obtain ⟨u2, rfl⟩ := ovr_next hb1
  clear hb1
  go_wp2_with fail
  refine (lines_any _ _ _ _).mono ?_
  rintro e w1 ⟨rfl, rfl⟩
  go_wp2_with fail
  obtain ⟨V, hV⟩ : ∃ V, V = ((ovr W u2).alloc (.cells #[.slice none 0 0] 36)).alloc (.cells #[.slice A t.length c] 44) := ⟨_, rfl⟩
  have rk : V.heap[(ovr W u2).heap.size]? = some (.cells #[.slice none 0 0] 36 (0, 0)) := by rw [hV]; exact heap_before (heap_last _ _ _ rfl)
  have rb : V.heap[(ovr W u2).heap.size + 1]? = some (.cells #[.slice A t.length c] 44 (0, 0)) := by rw [hV]; exact heap_last _ _ _ (by simp)
  have bV : Below (ovr W u2).heap.size (ovr W u2) V := by rw [hV]; exact ((Below.refl _ _).alloc (Nat.le_refl _) _).alloc (by simp) _
  have sV : V.heap.size = (ovr W u2).heap.size + 1 + 1 := by rw [hV]; simp
  have ry : V.heap[w.heap.size]? = some (.cells #[I y.lo, I y.hi] 38 (0, 0)) := (bV.block _ (Array.getElem?_eq_some_iff.1 (RrowW0.out u2)).1).trans (RrowW0.out u2)
  have sw := (HUW.out u2).size
  have slt : w.heap.size < (ovr W u2).heap.size := (Array.getElem?_eq_some_iff.1 (RrowW0.out u2)).1
  have bw : Below w.heap.size w V := (HUW.out u2).trans (bV.mono sw)
  rw [← hV]
  obtain ⟨k6, hk6⟩ : ∃ k, (ovr W u2).heap.size = k := ⟨_, rfl⟩
  rw [hk6] at rk rb sV sw slt
  have sV1 : V.heap.size ≤ k6 + 1 + 1 := by omega
  have sV2 : k6 + 1 + 1 ≤ V.heap.size := by omega
  clear sV
  rw [hk6]
  obtain ⟨kp, hkp⟩ : ∃ k, (ovr W u1).heap.size = k := ⟨_, rfl⟩
  rw [hkp]
  have hxV := HX.out V bw
  have hBw := HBw.out
  have n60 := Ht.out.n60
  have n2 := Ht.out.n2
  obtain ⟨i0, hi0, iz0, iz1, iz2⟩ := info_parts rng_info
  clear hV hk6 hkp bV yW00 yW01
  refine (wpIn_wide (n := 5)).1 ?_
  refine wpIn_rangeFunc_ownH rfl (by omega) (gf := 116) (lb := #[.pointer (some ⟨k6 + 1, 0, none⟩)]) rfl trivial (enters_of Try.func116 (by kernel_rfl) rfl)
    (lines_stops t A t.length c (k6 + 1) V.heap.size k6 B 4 V (by omega) rfl n2 (by omega) (by omega) (by omega) (by omega) (by omega) (Nat.le_refl _) (by rw [cell_of_row _ _ _ _ _ _ rb]; rfl) hxV.1)
    (fun h h' => ⟨h.1.trans h'.1, Nat.le_trans h.2 h'.2⟩) (fun W l o o' hl h _ _ => ⟨fun k hk _ => World.putObj_heap_other (by omega), by simp⟩) (Below.refl _ _) (fun _ => rfl)
    (fun pre W => (∃ v, Boxed W k6 36 v ∧ W.ownsRow V.heap.size 38 2 v (whL t y pre).length (rc (whL t y pre)) ∧ True) ∧ W.heap[w.heap.size]? = some (.cells #[I y.lo, I y.hi] 38 (0, 0)) ∧ Below w.heap.size w W ∧ V.heap.size ≤ W.heap.size)
    (fun _ _ _ => False)
    (OwnFrom.and (Own.from (holdsRow_own V.heap.size k6 36 38 2 (fun pre => (whL t y pre).length) (fun pre => rc (whL t y pre)) (fun _ _ => True)) _) (OwnFrom.and (row_own _ _ _ _) (OwnFrom.and (ownFrom_below (Nat.le_refl _) (by omega)) (fun _ _ _ _ hs hg _ => Nat.le_trans hs hg.size))))
    (fun _ _ _ _ _ hs _ _ => hs)
    ⟨⟨_, rk, ⟨rfl, .inl ⟨rfl, rfl⟩⟩, trivial⟩, ry, bw, Nat.le_refl _⟩
    (fun x a' W => ∃ Bx, W.heap[Bx]? = some (.cells #[I (at0 t x.1).lo, I (at0 t x.1).hi, I (at0 t (x.1 + 1)).lo, I (at0 t (x.1 + 1)).hi] 126 (0, 0)) ∧ V.heap.size ≤ Bx ∧
      a' = { tmps := #[.slice A t.length c, y.val, undef, .pointer (some ⟨w.heap.size, 0, none⟩), .slice none 0 0, .int .i64 0, .pointer (some ⟨k6, 0, none⟩), .pointer (some ⟨Bx, 0, none⟩), undef, undef, .slice A t.length c, I 0, .bool false, .bool false, .agg #[I y.lo, I y.hi], .slice (some ⟨kp, 0, none⟩) 1 1, .bool true, .bool false, .bool false, .slice A t.length c, .func (.func 116) #[] #[.pointer (some ⟨k6 + 1, 0, none⟩)], pcV x, undef, undef, undef, undef, undef, undef, undef, undef, undef, undef, undef, undef, undef, undef, undef, undef, undef, undef, undef, undef, undef, undef, undef, undef, undef, undef, undef, undef, undef, undef, undef, undef, undef, undef, undef, undef, undef], defers := [] })
    (fun x a' s W W' row hs hg hr => by
      obtain ⟨Bx, h1, h2, h3⟩ := hs
      exact ⟨Bx, row_kept h1 hg hr, h2, h3⟩) ?assign ?body ?done ?stop
  case assign =>
    intro l pre x W K hi hK
    obtain ⟨⟨v, h1, h2, _⟩, h3, h4, h5⟩ := hi
    have hK' := hK
    clear hK
    gi_wp2
    exact hK' _ _ ((KeepsOthers.alloc _ _).from _) ⟨fun k hk _ => Below.heap_alloc _ _ _ (by omega), by simp⟩ ⟨⟨v, h1.alloc _, h2.alloc _, trivial⟩, (Below.heap_alloc _ _ _ (Array.getElem?_eq_some_iff.1 h3).1).trans h3, h4.alloc h4.size _, by simp; omega⟩ ⟨W.heap.size, heap_last _ _ _ rfl, h5, rfl⟩
  case body =>
    rintro l pre x a' X hl _ ⟨⟨v, hv, hrow, _⟩, hry, hbw, hsX⟩ ⟨Bx, hBx, hBl, rfl⟩ hlt
    have hF := Wd.round l
    have hbd := whL_facts Ht.out Hy.out pre
    have hsn := whL_snoc t y pre x
    have hpc := pc_ok Ht.out Hy.out x
    obtain ⟨L, hL⟩ : ∃ L, whL t y pre = L := ⟨_, rfl⟩
    rw [hL] at hrow hbd hsn
    have Hnew : Hid (whL t y (pre ++ [x]) = whStep y L (at0 t x.1) (at0 t (x.1 + 1))) := hsn
    obtain ⟨xk, hxk⟩ := x
    simp only at hBx hpc
    obtain ⟨p, hp⟩ : ∃ p, at0 t xk = p := ⟨_, rfl⟩
    obtain ⟨q, hq⟩ : ∃ q, at0 t (xk + 1) = q := ⟨_, rfl⟩
    simp only [hp, hq] at hBx hpc Hnew
    obtain ⟨A', c', rfl, hc', hR⟩ := Rd.of_rc rfl hrow
    have hLn : L.length ≤ 60 := by omega
    have hwb := wh_bd hpc
    obtain ⟨r, hr⟩ : ∃ r, whF p q y = r := ⟨_, rfl⟩
    have cw := Lib.hid fun w => where_any p q y w hpc
    rw [hr] at cw hwb
    have Hst : Hid (whStep y L p q = if r.hi < r.lo then L else if L.length ≠ 0 ∧ r.lo ≤ (at0 L (L.length - 1)).hi + 1 then L.take (L.length - 1) ++ [⟨(at0 L (L.length - 1)).lo, r.hi⟩] else L ++ [r]) := by show _ = _; rw [← hr]; rfl
    have Hrow := Lib.hid hrow
    have Hv := Lib.hid hv
    have Hry := Lib.hid hry
    have HbX := Lib.hid hbw
    have HR := Lib.hid hR
    have Hbd := Lib.hid hbd
    have hv : X.heap[k6]? = some (.cells #[.slice A' L.length c'] 36 (0, 0)) := hv
    clear hL hsn hpc hr hrow hbw hR hbd hp hq
    have yX00 := ovr_cell (W := X) (b := w.heap.size) (o := 0) (v := I y.lo) (by rw [cell_of_row _ _ _ _ _ _ hry]; rfl)
    have zX00 : ∀ u, (ovr X u).frozen? ⟨w.heap.size, 0, none⟩ = false := fun u => frozen_of_row _ _ _ _ _ (ovr_row hry u)
    have yX01 := ovr_cell (W := X) (b := w.heap.size) (o := 1) (v := I y.hi) (by rw [cell_of_row _ _ _ _ _ _ hry]; rfl)
    have zX01 : ∀ u, (ovr X u).frozen? ⟨w.heap.size, 1, none⟩ = false := fun u => frozen_of_row _ _ _ _ _ (ovr_row hry u)
    have RrowX0 := Lib.hid (ovr_row hry)
    clear hry
    have yX10 := ovr_cell (W := X) (b := Bx) (o := 0) (v := I p.lo) (by rw [cell_of_row _ _ _ _ _ _ hBx]; rfl)
    have zX10 : ∀ u, (ovr X u).frozen? ⟨Bx, 0, none⟩ = false := fun u => frozen_of_row _ _ _ _ _ (ovr_row hBx u)
    have yX11 := ovr_cell (W := X) (b := Bx) (o := 1) (v := I p.hi) (by rw [cell_of_row _ _ _ _ _ _ hBx]; rfl)
    have zX11 : ∀ u, (ovr X u).frozen? ⟨Bx, 1, none⟩ = false := fun u => frozen_of_row _ _ _ _ _ (ovr_row hBx u)
    have yX12 := ovr_cell (W := X) (b := Bx) (o := 2) (v := I q.lo) (by rw [cell_of_row _ _ _ _ _ _ hBx]; rfl)
    have zX12 : ∀ u, (ovr X u).frozen? ⟨Bx, 2, none⟩ = false := fun u => frozen_of_row _ _ _ _ _ (ovr_row hBx u)
    have yX13 := ovr_cell (W := X) (b := Bx) (o := 3) (v := I q.hi) (by rw [cell_of_row _ _ _ _ _ _ hBx]; rfl)
    have zX13 : ∀ u, (ovr X u).frozen? ⟨Bx, 3, none⟩ = false := fun u => frozen_of_row _ _ _ _ _ (ovr_row hBx u)
    have RrowX1 := Lib.hid (ovr_row hBx)
    clear hBx
    have yX20 := ovr_cell (W := X) (b := k6) (o := 0) (v := .slice A' L.length c') (by rw [cell_of_row _ _ _ _ _ _ hv]; rfl)
    have zX20 : ∀ u, (ovr X u).frozen? ⟨k6, 0, none⟩ = false := fun u => frozen_of_row _ _ _ _ _ (ovr_row hv u)
    have RrowX2 := Lib.hid (ovr_row hv)
    clear hv
    obtain ⟨v0, hv0⟩ := ovr_self X
    have HX0 := Lib.hid hv0
    rw [hv0]
    clear hv0
    gi_wp2
    refine ⟨trivial, (hF.calls (cw.out _)).mono ?_⟩
    rintro e w1 ⟨rfl, hb1⟩
    obtain ⟨v1, rfl⟩ := ovr_next hb1
    clear hb1
    have HUX : Hid (∀ u, Below w.heap.size w (ovr X u)) := fun u => HbX.out.trans ((ovr_below X u).mono HbX.out.size)
    gi_upto_region 7 with (fail)
    obtain ⟨Z, hZ⟩ : ∃ Z, Z = ((ovr X v1).alloc (.cells #[I r.lo, I r.hi] 38)) := ⟨_, rfl⟩
    have reZ : ∀ v, ∃ x, ovr Z v = ovr X x := fun v => ovr_re1 hZ
    replace yX00 := tr_cell reZ yX00
    replace zX00 := tr_froz reZ zX00
    replace yX01 := tr_cell reZ yX01
    replace zX01 := tr_froz reZ zX01
    replace RrowX0 := Lib.hid (tr_row reZ RrowX0.out)
    replace yX10 := tr_cell reZ yX10
    replace zX10 := tr_froz reZ zX10
    replace yX11 := tr_cell reZ yX11
    replace zX11 := tr_froz reZ zX11
    replace yX12 := tr_cell reZ yX12
    replace zX12 := tr_froz reZ zX12
    replace yX13 := tr_cell reZ yX13
    replace zX13 := tr_froz reZ zX13
    replace RrowX1 := Lib.hid (tr_row reZ RrowX1.out)
    replace yX20 := tr_cell reZ yX20
    replace zX20 := tr_froz reZ zX20
    replace RrowX2 := Lib.hid (tr_row reZ RrowX2.out)
    have rowZ0 : Z.heap[(ovr X v1).heap.size]? = some (.cells #[I r.lo, I r.hi] 38 (0, 0)) := by rw [hZ]; exact heap_last _ _ _ rfl
    have yZ00 := ovr_cell (W := Z) (b := (ovr X v1).heap.size) (o := 0) (v := I r.lo) (by rw [cell_of_row _ _ _ _ _ _ rowZ0]; rfl)
    have yZ01 := ovr_cell (W := Z) (b := (ovr X v1).heap.size) (o := 1) (v := I r.hi) (by rw [cell_of_row _ _ _ _ _ _ rowZ0]; rfl)
    have RrowZ0 := Lib.hid (ovr_row rowZ0)
    clear rowZ0
    have HBZ : Hid (∀ u, Below X.heap.size X (ovr Z u)) := fun u => by obtain ⟨x, hx⟩ := reZ u; rw [hx]; exact ovr_below _ _
    have HUZ : Hid (∀ u, Below w.heap.size w (ovr Z u)) := fun u => by obtain ⟨x, hx⟩ := reZ u; rw [hx]; exact HUX.out x
    clear reZ
    have HZ := Lib.hid hZ
    clear hZ
    rw [← HZ.out]
    obtain ⟨v2, hv2⟩ := ovr_self Z
    rw [hv2]
    clear hv2
    have fin1 : Hid (∀ W', Below X.heap.size X W' → KeepsFrom V.heap.size X W' ∧ KpL V.heap.size k6 X W' ∧ (∃ v, Boxed W' k6 36 v ∧ W'.ownsRow V.heap.size 38 2 v L.length (rc L) ∧ True) ∧ W'.heap[w.heap.size]? = some (.cells #[I y.lo, I y.hi] 38 (0, 0)) ∧ Below w.heap.size w W' ∧ V.heap.size ≤ W'.heap.size) := fun W' hb =>
      ⟨⟨hb.size, fun k o _ hk _ => (hb.block k (Array.getElem?_eq_some_iff.1 hk).1).trans hk⟩, ⟨KpX.of_below hb hsX, hb.size⟩, ⟨_, (hb.block _ Hv.out.lt).trans Hv.out, own_below Hrow.out hb, trivial⟩, (hb.block _ (Array.getElem?_eq_some_iff.1 Hry.out).1).trans Hry.out, HbX.out.trans (hb.mono HbX.out.size), Nat.le_trans hsX hb.size⟩
    by_cases h1 : r.hi < r.lo
    · have h1b : decide (r.hi < r.lo) = true := decide_eq_true h1
      rw [if_pos h1] at Hst
      clear h1
      gi_wp2
      have hfin := fin1.out _ (HBZ.out v2)
      rw [← Hst.out, ← Hnew.out] at hfin
      rw [← HX0.out]
      exact hfin
    have h1b : decide (r.hi < r.lo) = false := decide_eq_false h1
    rw [if_neg h1] at Hst
    have k6X : k6 < X.heap.size := Hv.out.lt
    have s1 : IntKind.i64.wrap ((L.length : Int) - 1) = (L.length : Int) - 1 := IntWalk.i64_in _ (by omega)
    clear h1
    gi_upto_region 10 with (fail)
    have hbZ2 := ovr_below Z v2
    obtain ⟨Z2, hZ2⟩ : ∃ Z2, Z2 = ovr Z v2 := ⟨_, rfl⟩
    rw [← hZ2] at hbZ2
    rw [← hZ2]
    have hZ2' := Lib.hid hZ2
    clear hZ2
    have hbZ2' := Lib.hid hbZ2
    have reZ2 : ∀ v, ∃ x, ovr Z2 v = ovr Z x := fun v => ovr_reB hbZ2 v
    replace yX00 := tr_cell reZ2 yX00
    replace zX00 := tr_froz reZ2 zX00
    replace yX01 := tr_cell reZ2 yX01
    replace zX01 := tr_froz reZ2 zX01
    replace RrowX0 := Lib.hid (tr_row reZ2 RrowX0.out)
    replace yX10 := tr_cell reZ2 yX10
    replace zX10 := tr_froz reZ2 zX10
    replace yX11 := tr_cell reZ2 yX11
    replace zX11 := tr_froz reZ2 zX11
    replace yX12 := tr_cell reZ2 yX12
    replace zX12 := tr_froz reZ2 zX12
    replace yX13 := tr_cell reZ2 yX13
    replace zX13 := tr_froz reZ2 zX13
    replace RrowX1 := Lib.hid (tr_row reZ2 RrowX1.out)
    replace yX20 := tr_cell reZ2 yX20
    replace zX20 := tr_froz reZ2 zX20
    replace RrowX2 := Lib.hid (tr_row reZ2 RrowX2.out)
    replace yZ00 := tr_cell reZ2 yZ00
    replace yZ01 := tr_cell reZ2 yZ01
    replace RrowZ0 := Lib.hid (tr_row reZ2 RrowZ0.out)
    have HUZ2 : Hid (∀ u, Below w.heap.size w (ovr Z2 u)) := fun u => by obtain ⟨x, hx⟩ := reZ2 u; rw [hx]; exact HUZ.out x
    clear reZ2 hbZ2
    have HB2 : Hid (∀ u, Below X.heap.size X (ovr Z2 u)) := fun u => by
      have h := HBZ.out Z2
      obtain ⟨x, hx⟩ : ∃ x, ovr Z2 u = ovr Z x := ⟨_, ovr_of (hbZ2'.out.trans ((ovr_below Z2 u).mono hbZ2'.out.size))⟩
      rw [hx]; exact HBZ.out x
    have hsz2 := (HB2.out Z2).size
    rcases Nat.eq_zero_or_pos L.length with hn0 | hn0
    · rw [if_neg (by omega)] at Hst
      have s2 : decide ((0 : Int) ≤ (L.length : Int) - 1) = false := decide_eq_false (by omega)
      have s3 : decide ((1 : Int) ≤ (L.length : Int)) = false := decide_eq_false (by omega)
      have s4 : ¬ (1 : Int) ≤ (L.length : Int) := by omega
      have s5 : ¬ 1 ≤ L.length := by omega
      have s6 : decide (1 ≤ L.length) = false := decide_eq_false (by omega)
      have Hn0 := Lib.hid hn0
      clear hn0
      refine wpIn_region_seq 14 hF  (fun _ => none) (by kernel_rfl) (by kernel_rfl) (by kernel_rfl) (by kernel_rfl) (by kernel_rfl) ?_
      simp only [List.take_succ_cons, List.take_zero, List.drop_succ_cons, List.drop_zero]
      repeat (first | (refine wpG_one rfl rfl rfl ?_; intro K hK; go_big_quiet_op; go_big_quiet_on) | (refine wpG_skip rfl ?_; simp only [Act.put, List.setIfInBounds_toArray, List.set_cons_zero, List.set_cons_succ]))
      refine wpG_nil (fun w5 hw5 hG => ?_)
      clear hG
      obtain ⟨v3, rfl⟩ : ∃ q, w5 = ovr Z2 q := ⟨w5, ovr_of hw5.le⟩
      clear hw5
      refine wpTailIn_nil ?_
      have hle := HB2.out v3
      have hown := own_below Hrow.out hle
      have hrc := Lib.hid (rc_app L r)
      have hsz3 := hle.size
      have hkq : Hid ((ovr Z2 v3).heap[k6]? = some (.cells #[.slice A' L.length c'] 36 (0, 0))) := (hle.block _ k6X).trans Hv.out
      have hz0 := fin1.out _ hle
      have Hz0 := Lib.hid hz0
      have HLE := Lib.hid hle
      clear hz0 hle s1 s2 s3 s4 s5 s6
      gi_wp2_with (gi_at_builtin; refine wpListIn_append_own _ rfl _ _ 36 rfl V.heap.size 38 i0 _ 2 16 Try.underlying36 hi0 iz0 iz1 iz2 rfl (by decide) _ L.length (rc L) rfl (hown.alloc _) ⟨(ovr Z2 v3).heap.size, 0, none⟩ 1 1 [I r.lo, I r.hi] rfl (by rfl) (news_lit (cs := #[I r.lo, I r.hi]) (heap_last _ _ _ rfl)) ?h1 ?h63 ?hby ?hba ?_)
      case h1 => simp [Value.oneCell']
      case h63 => unfold maxLen; omega
      case hby => omega
      case hba => first | omega | (simp; omega)
      intro v' w2 own3 hg2 _
      obtain ⟨g', cap', rfl⟩ := ownsRow_succ own3
      have gsz := hg2.size
      rw [World.size_alloc] at gsz
      have hlt0 : k6 < (ovr Z2 v3).heap.size := by omega
      have hne : some k6 ≠ (Value.slice A' L.length c').ownBlock := fun e => by have := (hown.lt k6 e.symm).1; omega
      have hq2 : w2.heap[k6]? = some (.cells #[.slice A' L.length c'] 36 (0, 0)) := (hg2.block k6 (by simp; omega) hne).trans ((Below.heap_alloc _ _ _ hlt0).trans hkq.out)
      have cq := cell_of_row _ _ 0 _ _ _ hq2
      have zq := frozen_of_row _ _ 0 _ _ hq2
      have hgr : ∀ k, k < (ovr Z2 v3).heap.size → some k ≠ (Value.slice A' L.length c').ownBlock → w2.heap[k]? = (ovr Z2 v3).heap[k]? := fun k hk hne => (hg2.block k (by simp; omega) hne).trans (Below.heap_alloc _ _ _ hk)
      have hcells : ∀ gg, (Value.slice A' L.length c').ownBlock = some gg → V.heap.size ≤ gg ∧ ∃ o, (ovr Z2 v3).heap[gg]? = some o ∧ o.isCells = true := fun gg hg => own_cells hown hg
      have fin8 : Hid (KeepsFrom V.heap.size X (w2.setCell ⟨k6, 0, none⟩ (.slice (some ⟨g', 0, none⟩) (L.length + 1) cap')) ∧ KpL V.heap.size k6 X (w2.setCell ⟨k6, 0, none⟩ (.slice (some ⟨g', 0, none⟩) (L.length + 1) cap')) ∧ (∃ v, Boxed (w2.setCell ⟨k6, 0, none⟩ (.slice (some ⟨g', 0, none⟩) (L.length + 1) cap')) k6 36 v ∧ (w2.setCell ⟨k6, 0, none⟩ (.slice (some ⟨g', 0, none⟩) (L.length + 1) cap')).ownsRow V.heap.size 38 2 v (whL t y (pre ++ [⟨xk, hxk⟩])).length (rc (whL t y (pre ++ [⟨xk, hxk⟩]))) ∧ True) ∧ (w2.setCell ⟨k6, 0, none⟩ (.slice (some ⟨g', 0, none⟩) (L.length + 1) cap')).heap[w.heap.size]? = some (.cells #[I y.lo, I y.hi] 38 (0, 0)) ∧ Below w.heap.size w (w2.setCell ⟨k6, 0, none⟩ (.slice (some ⟨g', 0, none⟩) (L.length + 1) cap')) ∧ V.heap.size ≤ (w2.setCell ⟨k6, 0, none⟩ (.slice (some ⟨g', 0, none⟩) (L.length + 1) cap')).heap.size) := by
        show _ ∧ _
        obtain ⟨f1, f2, _, f4, f5, f6⟩ := Hz0.out
        have hB8 : Below w.heap.size w w2 := (f5.alloc f5.size _).grown hg2 (by simp; omega) (fun g hg => by have := (hown.lt g hg).1; omega)
        refine ⟨⟨by simp; omega, fun k o hk ho hc => ?_⟩, ⟨fun k hk hkq6 => ?_, by simp; omega⟩, ⟨.slice (some ⟨g', 0, none⟩) (L.length + 1) cap', ?_, ?_, trivial⟩, ?_, hB8.setCell (p := ⟨k6, 0, none⟩) (by show w.heap.size ≤ k6; omega) _, by simp; omega⟩
        · have h3 := f1.same k o hk ho hc
          have hkl := (Array.getElem?_eq_some_iff.1 h3).1
          rw [heap_setCell_other _ _ _ _ (by show k ≠ k6; omega), hgr k hkl (fun e => by
            obtain ⟨_, o', ho', hc'⟩ := hcells k e.symm
            rw [h3] at ho'; cases ho'; rw [hc] at hc'; cases hc')]
          exact h3
        · rw [heap_setCell_other _ _ _ _ (by show k ≠ k6; omega), hgr k (by omega) (fun e => by have := (hcells k e.symm).1; omega)]
          exact f2.1 k hk hkq6
        · exact heap_setCell_same _ _ 0 _ _ _ hq2
        · refine ownsRow_setCell_below ?_ (show k6 < V.heap.size by omega) _
          rw [Hnew.out, Hst.out, hrc.out]
          simpa using own3
        · rw [heap_setCell_other _ _ _ _ (by show w.heap.size ≠ k6; omega), hgr _ (by omega) (fun e => by have := (hcells _ e.symm).1; omega)]
          exact f4
      clear hq2 hgr hcells gsz hg2 own3 hown
      gi_wp2
      rw [← HX0.out]
      exact fin8.out
    · obtain ⟨g, c2, e, gB, gl⟩ : ∃ g c2, (.slice A' L.length c' : Value) = .slice (some ⟨g, 0, none⟩) L.length c2 ∧ V.heap.size ≤ g ∧ g < X.heap.size := by
        rcases Hrow.out.2 with ⟨h, hnil⟩ | ⟨g, cap, cur, h, hb, hg, _⟩
        · exfalso; injection h with _ h2; omega
        · exact ⟨g, cap, h, hb, (Array.getElem?_eq_some_iff.1 hg).1⟩
      injection e with e1 e2 e3
      subst e1
      clear e2 e3
      obtain ⟨b', o', hA, hcc⟩ := rng_all HR.out hn0
      (injection hA with ea; injection ea with ea1 ea2; subst ea1 ea2)
      have hce := (hcc (L.length - 1) (by omega)).2
      rw [Nat.zero_add] at hce
      obtain ⟨z, hz⟩ : ∃ z, at0 L (L.length - 1) = z := ⟨_, rfl⟩
      have hzb := Hbd.out.1 (L.length - 1) (by omega)
      rw [hz] at hce hzb Hst
      have e1 : ∀ u, (ovr Z2 u).cell? ⟨g, (L.length - 1) * 2 + 1, none⟩ = some (I z.hi) := fun u => ((HB2.out u).cell (p := ⟨g, _, none⟩) gl).trans hce
      have s2 : (0 : Int) ≤ (L.length : Int) - 1 := by omega
      have s3 : (1 : Int) ≤ (L.length : Int) := by omega
      have s4 : ((L.length : Int) - 1).toNat = L.length - 1 := by omega
      have s5 : (L.length : Int) - 1 < (L.length : Int) := by omega
      have s6 : decide (1 ≤ L.length) = true := decide_eq_true (by omega)
      have s7 : IntKind.i64.wrap (z.hi + 1) = z.hi + 1 := IntWalk.i64_in _ (by omega)
      have s8 : 0 < L.length := hn0
      have Hn0 := Lib.hid hn0
      clear hcc hce hn0
      by_cases h2 : r.lo ≤ z.hi + 1
      · rw [if_pos ⟨by omega, h2⟩] at Hst
        have h2b : decide (r.lo ≤ z.hi + 1) = true := decide_eq_true h2
        clear h2
        refine wpIn_region_seq 14 hF  (fun _ => none) (by kernel_rfl) (by kernel_rfl) (by kernel_rfl) (by kernel_rfl) (by kernel_rfl) ?_
        simp only [List.take_succ_cons, List.take_zero, List.drop_succ_cons, List.drop_zero]
        repeat (first | (refine wpG_one rfl rfl rfl ?_; intro K hK; go_big_quiet_op; go_big_quiet_on) | (refine wpG_skip rfl ?_; simp only [Act.put, List.setIfInBounds_toArray, List.set_cons_zero, List.set_cons_succ]))
        refine wpG_nil (fun w5 hw5 hG => ?_)
        clear hG
        obtain ⟨v3, rfl⟩ : ∃ q, w5 = ovr Z2 q := ⟨w5, ovr_of hw5.le⟩
        clear hw5
        refine wpTailIn_nil ?_
        have hle := HB2.out v3
        have hown := own_below Hrow.out hle
        have zf := hown.frozenAt ((L.length - 1) * 2 + 1)
        have hst := hown.stored ((L.length - 1) * 2 + 1) (I r.hi)
        have Hst2 := Lib.hid hst
        have hz0 := fin1.out _ hle
        have hcells := own_cells hown (g := g) rfl
        have Hz0 := Lib.hid hz0
        have Hcells := Lib.hid hcells
        have hlen : Hid ((whL t y (pre ++ [⟨xk, hxk⟩])).length = L.length ∧ rc (whL t y (pre ++ [⟨xk, hxk⟩])) = (rc L).set ((L.length - 1) * 2 + 1) (I r.hi)) := by
          show _ ∧ _
          have := rc_set (l := L) (by omega) r.hi
          rw [hz] at this
          rw [Hnew.out, Hst.out]
          exact ⟨by simp; omega, this⟩
        have finB : Hid (KeepsFrom V.heap.size X ((ovr Z2 v3).setCell ⟨g, (L.length - 1) * 2 + 1, none⟩ (I r.hi)) ∧ KpL V.heap.size k6 X ((ovr Z2 v3).setCell ⟨g, (L.length - 1) * 2 + 1, none⟩ (I r.hi)) ∧ (∃ v, Boxed ((ovr Z2 v3).setCell ⟨g, (L.length - 1) * 2 + 1, none⟩ (I r.hi)) k6 36 v ∧ World.ownsRow ((ovr Z2 v3).setCell ⟨g, (L.length - 1) * 2 + 1, none⟩ (I r.hi)) V.heap.size 38 2 v (whL t y (pre ++ [⟨xk, hxk⟩])).length (rc (whL t y (pre ++ [⟨xk, hxk⟩])))) ∧ (((ovr Z2 v3).setCell ⟨g, (L.length - 1) * 2 + 1, none⟩ (I r.hi))).heap[w.heap.size]? = some (.cells #[I y.lo, I y.hi] 38 (0, 0)) ∧ Below w.heap.size w ((ovr Z2 v3).setCell ⟨g, (L.length - 1) * 2 + 1, none⟩ (I r.hi)) ∧ V.heap.size ≤ (((ovr Z2 v3).setCell ⟨g, (L.length - 1) * 2 + 1, none⟩ (I r.hi))).heap.size) := by
          show _ ∧ _
          obtain ⟨f1, f2, _, f4, f5, f6⟩ := Hz0.out
          have hgk : g ≠ k6 := by omega
          refine ⟨f1.trans ((KeepsOthers.setCell _ _ _).from _), ⟨fun k hk hkq6 => (heap_setCell_other _ _ _ _ (by show k ≠ g; omega)).trans (f2.1 k hk hkq6), by have := f2.2; simpa using this⟩, ⟨.slice (some ⟨g, 0, none⟩) L.length c', (heap_setCell_other _ _ _ _ (by show k6 ≠ g; omega)).trans (((HB2.out v3).block _ k6X).trans Hv.out), ?_⟩, (heap_setCell_other _ _ _ _ (by show w.heap.size ≠ g; omega)).trans f4, f5.setCell (p := ⟨g, _, none⟩) (by show w.heap.size ≤ g; omega) _, by simpa using f6⟩
          rw [hlen.out.1, hlen.out.2]
          exact Hst2.out.1
        clear hz0 hle hcells hown hst hz
        gi_wp2
        rw [← HX0.out]
        first
        | exact finB.out
        | (obtain ⟨f1, f2, ⟨v9, f3, f7⟩, f4⟩ := finB.out; exact ⟨f1, f2, ⟨v9, f3, f7, trivial⟩, f4⟩)
      · rw [if_neg (fun h => h2 h.2)] at Hst
        have h2b : decide (r.lo ≤ z.hi + 1) = false := decide_eq_false h2
        clear h2 hz
        refine wpIn_region_seq 14 hF  (fun _ => none) (by kernel_rfl) (by kernel_rfl) (by kernel_rfl) (by kernel_rfl) (by kernel_rfl) ?_
        simp only [List.take_succ_cons, List.take_zero, List.drop_succ_cons, List.drop_zero]
        repeat (first | (refine wpG_one rfl rfl rfl ?_; intro K hK; go_big_quiet_op; go_big_quiet_on) | (refine wpG_skip rfl ?_; simp only [Act.put, List.setIfInBounds_toArray, List.set_cons_zero, List.set_cons_succ]))
        refine wpG_nil (fun w5 hw5 hG => ?_)
        clear hG
        obtain ⟨v3, rfl⟩ : ∃ q, w5 = ovr Z2 q := ⟨w5, ovr_of hw5.le⟩
        clear hw5 e1 s7 s8
        refine wpTailIn_nil ?_
        have hle := HB2.out v3
        have hown := own_below Hrow.out hle
        have hrc := Lib.hid (rc_app L r)
        have hsz3 := hle.size
        have hkq : Hid ((ovr Z2 v3).heap[k6]? = some (.cells #[.slice (some ⟨g, 0, none⟩) L.length c'] 36 (0, 0))) := (hle.block _ k6X).trans Hv.out
        have hz0 := fin1.out _ hle
        have Hz0 := Lib.hid hz0
        have HLE := Lib.hid hle
        clear hz0 hle s1 s2 s3 s4 s5 s6
        gi_wp2_with (gi_at_builtin; refine wpListIn_append_own _ rfl _ _ 36 rfl V.heap.size 38 i0 _ 2 16 Try.underlying36 hi0 iz0 iz1 iz2 rfl (by decide) _ L.length (rc L) rfl (hown.alloc _) ⟨(ovr Z2 v3).heap.size, 0, none⟩ 1 1 [I r.lo, I r.hi] rfl (by rfl) (news_lit (cs := #[I r.lo, I r.hi]) (heap_last _ _ _ rfl)) ?h1 ?h63 ?hby ?hba ?_)
        case h1 => simp [Value.oneCell']
        case h63 => unfold maxLen; omega
        case hby => omega
        case hba => first | omega | (simp; omega)
        intro v' w2 own3 hg2 _
        obtain ⟨g', cap', rfl⟩ := ownsRow_succ own3
        have gsz := hg2.size
        rw [World.size_alloc] at gsz
        have hlt0 : k6 < (ovr Z2 v3).heap.size := by omega
        have hne : some k6 ≠ (Value.slice (some ⟨g, 0, none⟩) L.length c').ownBlock := fun e => by have := (hown.lt k6 e.symm).1; omega
        have hq2 : w2.heap[k6]? = some (.cells #[.slice (some ⟨g, 0, none⟩) L.length c'] 36 (0, 0)) := (hg2.block k6 (by simp; omega) hne).trans ((Below.heap_alloc _ _ _ hlt0).trans hkq.out)
        have cq := cell_of_row _ _ 0 _ _ _ hq2
        have zq := frozen_of_row _ _ 0 _ _ hq2
        have hgr : ∀ k, k < (ovr Z2 v3).heap.size → some k ≠ (Value.slice (some ⟨g, 0, none⟩) L.length c').ownBlock → w2.heap[k]? = (ovr Z2 v3).heap[k]? := fun k hk hne => (hg2.block k (by simp; omega) hne).trans (Below.heap_alloc _ _ _ hk)
        have hcells : ∀ gg, (Value.slice (some ⟨g, 0, none⟩) L.length c').ownBlock = some gg → V.heap.size ≤ gg ∧ ∃ o, (ovr Z2 v3).heap[gg]? = some o ∧ o.isCells = true := fun gg hg => own_cells hown hg
        have fin8 : Hid (KeepsFrom V.heap.size X (w2.setCell ⟨k6, 0, none⟩ (.slice (some ⟨g', 0, none⟩) (L.length + 1) cap')) ∧ KpL V.heap.size k6 X (w2.setCell ⟨k6, 0, none⟩ (.slice (some ⟨g', 0, none⟩) (L.length + 1) cap')) ∧ (∃ v, Boxed (w2.setCell ⟨k6, 0, none⟩ (.slice (some ⟨g', 0, none⟩) (L.length + 1) cap')) k6 36 v ∧ (w2.setCell ⟨k6, 0, none⟩ (.slice (some ⟨g', 0, none⟩) (L.length + 1) cap')).ownsRow V.heap.size 38 2 v (whL t y (pre ++ [⟨xk, hxk⟩])).length (rc (whL t y (pre ++ [⟨xk, hxk⟩]))) ∧ True) ∧ (w2.setCell ⟨k6, 0, none⟩ (.slice (some ⟨g', 0, none⟩) (L.length + 1) cap')).heap[w.heap.size]? = some (.cells #[I y.lo, I y.hi] 38 (0, 0)) ∧ Below w.heap.size w (w2.setCell ⟨k6, 0, none⟩ (.slice (some ⟨g', 0, none⟩) (L.length + 1) cap')) ∧ V.heap.size ≤ (w2.setCell ⟨k6, 0, none⟩ (.slice (some ⟨g', 0, none⟩) (L.length + 1) cap')).heap.size) := by
          show _ ∧ _
          obtain ⟨f1, f2, _, f4, f5, f6⟩ := Hz0.out
          have hB8 : Below w.heap.size w w2 := (f5.alloc f5.size _).grown hg2 (by simp; omega) (fun g hg => by have := (hown.lt g hg).1; omega)
          refine ⟨⟨by simp; omega, fun k o hk ho hc => ?_⟩, ⟨fun k hk hkq6 => ?_, by simp; omega⟩, ⟨.slice (some ⟨g', 0, none⟩) (L.length + 1) cap', ?_, ?_, trivial⟩, ?_, hB8.setCell (p := ⟨k6, 0, none⟩) (by show w.heap.size ≤ k6; omega) _, by simp; omega⟩
          · have h3 := f1.same k o hk ho hc
            have hkl := (Array.getElem?_eq_some_iff.1 h3).1
            rw [heap_setCell_other _ _ _ _ (by show k ≠ k6; omega), hgr k hkl (fun e => by
              obtain ⟨_, o', ho', hc'⟩ := hcells k e.symm
              rw [h3] at ho'; cases ho'; rw [hc] at hc'; cases hc')]
            exact h3
          · rw [heap_setCell_other _ _ _ _ (by show k ≠ k6; omega), hgr k (by omega) (fun e => by have := (hcells k e.symm).1; omega)]
            exact f2.1 k hk hkq6
          · exact heap_setCell_same _ _ 0 _ _ _ hq2
          · refine ownsRow_setCell_below ?_ (show k6 < V.heap.size by omega) _
            rw [Hnew.out, Hst.out, hrc.out]
            simpa using own3
          · rw [heap_setCell_other _ _ _ _ (by show w.heap.size ≠ k6; omega), hgr _ (by omega) (fun e => by have := (hcells _ e.symm).1; omega)]
            exact f4
        clear hq2 hgr hcells gsz hg2 own3 hown
        gi_wp2
        rw [← HX0.out]
        exact fin8.out
  case done =>
    rintro D ys X hD rfl ⟨⟨v, hv, hrow, _⟩, hry, hbw, hsX⟩ hK
    obtain ⟨A', c', rfl, hc', hR⟩ := Rd.of_rc rfl hrow
    have hcv := hv.cell
    have hown := ownsRow_putObj hrow (.deferred none) hK rfl
    obtain ⟨A2, c2, he, hc2, hR2⟩ := Rd.of_rc rfl hown
    have HR2 := Lib.hid hR2
    have HE : Hid (A' = A2 ∧ c' = c2) := by show _ ∧ _; injection he with h1 h2 h3; exact ⟨h1, h3⟩
    have HBW : Hid (Below w.heap.size w (X.putObj D (.deferred none))) := hbw.grown (grownBy_putObj' X D _) hbw.size (fun k e => by cases e; omega)
    have HK := Lib.hid hK
    have HC := Lib.hid hc'
    clear hR hrow hown hR2 he hc2 hry hbw hv hK hc'
    go_wp2_with fail
    refine ⟨by simp, .inl ⟨_, _, rfl, run_takeDeferred HK.out, ?_⟩⟩
    exact ⟨_, results_tmp2 rfl _ _ _, A', _, c', by rw [hf.out]; rfl, by rw [hf.out], HC.out, by rw [hf.out, HE.out.1]; exact HR2.out, HBW.out⟩
  case stop =>
    rintro D c' pre X _ _ h _
    exact h.elim
end Go.Proofs.Ytmadlmmfbpmebaa
/- The contract of Inverse of package units. -/
namespace Go.Proofs.Ytmadlmmfbpmebaa
open Go.RowKit
def inF (q : List Rng × Int) : Rng × Int := if q.2 = 0 then (if q.1.length = 0 then (⟨0, 0⟩, 7) else (⟨(at0 q.1 0).lo, (at0 q.1 (q.1.length - 1)).hi⟩, 0)) else (⟨0, 0⟩, q.2)
set_option maxRecDepth 100000 in
set_option maxHeartbeats 4000000 in
theorem inverse_any (A : Option Addr) (n c : Nat) (t : List Rng) (y : Rng) (w : World) (B : Nat) (hn : n = t.length) (hm : n ≤ maxLen) (hB : B ≤ w.heap.size) (hx : Rd w B 2 A n (rR t)) :
    Calls Try.prog 50 #[.slice A n c, y.val] w (RetRn w (inF (weF t y))) := by
  subst hn
  have hf : Hid (inF (weF t y) = if (weF t y).2 = 0 then (if (weF t y).1.length = 0 then (⟨0, 0⟩, 7) else (⟨(at0 (weF t y).1 0).lo, (at0 (weF t y).1 ((weF t y).1.length - 1)).hi⟩, 0)) else (⟨0, 0⟩, (weF t y).2)) := rfl
  have HX : Hid (∀ W', Below w.heap.size w W' → Rd W' B 2 A t.length (rR t) ∧ B ≤ W'.heap.size) := fun W' h => ⟨hx.below (h.mono hB), Nat.le_trans hB h.size⟩
  have ct : Hid (∀ W', Rd W' B 2 A t.length (rR t) ∧ B ≤ W'.heap.size → Calls Try.prog 41 #[.slice A t.length c, y.val] W' (RetL W' (weF t y))) := fun W' h => where2_any A t.length c t y W' B rfl hm h.2 h.1
  have hln : (weF t y).1.length ≤ 100 := by
    unfold weF
    split
    · rename_i h
      rw [Bool.and_eq_true] at h
      have ht := tab_iff.1 h.1
      have h1 := (whL_facts ht h.2 (pcs t (t.length - 1))).2
      have h2 := pcs_len (t := t) (k := t.length - 1) (by have := ht.n2; omega)
      have := ht.n60
      simp only
      omega
    · simp
  clear hx hB hm
  obtain ⟨q, hq⟩ : ∃ q, weF t y = q := ⟨_, rfl⟩
  rw [hq] at hf ct hln
  rw [hq]
  clear hq
  obtain ⟨L, ec⟩ := q
  simp only at hf hln
  obtain ⟨W, hW⟩ : ∃ W, W = ((w.alloc (.cells #[I y.lo, I y.hi] 38)).alloc (.cells #[I 0, I 0] 38)) := ⟨_, rfl⟩
  have rowW0 : W.heap[w.heap.size]? = some (.cells #[I y.lo, I y.hi] 38 (0, 0)) := by rw [hW]; exact heap_before (heap_last _ _ _ rfl)
  have yW00 := ovr_cell (W := W) (b := w.heap.size) (o := 0) (v := I y.lo) (by rw [cell_of_row _ _ _ _ _ _ rowW0]; rfl)
  have yW01 := ovr_cell (W := W) (b := w.heap.size) (o := 1) (v := I y.hi) (by rw [cell_of_row _ _ _ _ _ _ rowW0]; rfl)
  have RrowW0 := Lib.hid (ovr_row rowW0)
  clear rowW0
  have rowW1 : W.heap[w.heap.size + 1]? = some (.cells #[I 0, I 0] 38 (0, 0)) := by rw [hW]; exact heap_last _ _ _ (by simp)
  have yW10 := ovr_cell (W := W) (b := w.heap.size + 1) (o := 0) (v := I 0) (by rw [cell_of_row _ _ _ _ _ _ rowW1]; rfl)
  have yW11 := ovr_cell (W := W) (b := w.heap.size + 1) (o := 1) (v := I 0) (by rw [cell_of_row _ _ _ _ _ _ rowW1]; rfl)
  have RrowW1 := Lib.hid (ovr_row rowW1)
  clear rowW1
  have HUW : Hid (∀ u, Below w.heap.size w (ovr W u)) := U2 hW
  have HW := Lib.hid hW
  clear hW
  go_enter Try.func50, Try.ntmps50
  go_upto_region 1 with (fail)
  rw [← HW.out]
  obtain ⟨u0, hu0⟩ := ovr_self W
  rw [hu0]
  clear hu0
  go_wp2_with fail
  refine (ct.out _ (HX.out _ (HUW.out _))).mono ?_
  rintro e w1 ⟨A', n', c', rfl, hn', hc', hR, hb1⟩
  simp only at hn'
  subst hn'
  obtain ⟨u1, rfl⟩ := ovr_next hb1
  have HR := Lib.hid hR
  clear hb1 hc' hR
  by_cases h0 : ec = 0
  case neg =>
    rw [if_neg h0] at hf
    have h0b : (ec == 0) = false := by simpa using h0
    have h0c : (ec != 0) = true := by simpa using h0
    clear h0
    go_wp2_with (refine wpList_store_row rfl 38 _ _ rfl (w.heap.size + 1) rfl _ _ (RrowW1.out _) _ rfl (one2 rfl rfl) rfl (by kernel_rfl) ?_)
    refine bodyPost_ret (results_cell_tmp rfl _ _ (w.heap.size + 1) 38 _ (0, 0) _ rfl (setRow_same (RrowW1.out _)) Try.underlying38 rfl (by kernel_rfl)) rfl ?_
    exact ⟨by rw [hf.out]; rfl, below_setRow (HUW.out _) (by omega) _⟩
  subst h0
  rw [if_pos rfl] at hf
  rcases Nat.eq_zero_or_pos L.length with h1 | h1
  · rw [if_pos h1] at hf
    have h1b : ((L.length : Int) == 0) = true := by rw [h1]; rfl
    have H1 := Lib.hid h1
    clear h1
    go_wp2_with (refine wpList_store_row rfl 38 _ _ rfl (w.heap.size + 1) rfl _ _ (RrowW1.out _) _ rfl (one2 rfl rfl) rfl (by kernel_rfl) ?_)
    refine bodyPost_ret (results_cell_tmp rfl _ _ (w.heap.size + 1) 38 _ (0, 0) _ rfl (setRow_same (RrowW1.out _)) Try.underlying38 rfl (by kernel_rfl)) rfl ?_
    exact ⟨by rw [hf.out]; rfl, below_setRow (HUW.out _) (by omega) _⟩
  rw [if_neg (by omega)] at hf
  have h1b : ((L.length : Int) == 0) = false := by rw [beq_eq_false_iff_ne]; omega
  obtain ⟨b, o, rfl, hcc⟩ := rng_all HR.out h1
  go_upto_region 6 with (fail)
  have e0 := (hcc 0 h1).1
  have e1 := (hcc (L.length - 1) (by omega)).2
  rw [Nat.zero_mul, Nat.add_zero] at e0
  have hbX := ovr_below W u1
  obtain ⟨X, hX⟩ : ∃ X, X = ovr W u1 := ⟨_, rfl⟩
  rw [← hX] at hbX
  rw [← hX]
  have hX' := Lib.hid hX
  clear hX
  have hbX' := Lib.hid hbX
  have reX : ∀ v, ∃ x, ovr X v = ovr W x := fun v => ovr_reB hbX v
  replace yW00 := tr_cell reX yW00
  replace yW01 := tr_cell reX yW01
  replace RrowW0 := Lib.hid (tr_row reX RrowW0.out)
  replace yW10 := tr_cell reX yW10
  replace yW11 := tr_cell reX yW11
  replace RrowW1 := Lib.hid (tr_row reX RrowW1.out)
  have HUX : Hid (∀ u, Below w.heap.size w (ovr X u)) := fun u => by obtain ⟨x, hx⟩ := reX u; rw [hx]; exact HUW.out x
  clear reX hbX
  rw [← hX'.out] at e0 e1
  have e0 := ovr_cell e0
  have e1 := ovr_cell e1
  have s1 : IntKind.i64.wrap ((L.length : Int) - 1) = (L.length : Int) - 1 := IntWalk.i64_in _ (by omega)
  have s2 : (0 : Int) ≤ (L.length : Int) - 1 := by omega
  have s3 : ((L.length : Int) - 1).toNat = L.length - 1 := by omega
  have s4 : (L.length : Int) - 1 < (L.length : Int) := by omega
  have s5 : (1 : Int) ≤ (L.length : Int) := by omega
  clear hcc
  refine wp_region_seq 12 (fun _ => none) (by kernel_rfl) (by kernel_rfl) (by kernel_rfl) (by kernel_rfl) ?_
  simp only [List.take_succ_cons, List.take_zero, List.drop_succ_cons, List.drop_zero]
  repeat (first | (refine wpG_one rfl rfl rfl ?_; intro K hK; go_big_quiet_op; go_big_quiet_on) | (refine wpG_skip rfl ?_; simp only [Act.put, List.setIfInBounds_toArray, List.set_cons_zero, List.set_cons_succ]))
  refine wpG_nil (fun w5 hw5 hG => ?_)
  clear hG
  obtain ⟨u9, rfl⟩ : ∃ x, w5 = ovr X x := ⟨w5, ovr_of hw5.le⟩
  clear hw5 s1 s2 s3 s4 s5
  refine wpTail_cons ?_
  refine wp_store_row 38 _ _ rfl (w.heap.size + 1) rfl _ _ (RrowW1.out _) _ rfl (one2 rfl rfl) rfl (by kernel_rfl) ?_
  refine wpTail_cons ?_
  refine wp_assign _ (I 0) rfl rfl ?_
  refine wpTail_nil ?_
  simp only [Act.put, List.setIfInBounds_toArray, List.set_cons_zero, List.set_cons_succ]
  go_wp2_with fail
  refine bodyPost_ret (results_cell_tmp rfl _ _ (w.heap.size + 1) 38 _ (0, 0) _ rfl (setRow_same (RrowW1.out _)) Try.underlying38 rfl (by kernel_rfl)) rfl ?_
  exact ⟨by rw [hf.out]; rfl, below_setRow (HUX.out _) (by omega) _⟩
end Go.Proofs.Ytmadlmmfbpmebaa
