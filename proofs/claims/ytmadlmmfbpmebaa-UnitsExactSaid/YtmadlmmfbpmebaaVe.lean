/- The contracts of from, upto, where of a line of package units. -/
import Derived.Test.YtmadlmmfbpmebaaVd
namespace Go.Proofs.Ytmadlmmfbpmebaa
open Go.RowKit
/-- A rising piece, and a number. -/
structure RsOk (p q : Rng) (y : Int) : Prop where
  x0 : -1000000000000 ≤ p.lo
  y0 : -1000000000000 ≤ p.hi ∧ p.hi ≤ 1000000000000
  x1 : q.lo ≤ 1000000000000
  y1 : -1000000000000 ≤ q.hi ∧ q.hi ≤ 1000000000000
  up : p.lo < q.lo
  rise : p.hi ≤ q.hi
  num : -1000000000000000 ≤ y ∧ y ≤ 1000000000000000
def frF (p q : Rng) (y : Int) : Int :=
  if y ≤ p.hi then p.lo else if q.hi < y then q.lo + 1 else if 0 < (y - p.hi) * (q.lo - p.lo) % (q.hi - p.hi) then p.lo + ((y - p.hi) * (q.lo - p.lo) / (q.hi - p.hi) + 1) else p.lo + (y - p.hi) * (q.lo - p.lo) / (q.hi - p.hi)
def utF (p q : Rng) (y : Int) : Int :=
  if q.hi ≤ y then q.lo else if y < p.hi then p.lo - 1 else p.lo + (y - p.hi) * (q.lo - p.lo) / (q.hi - p.hi)
set_option maxRecDepth 100000 in
set_option maxHeartbeats 4000000 in
theorem from_any (p q : Rng) (y : Int) (w : World) (h : RsOk p q y) : Calls Try.prog 117 #[.agg #[I p.lo, I p.hi, I q.lo, I q.hi], I y] w fun e w' => e = .returned (I (frF p q y)) ∧ Below w.heap.size w w' := by
  have Hh := Lib.hid h
  obtain ⟨h1, h2, h3, h4, h5, h6, h7⟩ := h
  have hat : Hid (frF p q y = if y ≤ p.hi then p.lo else if q.hi < y then q.lo + 1 else if 0 < (y - p.hi) * (q.lo - p.lo) % (q.hi - p.hi) then p.lo + ((y - p.hi) * (q.lo - p.lo) / (q.hi - p.hi) + 1) else p.lo + (y - p.hi) * (q.lo - p.lo) / (q.hi - p.hi)) := rfl
  have c1 : IntKind.i64.wrap (q.hi - p.hi) = q.hi - p.hi := IntWalk.i64_in _ (by omega)
  have c3 : IntKind.i64.wrap (q.lo - p.lo) = q.lo - p.lo := IntWalk.i64_in _ (by omega)
  have c6 : Hid (IntKind.i64.wrap (q.lo + 1) = q.lo + 1) := IntWalk.i64_in _ (by omega)
  clear h1 h2 h3 h4 h5 h6 h7
  obtain ⟨pl, ph⟩ := p
  obtain ⟨ql, qh⟩ := q
  simp only at hat c1 c3 c6
  obtain ⟨W, hW⟩ : ∃ W, W = (w.alloc (.cells #[I pl, I ph, I ql, I qh] 126)) := ⟨_, rfl⟩
  have rowW0 : W.heap[w.heap.size]? = some (.cells #[I pl, I ph, I ql, I qh] 126 (0, 0)) := by rw [hW]; exact heap_last _ _ _ rfl
  have yW00 := ovr_cell (W := W) (b := w.heap.size) (o := 0) (v := I pl) (by rw [cell_of_row _ _ _ _ _ _ rowW0]; rfl)
  have yW01 := ovr_cell (W := W) (b := w.heap.size) (o := 1) (v := I ph) (by rw [cell_of_row _ _ _ _ _ _ rowW0]; rfl)
  have yW02 := ovr_cell (W := W) (b := w.heap.size) (o := 2) (v := I ql) (by rw [cell_of_row _ _ _ _ _ _ rowW0]; rfl)
  have yW03 := ovr_cell (W := W) (b := w.heap.size) (o := 3) (v := I qh) (by rw [cell_of_row _ _ _ _ _ _ rowW0]; rfl)
  have RrowW0 := Lib.hid (ovr_row rowW0)
  clear rowW0
  have HUW : Hid (∀ u, Below w.heap.size w (ovr W u)) := U1 hW
  have HW := Lib.hid hW
  clear hW
  go_enter Try.func117, Try.ntmps117
  go_upto_region 1 with (fail)
  rw [← HW.out]
  refine wp_region_below_lit (by kernel_rfl) (by kernel_rfl) ?_
  repeat (go_big_quiet_step (fail))
  refine wpQuiet_nil ?_
  intro w1 hb1
  obtain ⟨u1, rfl⟩ : ∃ u, w1 = ovr W u := ⟨w1, ovr_of hb1⟩
  clear hb1 c1 c3
  have c6 := c6.out
  by_cases k1 : y ≤ ph
  · rw [if_pos k1] at hat
    have k1b : decide (y ≤ ph) = true := decide_eq_true k1
    clear k1
    go_wp2_with fail
    go_ret
    exact ⟨ret_int hat.out.symm, HUW.out _⟩
  rw [if_neg k1] at hat
  have k1b : decide (y ≤ ph) = false := decide_eq_false k1
  by_cases k2 : qh < y
  · rw [if_pos k2] at hat
    have k2b : decide (qh < y) = true := decide_eq_true k2
    have K1 := Lib.hid k1
    clear k1 k2
    go_wp2_with fail
    go_ret
    exact ⟨ret_int hat.out.symm, HUW.out _⟩
  rw [if_neg k2] at hat
  have k2b : decide (qh < y) = false := decide_eq_false k2
  have hh := Hh.out
  obtain ⟨h1, h2, h3, h4, h5, h6, h7⟩ := hh
  simp only at h1 h2 h3 h4 h5 h6 h7
  have hp := part_le (a := ql - pl) (b := y - ph) (c := qh - ph) (by omega) (by omega) (by omega)
  rw [Int.mul_comm] at hp
  have hfa := ovF_near (v := (y - ph) * (ql - pl)) (c := qh - ph) (by omega)
  have hm : 0 ≤ (y - ph) * (ql - pl) % (qh - ph) := Int.emod_nonneg _ (by omega)
  have cp : Hid (∀ W, Calls Try.prog 68 #[I (y - ph), I (ql - pl)] W fun e w' => e = .returned (wdV ((y - ph) * (ql - pl))) ∧ Below W.heap.size W w') := fun W => product_any _ _ W (by omega) (by omega)
  have co : Hid (∀ W, Calls Try.prog 69 #[wdV ((y - ph) * (ql - pl)), I (qh - ph)] W fun e w' => e = .returned (.tuple #[I ((y - ph) * (ql - pl) / (qh - ph)), I ((y - ph) * (ql - pl) % (qh - ph)), .bool true]) ∧ Below W.heap.size W w') := fun W => by
    have := over_any ((y - ph) * (ql - pl)) (qh - ph) W (by omega)
    rw [hfa] at this
    exact this
  obtain ⟨n, hn⟩ : ∃ n, (y - ph) * (ql - pl) / (qh - ph) = n := ⟨_, rfl⟩
  obtain ⟨r, hr⟩ : ∃ r, (y - ph) * (ql - pl) % (qh - ph) = r := ⟨_, rfl⟩
  rw [hn, hr] at hat co
  rw [hn] at hp
  have hb : -2000000000000 ≤ n ∧ n ≤ 2000000000000 := by omega
  have c2 : IntKind.i64.wrap (y - ph) = y - ph := IntWalk.i64_in _ (by omega)
  have c4 : IntKind.i64.wrap (pl + n) = pl + n := IntWalk.i64_in _ (by omega)
  have c5 : IntKind.i64.wrap (n + 1) = n + 1 := IntWalk.i64_in _ (by omega)
  have c7 : IntKind.i64.wrap (pl + (n + 1)) = pl + (n + 1) := IntWalk.i64_in _ (by omega)
  have Kk := Lib.hid (And.intro k1 k2)
  clear hn hr hp hfa hm h1 h2 h3 h4 h5 h6 h7 k1 k2
  go_wp2_with fail
  refine (cp.out _).mono ?_
  rintro e w1 ⟨rfl, hb1⟩
  obtain ⟨u2, rfl⟩ := ovr_next hb1
  clear hb1
  go_wp2_with fail
  refine (co.out _).mono ?_
  rintro e w1 ⟨rfl, hb1⟩
  obtain ⟨u3, rfl⟩ := ovr_next hb1
  clear hb1
  by_cases hr0 : 0 < r
  · rw [if_pos hr0] at hat
    have hrb : decide (0 < r) = true := decide_eq_true hr0
    clear hr0
    go_wp2_with fail
    go_ret
    exact ⟨ret_int hat.out.symm, HUW.out _⟩
  · rw [if_neg hr0] at hat
    have hrb : decide (0 < r) = false := decide_eq_false hr0
    clear hr0
    go_wp2_with fail
    go_ret
    exact ⟨ret_int hat.out.symm, HUW.out _⟩
set_option maxRecDepth 100000 in
set_option maxHeartbeats 4000000 in
theorem upto_any (p q : Rng) (y : Int) (w : World) (h : RsOk p q y) : Calls Try.prog 118 #[.agg #[I p.lo, I p.hi, I q.lo, I q.hi], I y] w fun e w' => e = .returned (I (utF p q y)) ∧ Below w.heap.size w w' := by
  have Hh := Lib.hid h
  obtain ⟨h1, h2, h3, h4, h5, h6, h7⟩ := h
  have hat : Hid (utF p q y = if q.hi ≤ y then q.lo else if y < p.hi then p.lo - 1 else p.lo + (y - p.hi) * (q.lo - p.lo) / (q.hi - p.hi)) := rfl
  have c1 : IntKind.i64.wrap (q.hi - p.hi) = q.hi - p.hi := IntWalk.i64_in _ (by omega)
  have c3 : IntKind.i64.wrap (q.lo - p.lo) = q.lo - p.lo := IntWalk.i64_in _ (by omega)
  have c6 : Hid (IntKind.i64.wrap (p.lo - 1) = p.lo - 1) := IntWalk.i64_in _ (by omega)
  clear h1 h2 h3 h4 h5 h6 h7
  obtain ⟨pl, ph⟩ := p
  obtain ⟨ql, qh⟩ := q
  simp only at hat c1 c3 c6
  obtain ⟨W, hW⟩ : ∃ W, W = (w.alloc (.cells #[I pl, I ph, I ql, I qh] 126)) := ⟨_, rfl⟩
  have rowW0 : W.heap[w.heap.size]? = some (.cells #[I pl, I ph, I ql, I qh] 126 (0, 0)) := by rw [hW]; exact heap_last _ _ _ rfl
  have yW00 := ovr_cell (W := W) (b := w.heap.size) (o := 0) (v := I pl) (by rw [cell_of_row _ _ _ _ _ _ rowW0]; rfl)
  have yW01 := ovr_cell (W := W) (b := w.heap.size) (o := 1) (v := I ph) (by rw [cell_of_row _ _ _ _ _ _ rowW0]; rfl)
  have yW02 := ovr_cell (W := W) (b := w.heap.size) (o := 2) (v := I ql) (by rw [cell_of_row _ _ _ _ _ _ rowW0]; rfl)
  have yW03 := ovr_cell (W := W) (b := w.heap.size) (o := 3) (v := I qh) (by rw [cell_of_row _ _ _ _ _ _ rowW0]; rfl)
  have RrowW0 := Lib.hid (ovr_row rowW0)
  clear rowW0
  have HUW : Hid (∀ u, Below w.heap.size w (ovr W u)) := U1 hW
  have HW := Lib.hid hW
  clear hW
  go_enter Try.func118, Try.ntmps118
  go_upto_region 1 with (fail)
  rw [← HW.out]
  refine wp_region_below_lit (by kernel_rfl) (by kernel_rfl) ?_
  repeat (go_big_quiet_step (fail))
  refine wpQuiet_nil ?_
  intro w1 hb1
  obtain ⟨u1, rfl⟩ : ∃ u, w1 = ovr W u := ⟨w1, ovr_of hb1⟩
  clear hb1 c1 c3
  have c6 := c6.out
  by_cases k1 : qh ≤ y
  · rw [if_pos k1] at hat
    have k1b : decide (qh ≤ y) = true := decide_eq_true k1
    clear k1
    go_wp2_with fail
    go_ret
    exact ⟨ret_int hat.out.symm, HUW.out _⟩
  rw [if_neg k1] at hat
  have k1b : decide (qh ≤ y) = false := decide_eq_false k1
  by_cases k2 : y < ph
  · rw [if_pos k2] at hat
    have k2b : decide (y < ph) = true := decide_eq_true k2
    have K1 := Lib.hid k1
    clear k1 k2
    go_wp2_with fail
    go_ret
    exact ⟨ret_int hat.out.symm, HUW.out _⟩
  rw [if_neg k2] at hat
  have k2b : decide (y < ph) = false := decide_eq_false k2
  have hh := Hh.out
  obtain ⟨h1, h2, h3, h4, h5, h6, h7⟩ := hh
  simp only at h1 h2 h3 h4 h5 h6 h7
  have hp := part_le (a := ql - pl) (b := y - ph) (c := qh - ph) (by omega) (by omega) (by omega)
  rw [Int.mul_comm] at hp
  have hfa := ovF_near (v := (y - ph) * (ql - pl)) (c := qh - ph) (by omega)
  have cp : Hid (∀ W, Calls Try.prog 68 #[I (y - ph), I (ql - pl)] W fun e w' => e = .returned (wdV ((y - ph) * (ql - pl))) ∧ Below W.heap.size W w') := fun W => product_any _ _ W (by omega) (by omega)
  have co : Hid (∀ W, Calls Try.prog 69 #[wdV ((y - ph) * (ql - pl)), I (qh - ph)] W fun e w' => e = .returned (.tuple #[I ((y - ph) * (ql - pl) / (qh - ph)), I ((y - ph) * (ql - pl) % (qh - ph)), .bool true]) ∧ Below W.heap.size W w') := fun W => by
    have := over_any ((y - ph) * (ql - pl)) (qh - ph) W (by omega)
    rw [hfa] at this
    exact this
  obtain ⟨n, hn⟩ : ∃ n, (y - ph) * (ql - pl) / (qh - ph) = n := ⟨_, rfl⟩
  obtain ⟨r, hr⟩ : ∃ r, (y - ph) * (ql - pl) % (qh - ph) = r := ⟨_, rfl⟩
  rw [hn] at hat
  rw [hn, hr] at co
  rw [hn] at hp
  have hb : -2000000000000 ≤ n ∧ n ≤ 2000000000000 := by omega
  have c2 : IntKind.i64.wrap (y - ph) = y - ph := IntWalk.i64_in _ (by omega)
  have c4 : IntKind.i64.wrap (pl + n) = pl + n := IntWalk.i64_in _ (by omega)
  have Kk := Lib.hid (And.intro k1 k2)
  clear hn hr hp hfa h1 h2 h3 h4 h5 h6 h7 k1 k2
  go_wp2_with fail
  refine (cp.out _).mono ?_
  rintro e w1 ⟨rfl, hb1⟩
  obtain ⟨u2, rfl⟩ := ovr_next hb1
  clear hb1
  go_wp2_with fail
  refine (co.out _).mono ?_
  rintro e w1 ⟨rfl, hb1⟩
  obtain ⟨u3, rfl⟩ := ovr_next hb1
  clear hb1
  go_wp2_with fail
  go_ret
  exact ⟨ret_int hat.out.symm, HUW.out _⟩
end Go.Proofs.Ytmadlmmfbpmebaa
