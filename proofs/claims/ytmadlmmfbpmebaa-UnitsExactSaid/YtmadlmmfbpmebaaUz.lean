/- The contract of at of a line of package units. -/
import Derived.Test.YtmadlmmfbpmebaaUy
namespace Go.Proofs.Ytmadlmmfbpmebaa
open Go.RowKit
/-- A line between two knots, and a place on it. -/
structure LnOk (p q : Rng) (x : Int) : Prop where
  x0 : -1000000000000 ≤ p.lo
  y0 : -1000000000000 ≤ p.hi ∧ p.hi ≤ 1000000000000
  x1 : q.lo ≤ 1000000000000
  y1 : -1000000000000 ≤ q.hi ∧ q.hi ≤ 1000000000000
  up : p.lo < q.lo
  xl : p.lo ≤ x
  xr : x ≤ q.lo
/-- The value, rounded outwards. -/
def atF (p q : Rng) (x : Int) : Rng := ⟨p.hi + (q.hi - p.hi) * (x - p.lo) / (q.lo - p.lo), if 0 < (q.hi - p.hi) * (x - p.lo) % (q.lo - p.lo) then p.hi + (q.hi - p.hi) * (x - p.lo) / (q.lo - p.lo) + 1 else p.hi + (q.hi - p.hi) * (x - p.lo) / (q.lo - p.lo)⟩
/-- A product with a part of c, divided by c, is no greater than the factor. -/
theorem part_le {a b c : Int} (hc : 1 ≤ c) (h0 : 0 ≤ b) (h1 : b ≤ c) : -a.natAbs ≤ a * b / c ∧ a * b / c ≤ a.natAbs ∧ (a * b).natAbs / c.toNat ≤ a.natAbs := by
  have h2 : (a * b).natAbs ≤ a.natAbs * c.toNat := by
    rw [Int.natAbs_mul]
    exact Nat.mul_le_mul (Nat.le_refl _) (by omega)
  have h3 : (a * b).natAbs / c.toNat ≤ a.natAbs := Nat.div_le_of_le_mul (by rw [Nat.mul_comm]; exact h2)
  have h4 : a * b ≤ (a.natAbs : Int) * c := by
    have : ((a * b).natAbs : Int) ≤ ((a.natAbs * c.toNat : Nat) : Int) := by exact_mod_cast h2
    rw [Int.natCast_mul] at this
    have e : ((c.toNat : Nat) : Int) = c := by omega
    rw [e] at this
    omega
  have h5 : -((a.natAbs : Int) * c) ≤ a * b := by
    have : ((a * b).natAbs : Int) ≤ ((a.natAbs * c.toNat : Nat) : Int) := by exact_mod_cast h2
    rw [Int.natCast_mul] at this
    have e : ((c.toNat : Nat) : Int) = c := by omega
    rw [e] at this
    omega
  refine ⟨?_, Int.ediv_le_of_le_mul (by omega) h4, h3⟩
  rw [Int.le_ediv_iff_mul_le (by omega), Int.neg_mul]
  exact h5
set_option maxRecDepth 100000 in
set_option maxHeartbeats 4000000 in
theorem at_any (p q : Rng) (x : Int) (w : World) (h : LnOk p q x) : Calls Try.prog 129 #[.agg #[I p.lo, I p.hi, I q.lo, I q.hi], I x] w fun e w' => e = .returned ((atF p q x).val) ∧ Below w.heap.size w w' := by
  obtain ⟨h1, h2, h3, h4, h5, h6, h7⟩ := h
  have hp := part_le (a := q.hi - p.hi) (b := x - p.lo) (c := q.lo - p.lo) (by omega) (by omega) (by omega)
  have hfa := ovF_near (v := (q.hi - p.hi) * (x - p.lo)) (c := q.lo - p.lo) (by omega)
  have hm : 0 ≤ (q.hi - p.hi) * (x - p.lo) % (q.lo - p.lo) := Int.emod_nonneg _ (by omega)
  have cp : Hid (∀ W, Calls Try.prog 68 #[I (q.hi - p.hi), I (x - p.lo)] W fun e w' => e = .returned (wdV ((q.hi - p.hi) * (x - p.lo))) ∧ Below W.heap.size W w') := fun W => product_any _ _ W (by omega) (by omega)
  have co : Hid (∀ W, Calls Try.prog 69 #[wdV ((q.hi - p.hi) * (x - p.lo)), I (q.lo - p.lo)] W fun e w' => e = .returned (.tuple #[I ((q.hi - p.hi) * (x - p.lo) / (q.lo - p.lo)), I ((q.hi - p.hi) * (x - p.lo) % (q.lo - p.lo)), .bool true]) ∧ Below W.heap.size W w') := fun W => by
    have := over_any ((q.hi - p.hi) * (x - p.lo)) (q.lo - p.lo) W (by omega)
    rw [hfa] at this
    exact this
  have hat : Hid (atF p q x = ⟨p.hi + (q.hi - p.hi) * (x - p.lo) / (q.lo - p.lo), if 0 < (q.hi - p.hi) * (x - p.lo) % (q.lo - p.lo) then p.hi + (q.hi - p.hi) * (x - p.lo) / (q.lo - p.lo) + 1 else p.hi + (q.hi - p.hi) * (x - p.lo) / (q.lo - p.lo)⟩) := rfl
  have c1 : IntKind.i64.wrap (q.hi - p.hi) = q.hi - p.hi := IntWalk.i64_in _ (by omega)
  have c2 : IntKind.i64.wrap (x - p.lo) = x - p.lo := IntWalk.i64_in _ (by omega)
  have c3 : IntKind.i64.wrap (q.lo - p.lo) = q.lo - p.lo := IntWalk.i64_in _ (by omega)
  obtain ⟨n, hn⟩ : ∃ n, (q.hi - p.hi) * (x - p.lo) / (q.lo - p.lo) = n := ⟨_, rfl⟩
  obtain ⟨r, hr⟩ : ∃ r, (q.hi - p.hi) * (x - p.lo) % (q.lo - p.lo) = r := ⟨_, rfl⟩
  rw [hn, hr] at hat co
  rw [hn] at hp
  rw [hr] at hm
  have hb : -2000000000000 ≤ n ∧ n ≤ 2000000000000 := by omega
  have c4 : Hid (IntKind.i64.wrap (p.hi + n) = p.hi + n) := IntWalk.i64_in _ (by omega)
  have c5 : Hid (IntKind.i64.wrap (p.hi + n + 1) = p.hi + n + 1) := IntWalk.i64_in _ (by omega)
  clear hn hr hp hfa h1 h3 h5 h6 h7
  obtain ⟨W, hW⟩ : ∃ W, W = ((w.alloc (.cells #[I p.lo, I p.hi, I q.lo, I q.hi] 126)).alloc (.cells #[I 0, I 0] 38)) := ⟨_, rfl⟩
  have rowW0 : W.heap[w.heap.size]? = some (.cells #[I p.lo, I p.hi, I q.lo, I q.hi] 126 (0, 0)) := by rw [hW]; exact heap_before (heap_last _ _ _ rfl)
  have yW00 := ovr_cell (W := W) (b := w.heap.size) (o := 0) (v := I p.lo) (by rw [cell_of_row _ _ _ _ _ _ rowW0]; rfl)
  have yW01 := ovr_cell (W := W) (b := w.heap.size) (o := 1) (v := I p.hi) (by rw [cell_of_row _ _ _ _ _ _ rowW0]; rfl)
  have yW02 := ovr_cell (W := W) (b := w.heap.size) (o := 2) (v := I q.lo) (by rw [cell_of_row _ _ _ _ _ _ rowW0]; rfl)
  have yW03 := ovr_cell (W := W) (b := w.heap.size) (o := 3) (v := I q.hi) (by rw [cell_of_row _ _ _ _ _ _ rowW0]; rfl)
  have RrowW0 := Lib.hid (ovr_row rowW0)
  clear rowW0
  have rowW1 : W.heap[w.heap.size + 1]? = some (.cells #[I 0, I 0] 38 (0, 0)) := by rw [hW]; exact heap_last _ _ _ (by simp)
  have yW10 := ovr_cell (W := W) (b := w.heap.size + 1) (o := 0) (v := I 0) (by rw [cell_of_row _ _ _ _ _ _ rowW1]; rfl)
  have yW11 := ovr_cell (W := W) (b := w.heap.size + 1) (o := 1) (v := I 0) (by rw [cell_of_row _ _ _ _ _ _ rowW1]; rfl)
  have RrowW1 := Lib.hid (ovr_row rowW1)
  clear rowW1
  have HUW : Hid (∀ u, Below w.heap.size w (ovr W u)) := U2 hW
  have HW := Lib.hid hW
  clear hW
  obtain ⟨pl, ph⟩ := p
  obtain ⟨ql, qh⟩ := q
  simp only at *
  go_enter Try.func129, Try.ntmps129
  go_wp2_with fail
  rw [← HW.out]
  refine wp_region_below_lit (by kernel_rfl) (by kernel_rfl) ?_
  repeat (go_big_quiet_step ((first | (go_at_call 68; exact call_below (cp.out _)) | (go_at_call 69; exact call_below (co.out _)))))
  refine wpQuiet_nil ?_
  intro w1 hb1
  obtain ⟨u1, rfl⟩ : ∃ u, w1 = ovr W u := ⟨w1, ovr_of hb1⟩
  clear hb1 c1 c2 c3
  have c4 := c4.out
  have c5 := c5.out
  by_cases hr0 : 0 < r
  · rw [if_pos hr0] at hat
    have hrb : decide (0 < r) = true := decide_eq_true hr0
    clear hr0
    go_wp2_with (refine wpList_store_row rfl 38 _ _ rfl (w.heap.size + 1) rfl _ _ (heap_before (RrowW1.out _)) _ rfl (one2 rfl rfl) rfl (by kernel_rfl) ?_)
    refine bodyPost_ret (results_cell_only rfl _ _ (w.heap.size + 1) 38 _ (0, 0) _ rfl (setRow_same (heap_before (RrowW1.out _))) Try.underlying38 rfl (by kernel_rfl)) rfl ?_
    exact ⟨by rw [hat.out], below_setRow ((HUW.out _).alloc (HUW.out _).size _) (by omega) _⟩
  · rw [if_neg hr0] at hat
    have hrb : decide (0 < r) = false := decide_eq_false hr0
    clear hr0
    go_wp2_with (refine wpList_store_row rfl 38 _ _ rfl (w.heap.size + 1) rfl _ _ (heap_before (RrowW1.out _)) _ rfl (one2 rfl rfl) rfl (by kernel_rfl) ?_)
    refine bodyPost_ret (results_cell_only rfl _ _ (w.heap.size + 1) 38 _ (0, 0) _ rfl (setRow_same (heap_before (RrowW1.out _))) Try.underlying38 rfl (by kernel_rfl)) rfl ?_
    exact ⟨by rw [hat.out], below_setRow ((HUW.out _).alloc (HUW.out _).size _) (by omega) _⟩
end Go.Proofs.Ytmadlmmfbpmebaa
