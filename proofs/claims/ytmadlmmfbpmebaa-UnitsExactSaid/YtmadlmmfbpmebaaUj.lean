/- The contract of split of package units. -/
import Derived.Test.YtmadlmmfbpmebaaUi
namespace Go.Proofs.Ytmadlmmfbpmebaa
open Go.RowKit
section
variable {P : Program}
theorem results_tmp_cell {fn : Func} {p t1 : Tmp} {ty : TypeId} (h : fn.results = #[.tmp t1, .cell p ty]) (tmps : Array Value) (w : World) (g : Nat) (t : TypeId) (cs : Array Value) (fr : Nat × Nat) (d : TypeDesc)
    (hp : tmps.getD p undef = .pointer (some ⟨g, 0, none⟩)) (hg : w.heap[g]? = some (.cells cs t fr))
    (hu : P.underlying ty = some d) (hd : (match d with | .struct _ | .array _ _ => true | _ => false) = true) (hi : (P.info? ty).map (·.size) = some cs.size) :
    (results fn tmps).run P w = .ok (.tuple #[tmps.getD t1 undef, .agg cs]) w := by
  have hp' : tmps[p]?.getD undef = .pointer (some ⟨g, 0, none⟩) := by simpa using hp
  simp [results, h, hp', asAddr, run_loadVar_row w g t ty cs fr d hg hu hd hi]
end
theorem tdiv_neg {m D : Nat} : (-(m : Int)).tdiv (D : Int) = -((m / D : Nat) : Int) := by rw [Int.neg_tdiv, ← Int.ofNat_tdiv]
theorem tmod_neg {m D : Nat} : (-(m : Int)).tmod (D : Int) = -((m % D : Nat) : Int) := by rw [Int.neg_tmod, ← Int.ofNat_tmod]
set_option maxRecDepth 100000 in
set_option maxHeartbeats 1000000 in
theorem split_any (f : Frc) (w : World) (hb : fBd f) (hd : 1 ≤ f.d) : Calls Try.prog 121 #[f.val] w fun e w' => e = .returned (.tuple #[I (f.n / f.d), .agg #[I (f.n % f.d), I f.d]]) ∧ Below w.heap.size w w' := by
  obtain ⟨n, d⟩ := f
  obtain ⟨⟨b1, b2⟩, b3, b4⟩ := hb
  simp only at b1 b2 b3 b4 hd ⊢
  obtain ⟨q, hq⟩ : ∃ q, n.tdiv d = q := ⟨_, rfl⟩
  obtain ⟨r, hr⟩ : ∃ r, n.tmod d = r := ⟨_, rfl⟩
  have hqr : (-2000000000000000 ≤ q ∧ q ≤ 2000000000000000) ∧ -d < r ∧ r < d ∧ n / d = (if r < 0 then q - 1 else q) ∧ n % d = (if r < 0 then r + d else r) := by
    obtain ⟨D, rfl⟩ : ∃ D : Nat, d = D := ⟨d.toNat, by omega⟩
    by_cases hn : 0 ≤ n
    · obtain ⟨m, rfl⟩ : ∃ m : Nat, n = m := ⟨n.toNat, by omega⟩
      rw [← Int.ofNat_tdiv] at hq
      rw [← Int.ofNat_tmod] at hr
      have h1 := Nat.div_le_self m D
      have h2 := Nat.mod_lt m (show D > 0 by omega)
      rw [← Int.natCast_ediv, ← Int.natCast_emod]
      generalize m / D = k at *
      generalize m % D = j at *
      rw [if_neg (by omega), if_neg (by omega)]
      omega
    · obtain ⟨m, rfl⟩ : ∃ m : Nat, n = -(m : Int) := ⟨n.natAbs, by omega⟩
      rw [tdiv_neg] at hq
      rw [tmod_neg] at hr
      have h1 := Nat.div_le_self m D
      have h2 := Nat.mod_lt m (show D > 0 by omega)
      rw [floor_neg (by omega), mod_neg (by omega)]
      generalize m / D = k at *
      generalize m % D = j at *
      by_cases h0 : j = 0
      · rw [if_pos h0, if_pos h0, if_neg (by omega), if_neg (by omega)]; omega
      · rw [if_neg h0, if_neg h0, if_pos (by omega), if_pos (by omega)]; omega
  have d0 : decide (d = 0) = false := decide_eq_false (by omega)
  have HQ := Lib.hid hqr
  obtain ⟨W2, hW2⟩ : ∃ W2, W2 = (w.alloc (.cells #[I n, I d] 128)).alloc (.cells #[I 0, I 0] 128) := ⟨_, rfl⟩
  have q1 : W2.heap[w.heap.size]? = some (.cells #[I n, I d] 128 (0, 0)) := by rw [hW2]; exact heap_before (heap_last _ _ _ rfl)
  have q2 : W2.heap[w.heap.size + 1]? = some (.cells #[I 0, I 0] 128 (0, 0)) := by rw [hW2]; exact heap_last _ _ _ (by simp)
  have y1 := fun u => ovr_cell (W := W2) (b := w.heap.size) (o := 0) (v := I n) (by rw [cell_of_row _ _ _ _ _ _ q1]; rfl) u
  have y2 := fun u => ovr_cell (W := W2) (b := w.heap.size) (o := 1) (v := I d) (by rw [cell_of_row _ _ _ _ _ _ q1]; rfl) u
  have HU : Hid (∀ W, Below W2.heap.size W2 W → Below w.heap.size w W) := fun W hW => by rw [hW2] at hW; exact under2 (under2 hW)
  have HR := Lib.hid q2
  have HP := Lib.hid q1
  have HW := Lib.hid hW2
  clear hW2 q1 q2 hqr
  go_enter Try.func121, Try.ntmps121
  go_wp2_with fail
  rw [← HW.out]
  refine wp_region_below_lit (by kernel_rfl) (by kernel_rfl) ?_
  repeat (go_big_quiet_step (fail))
  refine wpQuiet_nil ?_
  intro w1 hb1
  have cq : wrap64 q = q := by have := HQ.out; unfold wrap64; omega
  rw [cq]
  have hr0 := (hb1.block _ (Array.getElem?_eq_some_iff.1 HP.out).1).trans HP.out
  have hr1 := (hb1.block _ (Array.getElem?_eq_some_iff.1 HR.out).1).trans HR.out
  have HB := Lib.hid hb1
  have HR0 := Lib.hid hr0
  have HR1 := Lib.hid hr1
  clear hb1 y1 y2 hr0 hr1
  have z2 := fun u => ovr_cell (W := w1) (b := w.heap.size) (o := 1) (v := I d) (by rw [cell_of_row _ _ _ _ _ _ HR0.out]; rfl) u
  have Z2 := Lib.hid z2
  clear z2
  by_cases hs : r < 0
  · have e1 : q - 1 = n / d := by have := HQ.out.2.2.2.1; rw [if_pos hs] at this; omega
    have e2 : r + d = n % d := by have := HQ.out.2.2.2.2; rw [if_pos hs] at this; omega
    have E1 := Lib.hid e1
    have E2 := Lib.hid e2
    clear e1 e2
    have z2 := Z2.out
    have c1 : wrap64 (q - 1) = q - 1 := by have := HQ.out; unfold wrap64; omega
    have c2 : wrap64 (r + d) = r + d := by have := HQ.out; unfold wrap64; omega
    go_wp2_with fail
    refine wp_region_below_lit (by kernel_rfl) (by kernel_rfl) ?_
    repeat (go_big_quiet_step (fail))
    refine wpQuiet_nil ?_
    intro w2 hb2
    rw [c1, c2]
    have hr1 := (hb2.block _ (Array.getElem?_eq_some_iff.1 HR1.out).1).trans HR1.out
    have hr0 := (hb2.block _ (Array.getElem?_eq_some_iff.1 HR0.out).1).trans HR0.out
    have HR3 := Lib.hid hr1
    have z3 := fun u => ovr_cell (W := w2) (b := w.heap.size) (o := 1) (v := I d) (by rw [cell_of_row _ _ _ _ _ _ hr0]; rfl) u
    have HB2 := Lib.hid (HB.out.trans (hb2.mono HB.out.size))
    clear hb2 hr0 hr1 z2 c1 c2
    go_wp2_with fail
    refine wp_region_below_tail (by kernel_rfl) (by kernel_rfl) (by kernel_rfl) ?_
    simp only [skipLast_two, skipLast_one]
    repeat (go_big_quiet_step (fail))
    refine wpQuiet_nil ?_
    intro w3 hb3 o ho
    obtain rfl := Option.some.inj ho
    have hr := (hb3.block _ (Array.getElem?_eq_some_iff.1 HR3.out).1).trans HR3.out
    refine wp_store_row 128 _ _ rfl (w.heap.size + 1) rfl _ _ hr #[I (r + d), I d] rfl (by intro v hv; simp at hv; rcases hv with rfl | rfl <;> rfl) rfl (by kernel_rfl) ?_
    go_wp2_with fail
    refine bodyPost_ret (results_tmp_cell rfl _ _ (w.heap.size + 1) 128 #[I (r + d), I d] (0, 0) _ rfl (setRow_same hr) Try.underlying128 rfl (by kernel_rfl)) rfl ?_
    exact ⟨by rw [← E1.out, ← E2.out]; rfl, below_setRow (HU.out _ (HB2.out.trans (hb3.mono HB2.out.size))) (by omega) _⟩
  · have e1 : q = n / d := by have := HQ.out.2.2.2.1; rw [if_neg hs] at this; omega
    have e2 : r = n % d := by have := HQ.out.2.2.2.2; rw [if_neg hs] at this; omega
    have E1 := Lib.hid e1
    have E2 := Lib.hid e2
    clear e1 e2
    have z2 := Z2.out
    go_wp2_with fail
    refine wp_region_below_tail (by kernel_rfl) (by kernel_rfl) (by kernel_rfl) ?_
    simp only [skipLast_two, skipLast_one]
    repeat (go_big_quiet_step (fail))
    refine wpQuiet_nil ?_
    intro w2 hb2 o ho
    obtain rfl := Option.some.inj ho
    have hr := (hb2.block _ (Array.getElem?_eq_some_iff.1 HR1.out).1).trans HR1.out
    refine wp_store_row 128 _ _ rfl (w.heap.size + 1) rfl _ _ hr #[I r, I d] rfl (by intro v hv; simp at hv; rcases hv with rfl | rfl <;> rfl) rfl (by kernel_rfl) ?_
    go_wp2_with fail
    refine bodyPost_ret (results_tmp_cell rfl _ _ (w.heap.size + 1) 128 #[I r, I d] (0, 0) _ rfl (setRow_same hr) Try.underlying128 rfl (by kernel_rfl)) rfl ?_
    exact ⟨by rw [← E1.out, ← E2.out]; rfl, below_setRow (HU.out _ (HB.out.trans (hb2.mono HB.out.size))) (by omega) _⟩
end Go.Proofs.Ytmadlmmfbpmebaa
