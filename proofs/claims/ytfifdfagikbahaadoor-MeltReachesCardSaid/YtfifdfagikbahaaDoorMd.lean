/- The contract of choices of package melt. -/
import Derived.Test.YtfifdfagikbahaaDoorMc
namespace Go.Proofs.YtfifdfagikbahaaDoor
open Go.RowKit
/-- The least and the greatest choice of a step. -/
def chF (x : Stp) (s : Nat) (d mass : Int) : Int × Int :=
  if x.kd = 1 ∧ x.ms = mass then (d, d) else if x.kd = 1 then (ptF (x.b (s * 2)) d x.ms mass 1, ptF (x.b (s * 2 + 1)) d x.ms mass 2)
  else if x.kd = 4 then (ptF (x.b (s * 2)) d 1 1 1, ptF (x.b (s * 2 + 1)) d 1 1 2) else (x.b (s * 2), x.b (s * 2 + 1))
theorem bdB_at {b : Nat → Int} {m : Int} (h : bdB b m = true) {s : Nat} (hs : s < 3) : 0 ≤ b (s * 2) ∧ b (s * 2) ≤ b (s * 2 + 1) ∧ b (s * 2 + 1) ≤ m := by
  unfold bdB at h
  rw [Bool.and_eq_true, Bool.and_eq_true, rgB_iff, rgB_iff, rgB_iff] at h
  rcases s with _ | _ | _ | s
  · exact h.1.1
  · exact h.1.2
  · exact h.2
  · omega
theorem isS_by {x : Stp} (h : isS x = true) {s : Nat} (hs : s < 3) : 0 ≤ x.b (s * 2) ∧ x.b (s * 2) ≤ x.b (s * 2 + 1) ∧ (x.kd = 1 ∨ x.kd = 4 → x.b (s * 2 + 1) ≤ 20000) ∧ x.b (s * 2 + 1) ≤ 1000000000000 := by
  unfold isS at h
  split at h
  · rename_i hk
    rw [Bool.and_eq_true] at h
    have := bdB_at h.2 hs
    exact ⟨this.1, this.2.1, fun _ => this.2.2, by omega⟩
  · split at h
    · rename_i hk
      rw [Bool.and_eq_true] at h
      have := bdB_at h.2 hs
      exact ⟨this.1, this.2.1, fun h => by omega, by omega⟩
    · split at h
      · rename_i hk
        rw [Bool.and_eq_true] at h
        have := bdB_at h.2 hs
        exact ⟨this.1, this.2.1, fun h => by omega, by omega⟩
      · split at h
        · rename_i hk
          rw [Bool.and_eq_true] at h
          have := bdB_at h.2 hs
          exact ⟨this.1, this.2.1, fun _ => by omega, by omega⟩
        · cases h
set_option maxRecDepth 100000 in
set_option maxHeartbeats 4000000 in
theorem choices_any (x : Stp) (s : Nat) (d mass : Int) (w : World) (hx : isS x = true) (hs : s < 3) (hd : -9223372036854775808 ≤ d ∧ d ≤ 9223372036854775807) (hm : 0 ≤ mass ∧ mass ≤ 1000000000) :
    Calls Tryd.prog 83 #[.agg (stpArr x), I s, I d, I mass] w fun e w' => e = .returned (.tuple #[I (chF x s d mass).1, I (chF x s d mass).2]) ∧ Below w.heap.size w w' := by
  obtain ⟨W, hW⟩ : ∃ W, W = w.alloc (.cells (stpArr x) 58) := ⟨_, rfl⟩
  have hb0 : Below w.heap.size w W := by rw [hW]; exact (Below.refl _ _).alloc (Nat.le_refl _) _
  have HB : Hid (Below w.heap.size w W ∧ w.heap.size ≤ W.heap.size) := ⟨hb0, hb0.size⟩
  have r0 : W.heap[w.heap.size]? = some (.cells (stpArr x) 58 (0, 0)) := by rw [hW]; exact heap_last _ _ _ rfl
  obtain ⟨y0, y1, _, _, _, _, _, _⟩ := stp_cells r0
  have ylo : W.cell? ⟨w.heap.size, 2 + s * 2, none⟩ = some (I (x.b (s * 2))) := by
    rw [cell_of_row _ _ _ _ _ _ r0]
    rcases s with _ | _ | _ | s
    · rfl
    · rfl
    · rfl
    · omega
  have yhi : W.cell? ⟨w.heap.size, 2 + s * 2 + 1, none⟩ = some (I (x.b (s * 2 + 1))) := by
    rw [cell_of_row _ _ _ _ _ _ r0]
    rcases s with _ | _ | _ | s
    · rfl
    · rfl
    · rfl
    · omega
  have hby := isS_by hx hs
  have hxm := isS_ms hx
  have hss : decide ((s : Int) < 3) = true := decide_eq_true (by omega)
  have hsn : decide (s < 3) = true := decide_eq_true hs
  have hs0 : decide (0 ≤ (s : Int)) = true := decide_eq_true (by omega)
  have Hf : Hid (chF x s d mass = if x.kd = 1 ∧ x.ms = mass then (d, d) else if x.kd = 1 then (ptF (x.b (s * 2)) d x.ms mass 1, ptF (x.b (s * 2 + 1)) d x.ms mass 2)
    else if x.kd = 4 then (ptF (x.b (s * 2)) d 1 1 1, ptF (x.b (s * 2 + 1)) d 1 1 2) else (x.b (s * 2), x.b (s * 2 + 1))) := rfl
  have HW := Lib.hid hW
  have Hr0 := Lib.hid r0
  have Hby := Lib.hid hby
  have Hxm := Lib.hid hxm
  clear hW hb0 r0 hx hby hxm
  generalize x.b (s * 2) = lo at *
  generalize x.b (s * 2 + 1) = hi at *
  go_enter Tryd.func83, Tryd.ntmps83
  go_upto_region 1 with (fail)
  rw [← HW.out]
  go_upto_region 2 with (fail)
  obtain ⟨V, hV⟩ : ∃ V, V = W.alloc (.cells #[I lo, I hi] 23) := ⟨_, rfl⟩
  have hWV : Below W.heap.size W V := by rw [hV]; exact (Below.refl _ _).alloc (Nat.le_refl _) _
  have rV : V.heap[W.heap.size]? = some (.cells #[I lo, I hi] 23 (0, 0)) := by rw [hV]; exact heap_last _ _ _ rfl
  have q0 : V.cell? ⟨W.heap.size, 0, none⟩ = some (I lo) := by rw [cell_of_row _ _ _ _ _ _ rV]; rfl
  have q1 : V.cell? ⟨W.heap.size, 1, none⟩ = some (I hi) := by rw [cell_of_row _ _ _ _ _ _ rV]; rfl
  have hrx := (hWV.block _ (Array.getElem?_eq_some_iff.1 Hr0.out).1).trans Hr0.out
  obtain ⟨y0, y1, _, _, _, _, _, _⟩ := stp_cells hrx
  have HU : Hid (∀ w', Below V.heap.size V w' → Below w.heap.size w w') := fun w' h => HB.out.1.trans ((hWV.trans (h.mono hWV.size)).mono HB.out.2)
  rw [← hV]
  clear hV hWV rV hrx ylo yhi hss hsn hs0 hs Hr0 HB
  by_cases h1 : x.kd = 1
  · have e1 : (x.kd == 1) = true := by simpa using h1
    by_cases h2 : x.ms = mass
    · have e2 : (x.ms == mass) = true := by simpa using h2
      have Hz : Hid (chF x s d mass = (d, d)) := by show _ = _; rw [Hf.out, if_pos ⟨h1, h2⟩]
      clear h1 h2
      go_wp2_with fail
      go_ret2
      exact ⟨by rw [Hz.out]; rfl, HU.out _ (Below.refl _ _)⟩
    · have e2 : (x.ms == mass) = false := by simpa using h2
      have Hz : Hid (chF x s d mass = (ptF lo d x.ms mass 1, ptF hi d x.ms mass 2)) := by show _ = _; rw [Hf.out, if_neg (fun h => h2 h.2), if_pos h1]
      have hb := Hby.out.2.2.1 (.inl h1)
      have hb0 := Hby.out.1
      have hb1 := Hby.out.2.1
      have hxm := Hxm.out (.inl h1)
      have cp1 := Lib.hid fun W' => part_any lo d x.ms mass 1 W' (by omega) (by omega) hm hd (by omega)
      have cp2 := Lib.hid fun W' => part_any hi d x.ms mass 2 W' (by omega) (by omega) hm hd (by omega)
      have v0 := ovr_cell y0
      have v1 := ovr_cell y1
      have v2 := ovr_cell q0
      have v3 := ovr_cell q1
      clear h1 h2 hb hb0 hb1 hxm Hf
      generalize ptF lo d x.ms mass 1 = r1 at *
      generalize ptF hi d x.ms mass 2 = r2 at *
      go_upto_region 5 with (fail)
      refine wp_region_below_lit (by kernel_rfl) (by kernel_rfl) ?_
      repeat (go_big_quiet_step (fail))
      go_big_quiet_step (exact call_below (cp1.out _))
      repeat (go_big_quiet_step (fail))
      go_big_quiet_step (exact call_below (cp2.out _))
      repeat (go_big_quiet_step (fail))
      refine wpQuiet_nil ?_
      intro w' hb
      have Hb := Lib.hid hb
      clear hb v0 v1 v2 v3 y0 y1 q0 q1
      go_wp2_with fail
      go_ret2
      exact ⟨by rw [Hz.out]; rfl, HU.out _ Hb.out⟩
  · have e1 : (x.kd == 1) = false := by simpa using h1
    by_cases h4 : x.kd = 4
    · have e4 : (x.kd == 4) = true := by simpa using h4
      have Hz : Hid (chF x s d mass = (ptF lo d 1 1 1, ptF hi d 1 1 2)) := by show _ = _; rw [Hf.out, if_neg (fun h => h1 h.1), if_neg h1, if_pos h4]
      have hb := Hby.out.2.2.1 (.inr h4)
      have hb0 := Hby.out.1
      have hb1 := Hby.out.2.1
      have cp1 := Lib.hid fun W' => part_any lo d 1 1 1 W' (by omega) (by omega) (by omega) hd (by omega)
      have cp2 := Lib.hid fun W' => part_any hi d 1 1 2 W' (by omega) (by omega) (by omega) hd (by omega)
      have v2 := ovr_cell q0
      have v3 := ovr_cell q1
      clear h1 h4 hb hb0 hb1 Hf
      generalize ptF lo d 1 1 1 = r1 at *
      generalize ptF hi d 1 1 2 = r2 at *
      go_upto_region 7 with (fail)
      refine wp_region_below_lit (by kernel_rfl) (by kernel_rfl) ?_
      repeat (go_big_quiet_step (fail))
      go_big_quiet_step (exact call_below (cp1.out _))
      repeat (go_big_quiet_step (fail))
      go_big_quiet_step (exact call_below (cp2.out _))
      repeat (go_big_quiet_step (fail))
      refine wpQuiet_nil ?_
      intro w' hb
      have Hb := Lib.hid hb
      clear hb v2 v3 y0 y1 q0 q1
      go_wp2_with fail
      go_ret2
      exact ⟨by rw [Hz.out]; rfl, HU.out _ Hb.out⟩
    · have e4 : (x.kd == 4) = false := by simpa using h4
      have Hz : Hid (chF x s d mass = (lo, hi)) := by show _ = _; rw [Hf.out, if_neg (fun h => h1 h.1), if_neg h1, if_neg h4]
      have v2 := ovr_cell q0
      have v3 := ovr_cell q1
      clear h1 h4
      go_upto_region 8 with (fail)
      refine wp_region_below_lit (by kernel_rfl) (by kernel_rfl) ?_
      repeat (go_big_quiet_step (fail))
      refine wpQuiet_nil ?_
      intro w' hb
      have Hb := Lib.hid hb
      clear hb v2 v3 y0 y1 q0 q1
      go_wp2_with fail
      go_ret2
      exact ⟨by rw [Hz.out]; rfl, HU.out _ Hb.out⟩
end Go.Proofs.YtfifdfagikbahaaDoor
