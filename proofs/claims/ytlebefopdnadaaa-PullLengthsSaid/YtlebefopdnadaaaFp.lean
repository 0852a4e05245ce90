/- The contracts of Until and Place of the reference. -/
import Derived.Test.YtlebefopdnadaaaPl
import Derived.Test.YtlebefopdnadaaaLk
namespace Go.Proofs.Ytlebefopdnadaaa
open Go.RowKit
/-- A run in a box of its own: its cells, its lists, and what was there. -/
theorem box_run {w : World} {A1 A2 A3 : Option Addr} {c1 c2 c3 : Nat} {R : Run} (h : RunIn w A1 A2 A3 R) {W1 : World} (hW1 : W1 = w.alloc (.cells #[.slice A1 R.ss.length c1, I R.e, .slice A2 R.ms.length c2, .slice A3 R.es.length c3] 35)) {W : World} (hW : Le W1 W) :
    (W.cell? ⟨w.heap.size, 0, none⟩ = some (.slice A1 R.ss.length c1) ∧ W.cell? ⟨w.heap.size, 1, none⟩ = some (I R.e) ∧ W.cell? ⟨w.heap.size, 2, none⟩ = some (.slice A2 R.ms.length c2) ∧ W.cell? ⟨w.heap.size, 3, none⟩ = some (.slice A3 R.es.length c3)) ∧ RunIn W A1 A2 A3 R ∧ Below w.heap.size w W := by
  have hr : W.heap[w.heap.size]? = some (.cells #[.slice A1 R.ss.length c1, I R.e, .slice A2 R.ms.length c2, .slice A3 R.es.length c3] 35 (0, 0)) := (Below.block hW _ (by rw [hW1]; simp)).trans (by rw [hW1]; exact heap_last _ _ _ rfl)
  refine ⟨⟨by rw [cell_of_row _ _ _ _ _ _ hr]; rfl, by rw [cell_of_row _ _ _ _ _ _ hr]; rfl, by rw [cell_of_row _ _ _ _ _ _ hr]; rfl, by rw [cell_of_row _ _ _ _ _ _ hr]; rfl⟩, RunIn.below (by rw [hW1]; exact h.alloc _) hW, ?_⟩
  rw [hW1] at hW
  exact under2 hW
theorem sumP_bd {R : Run} (h : VRun R) {t : Int} : ∀ k, k ≤ R.ss.length → 0 ≤ sumP R t k ∧ sumP R t k ≤ 100000000000 * k
  | 0, _ => by simp [sumP]
  | k + 1, hk => by
    have ih := sumP_bd h (t := t) k (by omega)
    have hv := h.v k (by omega) 0 (by omega)
    have h0 : 0 ≤ (at0 R.ss k).t := by have := t_mono h (Nat.zero_le k) (by omega); rwa [h.first] at this
    have he := unt_e h (j := k)
    have hl := h.last
    simp only [sumP]
    have m1 := Int.mul_nonneg hv.1 (show 0 ≤ max 0 (min t (untS R k) - (at0 R.ss k).t) by omega)
    have m2 := Int.mul_le_mul_of_nonneg_right hv.2 (show 0 ≤ max 0 (min t (untS R k) - (at0 R.ss k).t) by omega)
    have m3 : max 0 (min t (untS R k) - (at0 R.ss k).t) ≤ 100000 := by omega
    omega
theorem sumP_val {R : Run} (h : VRun R) {t : Int} (h0 : 0 ≤ t) (h1 : t ≤ R.e) {k : Nat} (hk : k < R.ss.length) : wrap64 (sumP R t k + wrap64 ((at0 R.ss k).v 0 * if 0 < wrap64 ((if untS R k < t then untS R k else t) - (at0 R.ss k).t) then wrap64 ((if untS R k < t then untS R k else t) - (at0 R.ss k).t) else 0)) = sumP R t (k + 1) := by
  have hv := h.v k hk 0 (by omega)
  have ht0 : 0 ≤ (at0 R.ss k).t := by have := t_mono h (Nat.zero_le k) hk; rwa [h.first] at this
  have he := unt_e h (j := k)
  have hu := unt_lt h hk
  have hl := h.last
  have hn := h.n60
  have ih := sumP_bd h (t := t) k (by omega)
  rw [show (if untS R k < t then untS R k else t) = min t (untS R k) by split <;> omega, IntWalk.wrap64_in (min t (untS R k) - (at0 R.ss k).t) ⟨by omega, by omega⟩,
    show (if 0 < min t (untS R k) - (at0 R.ss k).t then min t (untS R k) - (at0 R.ss k).t else 0) = max 0 (min t (untS R k) - (at0 R.ss k).t) by split <;> omega]
  have m1 := Int.mul_nonneg hv.1 (show 0 ≤ max 0 (min t (untS R k) - (at0 R.ss k).t) by omega)
  have m2 := Int.mul_le_mul_of_nonneg_right hv.2 (show 0 ≤ max 0 (min t (untS R k) - (at0 R.ss k).t) by omega)
  have m3 : max 0 (min t (untS R k) - (at0 R.ss k).t) ≤ 100000 := by omega
  rw [IntWalk.wrap64_in ((at0 R.ss k).v 0 * max 0 (min t (untS R k) - (at0 R.ss k).t)) ⟨by omega, by omega⟩, IntWalk.wrap64_in _ ⟨by omega, by omega⟩]
  rfl
theorem until_any (A1 A2 A3 : Option Addr) (c1 c2 c3 : Nat) (R : Run) (k : Nat) (w : World) (h : RunIn w A1 A2 A3 R) (hk : k < R.ss.length) : Calls Try.prog 59 #[runV A1 A2 A3 c1 c2 c3 R, I k] w fun e w' => e = .returned (I (untS R k)) ∧ Below w.heap.size w w' := by
  obtain ⟨⟨x0, x1, x2, x3⟩, hin, hb⟩ := box_run (c1 := c1) (c2 := c2) (c3 := c3) h rfl (Le.refl _)
  have HB := Lib.hid hb
  have ls : (R.ss.length : Int) ≤ 1000000 := by have := h.ls; omega
  by_cases hl : k + 1 < R.ss.length
  · obtain ⟨b, o, hA, _, e0, _⟩ := hin.s.stg hl
    have hf : Hid (untS R k = (at0 R.ss (k + 1)).t) := by show _ = _; unfold untS; rw [if_pos hl]
    clear h hb hin
    subst hA
    have hl' : (k : Int) + 1 < R.ss.length := by omega
    go_enter Try.func59, Try.ntmps59
    go_wp2_with fail
    go_ret
    exact ⟨by rw [hf.out]; rfl, HB.out⟩
  · have hf : Hid (untS R k = R.e) := by show _ = _; unfold untS; rw [if_neg hl]
    clear h hb hin
    have hl' : (R.ss.length : Int) ≤ (k : Int) + 1 := by omega
    go_enter Try.func59, Try.ntmps59
    go_wp2_with fail
    go_ret
    exact ⟨by rw [hf.out]; rfl, HB.out⟩
set_option maxHeartbeats 1000000 in
theorem refPlace_any (A1 A2 A3 : Option Addr) (c1 c2 c3 : Nat) (R : Run) (t : Int) (w : World) (h : RunIn w A1 A2 A3 R) (hv : VRun R) (h0 : 0 ≤ t) (h1 : t ≤ R.e) : Calls Try.prog 52 #[runV A1 A2 A3 c1 c2 c3 R, I t] w fun e w' => e = .returned (I (placeR R t)) ∧ Below w.heap.size w w' := by
  obtain ⟨W1, hW1⟩ : ∃ W1, W1 = w.alloc (.cells #[.slice A1 R.ss.length c1, I R.e, .slice A2 R.ms.length c2, .slice A3 R.es.length c3] 35) := ⟨_, rfl⟩
  have HX : Hid (∀ W, Le W1 W → (W.cell? ⟨w.heap.size, 0, none⟩ = some (.slice A1 R.ss.length c1) ∧ W.cell? ⟨w.heap.size, 1, none⟩ = some (I R.e) ∧ W.cell? ⟨w.heap.size, 2, none⟩ = some (.slice A2 R.ms.length c2) ∧ W.cell? ⟨w.heap.size, 3, none⟩ = some (.slice A3 R.es.length c3)) ∧ RunIn W A1 A2 A3 R ∧ Below w.heap.size w W) := fun W hW => box_run h hW1 hW
  have HW := Lib.hid hW1
  have hsum := Lib.hid (placeR_sum hv h0 h1)
  have Hv := Lib.hid hv
  have H0 := Lib.hid h0
  have H1 := Lib.hid h1
  have ls : (R.ss.length : Int) ≤ 60 := by have := hv.n60; omega
  clear h hv hW1 h0 h1
  go_enter Try.func52, Try.ntmps52
  go_wp2_with fail
  rw [← HW.out]
  go_loopw [5, 6] (fun s i wr => ∃ k : Nat, k ≤ R.ss.length ∧ i = .int .i64 k ∧ s = I (sumP R t k) ∧ Le W1 wr) (fun _ i _ => R.ss.length - (intOf i).toNat)
  case atStart => exact ⟨0, by omega, rfl, rfl, Le.refl _⟩
  case round =>
    obtain ⟨k, hk, rfl, rfl, hbw⟩ := hrel
    have HB := Lib.hid hbw
    obtain ⟨⟨x0, x1, x2, x3⟩, hin, hb⟩ := HX.out wr HB.out
    have Hb := Lib.hid hb
    clear hbw hb
    by_cases hlt : k < R.ss.length
    · obtain ⟨b, o, hA, _, e0, _, e2, _⟩ := hin.s.stg hlt
      have Hin := Lib.hid hin
      have y0 := ovr_cell x0
      have y1 := ovr_cell x1
      have y2 := ovr_cell x2
      have y3 := ovr_cell x3
      have z0 := ovr_cell e0
      have z2 := ovr_cell e2
      clear hin
      subst hA
      go_wp2_with fail
      refine wp_region_below_lit (by kernel_rfl) (by kernel_rfl) ?_
      repeat (go_big_quiet_step ((go_at_call 59; exact call_below (until_any _ _ _ _ _ _ R k _ (Hin.out.below (ovr_below _ _)) hlt))))
      refine wpQuiet_nil ?_
      intro w' hb'
      rw [sumP_val Hv.out H0.out H1.out hlt]
      have L2 : Hid (Le W1 w') := HB.out.trans hb'
      clear hb' y0 y1 y2 y3 z0 z2 x0 x1 x2 x3
      go_wp2_with fail
      go_roundw
      case rel => exact ⟨k + 1, by omega, by go_num, rfl, L2.out⟩
      case measure => simp [intOf]; omega
    · obtain rfl : k = R.ss.length := by omega
      go_wp2_with fail
      go_ret
      exact ⟨by rw [hsum.out]; rfl, Hb.out⟩
end Go.Proofs.Ytlebefopdnadaaa
