/- The contract of Compare of package units. -/
import Derived.Test.YtmadlmmfbpmebaaUh
namespace Go.Proofs.Ytmadlmmfbpmebaa
open Go.RowKit
/-- Two fractions compared, and an error's number. -/
def coF (a b : Frc) : Int × Int := if fok a && fok b then (fcm a b, 0) else (0, 2)
set_option maxRecDepth 100000 in
set_option maxHeartbeats 1000000 in
theorem compare_any (a b : Frc) (w : World) : Calls Try.prog 43 #[a.val, b.val] w fun e w' => e = .returned (.tuple #[I (coF a b).1, I (coF a b).2]) ∧ Below w.heap.size w w' := by
  have hf : Hid (coF a b = if fok a && fok b then (fcm a b, 0) else (0, 2)) := rfl
  have hcm : Hid (∀ W, fok a = true → fok b = true → Calls Try.prog 91 #[a.val, b.val] W fun e w' => e = .returned (I (fcm a b)) ∧ Below W.heap.size W w') := fun W ha hb => fcmp_any a b W (fBd_ok ha) (fBd_ok hb)
  obtain ⟨W2, hW2⟩ : ∃ W2, W2 = (w.alloc (.cells #[I a.n, I a.d] 71)).alloc (.cells #[I b.n, I b.d] 71) := ⟨_, rfl⟩
  have hs : w.heap.size + 1 < W2.heap.size := by rw [hW2]; simp
  have q1 : W2.heap[w.heap.size]? = some (.cells #[I a.n, I a.d] 71 (0, 0)) := by rw [hW2]; exact heap_before (heap_last _ _ _ rfl)
  have q2 : W2.heap[w.heap.size + 1]? = some (.cells #[I b.n, I b.d] 71 (0, 0)) := by rw [hW2]; exact heap_last _ _ _ (by simp)
  have C : Hid (∀ W, Below W2.heap.size W2 W → W.cell? ⟨w.heap.size, 0, none⟩ = some (I a.n) ∧ W.cell? ⟨w.heap.size, 1, none⟩ = some (I a.d) ∧ W.cell? ⟨w.heap.size + 1, 0, none⟩ = some (I b.n) ∧ W.cell? ⟨w.heap.size + 1, 1, none⟩ = some (I b.d)) := by
    intro W hW
    have r1 := (hW.block w.heap.size (by omega)).trans q1
    have r2 := (hW.block (w.heap.size + 1) (by omega)).trans q2
    exact ⟨by rw [cell_of_row _ _ _ _ _ _ r1]; rfl, by rw [cell_of_row _ _ _ _ _ _ r1]; rfl, by rw [cell_of_row _ _ _ _ _ _ r2]; rfl, by rw [cell_of_row _ _ _ _ _ _ r2]; rfl⟩
  have HU : Hid (∀ W, Below W2.heap.size W2 W → Below w.heap.size w W) := fun W hW => by rw [hW2] at hW; exact under2 (under2 hW)
  have HW := Lib.hid hW2
  have HT : Hid (∀ W W', Below W2.heap.size W2 W → Below W.heap.size W W' → Below W2.heap.size W2 W') := fun W W' h k => h.trans (k.mono h.size)
  clear hW2 q1 q2 hs
  go_enter Try.func43, Try.ntmps43
  go_wp2_with fail
  rw [← HW.out]
  refine (fok_any a W2).mono ?_
  rintro e w1 ⟨rfl, hb1⟩
  have B1 := Lib.hid hb1
  obtain ⟨y1, y2, y3, y4⟩ := C.out w1 hb1
  clear hb1
  rcases ha : fok a with _ | _
  · rw [ha] at hf
    go_wp2_with fail
    go_ret2
    exact ⟨by rw [hf.out]; rfl, HU.out _ B1.out⟩
  · rw [ha] at hf
    have cm := fun W => hcm.out W ha
    have Cm := Lib.hid cm
    clear cm
    go_wp2_with fail
    refine (fok_any b w1).mono ?_
    rintro e w2 ⟨rfl, hb2⟩
    have B2 := Lib.hid (HT.out _ _ B1.out hb2)
    clear y1 y2 y3 y4
    obtain ⟨y1, y2, y3, y4⟩ := C.out w2 B2.out
    clear hb2
    rcases hb : fok b with _ | _
    · rw [hb] at hf
      go_wp2_with fail
      go_ret2
      exact ⟨by rw [hf.out]; rfl, HU.out _ B2.out⟩
    · rw [hb] at hf
      have cm2 := Lib.hid (Cm.out w2 hb)
      go_wp2_with fail
      refine (cm2.out).mono ?_
      rintro e w3 ⟨rfl, hb3⟩
      have B3 := Lib.hid (HT.out _ _ B2.out hb3)
      clear hb3
      go_wp2_with fail
      go_ret2
      exact ⟨by rw [hf.out]; rfl, HU.out _ B3.out⟩
end Go.Proofs.Ytmadlmmfbpmebaa
