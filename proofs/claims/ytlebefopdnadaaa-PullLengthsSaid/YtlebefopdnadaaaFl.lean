/- The contract of long of the statements' package. -/
import Derived.Test.YtlebefopdnadaaaFg
namespace Go.Proofs.Ytlebefopdnadaaa
open Go.RowKit
def lgR (R : Run) : Bool := decide (70 < R.ss.length) || decide (110 < R.ms.length) || decide (30 < R.es.length) || (okRun R && decide (400 < R.e))
theorem lgR_no {R : Run} (h : lgR R = false) : R.ss.length ≤ 70 ∧ R.ms.length ≤ 110 ∧ R.es.length ≤ 30 ∧ (okRun R = true → R.e ≤ 400) := by
  unfold lgR at h
  simp only [Bool.or_eq_false_iff, Bool.and_eq_false_iff, decide_eq_false_iff_not] at h
  obtain ⟨⟨⟨h1, h2⟩, h3⟩, h4⟩ := h
  refine ⟨by omega, by omega, by omega, fun hk => ?_⟩
  rcases h4 with h4 | h4
  · rw [hk] at h4; cases h4
  · omega
set_option maxRecDepth 100000 in
set_option maxHeartbeats 1000000 in
theorem long_any (A1 A2 A3 : Option Addr) (c1 c2 c3 : Nat) (R : Run) (w : World) (h1 : Rd w w.heap.size 8 A1 R.ss.length (rS R.ss)) (h2 : Rd w w.heap.size 3 A2 R.ms.length (rM R.ms)) (h3 : Rd w w.heap.size 2 A3 R.es.length (rE R.es)) :
    Calls Try.prog 18 #[runV A1 A2 A3 c1 c2 c3 R] w fun e w' => e = .returned (.bool (lgR R)) ∧ Below w.heap.size w w' := by
  obtain ⟨W1, hW1⟩ : ∃ W1, W1 = w.alloc (.cells #[.slice A1 R.ss.length c1, I R.e, .slice A2 R.ms.length c2, .slice A3 R.es.length c3] 35) := ⟨_, rfl⟩
  have hB : Hid (Below w.heap.size w W1) := by show Below _ _ _; rw [hW1]; exact (Below.refl _ _).alloc (Nat.le_refl _) _
  have HW := Lib.hid hW1
  by_cases hlen : R.ss.length ≤ 70 ∧ R.ms.length ≤ 110 ∧ R.es.length ≤ 30
  · obtain ⟨l1, l2, l3⟩ := hlen
    have h := RunIn.mk h1 h2 h3 (by omega) (by omega) (by omega)
    have HX : Hid (∀ W, Le W1 W → (W.cell? ⟨w.heap.size, 0, none⟩ = some (.slice A1 R.ss.length c1) ∧ W.cell? ⟨w.heap.size, 1, none⟩ = some (I R.e) ∧ W.cell? ⟨w.heap.size, 2, none⟩ = some (.slice A2 R.ms.length c2) ∧ W.cell? ⟨w.heap.size, 3, none⟩ = some (.slice A3 R.es.length c3)) ∧ RunIn W A1 A2 A3 R ∧ Below w.heap.size w W) := fun W hW => box_run h hW1 hW
    have hf0 : Hid (okRun R = false → (decide ((70 : Int) < (R.ss.length : Int)) || decide ((110 : Int) < (R.ms.length : Int)) || decide ((30 : Int) < (R.es.length : Int))) = lgR R) := fun hk => by
      unfold lgR
      rw [hk, decide_eq_false (show ¬ 70 < R.ss.length by omega), decide_eq_false (show ¬ 110 < R.ms.length by omega), decide_eq_false (show ¬ 30 < R.es.length by omega), decide_eq_false (show ¬ (70 : Int) < R.ss.length by omega), decide_eq_false (show ¬ (110 : Int) < R.ms.length by omega), decide_eq_false (show ¬ (30 : Int) < R.es.length by omega)]
      rfl
    have hf1 : Hid (okRun R = true → (decide ((70 : Int) < (R.ss.length : Int)) || decide ((110 : Int) < (R.ms.length : Int)) || decide ((30 : Int) < (R.es.length : Int)) || decide (400 < R.e)) = lgR R) := fun hk => by
      unfold lgR
      rw [hk, decide_eq_false (show ¬ 70 < R.ss.length by omega), decide_eq_false (show ¬ 110 < R.ms.length by omega), decide_eq_false (show ¬ 30 < R.es.length by omega), decide_eq_false (show ¬ (70 : Int) < R.ss.length by omega), decide_eq_false (show ¬ (110 : Int) < R.ms.length by omega), decide_eq_false (show ¬ (30 : Int) < R.es.length by omega)]
      rfl
    clear hW1 h1 h2 h3 h
    go_enter Try.func18, Try.ntmps18
    go_wp2_with fail
    rw [← HW.out]
    refine (refRun_any A1 A2 A3 c1 c2 c3 R W1 (HX.out W1 (Le.refl _)).2.1).mono ?_
    rintro e w1 ⟨rfl, hb1⟩
    have L1 : Hid (Le W1 w1) := hb1
    obtain ⟨⟨x0, x1, x2, x3⟩, _, hbe⟩ := HX.out w1 L1.out
    have Hb := Lib.hid hbe
    clear hb1 hbe
    rcases hok : okRun R with _ | _
    · have hf := Lib.hid (hf0.out hok)
      clear hok hf0 hf1
      go_wp2_with fail
      go_ret
      exact ⟨congrArg (fun b => Ending.returned (.bool b)) hf.out, Hb.out⟩
    · have hf := Lib.hid (hf1.out hok)
      clear hok hf0 hf1
      go_wp2_with fail
      go_ret
      exact ⟨congrArg (fun b => Ending.returned (.bool b)) hf.out, Hb.out⟩
  · have HC : Hid (∀ P : Prop, (70 < R.ss.length → P) → (R.ss.length ≤ 70 → 110 < R.ms.length → P) → (R.ss.length ≤ 70 → R.ms.length ≤ 110 → 30 < R.es.length → P) → P) := fun P a b c => by
      by_cases q1 : 70 < R.ss.length
      · exact a q1
      · by_cases q2 : 110 < R.ms.length
        · exact b (by omega) q2
        · exact c (by omega) (by omega) (by omega)
    have hf : Hid (lgR R = true) := by
      show _ = _
      unfold lgR
      simp only [Bool.or_eq_true, decide_eq_true_eq]
      omega
    clear hW1 hlen h1 h2 h3
    refine HC.out _ (fun q1 => ?_) (fun q1 q2 => ?_) (fun q1 q2 q3 => ?_)
    all_goals
      clear HC
      go_enter Try.func18, Try.ntmps18
      go_wp2_with fail
      rw [← HW.out]
      go_ret
      exact ⟨by rw [hf.out]; rfl, hB.out⟩
end Go.Proofs.Ytlebefopdnadaaa
