/- Plain laws of lengths: what is grown adds up, and what is grown by a time is reached by then, and not before. -/
import Derived.Test.YtlebefopdnadaaaPla
namespace Go.Proofs.Ytlebefopdnadaaa
open Go.RowKit
theorem grown_at {R : Run} (h : VRun R) {a b : Int} (h0 : 0 ≤ a) (h1 : a ≤ b) (h2 : b ≤ R.e) : grownE R a b = 0 ∧ grownN R a b = placeR R b - placeR R a := by
  have hok : okRun R = true := (vRun_iff R).2 h
  have e1 : grownE R a b = 0 := by simp [grownE, hok]; omega
  exact ⟨e1, by simp [grownN, e1]⟩
theorem reach_back {R : Run} (h : VRun R) {L : Int} (l1 : 0 ≤ L) (l2 : L ≤ 100000000000) (he : reachE R L = 0) : 0 ≤ reachN R L ∧ reachN R L ≤ R.e ∧ L ≤ placeR R (reachN R L) ∧ ∀ s, 0 ≤ s → s < reachN R L → placeR R s < L := by
  have hr := reach_in h l1 l2
  rw [he] at hr
  have hn := h.n1
  have h0 := h.tlt 0 (by omega)
  rw [h.first] at h0
  by_cases hz : L = 0
  · rw [reachN, if_pos he, if_pos hz]
    exact ⟨Int.le_refl _, by omega, by rw [placeR_zero h]; omega, fun s h1 h2 => by omega⟩
  · rw [if_neg hz] at hr
    by_cases hx : ixOf (hits L) (pcs R) < 0
    · rw [if_pos hx] at hr; omega
    · rw [reachN, if_pos he, if_neg hz]
      exact reach_first h (by omega) hx
theorem reach_cases {R : Run} (h : VRun R) {L : Int} (l1 : 0 ≤ L) (l2 : L ≤ 100000000000) : reachE R L = 0 ∨ reachE R L = 7 := by
  have hr := reach_in h l1 l2
  by_cases hz : L = 0
  · rw [if_pos hz] at hr; exact Or.inl hr
  · rw [if_neg hz] at hr
    by_cases hx : ixOf (hits L) (pcs R) < 0
    · rw [if_pos hx] at hr; exact Or.inr hr
    · rw [if_neg hx] at hr; exact Or.inl hr
theorem reach_here {R : Run} (h : VRun R) {c : Int} (h0 : 0 ≤ c) (h1 : c ≤ R.e) : reachE R (placeR R c) = 0 ∧ 0 ≤ reachN R (placeR R c) ∧ reachN R (placeR R c) ≤ c ∧ placeR R c ≤ placeR R (reachN R (placeR R c)) ∧ (0 < reachN R (placeR R c) → placeR R (reachN R (placeR R c) - 1) < placeR R c) ∧ (reachN R (placeR R c) = 0 → placeR R c = 0) := by
  have hb := placeR_bd h h0
  have hl := h.last
  have l2 : placeR R c ≤ 100000000000 := by omega
  rcases reach_cases h hb.1 l2 with he | he
  · obtain ⟨f1, f2, f3, f4⟩ := reach_back h hb.1 l2 he
    refine ⟨he, f1, ?_, f3, fun hp => f4 _ (by omega) (by omega), fun hz => ?_⟩
    · rcases Int.lt_or_le c (reachN R (placeR R c)) with hq | hq
      · have := f4 c h0 hq
        omega
      · exact hq
    · rw [hz, placeR_zero h] at f3
      omega
  · have hr := reach_in h hb.1 l2
    rw [he] at hr
    by_cases hz : placeR R c = 0
    · rw [if_pos hz] at hr; omega
    · rw [if_neg hz] at hr
      by_cases hx : ixOf (hits (placeR R c)) (pcs R) < 0
      · have := reach_none h (show 1 ≤ placeR R c by omega) hx h0 h1
        omega
      · rw [if_neg hx] at hr; omega
theorem reach_more {R : Run} (h : VRun R) {c : Int} (h0 : 0 ≤ c) (h1 : c ≤ R.e) (h2 : placeR R c < 100000000000) : (reachE R (placeR R c + 1) = 0 ∧ c < reachN R (placeR R c + 1)) ∨ reachE R (placeR R c + 1) = 7 := by
  have hb := placeR_bd h h0
  rcases reach_cases h (L := placeR R c + 1) (by omega) (by omega) with he | he
  · refine Or.inl ⟨he, ?_⟩
    obtain ⟨f1, f2, f3, _⟩ := reach_back h (L := placeR R c + 1) (by omega) (by omega) he
    rcases Int.lt_or_le c (reachN R (placeR R c + 1)) with hq | hq
    · exact hq
    · have := placeR_mono h f1 hq h1
      omega
  · exact Or.inr he
end Go.Proofs.Ytlebefopdnadaaa
