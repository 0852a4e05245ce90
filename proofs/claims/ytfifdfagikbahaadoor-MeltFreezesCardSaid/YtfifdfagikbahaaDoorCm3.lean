/- Plain law of runs that only freeze. -/
import Derived.Test.YtfifdfagikbahaaDoorCm2
namespace Go.Proofs.YtfifdfagikbahaaDoor
open Go.RowKit
/-- n times a, divided by b, rounded down. -/
def shF (n a b : Int) : Int := n / b * a + n % b * a / b
theorem shF_eq {n a b : Int} (hb : 0 < b) : shF n a b = n * a / b := by
  have h := Int.emod_add_mul_ediv n b
  have e : n * a = n % b * a + n / b * a * b := by
    conv => lhs; rw [← h]
    rw [Int.add_mul, Int.mul_comm b (n / b), Int.mul_assoc, Int.mul_comm b a, ← Int.mul_assoc]
  rw [e, Int.add_mul_ediv_right _ _ (by omega)]
  unfold shF
  omega
/-- A run that only freezes, with coefficients of at most 1. -/
def OnlyF (l : List Stp) : Prop := ∀ k, k < l.length → (at0 l k).kd = 1 ∧ ∀ s, s < 3 → (at0 l k).b (s * 2 + 1) ≤ 10000
theorem OnlyF.fz {l : List Stp} (h : OnlyF l) : ∀ k, k ≤ l.length → fzK l k = k
  | 0, _ => rfl
  | k + 1, hk => by rw [fzK, if_pos (h k (by omega)).1, h.fz k (by omega)]
section
variable {m : Mlt} {l : List Stp} {s : Nat} {D c : Nat → Int}
theorem frz_step (ho : OnlyF l) (hv : Vld m l) (hs : s < 3) (hg : Goes m l s D c l.length) {k : Nat} (hk : k < l.length) :
    D (k + 1) = D k - c k ∧ msK m l (k + 1) = msK m l k - (at0 l k).ms ∧ 0 ≤ c k ∧ c k ≤ D k ∧ ((at0 l k).ms = msK m l k → c k = D k) ∧ ((at0 l k).ms ≠ msK m l k → c k - 1 ≤ shF (D k) (at0 l k).ms (msK m l k) ∧ shF (D k) (msK m l k - (at0 l k).ms) (msK m l k) - 1 ≤ D k - c k) := by
  obtain ⟨h1, h2⟩ := ho k hk
  have hkd : ¬ ((at0 l k).kd = 2 ∨ (at0 l k).kd = 3) := by omega
  have hst := hg.st k hk
  rw [if_neg hkd] at hst
  have hms : msK m l (k + 1) = msK m l k - (at0 l k).ms := by
    show grF _ _ = _
    unfold grF
    rw [if_pos h1]
  have hb := hg.bd' hv hs (Nat.le_refl _) (show k ≤ l.length by omega)
  have hc := hg.ch k hk
  have hM := hv.ms (show k ≤ l.length by omega)
  have hM1 := hv.ms (show k + 1 ≤ l.length by omega)
  have hx := isS_ms (hv.isS hk) (.inl h1)
  have hle := hv.le hk h1
  have hcb := ch_bd (mass := msK m l k) (hv.isS hk) hs hb.1
  have hcb1 := hcb.2.1 hkd
  refine ⟨hst, hms, by omega, by omega, fun he => ?_, fun hne => ?_⟩
  · unfold chF at hc
    rw [if_pos ⟨h1, he⟩] at hc
    simp only at hc
    omega
  · rcases ch_spell (hv.isS hk) hs hM (hv.le hk) (.inl h1) with ⟨_, he, _⟩ | ⟨_, M, C, hM0, hC, e1, e2, hsp⟩
    · exact absurd he hne
    · rw [if_pos h1] at e1 e2
      subst e1 e2
      rw [hsp _ hb.1 hb.2] at hc
      simp only at hc
      have hq := h2 s hs
      have hq0 := isS_by (hv.isS hk) hs
      rw [upF_eq _ _ _ hC] at hc
      obtain ⟨d, hd⟩ : ∃ d, D k = d := ⟨_, rfl⟩
      obtain ⟨x, hxx⟩ : ∃ x, (at0 l k).ms = x := ⟨_, rfl⟩
      obtain ⟨q, hqq⟩ : ∃ q, (at0 l k).b (s * 2 + 1) = q := ⟨_, rfl⟩
      obtain ⟨w, hw⟩ : ∃ w, msK m l k = w := ⟨_, rfl⟩
      rw [hd, hxx, hqq, hw] at hc
      rw [hd, hxx, hw]
      rw [hd] at hb
      rw [hxx] at hx hle hne
      rw [hw] at hM hle hne hC
      rw [hqq] at hq hq0
      have hw0 : 0 < w := by omega
      rw [shF_eq hw0, shF_eq hw0]
      have hc2 : c k ≤ (d * (q * x) + (10000 * w - 1)) / (10000 * w) := by omega
      clear hc hcb hcb1 hsp hst hms hM1 hg
      obtain ⟨y, hy⟩ : ∃ y, d * x / w = y := ⟨_, rfl⟩
      obtain ⟨z, hz⟩ : ∃ z, d * (w - x) / w = z := ⟨_, rfl⟩
      have y1 : y * w ≤ d * x := by rw [← hy]; exact Int.ediv_mul_le _ (by omega)
      have y2 : d * x < (y + 1) * w := by rw [← hy]; exact Int.lt_ediv_add_one_mul_self _ hw0
      have z1 : z * w ≤ d * (w - x) := by rw [← hz]; exact Int.ediv_mul_le _ (by omega)
      have p1 : d * (q * x) ≤ d * x * 10000 := by
        rw [Int.mul_comm q x, ← Int.mul_assoc]
        exact Int.mul_le_mul_of_nonneg_left hq (Int.mul_nonneg hb.1 (by omega))
      have p2 : (y + 1) * w = y * w + w := by rw [Int.add_mul, Int.one_mul]
      have p3 : d * (w - x) = d * w - d * x := Int.mul_sub _ _ _
      have hcy : c k ≤ y + 1 := by
        refine Int.le_trans hc2 ?_
        have p4 : (y + 2) * (10000 * w) = 10000 * (y * w) + 20000 * w := by
          rw [Int.add_mul, ← Int.mul_assoc, Int.mul_comm y 10000, Int.mul_assoc]
          omega
        have : (d * (q * x) + (10000 * w - 1)) / (10000 * w) < y + 2 := Int.ediv_lt_of_lt_mul (by omega) (by rw [p4]; omega)
        omega
      have hyz : z + y ≤ d := by
        have p5 : (z + y) * w ≤ d * w := by rw [Int.add_mul]; omega
        exact Int.le_of_mul_le_mul_right p5 hw0
      rw [hy, hz]
      omega
/-- If all freezes, nothing is left. -/
theorem frz_end (ho : OnlyF l) (hv : Vld m l) (hs : s < 3) (hg : Goes m l s D c l.length) (hl : 0 < l.length) (hm : msK m l l.length = 0) : D l.length = 0 := by
  obtain ⟨k, hk⟩ : ∃ k, l.length = k + 1 := ⟨l.length - 1, by omega⟩
  have h := frz_step ho hv hs hg (show k < l.length by omega)
  rw [hk] at hm ⊢
  have := h.2.2.2.2.1 (by omega)
  omega
end
end Go.Proofs.YtfifdfagikbahaaDoor
