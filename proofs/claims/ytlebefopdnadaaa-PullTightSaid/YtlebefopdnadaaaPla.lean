/- Plain laws of the place: it is the sum over the settings, it never falls, and the time at which a length is reached is the first one. -/
import Derived.Test.YtlebefopdnadaaaSoa
import Derived.Test.YtlebefopdnadaaaLk
namespace Go.Proofs.Ytlebefopdnadaaa
open Go.RowKit
theorem ixOf_before {α : Type} [Inhabited α] (f : α → Bool) : ∀ xs : List α, 0 ≤ ixOf f xs → ∀ j : Nat, (j : Int) < ixOf f xs → f (at0 xs j) = false
  | [], hx, _, _ => by simp [ixOf] at hx
  | x :: r, hx, j, hj => by
    simp only [ixOf] at hx hj
    cases hq : f x with
    | true => rw [hq] at hj; simp at hj; omega
    | false =>
      simp only [hq, Bool.false_eq_true, if_false] at hx hj
      cases j with
      | zero => simpa [at0] using hq
      | succ j =>
        have hr : 0 ≤ ixOf f r := by split at hx <;> omega
        rw [if_neg (by omega)] at hj
        exact ixOf_before f r hr j (by omega)
/-- The place, as the sum over the first k settings. -/
def sumP (R : Run) (t : Int) : Nat → Int
  | 0 => 0 | k + 1 => sumP R t k + (at0 R.ss k).v 0 * max 0 (min t (untS R k) - (at0 R.ss k).t)
theorem sumP_past {R : Run} {t : Int} {j : Nat} : ∀ {k : Nat}, j ≤ k → (∀ i, j ≤ i → i < k → t ≤ (at0 R.ss i).t) → sumP R t k = sumP R t j
  | 0, hj, _ => by obtain rfl : j = 0 := by omega
                   rfl
  | k + 1, hj, hi => by
    rcases Nat.lt_or_ge k j with hl | hl
    · obtain rfl : j = k + 1 := by omega
      rfl
    · have h1 := hi k hl (by omega)
      simp only [sumP]
      rw [sumP_past hl (fun i h1 h2 => hi i h1 (by omega)), show max 0 (min t (untS R k) - (at0 R.ss k).t) = 0 by omega]
      simp
section
variable {R : Run} (h : VRun R)
include h
theorem unt_lt {k : Nat} (hk : k < R.ss.length) : (at0 R.ss k).t < untS R k := by
  unfold untS
  split
  · rename_i h1; exact h.tup k h1
  · exact h.tlt k hk
theorem t_mono {j : Nat} : ∀ {k : Nat}, j ≤ k → k < R.ss.length → (at0 R.ss j).t ≤ (at0 R.ss k).t
  | 0, hj, _ => by obtain rfl : j = 0 := by omega
                   exact Int.le_refl _
  | k + 1, hj, hk => by
    rcases Nat.lt_or_ge k j with hl | hl
    · obtain rfl : j = k + 1 := by omega
      exact Int.le_refl _
    · have h1 := t_mono hl (show k < R.ss.length by omega)
      have h2 := h.tup k hk
      omega
theorem unt_le {j k : Nat} (hj : j < k) (hk : k < R.ss.length) : untS R j ≤ (at0 R.ss k).t := by
  unfold untS
  rw [if_pos (by omega)]
  exact t_mono h (by omega) hk
theorem unt_e {j : Nat} : untS R j ≤ R.e := by
  unfold untS
  split
  · rename_i h1; exact Int.le_of_lt (h.tlt _ h1)
  · exact Int.le_refl _
theorem sumP_pl {t : Int} : ∀ {k : Nat}, k ≤ R.ss.length → (∀ j, j < k → untS R j ≤ t) → sumP R t k = plS R k
  | 0, _, _ => rfl
  | k + 1, hk, hj => by
    have h1 := hj k (by omega)
    have h2 := unt_lt h (k := k) (by omega)
    simp only [sumP, plS]
    rw [sumP_pl (k := k) (by omega) (fun j hjk => hj j (by omega)), show max 0 (min t (untS R k) - (at0 R.ss k).t) = untS R k - (at0 R.ss k).t by omega]
/-- The setting that holds at a time, and the place there. -/
theorem placeF_at {t : Int} (ht : 0 ≤ t) : ∀ i, i < R.ss.length → ∃ j, j ≤ i ∧ (at0 R.ss j).t ≤ t ∧ (∀ k, j < k → k ≤ i → t < (at0 R.ss k).t) ∧ placeF (pcs R) t i = plS R j + (at0 R.ss j).v 0 * (t - (at0 R.ss j).t)
  | 0, hi => ⟨0, Nat.le_refl _, by rw [h.first]; exact ht, fun k h1 h2 => by omega, by simp only [placeF, at0_pcs R hi]; rfl⟩
  | i + 1, hi => by
    simp only [placeF, at0_pcs R hi]
    split
    · rename_i hle
      exact ⟨i + 1, Nat.le_refl _, hle, fun k h1 h2 => by omega, rfl⟩
    · rename_i hle
      obtain ⟨j, h1, h2, h3, h4⟩ := placeF_at ht i (by omega)
      refine ⟨j, by omega, h2, fun k k1 k2 => ?_, h4⟩
      rcases Nat.lt_or_ge i k with hl | hl
      · obtain rfl : k = i + 1 := by omega
        have hle' : ¬ (at0 R.ss (i + 1)).t ≤ t := hle
        omega
      · exact h3 k k1 hl
theorem place_spot {t : Int} (ht : 0 ≤ t) (hte : t ≤ R.e) : ∃ j, j < R.ss.length ∧ (at0 R.ss j).t ≤ t ∧ t ≤ untS R j ∧ (∀ k, j < k → k < R.ss.length → t < (at0 R.ss k).t) ∧ placeR R t = plS R j + (at0 R.ss j).v 0 * (t - (at0 R.ss j).t) := by
  have hn := h.n1
  obtain ⟨j, h1, h2, h3, h4⟩ := placeF_at h ht (R.ss.length - 1) (by omega)
  refine ⟨j, by omega, h2, ?_, fun k k1 k2 => h3 k k1 (by omega), h4⟩
  unfold untS
  split
  · rename_i hj; exact Int.le_of_lt (h3 (j + 1) (by omega) (by omega))
  · exact hte
/-- The place is the sum. -/
theorem placeR_sum {t : Int} (ht : 0 ≤ t) (hte : t ≤ R.e) : placeR R t = sumP R t R.ss.length := by
  obtain ⟨j, hj, h1, h2, h3, h4⟩ := place_spot h ht hte
  rw [h4, sumP_past (j := j + 1) (by omega) (fun i i1 i2 => Int.le_of_lt (h3 i (by omega) i2))]
  simp only [sumP]
  rw [sumP_pl h (by omega) (fun i hi => Int.le_trans (unt_le h hi hj) h1), show max 0 (min t (untS R j) - (at0 R.ss j).t) = t - (at0 R.ss j).t by omega]
theorem sumP_mono {s t : Int} (hst : s ≤ t) : ∀ k, k ≤ R.ss.length → sumP R s k ≤ sumP R t k
  | 0, _ => Int.le_refl _
  | k + 1, hk => by
    have ih := sumP_mono hst k (by omega)
    have hv := (h.v k (by omega) 0 (by omega)).1
    simp only [sumP]
    have := Int.mul_le_mul_of_nonneg_left (show max 0 (min s (untS R k) - (at0 R.ss k).t) ≤ max 0 (min t (untS R k) - (at0 R.ss k).t) by omega) hv
    omega
/-- The place never falls. -/
theorem placeR_mono {s t : Int} (hs : 0 ≤ s) (hst : s ≤ t) (hte : t ≤ R.e) : placeR R s ≤ placeR R t := by
  rw [placeR_sum h hs (by omega), placeR_sum h (by omega) hte]
  exact sumP_mono h hst _ (Nat.le_refl _)
theorem placeR_zero : placeR R 0 = 0 := by
  have hn := h.n1
  have he := h.tlt 0 (by omega)
  rw [h.first] at he
  rw [placeR_sum h (Int.le_refl _) (by omega), sumP_past (j := 0) (by omega) (fun i _ hi => by have := t_mono h (Nat.zero_le i) hi; rwa [h.first] at this)]
  rfl
theorem place_in {k : Nat} (hk : k < R.ss.length) {t : Int} (h1 : (at0 R.ss k).t ≤ t) (h2 : t ≤ untS R k) : placeR R t = plS R k + (at0 R.ss k).v 0 * (t - (at0 R.ss k).t) := by
  have h0 : 0 ≤ (at0 R.ss k).t := by have := t_mono h (Nat.zero_le k) hk; rwa [h.first] at this
  have he := unt_e h (j := k)
  rw [placeR_sum h (by omega) (by omega), sumP_past (j := k + 1) (by omega) (fun i i1 i2 => Int.le_trans h2 (unt_le h (by omega) i2))]
  simp only [sumP]
  rw [sumP_pl h (by omega) (fun i hi => Int.le_trans (unt_le h hi hk) h1), show max 0 (min t (untS R k) - (at0 R.ss k).t) = t - (at0 R.ss k).t by omega]
theorem place_end : placeR R R.e = plS R R.ss.length := by
  have hn := h.n1
  have he := h.tlt 0 (by omega)
  rw [h.first] at he
  rw [placeR_sum h (by omega) (Int.le_refl _), sumP_pl h (Nat.le_refl _) (fun j _ => unt_e h)]
/-- No piece reaches the length: it is not reached by the end. -/
theorem reach_none {L : Int} (hL : 1 ≤ L) (hx : ixOf (hits L) (pcs R) < 0) {t : Int} (ht : 0 ≤ t) (hte : t ≤ R.e) : placeR R t < L := by
  have hall : ∀ j, j < R.ss.length → hits L (pcS R j) = false := by
    intro j hj
    cases hq : hits L (pcS R j) with
    | false => rfl
    | true =>
      have h1 : (pcs R).any (hits L) = true := List.any_eq_true.2 ⟨pcS R j, List.mem_map.2 ⟨j, List.mem_range.2 hj, rfl⟩, hq⟩
      rw [← ixOf_any] at h1
      have := of_decide_eq_true h1
      omega
  have h1 := plS_lt h hL (Nat.le_refl R.ss.length) hall
  have h2 := placeR_mono h ht hte (Int.le_refl _)
  rw [place_end h] at h2
  omega
/-- What is found is the first time at which the length is reached. -/
theorem reach_first {L : Int} (hL : 1 ≤ L) (hx : ¬ ixOf (hits L) (pcs R) < 0) : 0 ≤ reachAt L (at0 (pcs R) (ixOf (hits L) (pcs R)).toNat) ∧ reachAt L (at0 (pcs R) (ixOf (hits L) (pcs R)).toNat) ≤ R.e ∧
    L ≤ placeR R (reachAt L (at0 (pcs R) (ixOf (hits L) (pcs R)).toNat)) ∧ ∀ s, 0 ≤ s → s < reachAt L (at0 (pcs R) (ixOf (hits L) (pcs R)).toNat) → placeR R s < L := by
  obtain ⟨k, hk⟩ : ∃ k : Nat, ixOf (hits L) (pcs R) = k := ⟨(ixOf (hits L) (pcs R)).toNat, by omega⟩
  have hlt := ixOf_lt (hits L) (pcs R)
  rw [hk, pcs_len] at hlt
  have hkl : k < R.ss.length := by omega
  have hsat := ixOf_sat (hits L) (pcs R) (by omega)
  rw [hk, show (k : Int).toNat = k by omega, at0_pcs R hkl] at hsat
  have hbefore : ∀ j, j < k → hits L (pcS R j) = false := by
    intro j hj
    have := ixOf_before (hits L) (pcs R) (by omega) j (by omega)
    rwa [at0_pcs R (by omega)] at this
  rw [hk, show (k : Int).toNat = k by omega, at0_pcs R hkl]
  have h1 := plS_lt h hL (show k ≤ R.ss.length by omega) hbefore
  unfold hits at hsat
  rw [Bool.and_eq_true, decide_eq_true_eq, decide_eq_true_eq] at hsat
  simp only [pcS] at hsat
  obtain ⟨hv, hs⟩ := hsat
  have hu := unt_lt h hkl
  have h0 : 0 ≤ (at0 R.ss k).t := by have := t_mono h (Nat.zero_le k) hkl; rwa [h.first] at this
  have he := unt_e h (j := k)
  simp only [reachAt, pcS]
  generalize hvv : (at0 R.ss k).v 0 = v at *
  generalize htt : (at0 R.ss k).t = tk at *
  generalize huu : untS R k = u at *
  generalize hpp : plS R k = pk at *
  generalize hqq : (L - pk + v - 1) / v = q
  have q1 : v * q ≤ L - pk + v - 1 := by rw [← hqq]; exact Int.mul_ediv_self_le (by omega)
  have q2 : L - pk + v - 1 < v * q + v := by rw [← hqq]; exact Int.lt_mul_ediv_self_add hv
  have q3 : 1 ≤ q := by
    rcases Int.lt_or_le q 1 with hq | hq
    · have := Int.mul_le_mul_of_nonneg_left (show q ≤ 0 by omega) (show 0 ≤ v by omega)
      omega
    · exact hq
  have q4 : q ≤ u - tk := by
    rcases Int.lt_or_le (u - tk) q with hq | hq
    · have := Int.mul_le_mul_of_nonneg_left (show u - tk + 1 ≤ q by omega) (show 0 ≤ v by omega)
      rw [Int.mul_add] at this
      omega
    · exact hq
  have hin : ∀ t, tk ≤ t → t ≤ u → placeR R t = pk + v * (t - tk) := by
    intro t t1 t2
    have := place_in h hkl (t := t) (by omega) (by omega)
    rw [this, hvv, htt, hpp]
  refine ⟨by omega, by omega, ?_, fun s s1 s2 => ?_⟩
  · rw [hin (tk + q) (by omega) (by omega), show tk + q - tk = q by omega]
    omega
  · have h2 := placeR_mono h s1 (show s ≤ tk + q - 1 by omega) (by omega)
    rw [hin (tk + q - 1) (by omega) (by omega), show tk + q - 1 - tk = q - 1 by omega, Int.mul_sub] at h2
    omega
end
end Go.Proofs.Ytlebefopdnadaaa
/- The contracts of Until and Place of the reference. -/
namespace Go.Proofs.Ytlebefopdnadaaa
open Go.RowKit
/-- A run in a box of its own: its cells, its lists, and what was there. -/
theorem box_run {w : World} {A1 A2 A3 : Option Addr} {c1 c2 c3 : Nat} {R : Run} (h : RunIn w A1 A2 A3 R) {W1 : World} (hW1 : W1 = w.alloc (.cells #[.slice A1 R.ss.length c1, I R.e, .slice A2 R.ms.length c2, .slice A3 R.es.length c3] 35)) {W : World} (hW : Le W1 W) :
    (W.cell? ⟨w.heap.size, 0, none⟩ = some (.slice A1 R.ss.length c1) ∧ W.cell? ⟨w.heap.size, 1, none⟩ = some (I R.e) ∧ W.cell? ⟨w.heap.size, 2, none⟩ = some (.slice A2 R.ms.length c2) ∧ W.cell? ⟨w.heap.size, 3, none⟩ = some (.slice A3 R.es.length c3)) ∧ RunIn W A1 A2 A3 R ∧ Below w.heap.size w W := by
  have hr : W.heap[w.heap.size]? = some (.cells #[.slice A1 R.ss.length c1, I R.e, .slice A2 R.ms.length c2, .slice A3 R.es.length c3] 35 (0, 0)) := (Below.block hW _ (by rw [hW1]; simp)).trans (by rw [hW1]; exact heap_last _ _ _ rfl)
  refine ⟨⟨by rw [cell_of_row _ _ _ _ _ _ hr]; rfl, by rw [cell_of_row _ _ _ _ _ _ hr]; rfl, by rw [cell_of_row _ _ _ _ _ _ hr]; rfl, by rw [cell_of_row _ _ _ _ _ _ hr]; rfl⟩, RunIn.below (by rw [hW1]; exact h.alloc _) hW, ?_⟩
  rw [hW1] at hW
  exact under2 hW
theorem sumP_bd {R : Run} (h : VRun R) {t : Int} : ∀ k, k ≤ R.ss.length → 0 ≤ sumP R t k ∧ sumP R t k ≤ 100000000000 * k
  | 0, _ => by simp [sumP]
  | k + 1, hk => by
    have ih := sumP_bd h (t := t) k (by omega)
    have hv := h.v k (by omega) 0 (by omega)
    have h0 : 0 ≤ (at0 R.ss k).t := by have := t_mono h (Nat.zero_le k) (by omega); rwa [h.first] at this
    have he := unt_e h (j := k)
    have hl := h.last
    simp only [sumP]
    have m1 := Int.mul_nonneg hv.1 (show 0 ≤ max 0 (min t (untS R k) - (at0 R.ss k).t) by omega)
    have m2 := Int.mul_le_mul_of_nonneg_right hv.2 (show 0 ≤ max 0 (min t (untS R k) - (at0 R.ss k).t) by omega)
    have m3 : max 0 (min t (untS R k) - (at0 R.ss k).t) ≤ 100000 := by omega
    omega
theorem sumP_val {R : Run} (h : VRun R) {t : Int} (h0 : 0 ≤ t) (h1 : t ≤ R.e) {k : Nat} (hk : k < R.ss.length) : wrap64 (sumP R t k + wrap64 ((at0 R.ss k).v 0 * if 0 < wrap64 ((if untS R k < t then untS R k else t) - (at0 R.ss k).t) then wrap64 ((if untS R k < t then untS R k else t) - (at0 R.ss k).t) else 0)) = sumP R t (k + 1) := by
  have hv := h.v k hk 0 (by omega)
  have ht0 : 0 ≤ (at0 R.ss k).t := by have := t_mono h (Nat.zero_le k) hk; rwa [h.first] at this
  have he := unt_e h (j := k)
  have hu := unt_lt h hk
  have hl := h.last
  have hn := h.n60
  have ih := sumP_bd h (t := t) k (by omega)
  rw [show (if untS R k < t then untS R k else t) = min t (untS R k) by split <;> omega, IntWalk.wrap64_in (min t (untS R k) - (at0 R.ss k).t) ⟨by omega, by omega⟩,
    show (if 0 < min t (untS R k) - (at0 R.ss k).t then min t (untS R k) - (at0 R.ss k).t else 0) = max 0 (min t (untS R k) - (at0 R.ss k).t) by split <;> omega]
  have m1 := Int.mul_nonneg hv.1 (show 0 ≤ max 0 (min t (untS R k) - (at0 R.ss k).t) by omega)
  have m2 := Int.mul_le_mul_of_nonneg_right hv.2 (show 0 ≤ max 0 (min t (untS R k) - (at0 R.ss k).t) by omega)
  have m3 : max 0 (min t (untS R k) - (at0 R.ss k).t) ≤ 100000 := by omega
  rw [IntWalk.wrap64_in ((at0 R.ss k).v 0 * max 0 (min t (untS R k) - (at0 R.ss k).t)) ⟨by omega, by omega⟩, IntWalk.wrap64_in _ ⟨by omega, by omega⟩]
  rfl
theorem until_any (A1 A2 A3 : Option Addr) (c1 c2 c3 : Nat) (R : Run) (k : Nat) (w : World) (h : RunIn w A1 A2 A3 R) (hk : k < R.ss.length) : Calls Try.prog 59 #[runV A1 A2 A3 c1 c2 c3 R, I k] w fun e w' => e = .returned (I (untS R k)) ∧ Below w.heap.size w w' := by
  obtain ⟨⟨x0, x1, x2, x3⟩, hin, hb⟩ := box_run (c1 := c1) (c2 := c2) (c3 := c3) h rfl (Le.refl _)
  have HB := Lib.hid hb
  have ls : (R.ss.length : Int) ≤ 1000000 := by have := h.ls; omega
  by_cases hl : k + 1 < R.ss.length
  · obtain ⟨b, o, hA, _, e0, _⟩ := hin.s.stg hl
    have hf : Hid (untS R k = (at0 R.ss (k + 1)).t) := by show _ = _; unfold untS; rw [if_pos hl]
    clear h hb hin
    subst hA
    have hl' : (k : Int) + 1 < R.ss.length := by omega
    go_enter Try.func59, Try.ntmps59
    go_wp2_with fail
    go_ret
    exact ⟨by rw [hf.out]; rfl, HB.out⟩
  · have hf : Hid (untS R k = R.e) := by show _ = _; unfold untS; rw [if_neg hl]
    clear h hb hin
    have hl' : (R.ss.length : Int) ≤ (k : Int) + 1 := by omega
    go_enter Try.func59, Try.ntmps59
    go_wp2_with fail
    go_ret
    exact ⟨by rw [hf.out]; rfl, HB.out⟩
set_option maxHeartbeats 1000000 in
theorem refPlace_any (A1 A2 A3 : Option Addr) (c1 c2 c3 : Nat) (R : Run) (t : Int) (w : World) (h : RunIn w A1 A2 A3 R) (hv : VRun R) (h0 : 0 ≤ t) (h1 : t ≤ R.e) : Calls Try.prog 52 #[runV A1 A2 A3 c1 c2 c3 R, I t] w fun e w' => e = .returned (I (placeR R t)) ∧ Below w.heap.size w w' := by
  obtain ⟨W1, hW1⟩ : ∃ W1, W1 = w.alloc (.cells #[.slice A1 R.ss.length c1, I R.e, .slice A2 R.ms.length c2, .slice A3 R.es.length c3] 35) := ⟨_, rfl⟩
  have HX : Hid (∀ W, Le W1 W → (W.cell? ⟨w.heap.size, 0, none⟩ = some (.slice A1 R.ss.length c1) ∧ W.cell? ⟨w.heap.size, 1, none⟩ = some (I R.e) ∧ W.cell? ⟨w.heap.size, 2, none⟩ = some (.slice A2 R.ms.length c2) ∧ W.cell? ⟨w.heap.size, 3, none⟩ = some (.slice A3 R.es.length c3)) ∧ RunIn W A1 A2 A3 R ∧ Below w.heap.size w W) := fun W hW => box_run h hW1 hW
  have HW := Lib.hid hW1
  have hsum := Lib.hid (placeR_sum hv h0 h1)
  have Hv := Lib.hid hv
  have H0 := Lib.hid h0
  have H1 := Lib.hid h1
  have ls : (R.ss.length : Int) ≤ 60 := by have := hv.n60; omega
  clear h hv hW1 h0 h1
  go_enter Try.func52, Try.ntmps52
  go_wp2_with fail
  rw [← HW.out]
  go_loopw [5, 6] (fun s i wr => ∃ k : Nat, k ≤ R.ss.length ∧ i = .int .i64 k ∧ s = I (sumP R t k) ∧ Le W1 wr) (fun _ i _ => R.ss.length - (intOf i).toNat)
  case atStart => exact ⟨0, by omega, rfl, rfl, Le.refl _⟩
  case round =>
    obtain ⟨k, hk, rfl, rfl, hbw⟩ := hrel
    have HB := Lib.hid hbw
    obtain ⟨⟨x0, x1, x2, x3⟩, hin, hb⟩ := HX.out wr HB.out
    have Hb := Lib.hid hb
    clear hbw hb
    by_cases hlt : k < R.ss.length
    · obtain ⟨b, o, hA, _, e0, _, e2, _⟩ := hin.s.stg hlt
      have Hin := Lib.hid hin
      have y0 := ovr_cell x0
      have y1 := ovr_cell x1
      have y2 := ovr_cell x2
      have y3 := ovr_cell x3
      have z0 := ovr_cell e0
      have z2 := ovr_cell e2
      clear hin
      subst hA
      go_wp2_with fail
      refine wp_region_below_lit (by kernel_rfl) (by kernel_rfl) ?_
      repeat (go_big_quiet_step ((go_at_call 59; exact call_below (until_any _ _ _ _ _ _ R k _ (Hin.out.below (ovr_below _ _)) hlt))))
      refine wpQuiet_nil ?_
      intro w' hb'
      rw [sumP_val Hv.out H0.out H1.out hlt]
      have L2 : Hid (Le W1 w') := HB.out.trans hb'
      clear hb' y0 y1 y2 y3 z0 z2 x0 x1 x2 x3
      go_wp2_with fail
      go_roundw
      case rel => exact ⟨k + 1, by omega, by go_num, rfl, L2.out⟩
      case measure => simp [intOf]; omega
    · obtain rfl : k = R.ss.length := by omega
      go_wp2_with fail
      go_ret
      exact ⟨by rw [hsum.out]; rfl, Hb.out⟩
end Go.Proofs.Ytlebefopdnadaaa
/- The contracts of Grown and Reached of the reference, and of long of the statements' package. -/
namespace Go.Proofs.Ytlebefopdnadaaa
open Go.RowKit
set_option maxRecDepth 100000 in
set_option maxHeartbeats 1000000 in
theorem refGrown_any (A1 A2 A3 : Option Addr) (c1 c2 c3 : Nat) (R : Run) (a b : Int) (w : World) (h : RunIn w A1 A2 A3 R) :
    Calls Try.prog 21 #[runV A1 A2 A3 c1 c2 c3 R, I a, I b] w fun e w' => e = .returned (.tuple #[I (grownN R a b), I (grownE R a b)]) ∧ Below w.heap.size w w' := by
  obtain ⟨W1, hW1⟩ : ∃ W1, W1 = w.alloc (.cells #[.slice A1 R.ss.length c1, I R.e, .slice A2 R.ms.length c2, .slice A3 R.es.length c3] 35) := ⟨_, rfl⟩
  have HX : Hid (∀ W, Le W1 W → (W.cell? ⟨w.heap.size, 0, none⟩ = some (.slice A1 R.ss.length c1) ∧ W.cell? ⟨w.heap.size, 1, none⟩ = some (I R.e) ∧ W.cell? ⟨w.heap.size, 2, none⟩ = some (.slice A2 R.ms.length c2) ∧ W.cell? ⟨w.heap.size, 3, none⟩ = some (.slice A3 R.es.length c3)) ∧ RunIn W A1 A2 A3 R ∧ Below w.heap.size w W) := fun W hW => box_run h hW1 hW
  have HW := Lib.hid hW1
  clear h hW1
  go_enter Try.func21, Try.ntmps21
  go_wp2_with fail
  rw [← HW.out]
  refine (refRun_any A1 A2 A3 c1 c2 c3 R W1 (HX.out W1 (Le.refl _)).2.1).mono ?_
  rintro e w1 ⟨rfl, hb1⟩
  have L1 : Hid (Le W1 w1) := hb1
  clear hb1
  obtain ⟨⟨x0, x1, x2, x3⟩, hin, hbe⟩ := HX.out w1 L1.out
  have Hin := Lib.hid hin
  have Hb := Lib.hid hbe
  clear hin hbe
  rcases hok : okRun R with _ | _
  · have e1 : Hid (grownE R a b = 2) := by show grownE R a b = 2; simp [grownE, hok]
    have e2 : Hid (grownN R a b = 0) := by show grownN R a b = 0; simp [grownN, e1.out]
    clear hok
    go_wp2_with fail
    go_ret2
    exact ⟨by rw [e1.out, e2.out]; rfl, Hb.out⟩
  · have hv := Lib.hid ((vRun_iff R).1 hok)
    by_cases hr : a < 0 ∨ b < a ∨ R.e < b
    · have e1 : Hid (grownE R a b = 3) := by show grownE R a b = 3; simp [grownE, hok, hr]
      have e2 : Hid (grownN R a b = 0) := by show grownN R a b = 0; simp [grownN, e1.out]
      clear hok
      have hcs : Hid (∀ P : Prop, (a < 0 → P) → (0 ≤ a → b < a → P) → (0 ≤ a → a ≤ b → R.e < b → P) → P) := fun P k1 k2 k3 => by
        by_cases q1 : a < 0
        · exact k1 q1
        · by_cases q2 : b < a
          · exact k2 (by omega) q2
          · exact k3 (by omega) (by omega) (by omega)
      clear hr
      refine hcs.out _ (fun q1 => ?_) (fun q1 q2 => ?_) (fun q1 q2 q3 => ?_)
      all_goals
        clear hcs
        go_wp2_with fail
        go_ret2
        exact ⟨by rw [e1.out, e2.out]; rfl, Hb.out⟩
    · have e1 : Hid (grownE R a b = 0) := by show grownE R a b = 0; simp [grownE, hok]; omega
      have e2 : Hid (grownN R a b = placeR R b - placeR R a) := by show grownN R a b = _; simp [grownN, e1.out]
      have hr' : 0 ≤ a ∧ a ≤ b ∧ b ≤ R.e := by omega
      obtain ⟨r1, r2, r3⟩ := hr'
      clear hr hok
      have hl := hv.out.last
      have p1 := placeR_bd hv.out (t := a) r1
      have p2 := placeR_bd hv.out (t := b) (by omega)
      have y0 := ovr_cell x0
      have y1 := ovr_cell x1
      have y2 := ovr_cell x2
      have y3 := ovr_cell x3
      go_wp2_with fail
      refine wp_region_below_lit (by kernel_rfl) (by kernel_rfl) ?_
      repeat (go_big_quiet_step ((go_at_call 52; exact call_below (refPlace_any _ _ _ _ _ _ R _ _ (Hin.out.below (ovr_below _ _)) hv.out (by omega) (by omega)))))
      refine wpQuiet_nil ?_
      intro w2 hb2
      have H2 : Hid (Below w.heap.size w w2) := (HX.out w2 (L1.out.trans hb2)).2.2
      clear hb2 y0 y1 y2 y3 x0 x1 x2 x3
      go_wp2_with fail
      go_ret2
      exact ⟨by rw [e1.out, e2.out]; rfl, H2.out⟩
theorem reach_in {R : Run} (h : VRun R) {L : Int} (l1 : 0 ≤ L) (l2 : L ≤ 100000000000) : reachE R L = if L = 0 then 0 else if ixOf (hits L) (pcs R) < 0 then 7 else 0 := by
  have hok : okRun R = true := (vRun_iff R).2 h
  have hin : inB 100000000000 [L] = true := (inB_iff _ _).2 (by intro x hx; obtain rfl : x = L := by simpa using hx
                                                                exact ⟨l1, l2⟩)
  simp [reachE, hok, hin]
theorem reach_val {R : Run} (h : VRun R) {L : Int} (l1 : 0 ≤ L) (l2 : L ≤ 100000000000) {t : Int} (t0 : 0 ≤ t) (t1 : t ≤ R.e) (hp : L ≤ placeR R t) (hs : ∀ s, 0 ≤ s → s < t → placeR R s < L) : reachE R L = 0 ∧ reachN R L = t := by
  have he := reach_in h l1 l2
  by_cases hz : L = 0
  · rw [if_pos hz] at he
    refine ⟨he, ?_⟩
    rw [reachN, if_pos he, if_pos hz]
    rcases Int.lt_or_le 0 t with hq | hq
    · have := hs 0 (Int.le_refl _) hq
      rw [placeR_zero h] at this
      omega
    · omega
  · rw [if_neg hz] at he
    by_cases hx : ixOf (hits L) (pcs R) < 0
    · have := reach_none h (show 1 ≤ L by omega) hx t0 t1
      omega
    · rw [if_neg hx] at he
      obtain ⟨f1, f2, f3, f4⟩ := reach_first h (show 1 ≤ L by omega) hx
      refine ⟨he, ?_⟩
      rw [reachN, if_pos he, if_neg hz]
      generalize reachAt L (at0 (pcs R) (ixOf (hits L) (pcs R)).toNat) = q at *
      rcases Int.lt_or_le q t with hq | hq
      · have := hs q f1 hq
        omega
      · rcases Int.lt_or_le t q with hq2 | hq2
        · have := f4 t t0 hq2
          omega
        · omega
theorem reach_no {R : Run} (h : VRun R) {L : Int} (l1 : 0 ≤ L) (l2 : L ≤ 100000000000) (hs : ∀ s, 0 ≤ s → s ≤ R.e → placeR R s < L) : reachE R L = 7 ∧ reachN R L = 0 := by
  have he := reach_in h l1 l2
  have hn := h.n1
  have h0 := h.tlt 0 (by omega)
  rw [h.first] at h0
  have hp := hs 0 (Int.le_refl _) (by omega)
  rw [placeR_zero h] at hp
  rw [if_neg (by omega)] at he
  by_cases hx : ixOf (hits L) (pcs R) < 0
  · rw [if_pos hx] at he
    exact ⟨he, by rw [reachN, if_neg (by omega)]⟩
  · obtain ⟨f1, f2, f3, f4⟩ := reach_first h (show 1 ≤ L by omega) hx
    have := hs _ f1 f2
    omega
set_option maxRecDepth 100000 in
set_option maxHeartbeats 1000000 in
theorem refReached_any (A1 A2 A3 : Option Addr) (c1 c2 c3 : Nat) (R : Run) (L : Int) (w : World) (h : RunIn w A1 A2 A3 R) :
    Calls Try.prog 22 #[runV A1 A2 A3 c1 c2 c3 R, I L] w fun e w' => e = .returned (.tuple #[I (reachN R L), I (reachE R L)]) ∧ Below w.heap.size w w' := by
  obtain ⟨W1, hW1⟩ : ∃ W1, W1 = w.alloc (.cells #[.slice A1 R.ss.length c1, I R.e, .slice A2 R.ms.length c2, .slice A3 R.es.length c3] 35) := ⟨_, rfl⟩
  have HX : Hid (∀ W, Le W1 W → (W.cell? ⟨w.heap.size, 0, none⟩ = some (.slice A1 R.ss.length c1) ∧ W.cell? ⟨w.heap.size, 1, none⟩ = some (I R.e) ∧ W.cell? ⟨w.heap.size, 2, none⟩ = some (.slice A2 R.ms.length c2) ∧ W.cell? ⟨w.heap.size, 3, none⟩ = some (.slice A3 R.es.length c3)) ∧ RunIn W A1 A2 A3 R ∧ Below w.heap.size w W) := fun W hW => box_run h hW1 hW
  have HW := Lib.hid hW1
  clear h hW1
  go_enter Try.func22, Try.ntmps22
  go_wp2_with fail
  rw [← HW.out]
  refine (refRun_any A1 A2 A3 c1 c2 c3 R W1 (HX.out W1 (Le.refl _)).2.1).mono ?_
  rintro e w1 ⟨rfl, hb1⟩
  have L1 : Hid (Le W1 w1) := hb1
  clear hb1
  obtain ⟨_, _, hbe⟩ := HX.out w1 L1.out
  have Hb := Lib.hid hbe
  clear hbe
  rcases hok : okRun R with _ | _
  · have e1 : Hid (reachE R L = 2) := by show reachE R L = 2; simp [reachE, hok]
    have e2 : Hid (reachN R L = 0) := by show reachN R L = 0; simp [reachN, e1.out]
    clear hok
    go_wp2_with fail
    go_ret2
    exact ⟨by rw [e1.out, e2.out]; rfl, Hb.out⟩
  have Hok := Lib.hid hok
  have Hv := Lib.hid ((vRun_iff R).1 hok)
  clear hok
  go_wp2_with fail
  refine (within_any _ _ _ _).mono ?_
  rintro e w2 ⟨rfl, hb2⟩
  have L2 : Hid (Le W1 w2) := L1.out.trans hb2
  clear hb2
  rcases hin : wiB L 0 100000000000 with _ | _
  · have hq : inB 100000000000 [L] = false := by
      cases hz : inB 100000000000 [L] with
      | false => rfl
      | true => have := (inB_iff _ _).1 hz L (by simp); rw [wiB_iff.2 this] at hin; cases hin
    have e1 : Hid (reachE R L = 3) := by show reachE R L = 3; simp [reachE, Hok.out, hq]
    have e2 : Hid (reachN R L = 0) := by show reachN R L = 0; simp [reachN, e1.out]
    have H2 : Hid (Below w.heap.size w w2) := (HX.out w2 L2.out).2.2
    clear hin hq
    go_wp2_with fail
    go_ret2
    exact ⟨by rw [e1.out, e2.out]; rfl, H2.out⟩
  have HL := Lib.hid (wiB_iff.1 hin)
  have hl := Hv.out.last
  have hl0 : 0 < R.e := by have := Hv.out.tlt 0 (by have := Hv.out.n1; omega); rwa [Hv.out.first] at this
  clear hin
  go_wp2_with fail
  go_loopw [6] (fun i wr => ∃ t : Int, 0 ≤ t ∧ t ≤ R.e + 1 ∧ i = I t ∧ (∀ s, 0 ≤ s → s < t → placeR R s < L) ∧ Le W1 wr) (fun i _ => (R.e + 1 - intOf i).toNat)
  case atStart => exact ⟨0, by omega, by omega, rfl, fun s h1 h2 => absurd h2 (by omega), L2.out⟩
  case round =>
    obtain ⟨t, t0, t1, rfl, hs, hbw⟩ := hrel
    have Hs := Lib.hid hs
    have HB := Lib.hid hbw
    clear hs hbw
    obtain ⟨⟨x0, x1, x2, x3⟩, hin, hbe⟩ := HX.out wr HB.out
    have Hin := Lib.hid hin
    have Hb2 := Lib.hid hbe
    clear hin hbe
    by_cases hlt : t ≤ R.e
    · go_wp2_with fail
      refine (refPlace_any A1 A2 A3 c1 c2 c3 R t wr Hin.out Hv.out t0 hlt).mono ?_
      rintro e w3 ⟨rfl, hb3⟩
      have L3 : Hid (Le W1 w3) := HB.out.trans hb3
      have H3 : Hid (Below w.heap.size w w3) := (HX.out w3 L3.out).2.2
      clear hb3
      by_cases hp : L ≤ placeR R t
      · have hr := reach_val Hv.out HL.out.1 HL.out.2 t0 hlt hp Hs.out
        have Hr := Lib.hid hr
        clear hr
        go_wp2_with fail
        go_ret2
        exact ⟨by rw [Hr.out.1, Hr.out.2]; rfl, H3.out⟩
      · have hn : Hid (∀ s, 0 ≤ s → s < t + 1 → placeR R s < L) := fun s s0 s1 => by
          rcases Int.lt_or_le s t with hq | hq
          · exact Hs.out s s0 hq
          · obtain rfl : s = t := by omega
            omega
        go_wp2_with fail
        go_roundw
        case rel => exact ⟨t + 1, by omega, by omega, rfl, hn.out, L3.out⟩
        case measure => simp [intOf]; omega
    · have hr := reach_no Hv.out HL.out.1 HL.out.2 (fun s s0 s1 => Hs.out s s0 (by omega))
      have Hr := Lib.hid hr
      clear hr
      go_wp2_with fail
      go_ret2
      exact ⟨by rw [Hr.out.1, Hr.out.2]; rfl, Hb2.out⟩
end Go.Proofs.Ytlebefopdnadaaa
/- The contract of long of the statements' package. -/
namespace Go.Proofs.Ytlebefopdnadaaa
open Go.RowKit
def lgR (R : Run) : Bool := decide (70 < R.ss.length) || decide (110 < R.ms.length) || decide (30 < R.es.length) || (okRun R && decide (400 < R.e))
theorem lgR_no {R : Run} (h : lgR R = false) : R.ss.length ≤ 70 ∧ R.ms.length ≤ 110 ∧ R.es.length ≤ 30 ∧ (okRun R = true → R.e ≤ 400) := by
  unfold lgR at h
  simp only [Bool.or_eq_false_iff, Bool.and_eq_false_iff, decide_eq_false_iff_not] at h
  obtain ⟨⟨⟨h1, h2⟩, h3⟩, h4⟩ := h
  refine ⟨by omega, by omega, by omega, fun hk => ?_⟩
  rcases h4 with h4 | h4
  · rw [hk] at h4; cases h4
  · omega
set_option maxRecDepth 100000 in
set_option maxHeartbeats 1000000 in
theorem long_any (A1 A2 A3 : Option Addr) (c1 c2 c3 : Nat) (R : Run) (w : World) (h1 : Rd w w.heap.size 8 A1 R.ss.length (rS R.ss)) (h2 : Rd w w.heap.size 3 A2 R.ms.length (rM R.ms)) (h3 : Rd w w.heap.size 2 A3 R.es.length (rE R.es)) :
    Calls Try.prog 18 #[runV A1 A2 A3 c1 c2 c3 R] w fun e w' => e = .returned (.bool (lgR R)) ∧ Below w.heap.size w w' := by
  obtain ⟨W1, hW1⟩ : ∃ W1, W1 = w.alloc (.cells #[.slice A1 R.ss.length c1, I R.e, .slice A2 R.ms.length c2, .slice A3 R.es.length c3] 35) := ⟨_, rfl⟩
  have hB : Hid (Below w.heap.size w W1) := by show Below _ _ _; rw [hW1]; exact (Below.refl _ _).alloc (Nat.le_refl _) _
  have HW := Lib.hid hW1
  by_cases hlen : R.ss.length ≤ 70 ∧ R.ms.length ≤ 110 ∧ R.es.length ≤ 30
  · obtain ⟨l1, l2, l3⟩ := hlen
    have h := RunIn.mk h1 h2 h3 (by omega) (by omega) (by omega)
    have HX : Hid (∀ W, Le W1 W → (W.cell? ⟨w.heap.size, 0, none⟩ = some (.slice A1 R.ss.length c1) ∧ W.cell? ⟨w.heap.size, 1, none⟩ = some (I R.e) ∧ W.cell? ⟨w.heap.size, 2, none⟩ = some (.slice A2 R.ms.length c2) ∧ W.cell? ⟨w.heap.size, 3, none⟩ = some (.slice A3 R.es.length c3)) ∧ RunIn W A1 A2 A3 R ∧ Below w.heap.size w W) := fun W hW => box_run h hW1 hW
    have hf0 : Hid (okRun R = false → (decide ((70 : Int) < (R.ss.length : Int)) || decide ((110 : Int) < (R.ms.length : Int)) || decide ((30 : Int) < (R.es.length : Int))) = lgR R) := fun hk => by
      unfold lgR
      rw [hk, decide_eq_false (show ¬ 70 < R.ss.length by omega), decide_eq_false (show ¬ 110 < R.ms.length by omega), decide_eq_false (show ¬ 30 < R.es.length by omega), decide_eq_false (show ¬ (70 : Int) < R.ss.length by omega), decide_eq_false (show ¬ (110 : Int) < R.ms.length by omega), decide_eq_false (show ¬ (30 : Int) < R.es.length by omega)]
      rfl
    have hf1 : Hid (okRun R = true → (decide ((70 : Int) < (R.ss.length : Int)) || decide ((110 : Int) < (R.ms.length : Int)) || decide ((30 : Int) < (R.es.length : Int)) || decide (400 < R.e)) = lgR R) := fun hk => by
      unfold lgR
      rw [hk, decide_eq_false (show ¬ 70 < R.ss.length by omega), decide_eq_false (show ¬ 110 < R.ms.length by omega), decide_eq_false (show ¬ 30 < R.es.length by omega), decide_eq_false (show ¬ (70 : Int) < R.ss.length by omega), decide_eq_false (show ¬ (110 : Int) < R.ms.length by omega), decide_eq_false (show ¬ (30 : Int) < R.es.length by omega)]
      rfl
    clear hW1 h1 h2 h3 h
    go_enter Try.func18, Try.ntmps18
    go_wp2_with fail
    rw [← HW.out]
    refine (refRun_any A1 A2 A3 c1 c2 c3 R W1 (HX.out W1 (Le.refl _)).2.1).mono ?_
    rintro e w1 ⟨rfl, hb1⟩
    have L1 : Hid (Le W1 w1) := hb1
    obtain ⟨⟨x0, x1, x2, x3⟩, _, hbe⟩ := HX.out w1 L1.out
    have Hb := Lib.hid hbe
    clear hb1 hbe
    rcases hok : okRun R with _ | _
    · have hf := Lib.hid (hf0.out hok)
      clear hok hf0 hf1
      go_wp2_with fail
      go_ret
      exact ⟨congrArg (fun b => Ending.returned (.bool b)) hf.out, Hb.out⟩
    · have hf := Lib.hid (hf1.out hok)
      clear hok hf0 hf1
      go_wp2_with fail
      go_ret
      exact ⟨congrArg (fun b => Ending.returned (.bool b)) hf.out, Hb.out⟩
  · have HC : Hid (∀ P : Prop, (70 < R.ss.length → P) → (R.ss.length ≤ 70 → 110 < R.ms.length → P) → (R.ss.length ≤ 70 → R.ms.length ≤ 110 → 30 < R.es.length → P) → P) := fun P a b c => by
      by_cases q1 : 70 < R.ss.length
      · exact a q1
      · by_cases q2 : 110 < R.ms.length
        · exact b (by omega) q2
        · exact c (by omega) (by omega) (by omega)
    have hf : Hid (lgR R = true) := by
      show _ = _
      unfold lgR
      simp only [Bool.or_eq_true, decide_eq_true_eq]
      omega
    clear hW1 hlen h1 h2 h3
    refine HC.out _ (fun q1 => ?_) (fun q1 q2 => ?_) (fun q1 q2 q3 => ?_)
    all_goals
      clear HC
      go_enter Try.func18, Try.ntmps18
      go_wp2_with fail
      rw [← HW.out]
      go_ret
      exact ⟨by rw [hf.out]; rfl, hB.out⟩
end Go.Proofs.Ytlebefopdnadaaa
