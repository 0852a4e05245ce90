/- TopSteered: the plain law. -/
import Derived.Test.YtliddmhifnigdaaTa
import Derived.Test.YtliddmhifnigdaaDw3
import Derived.Test.YtliddmhifnigdaaDb
namespace Go.Proofs.Ytliddmhifnigdaa.Un
open Go.RowKit
theorem sub_n5 : ∀ a b c d e : Bool, ∀ w : Fin 32, (∀ k : Fin 5, (unw (w : Nat) k && s5 a b c d e k) = false) → bits .and .u8 (n5 a b c d e) (w : Nat) = n5 a b c d e := by decide +kernel
theorem sub_reg {p : Nat → Bool} {w : Int} (hw : 0 ≤ w ∧ w ≤ 31) (h : ∀ k, k < 5 → (unw w k && p k) = false) : bits .and .u8 (regK p 5) w = regK p 5 := by
  obtain ⟨n, rfl⟩ : ∃ n : Nat, w = n := ⟨w.toNat, by omega⟩
  have := sub_n5 (p 0) (p 1) (p 2) (p 3) (p 4) ⟨n, by omega⟩ fun k => by
    have h9 := h k k.isLt
    match k with
    | 0 => exact h9
    | 1 => exact h9
    | 2 => exact h9
    | 3 => exact h9
    | 4 => exact h9
  rw [regK_n5]
  exact this
/-- At a rate of a window each zone is surely as it should be. -/
theorem sure_of {m : Mdl} {zs : List Rng} {v rate : Int} (hv : 0 ≤ v ∧ v ≤ 31) (h : ¬ badAt m v zs rate) {i : Nat} (hi : i < zs.length) : jdF (regK (posB m ⟨rate, rate⟩ (at0 zs i)) 5) v = (1, 0) := by
  unfold jdF
  have hb := regK_bd (posB m ⟨rate, rate⟩ (at0 zs i)) 5
  rw [if_neg (by have := hb.2; omega), if_pos (sub_reg hv fun k hk => by
    rcases hq : (unw v k && posB m ⟨rate, rate⟩ (at0 zs i) k) with _ | _
    · rfl
    · exact absurd ⟨i, hi, k, hk, hq⟩ h)]
theorem run_in {bad : Int → Prop} {l : List Rng} (hw : WinOf bad l) {i : Nat} (hi : i < l.length) : 0 ≤ (at0 l i).lo ∧ (at0 l i).lo ≤ (at0 l i).hi ∧ (at0 l i).hi ≤ 1000000 ∧ ∀ v, (at0 l i).lo ≤ v → v ≤ (at0 l i).hi → ¬ bad v := by
  have hm : at0 l i ∈ l := by rw [at0_get hi]; exact List.getElem_mem hi
  have h1 := hw.runs.lo _ hm
  have h2 := hw.hi _ hm
  refine ⟨by omega, by omega, h2, fun v hlo hhi => (hw.same v (by omega) (by omega)).1 ⟨_, hm, hlo, hhi⟩⟩
theorem okPuller_of {p : Vec} (h : VPul p) : okPuller p = true := by
  unfold okPuller
  rw [Bool.and_eq_true, List.all_eq_true]
  refine ⟨fun r hr => ?_, ?_⟩
  · have hr : r < 5 := by simpa using hr
    have hb := h.bd r hr
    have hm := h.rm r hr
    have hs := h.sc r hr
    have hl := h.ln r hr
    simp only [ruleB, Bool.and_eq_true, rangeB_iff, inB_iff]
    refine ⟨⟨⟨fun x hx => ?_, fun x hx => ?_⟩, fun x hx => ?_⟩, fun x hx => ?_⟩
    · simp only [bnds, List.mem_cons, List.not_mem_nil, or_false] at hx
      rcases hx with rfl | rfl | rfl | rfl | rfl | rfl
      · exact hb 0 (by omega)
      · exact hb 1 (by omega)
      · exact hb 2 (by omega)
      · exact hb 3 (by omega)
      · exact hb 4 (by omega)
      · exact hb 5 (by omega)
    · simp only [rmps, List.mem_cons, List.not_mem_nil, or_false] at hx
      rcases hx with rfl | rfl | rfl | rfl | rfl | rfl
      · exact hm 0 (by omega)
      · exact hm 1 (by omega)
      · exact hm 2 (by omega)
      · exact hm 3 (by omega)
      · exact hm 4 (by omega)
      · exact hm 5 (by omega)
    · simp only [List.mem_cons, List.not_mem_nil, or_false] at hx
      subst hx
      exact hs
    · simp only [List.mem_cons, List.not_mem_nil, or_false] at hx
      subst hx
      exact hl
  · simp only [restB, Bool.and_eq_true, rangeB_iff, inB_iff]
    refine ⟨⟨⟨fun x hx => ?_, fun x hx => ?_⟩, fun x hx => ?_⟩, fun x hx => ?_⟩
    · simp only [List.mem_cons, List.not_mem_nil, or_false] at hx
      rcases hx with rfl | rfl
      · exact h.grow
      · exact h.shrink
    · simp only [List.mem_cons, List.not_mem_nil, or_false] at hx
      subst hx
      exact h.lim
    · simp only [List.mem_cons, List.not_mem_nil, or_false] at hx
      subst hx
      exact h.slip
    · simp only [List.mem_cons, List.not_mem_nil, or_false] at hx
      rcases hx with rfl | rfl
      · exact h.hold
      · exact h.grace
/-- A puller whose first k phases have r as bounds of the pull rate. -/
def pkR (p : Vec) (r : Rng) (k : Nat) : Vec := fun j => if j % 22 = 0 ∧ j / 22 < k then r.lo else if j % 22 = 1 ∧ j / 22 < k then r.hi else p j
theorem pkR_zero (p : Vec) (r : Rng) : ia 117 (pkR p r 0) = ia 117 p := ia_congr fun i _ => by unfold pkR; simp
theorem pkR_step (p : Vec) (r : Rng) (k : Nat) : ia 117 (ovw (pkR p r k) (k * 22) 2 fun i => if i = 0 then r.lo else r.hi) = ia 117 (pkR p r (k + 1)) := ia_congr fun j _ => by
  unfold ovw pkR
  by_cases h1 : k * 22 ≤ j ∧ j < k * 22 + 2
  · rw [if_pos h1]
    by_cases h2 : j = k * 22
    · subst h2
      show (if k * 22 - k * 22 = 0 then r.lo else r.hi) = _
      rw [if_pos (by omega), if_pos (by omega)]
    · show (if j - k * 22 = 0 then r.lo else r.hi) = _
      rw [if_neg (by omega), if_neg (by omega), if_pos (by omega)]
  · rw [if_neg h1]
    by_cases h2 : j % 22 = 0 ∧ j / 22 < k
    · rw [if_pos h2, if_pos (by omega)]
    · rw [if_neg h2]
      by_cases h3 : j % 22 = 1 ∧ j / 22 < k
      · rw [if_pos h3, if_neg (by omega), if_pos (by omega)]
      · rw [if_neg h3, if_neg (by omega), if_neg (by omega)]
theorem pkR_lo (p : Vec) (r : Rng) {i : Nat} (h : i < 5) : pkR p r 5 (i * 22) = r.lo := by unfold pkR; rw [if_pos (by omega)]
theorem pkR_hi (p : Vec) (r : Rng) {i : Nat} (h : i < 5) : pkR p r 5 (i * 22 + 1) = r.hi := by unfold pkR; rw [if_neg (by omega), if_pos (by omega)]
theorem pkR_else (p : Vec) (r : Rng) {j : Nat} (h : ¬ j % 22 = 0 ∧ ¬ j % 22 = 1 ∨ 110 ≤ j) : pkR p r 5 j = p j := by unfold pkR; rw [if_neg (by omega), if_neg (by omega)]
theorem pkR_ok {p : Vec} {r : Rng} (h : okPuller p = true) (hr : 0 ≤ r.lo ∧ r.lo ≤ r.hi ∧ r.hi ≤ 1000000) : okPuller (pkR p r 5) = true := by
  have hp := vPul_of h
  refine okPuller_of ⟨fun i hi g hg => ?_, fun i hi g hg => ?_, fun i hi => ?_, fun i hi => ?_, ?_, ?_, ?_, ?_, ?_, ?_⟩
  · by_cases h0 : g = 0
    · subst h0
      rw [show i * 22 + 0 * 2 = i * 22 by omega, pkR_lo p r hi, pkR_hi p r hi]
      exact hr
    · rw [pkR_else p r (by omega), pkR_else p r (by omega)]
      exact hp.bd i hi g hg
  · rw [pkR_else p r (by omega)]
    exact hp.rm i hi g hg
  · rw [pkR_else p r (by omega), pkR_else p r (by omega)]
    exact hp.sc i hi
  · rw [pkR_else p r (by omega), pkR_else p r (by omega)]
    exact hp.ln i hi
  · rw [pkR_else p r (by omega)]; exact hp.grow
  · rw [pkR_else p r (by omega)]; exact hp.shrink
  · rw [pkR_else p r (by omega), pkR_else p r (by omega)]; exact hp.lim
  · rw [pkR_else p r (by omega)]; exact hp.slip
  · rw [pkR_else p r (by omega)]; exact hp.hold
  · rw [pkR_else p r (by omega)]; exact hp.grace
/-- The first setting. -/
def s0T (P : Vec) : Stg := ⟨0, 4, fun k => P (66 + k * 2)⟩
/-- What holds of each setting on the way. -/
structure GoodT (P : Vec) (s : Stg) (n : Nat) : Prop where
  ph : s.ph = 4
  t : 0 ≤ s.t ∧ s.t ≤ 100 * n
  bd : ∀ k, k < 6 → P (66 + k * 2) ≤ s.v k ∧ s.v k ≤ P (66 + k * 2 + 1)
theorem tmT {a : Int} (h : 0 ≤ a) : 0 ≤ a.tmod 100 ∧ a.tmod 100 ≤ 99 := by
  rw [Int.tmod_eq_emod_of_nonneg h]
  omega
def atT (s : Stg) (z : Nat → Int) : Int := s.t + 1 + (z 0).tmod 100
def xT (z : Nat → Int) : Rng := ⟨z 1, z 1 + (z 2).tmod 100⟩
theorem good0 {P : Vec} (h : VPul P) : GoodT P (s0T P) 0 := ⟨rfl, ⟨Int.le_refl _, by show (0 : Int) ≤ 100 * 0; omega⟩, fun k hk => by
  have := h.bd 3 (by omega) k hk
  rw [show 3 * 22 + k * 2 = 66 + k * 2 by omega] at this
  exact ⟨Int.le_refl _, this.2.1⟩⟩
theorem good_ok {P : Vec} {s : Stg} {n : Nat} (hp : okPuller P = true) (h : GoodT P s n) (hn : n < 20) {z : Nat → Int} (hz : ∀ j, j < 3 → 0 ≤ z j ∧ z j ≤ 65535) : StOk4 P s (atT s z) (xT z) := by
  have h0 := tmT (hz 0 (by omega)).1
  have h2 := tmT (hz 2 (by omega)).1
  have h1 := hz 1 (by omega)
  have ht := h.t
  refine ⟨hp, (okSet_iff s).2 ⟨by have := h.ph; omega, fun k hk => ?_⟩, h.ph, ⟨ht.1, by unfold atT; omega, by unfold atT; omega⟩, (rangeB_iff 1000000 [xT z]).2 fun x hx => ?_, h.bd⟩
  · have := (vPul_of hp).bd 3 (by omega) k hk
    rw [show 3 * 22 + k * 2 = 66 + k * 2 by omega] at this
    have := h.bd k hk
    omega
  · simp only [List.mem_cons, List.not_mem_nil, or_false] at hx
    subst hx
    unfold xT
    simp only
    omega
theorem good_next {P : Vec} {s : Stg} {n : Nat} (hp : okPuller P = true) (h : GoodT P s n) (hn : n < 20) {z : Nat → Int} (hz : ∀ j, j < 3 → 0 ≤ z j ∧ z j ≤ 65535) (g g' : Rng) : GoodT P (nxSt (q5 P) g g' s (atT s z) (xT z)) (n + 1) := by
  have h0 := tmT (hz 0 (by omega)).1
  have ht := h.t
  refine ⟨h.ph, ⟨by show 0 ≤ atT s z; unfold atT; omega, by show atT s z ≤ _; unfold atT; omega⟩, fun k hk => ?_⟩
  have hb := h.bd k hk
  have hr := (vPul_of hp).rm 3 (by omega) k hk
  rw [show 3 * 22 + 12 + k = 66 + (12 + k) by omega, ← q5_lt P (j := 12 + k) (by omega)] at hr
  have hf : 0 ≤ q5 P (12 + k) * (atT s z - s.t) := Int.mul_nonneg hr.1 (by unfold atT; omega)
  show _ ≤ min (max _ (loS (q5 P) s (atT s z) k)) (hiS (q5 P) s (atT s z) k) ∧ min (max _ (loS (q5 P) s (atT s z) k)) (hiS (q5 P) s (atT s z) k) ≤ _
  unfold loS hiS
  rw [q5_lt P (j := k * 2) (by omega), q5_lt P (j := k * 2 + 1) (by omega)]
  have e : 66 + k * 2 + 1 = 66 + (k * 2 + 1) := by omega
  rw [e] at hb ⊢
  omega
end Go.Proofs.Ytliddmhifnigdaa.Un
