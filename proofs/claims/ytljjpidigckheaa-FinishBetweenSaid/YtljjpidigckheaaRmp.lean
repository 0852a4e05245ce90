/- What Remove leaves and what Variation says, plainly. -/
import Derived.Test.YtljjpidigckheaaKn
namespace Go.Proofs.Ytljjpidigckheaa.Un
open Go.RowKit
theorem at0_map9 {α β : Type} [Inhabited α] [Inhabited β] (f : α → β) (l : List α) {k : Nat} (h : k < l.length) : at0 (l.map f) k = f (at0 l k) := by
 rw [at0_get (by rw [List.length_map]; exact h), at0_get h, List.getElem_map]
theorem at0_none9 {α : Type} [Inhabited α] {l : List α} {k : Nat} (h : l.length ≤ k) : at0 l k = default := by
 unfold at0
 rw [List.getD_eq_getElem?_getD, List.getElem?_eq_none h]
 rfl
theorem rm_ok {x : Sht} {l : List Rmv} (h : rmEr x l = 0) : okSh x = true ∧ l.length ≤ 30 ∧ (∀ k, k < l.length → rmB (at0 l k) = false) ∧ rmF (hu9 x.s) x.c l l.length = 0 ∧ rmX x l = ⟨x.w, x.h, rmC x.c l l.length, x.s.map fun r => ⟨r.lo - rmSp l l.length, r.hi + rmSp l l.length⟩⟩ := by
 have hX : rmX x l = ⟨x.w, x.h, rmC x.c l l.length, x.s.map fun r => ⟨r.lo - rmSp l l.length, r.hi + rmSp l l.length⟩⟩ := by unfold rmX; rw [if_pos h]
 unfold rmEr at h
 rcases ho : okSh x with _ | _
 · rw [ho] at h; cases h
 rw [ho, if_neg (by decide)] at h
 by_cases h1 : 30 < l.length
 · rw [if_pos h1] at h; cases h
 rw [if_neg h1] at h
 by_cases h2 : l.any rmB = true
 · rw [if_pos h2] at h; cases h
 rw [if_neg h2] at h
 by_cases h3 : srt l (l.length - 1) = false
 · rw [if_pos h3] at h; cases h
 rw [if_neg h3] at h
 refine ⟨rfl, by omega, fun k hk => ?_, h, hX⟩
 rcases hb : rmB (at0 l k) with _ | _
 · rfl
 · exact absurd (List.any_eq_true.2 ⟨_, by rw [at0_get hk]; exact List.getElem_mem hk, hb⟩) h2
theorem rmF_pre {h c : Rng} {l : List Rmv} {k n : Nat} (hk : k ≤ n) (h0 : rmF h c l n = 0) : rmF h c l k = 0 :=
 Classical.byContradiction fun hc => hc (by rw [← rmF_none hc n hk]; exact h0)
theorem rmF_stp {h c : Rng} {l : List Rmv} {k : Nat} (h0 : rmF h c l (k + 1) = 0) : rmE h (rmC c l (k + 1)) (rmSp l (k + 1)) = 0 := by
 have h1 := rmF_pre (Nat.le_succ k) h0
 have : rmF h c l (k + 1) = if rmF h c l k ≠ 0 then rmF h c l k else rmE h (rmC c l (k + 1)) (rmSp l (k + 1)) := rfl
 rw [h0, h1, if_neg (by simp)] at this
 exact this.symm
theorem rmE_0 {h c : Rng} {s : Int} (h0 : rmE h c s = 0) : 0 ≤ c.lo ∧ 0 ≤ c.lo + h.lo - s ∧ -1000000 ≤ h.lo - s ∧ h.hi + s ≤ 1000000 := by
 unfold rmE at h0
 split at h0
 · cases h0
 · split at h0
   · cases h0
   · omega
theorem rm_left {x : Sht} {l : List Rmv} (h : rmEr x l = 0) : ∀ k, k ≤ l.length → (0 ≤ (rmC x.c l k).lo ∧ (rmC x.c l k).lo ≤ (rmC x.c l k).hi ∧ (rmC x.c l k).hi ≤ 10000000) ∧ 0 ≤ rmSp l k ∧ (-1000000 ≤ (hu9 x.s).lo - rmSp l k ∧ (hu9 x.s).hi + rmSp l k ≤ 1000000)
 | 0, _ => by
   obtain ⟨ho, _⟩ := rm_ok h
   obtain ⟨h1, h2, h3, h4, h5⟩ := okSh_iff.1 ho
   have := spn9_iff.1 h5
   have hl : 0 < x.s.length := by
    have := Int.mul_le_mul h1.1 h2.1 (by omega) (by omega : (0 : Int) ≤ x.w)
    omega
   have hb := hu9_bd hl h4
   exact ⟨this, Int.le_refl _, by show -1000000 ≤ (hu9 x.s).lo - 0 ∧ (hu9 x.s).hi + 0 ≤ 1000000; omega⟩
 | k + 1, hk => by
   obtain ⟨ho, _, hv, hF, _⟩ := rm_ok h
   obtain ⟨⟨a1, a2, a3⟩, a4, _⟩ := rm_left h k (by omega)
   obtain ⟨_, _, h3, h4, _⟩ := rmB_no.1 (hv k (by omega))
   have he := rmE_0 (rmF_stp (rmF_pre hk hF))
   have e1 : (rmC x.c l (k + 1)).lo = (rmC x.c l k).lo - (at0 l k).a.hi := rfl
   have e2 : (rmC x.c l (k + 1)).hi = (rmC x.c l k).hi - (at0 l k).a.lo := rfl
   have e3 : rmSp l (k + 1) = rmSp l k + (at0 l k).s := rfl
   omega
theorem rm_sheet {x : Sht} {l : List Rmv} (h : rmEr x l = 0) : okSh (rmX x l) = true := by
 obtain ⟨ho, _, hv, hF, hX⟩ := rm_ok h
 obtain ⟨h1, h2, h3, h4, h5⟩ := okSh_iff.1 ho
 obtain ⟨hc, _, hs⟩ := rm_left h l.length (Nat.le_refl _)
 have hl : 0 < x.s.length := by
  have := Int.mul_le_mul h1.1 h2.1 (by omega) (by omega : (0 : Int) ≤ x.w)
  omega
 rw [hX]
 refine okSh_iff.2 ⟨h1, h2, by simp only [List.length_map]; exact h3, all9_iff.2 fun q hq => ?_, spn9_iff.2 hc⟩
 obtain ⟨r, hr, rfl⟩ := List.mem_map.1 hq
 obtain ⟨j, hj, rfl⟩ := at0_mem hr
 have := (hu9_spec hl).1 j hj
 have := all9_at h4 hj
 have h0 : 0 ≤ rmSp l l.length := (rm_left h l.length (Nat.le_refl _)).2.1
 exact spn9_iff.2 (by simp only; omega)
theorem rm_site {x : Sht} {l : List Rmv} (h : rmEr x l = 0) {k : Nat} (hk : k < x.s.length) : at0 (rmX x l).s k = ⟨(at0 x.s k).lo - rmSp l l.length, (at0 x.s k).hi + rmSp l l.length⟩ := by
 rw [(rm_ok h).2.2.2.2]
 exact at0_map9 _ _ hk
structure VaP (xs : List Rng) (P : Nat → Nat → Prop) (s : Vst) : Prop where
 lo0 : 0 ≤ s.lo
 lo : ∀ i k, P i k → i ≠ k → (at0 xs i).lo - (at0 xs k).hi ≤ s.lo
 hi : ∀ i k, P i k → i ≠ k → (at0 xs i).hi - (at0 xs k).lo ≤ s.hi
 wlo : s.lo = 0 ∨ ∃ i k, P i k ∧ i ≠ k ∧ s.lo = (at0 xs i).lo - (at0 xs k).hi
 whi : s.hi = -1 ∨ ∃ i k : Nat, P i k ∧ i ≠ k ∧ s.hi = (at0 xs i).hi - (at0 xs k).lo ∧ s.a = (i : Int) ∧ s.b = (k : Int)
theorem VaP.next {xs : List Rng} {P P' : Nat → Nat → Prop} {s : Vst} {i k : Nat} (h : VaP xs P s) (hr : (at0 xs i).lo ≤ (at0 xs i).hi) (hP : ∀ a b, P' a b ↔ P a b ∨ (a = i ∧ b = k)) : VaP xs P' (vaS xs i s k) := by
 have hlo : (vaS xs i s k).lo = max s.lo ((at0 xs i).lo - (at0 xs k).hi) := by unfold vaS; split <;> rfl
 have hge : s.hi ≤ (vaS xs i s k).hi := by unfold vaS; split <;> simp only <;> omega
 refine ⟨by have := h.lo0; omega, fun a b hp hne => ?_, fun a b hp hne => ?_, ?_, ?_⟩
 · rcases (hP a b).1 hp with h1 | ⟨rfl, rfl⟩
   · have := h.lo a b h1 hne; omega
   · omega
 · rcases (hP a b).1 hp with h1 | ⟨rfl, rfl⟩
   · have := h.hi a b h1 hne; omega
   · unfold vaS
     split
     · exact Int.le_refl _
     · rename_i hc
       simp only
       omega
 · rw [hlo]
   by_cases hik : i = k
   · subst hik
     have : max s.lo ((at0 xs i).lo - (at0 xs i).hi) = s.lo := by have := h.lo0; omega
     rw [this]
     rcases h.wlo with h1 | ⟨a, b, h1, h2, h3⟩
     · exact .inl h1
     · exact .inr ⟨a, b, (hP a b).2 (.inl h1), h2, h3⟩
   · rcases Int.le_total s.lo ((at0 xs i).lo - (at0 xs k).hi) with h1 | h1
     · exact .inr ⟨i, k, (hP i k).2 (.inr ⟨rfl, rfl⟩), hik, by omega⟩
     · rcases h.wlo with h2 | ⟨a, b, h2, h3, h4⟩
       · exact .inl (by omega)
       · exact .inr ⟨a, b, (hP a b).2 (.inl h2), h3, by omega⟩
 · unfold vaS
   split
   · rename_i hc
     exact .inr ⟨i, k, (hP i k).2 (.inr ⟨rfl, rfl⟩), hc.1, rfl, rfl, rfl⟩
   · rcases h.whi with h2 | ⟨a, b, h2, h3, h4, h5, h6⟩
     · exact .inl h2
     · exact .inr ⟨a, b, (hP a b).2 (.inl h2), h3, h4, h5, h6⟩
theorem vaI_p {xs : List Rng} (ha : ∀ j, j < xs.length → (at0 xs j).lo ≤ (at0 xs j).hi) {i : Nat} (hi : i < xs.length) {s : Vst} (h : VaP xs (fun a b => a < i ∧ b < xs.length) s) : ∀ k, k ≤ xs.length → VaP xs (fun a b => (a < i ∧ b < xs.length) ∨ (a = i ∧ b < k)) (vaI xs i s k)
 | 0, _ => by
   have e : (fun a b => (a < i ∧ b < xs.length) ∨ (a = i ∧ b < 0)) = fun a b => a < i ∧ b < xs.length := by funext a b; apply propext; omega
   rw [e]
   exact h
 | k + 1, hk => VaP.next (vaI_p ha hi h k (by omega)) (ha i hi) fun a b => by omega
theorem vaO_p {xs : List Rng} (ha : ∀ j, j < xs.length → (at0 xs j).lo ≤ (at0 xs j).hi) : ∀ i, i ≤ xs.length → VaP xs (fun a b => a < i ∧ b < xs.length) (vaO xs i)
 | 0, _ => ⟨Int.le_refl _, fun a b h => absurd h.1 (by omega), fun a b h => absurd h.1 (by omega), .inl rfl, .inl rfl⟩
 | i + 1, hi => by
   have h := vaI_p ha (by omega) (vaO_p ha i (by omega)) xs.length (Nat.le_refl _)
   have e : (fun a b => (a < i ∧ b < xs.length) ∨ (a = i ∧ b < xs.length)) = fun a b => a < i + 1 ∧ b < xs.length := by funext a b; apply propext; omega
   rw [e] at h
   exact h
structure VaT (xs : List Rng) (s : Vst) : Prop where
 lo0 : 0 ≤ s.lo
 lo : ∀ i k, i < xs.length → k < xs.length → i ≠ k → (at0 xs i).lo - (at0 xs k).hi ≤ s.lo
 hi : ∀ i k, i < xs.length → k < xs.length → i ≠ k → (at0 xs i).hi - (at0 xs k).lo ≤ s.hi
 wlo : s.lo = 0 ∨ ∃ i k, i < xs.length ∧ k < xs.length ∧ i ≠ k ∧ s.lo = (at0 xs i).lo - (at0 xs k).hi
 whi : ∃ i k : Nat, i < xs.length ∧ k < xs.length ∧ i ≠ k ∧ s.hi = (at0 xs i).hi - (at0 xs k).lo ∧ s.a = (i : Int) ∧ s.b = (k : Int)
theorem sh_len {x : Sht} (h : okSh x = true) : 4 ≤ x.s.length := by
 obtain ⟨h1, h2, h3, _⟩ := okSh_iff.1 h
 have := Int.mul_le_mul h1.1 h2.1 (by omega) (by omega : (0 : Int) ≤ x.w)
 omega
theorem va_t {x : Sht} (h : okSh x = true) : VaT x.s (va9 x) := by
 have hv : va9 x = vaO x.s x.s.length := by unfold va9; rw [if_pos h]
 have ha : ∀ j, j < x.s.length → (at0 x.s j).lo ≤ (at0 x.s j).hi := fun j hj => by
  have := all9_at (okSh_iff.1 h).2.2.2.1 hj
  omega
 have hp := vaO_p ha x.s.length (Nat.le_refl _)
 have hl := sh_len h
 rw [hv]
 refine ⟨hp.lo0, fun i k h1 h2 h3 => hp.lo i k ⟨h1, h2⟩ h3, fun i k h1 h2 h3 => hp.hi i k ⟨h1, h2⟩ h3, ?_, ?_⟩
 · rcases hp.wlo with h1 | ⟨a, b, ⟨h1, h2⟩, h3, h4⟩
   · exact .inl h1
   · exact .inr ⟨a, b, h1, h2, h3, h4⟩
 · rcases hp.whi with h1 | ⟨a, b, ⟨h1, h2⟩, h3, h4⟩
   · have e1 := hp.hi 0 1 ⟨by omega, by omega⟩ (by decide)
     have e2 := hp.hi 1 0 ⟨by omega, by omega⟩ (by decide)
     have a0 := ha 0 (by omega)
     have a1 := ha 1 (by omega)
     omega
   · exact ⟨a, b, h1, h2, h3, h4⟩
theorem va_wider {x y : Sht} (hx : okSh x = true) (hy : okSh y = true) (hl : y.s.length = x.s.length) (h : ∀ k, k < x.s.length → (at0 y.s k).lo ≤ (at0 x.s k).lo ∧ (at0 x.s k).hi ≤ (at0 y.s k).hi) : (va9 y).lo ≤ (va9 x).lo ∧ (va9 x).hi ≤ (va9 y).hi := by
 have tx := va_t hx
 have ty := va_t hy
 constructor
 · rcases ty.wlo with h1 | ⟨i, k, h1, h2, h3, h4⟩
   · have := tx.lo0; omega
   · have := tx.lo i k (by omega) (by omega) h3
     have := h i (by omega)
     have := h k (by omega)
     omega
 · obtain ⟨i, k, h1, h2, h3, h4, _⟩ := tx.whi
   have := ty.hi i k (by omega) (by omega) h3
   have := h i h1
   have := h k h2
   omega
theorem va_same {x y : Sht} (hx : okSh x = true) (hy : okSh y = true) (h : y.s = x.s) : va9 y = va9 x := by
 unfold va9
 rw [if_pos hx, if_pos hy, h]
end Go.Proofs.Ytljjpidigckheaa.Un
