/- Plain law of true places: the region that a place truly is in is one that is possible, also of ranges around the true numbers. -/
import Derived.Test.YtnkaoplgmglijaaDoorDa
namespace Go.Proofs.YtnkaoplgmglijaaDoor.Un
open Go.RowKit
def plF (r : Rng) (b : Int) : Int := if r.hi ≤ r.lo ∨ r.lo < 0 ∨ 1000000000000000 < r.hi then r.lo else r.lo + b.tmod (r.hi - r.lo + 1)
theorem plF_in {r : Rng} {b : Int} (hb : 0 ≤ b) (h : r.lo ≤ r.hi) : r.lo ≤ plF r b ∧ plF r b ≤ r.hi := by
 unfold plF
 split
 · omega
 · rename_i hn
   rw [Int.tmod_eq_emod_of_nonneg hb]
   have h1 := Int.emod_nonneg b (show r.hi - r.lo + 1 ≠ 0 by omega)
   have h2 := Int.emod_lt_of_pos b (show 0 < r.hi - r.lo + 1 by omega)
   omega
def rgK (m : Mdl) (t : Nat → Int) (v g : Int) : Nat → Int × Int
 | 0 => (0, 0)
 | i + 1 => (if max (rgK m t v g i).2 (plF (m.b i) (t i)) * g < v * m.sc then (rgK m t v g i).1 + 1 else (rgK m t v g i).1, max (rgK m t v g i).2 (plF (m.b i) (t i)))
theorem posB_of {m : Mdl} {v g : Int} {k : Nat} (h1 : abv m k * g < v * m.sc) (h2 : v * m.sc ≤ upt m k * g) (hg : 1 ≤ g) : posB m ⟨v, v⟩ ⟨g, g⟩ k = true := by
 unfold posB
 simp only [Bool.and_eq_true, decide_eq_true_eq]
 exact ⟨Int.lt_of_mul_lt_mul_right (Int.lt_of_lt_of_le h1 h2) (by omega), h1, h2⟩
theorem rg_pos {m : Mdl} (hm : okMdl m = true) {t : Nat → Int} (ht : ∀ i, 0 ≤ t i) {v g : Int} (hv : 0 ≤ v ∧ v ≤ 1000000) (hg : 1 ≤ g ∧ g ≤ 1000000) : ∃ k : Nat, k < 5 ∧ (rgK m t v g 4).1 = k ∧ posB m ⟨v, v⟩ ⟨g, g⟩ k = true := by
 obtain ⟨hs1, hs2, _⟩ := okMdl_iff.1 hm
 have q0 := bdM_bd hm (show 0 < 4 by decide)
 have q1 := bdM_bd hm (show 1 < 4 by decide)
 have q2 := bdM_bd hm (show 2 < 4 by decide)
 have q3 := bdM_bd hm (show 3 < 4 by decide)
 have p0 := plF_in (ht 0) q0.2.1
 have p1 := plF_in (ht 1) q1.2.1
 have p2 := plF_in (ht 2) q2.2.1
 have p3 := plF_in (ht 3) q3.2.1
 have e1 : (bfM m 1).hi = (m.b 0).hi := rfl
 have e2 : (bfM m 2).hi = (m.b 1).hi := rfl
 have e3 : (bfM m 3).hi = (m.b 2).hi := rfl
 have hV : 0 ≤ v * m.sc := Int.mul_nonneg hv.1 (by omega)
 have hV2 : v * m.sc ≤ 1000000 * 1000000 := Int.mul_le_mul hv.2 hs2 (by omega) (by decide)
 obtain ⟨b0, hb0⟩ : ∃ b, b = max 0 (plF (m.b 0) (t 0)) := ⟨_, rfl⟩
 obtain ⟨b1, hb1⟩ : ∃ b, b = max b0 (plF (m.b 1) (t 1)) := ⟨_, rfl⟩
 obtain ⟨b2, hb2⟩ : ∃ b, b = max b1 (plF (m.b 2) (t 2)) := ⟨_, rfl⟩
 obtain ⟨b3, hb3⟩ : ∃ b, b = max b2 (plF (m.b 3) (t 3)) := ⟨_, rfl⟩
 have hk : (rgK m t v g 4).1 = (if b3 * g < v * m.sc then (if b2 * g < v * m.sc then (if b1 * g < v * m.sc then (if b0 * g < v * m.sc then (0 : Int) + 1 else 0) + 1 else (if b0 * g < v * m.sc then 0 + 1 else 0)) + 1 else (if b1 * g < v * m.sc then (if b0 * g < v * m.sc then 0 + 1 else 0) + 1 else (if b0 * g < v * m.sc then 0 + 1 else 0))) + 1
  else (if b2 * g < v * m.sc then (if b1 * g < v * m.sc then (if b0 * g < v * m.sc then 0 + 1 else 0) + 1 else (if b0 * g < v * m.sc then 0 + 1 else 0)) + 1 else (if b1 * g < v * m.sc then (if b0 * g < v * m.sc then 0 + 1 else 0) + 1 else (if b0 * g < v * m.sc then 0 + 1 else 0)))) := by
  rw [hb3, hb2, hb1, hb0]; rfl
 have i0 : (m.b 0).lo ≤ b0 ∧ b0 ≤ (m.b 0).hi := by omega
 have i1 : (m.b 1).lo ≤ b1 ∧ b1 ≤ (m.b 1).hi ∧ b0 ≤ b1 := by omega
 have i2 : (m.b 2).lo ≤ b2 ∧ b2 ≤ (m.b 2).hi ∧ b1 ≤ b2 := by omega
 have i3 : (m.b 3).lo ≤ b3 ∧ b3 ≤ (m.b 3).hi ∧ b2 ≤ b3 := by omega
 have ml : ∀ {x y : Int}, x ≤ y → x * g ≤ y * g := fun h => Int.mul_le_mul_of_nonneg_right h (by omega)
 have m01 := ml i1.2.2
 have m12 := ml i2.2.2
 have m23 := ml i3.2.2
 have l0 := ml i0.1
 have l1 := ml i1.1
 have l2 := ml i2.1
 have l3 := ml i3.1
 have h0 := ml i0.2
 have h1 := ml i1.2.1
 have h2 := ml i2.2.1
 have h3 := ml i3.2.1
 have a0 : abv m 0 = -1 := rfl
 have a1 : abv m 1 = (m.b 0).lo := rfl
 have a2 : abv m 2 = (m.b 1).lo := rfl
 have a3 : abv m 3 = (m.b 2).lo := rfl
 have a4 : abv m 4 = (m.b 3).lo := rfl
 have u0 : upt m 0 = (m.b 0).hi := rfl
 have u1 : upt m 1 = (m.b 1).hi := rfl
 have u2 : upt m 2 = (m.b 2).hi := rfl
 have u3 : upt m 3 = (m.b 3).hi := rfl
 have u4 : upt m 4 = 1099511627776 := rfl
 by_cases c3 : b3 * g < v * m.sc
 · rw [if_pos c3, if_pos (by omega), if_pos (by omega), if_pos (by omega)] at hk
   exact ⟨4, by decide, hk, posB_of (by rw [a4]; omega) (by rw [u4]; omega) hg.1⟩
 · rw [if_neg c3] at hk
   by_cases c2 : b2 * g < v * m.sc
   · rw [if_pos c2, if_pos (by omega), if_pos (by omega)] at hk
     exact ⟨3, by decide, hk, posB_of (by rw [a3]; omega) (by rw [u3]; omega) hg.1⟩
   · rw [if_neg c2] at hk
     by_cases c1 : b1 * g < v * m.sc
     · rw [if_pos c1, if_pos (by omega)] at hk
       exact ⟨2, by decide, hk, posB_of (by rw [a2]; omega) (by rw [u2]; omega) hg.1⟩
     · rw [if_neg c1] at hk
       by_cases c0 : b0 * g < v * m.sc
       · rw [if_pos c0] at hk
         exact ⟨1, by decide, hk, posB_of (by rw [a1]; omega) (by rw [u1]; omega) hg.1⟩
       · rw [if_neg c0] at hk
         exact ⟨0, by decide, hk, posB_of (by rw [a0]; omega) (by rw [u0]; omega) hg.1⟩
theorem posB_mono {m : Mdl} (hm : okMdl m = true) {r g r' g' : Rng} {k : Nat} (hk : k < 5) (hr : 0 ≤ r.lo ∧ r.lo ≤ r'.lo ∧ r'.hi ≤ r.hi ∧ 0 ≤ r.hi) (hg : 1 ≤ g.lo ∧ g.lo ≤ g'.lo ∧ g'.hi ≤ g.hi) (h : posB m r' g' k = true) : posB m r g k = true := by
 obtain ⟨hs1, hs2, _⟩ := okMdl_iff.1 hm
 obtain ⟨a1, a2, a3, a4⟩ := abv_bd hm hk
 unfold posB at h ⊢
 simp only [Bool.and_eq_true, decide_eq_true_eq] at h ⊢
 refine ⟨h.1, ?_, ?_⟩
 · have e2 : r'.hi * m.sc ≤ r.hi * m.sc := Int.mul_le_mul_of_nonneg_right hr.2.2.1 (by omega)
   by_cases h0 : 0 ≤ abv m k
   · have e1 : abv m k * g.lo ≤ abv m k * g'.lo := Int.mul_le_mul_of_nonneg_left hg.2.1 h0
     omega
   · have e3 : abv m k = -1 := by omega
     have e4 := Int.mul_nonneg hr.2.2.2 (show 0 ≤ m.sc by omega)
     rw [e3]
     omega
 · have e1 : r.lo * m.sc ≤ r'.lo * m.sc := Int.mul_le_mul_of_nonneg_right hr.2.1 (by omega)
   have e2 : upt m k * g'.hi ≤ upt m k * g.hi := Int.mul_le_mul_of_nonneg_left hg.2.2 a3
   omega
def n5 (a b c d e : Bool) : Int := (if a then 1 else 0) + (if b then 2 else 0) + (if c then 4 else 0) + (if d then 8 else 0) + (if e then 16 else 0)
def s5 (a b c d e : Bool) (k : Nat) : Bool := if k = 0 then a else if k = 1 then b else if k = 2 then c else if k = 3 then d else e
theorem regK_n5 (p : Nat → Bool) : regK p 5 = n5 (p 0) (p 1) (p 2) (p 3) (p 4) := by
 unfold n5
 simp only [regK]
 rcases p 0 <;> rcases p 1 <;> rcases p 2 <;> rcases p 3 <;> rcases p 4 <;> rfl
theorem s5_at (p : Nat → Bool) {k : Nat} (hk : k < 5) : s5 (p 0) (p 1) (p 2) (p 3) (p 4) k = p k := by
 rcases k with _ | _ | _ | _ | _ | k
 · rfl
 · rfl
 · rfl
 · rfl
 · rfl
 · omega
theorem bit_n5 : ∀ a b c d e : Bool, ∀ k : Fin 5, bits .and .u8 (n5 a b c d e / 2 ^ (k : Nat)) 1 = if s5 a b c d e k then 1 else 0 := by decide +kernel
theorem bit_reg (p : Nat → Bool) {k : Nat} (hk : k < 5) : bits .and .u8 (regK p 5 / 2 ^ k) 1 = if p k then 1 else 0 := by
 rw [regK_n5, bit_n5 _ _ _ _ _ ⟨k, hk⟩, s5_at p hk]
theorem not_n5 : ∀ a b c d e a' b' c' d' e' : Bool, (a → a') → (b → b') → (c → c') → (d → d') → (e → e') → bits .andNot .u8 (n5 a b c d e) (n5 a' b' c' d' e') = 0 := by decide +kernel
theorem not_reg {p q : Nat → Bool} (h : ∀ k, k < 5 → p k = true → q k = true) : bits .andNot .u8 (regK p 5) (regK q 5) = 0 := by
 rw [regK_n5, regK_n5]
 exact not_n5 _ _ _ _ _ _ _ _ _ _ (h 0 (by decide)) (h 1 (by decide)) (h 2 (by decide)) (h 3 (by decide)) (h 4 (by decide))
theorem and_n5 : ∀ a b c d e : Bool, ∀ w : Fin 32, ∀ k : Fin 5, s5 a b c d e k = true → (bits .and .u8 (n5 a b c d e) (w : Nat) = n5 a b c d e → bits .and .u8 (((w : Nat) : Int) / 2 ^ (k : Nat)) 1 = 1) ∧ (bits .and .u8 (n5 a b c d e) (w : Nat) = 0 → bits .and .u8 (((w : Nat) : Int) / 2 ^ (k : Nat)) 1 = 0) := by decide +kernel
theorem and_reg {p : Nat → Bool} {w : Int} (hw : 0 ≤ w ∧ w ≤ 31) {k : Nat} (hk : k < 5) (hp : p k = true) : (bits .and .u8 (regK p 5) w = regK p 5 → bits .and .u8 (w / 2 ^ k) 1 = 1) ∧ (bits .and .u8 (regK p 5) w = 0 → bits .and .u8 (w / 2 ^ k) 1 = 0) := by
 obtain ⟨n, rfl⟩ : ∃ n : Nat, w = n := ⟨w.toNat, by omega⟩
 rw [regK_n5]
 exact and_n5 _ _ _ _ _ ⟨n, by omega⟩ ⟨k, hk⟩ (by rw [s5_at p hk]; exact hp)
theorem bit01 : ∀ w : Fin 256, bits .and .u8 ((w : Nat) : Int) 1 = 0 ∨ bits .and .u8 ((w : Nat) : Int) 1 = 1 := by decide +kernel
theorem and31 : ∀ w : Fin 256, 0 ≤ bits .and .u8 ((w : Nat) : Int) 31 ∧ bits .and .u8 ((w : Nat) : Int) 31 ≤ 31 := by decide +kernel
end Go.Proofs.YtnkaoplgmglijaaDoor.Un
