/- The plain law of FinishTrue. -/
import Derived.Test.YtliolnfcgaflcaaGreatFae
import Derived.Test.YtliolnfcgaflcaaGreatFg
import Derived.Test.YtliolnfcgaflcaaGreatTpl
namespace Go.Proofs.YtliolnfcgaflcaaGreat.Un
open Go.RowKit
def plcF (r : Rng) (b : Int) : Int := if r.hi ≤ r.lo ∨ r.lo < -1000000000000000 ∨ 1000000000000000 < r.hi then r.lo else r.lo + b % (r.hi - r.lo + 1)
theorem plc_inF {r : Rng} {b : Int} (h : r.lo ≤ r.hi) : r.lo ≤ plcF r b ∧ plcF r b ≤ r.hi := by
 unfold plcF
 split
 · omega
 · have h1 := Int.emod_nonneg b (show r.hi - r.lo + 1 ≠ 0 by omega)
   have h2 := Int.emod_lt_of_pos b (show 0 < r.hi - r.lo + 1 by omega)
   omega
end Go.Proofs.YtliolnfcgaflcaaGreat.Un
namespace Go.Proofs.YtliolnfcgaflcaaGreat.Un
open Go.RowKit
def GagIn (g : Gag) : Prop := (1 ≤ g.f.lo ∧ g.f.lo ≤ g.f.hi ∧ g.f.hi ≤ 2000000) ∧ -1000000 ≤ g.o.lo ∧ g.o.lo ≤ g.o.hi ∧ g.o.hi ≤ 1000000
theorem gag_in {l : List Gag} (h : okGag l = true) {k : Nat} (hk : k < l.length) : GagIn (at0 l k) := by
 unfold okGag at h
 have h2 := gagK_iff.1 (Bool.and_eq_true_iff.1 h).2 k hk
 unfold gagB at h2
 simp only [Bool.and_eq_true, decide_eq_true_eq, spn9_iff] at h2
 unfold GagIn
 omega
theorem chk_two {a b : Rng} (h : (suF [a, b]).2 = 0) : rngOk a = true ∧ rngOk b = true := by
 unfold suF at h
 by_cases hc : chk [a, b] = 0
 · have := (chk_ok hc).2
   exact ⟨rngs_at this (j := 0) (by simp), rngs_at this (j := 1) (by simp)⟩
 · rw [if_neg hc] at h; exact absurd h hc
theorem fiF_0 {a b : Int} (h : (fiF a b).2 = 0) : numB a = true ∧ numB b = true ∧ fiF a b = (⟨a, b⟩, 0) := by
 unfold fiF at h ⊢
 split at h
 · rename_i h1
   rw [if_pos h1]
   exact ⟨(Bool.and_eq_true_iff.1 h1).1, (Bool.and_eq_true_iff.1 h1).2, rfl⟩
 · cases h
theorem stp_t {g : Gag} {X : Rng} (h : (stp9 g X).2 = 0) : ∃ T : Rng, tmF X g.f 1000000 = (T, 0) ∧ rngOk T = true ∧ rngOk g.o = true ∧ (numB (T.lo + g.o.lo) = true ∧ numB (T.hi + g.o.hi) = true) ∧ stp9 g X = (⟨T.lo + g.o.lo, T.hi + g.o.hi⟩, 0) := by
 obtain ⟨⟨T, e⟩, ht⟩ : ∃ T, tmF X g.f 1000000 = T := ⟨_, rfl⟩
 unfold stp9 at h ⊢
 rw [ht] at h ⊢
 simp only at h ⊢
 by_cases he : e = 0
 · subst he
   rw [if_pos rfl] at h ⊢
   obtain ⟨h1, h2⟩ := chk_two h
   rw [suF_two h1 h2] at h ⊢
   obtain ⟨n1, n2, hf⟩ := fiF_0 h
   exact ⟨T, rfl, h1, h2, ⟨n1, n2⟩, hf⟩
 · rw [if_neg he] at h; exact absurd h he
theorem stp_sub {g : Gag} {X x : Rng} (hg : GagIn g) (h : (stp9 g X).2 = 0) (hx : Sub x X) : (stp9 g x).2 = 0 ∧ Sub (stp9 g x).1 (stp9 g X).1 := by
 obtain ⟨T, ht, hT, ho, hn, hs⟩ := stp_t h
 obtain ⟨t, htt, hin, _, _⟩ := times_part ht hx (b := g.f) ⟨Int.le_refl _, by have := hg.1; omega, Int.le_refl _⟩
 obtain ⟨i1, i2, i3⟩ := insB_iff.1 hin
 have r1 := rngOk_iff.1 hT
 have r2 := rngOk_iff.1 ho
 have m1 := numB_iff.1 hn.1
 have m2 := numB_iff.1 hn.2
 have hto : rngOk t = true := rngOk_iff.2 (by omega)
 have hq : stp9 g x = (⟨t.lo + g.o.lo, t.hi + g.o.hi⟩, 0) := by
  unfold stp9
  rw [htt]
  simp only
  rw [if_pos trivial, suF_two hto ho]
  unfold fiF
  rw [if_pos (by rw [numB_iff.2 (by omega), numB_iff.2 (by omega)]; rfl)]
 rw [hq, hs]
 exact ⟨rfl, by simp only; omega, by simp only; omega, by simp only; omega⟩
theorem stp_num {g : Gag} {X : Rng} (h : (stp9 g X).2 = 0) {n f o how : Int} (hn : X.lo ≤ n ∧ n ≤ X.hi) (hf : g.f.lo ≤ f ∧ f ≤ g.f.hi) (ho : g.o.lo ≤ o ∧ o ≤ g.o.hi) (hh : 1 ≤ how ∧ how ≤ 3) :
 (mdF n f 1000000 how).2.2 = 0 ∧ (-1000000000000000 ≤ (mdF n f 1000000 how).1 ∧ (mdF n f 1000000 how).1 ≤ 1000000000000000) ∧ (stp9 g X).1.lo ≤ (mdF n f 1000000 how).1 + o ∧ (mdF n f 1000000 how).1 + o ≤ (stp9 g X).1.hi := by
 obtain ⟨T, ht, hT, _, _, hs⟩ := stp_t h
 obtain ⟨Y, _, hin, _, hr⟩ := times_part ht (a := ⟨n, n⟩) ⟨hn.1, Int.le_refl _, hn.2⟩ (b := ⟨f, f⟩) ⟨hf.1, Int.le_refl _, hf.2⟩
 obtain ⟨m, r, hm, y1, y2⟩ := hr how hh
 obtain ⟨i1, i2, i3⟩ := insB_iff.1 hin
 have r1 := rngOk_iff.1 hT
 have e : mdF n f 1000000 how = (m, r, 0) := hm
 rw [e, hs]
 exact ⟨rfl, ⟨by show -1000000000000000 ≤ m; omega, by show m ≤ 1000000000000000; omega⟩, by show T.lo + g.o.lo ≤ m + o; omega, by show m + o ≤ T.hi + g.o.hi; omega⟩
theorem trK_pre {l : List Gag} {p : List Int} {x : Rng} {k n : Nat} (hk : k ≤ n) (h : (trKF l p x n).2 = 0) : (trKF l p x k).2 = 0 :=
 Classical.byContradiction fun hc => hc (by rw [trK_none hc n hk] at h; exact h)
theorem trK_stp {l : List Gag} {p : List Int} {x : Rng} {k : Nat} (h : (trKF l p x k).2 = 0) : trKF l p x (k + 1) = stp9 (at0 l (at0 p k).toNat) (trKF l p x k).1 := by
 show (if (trKF l p x k).2 = 0 then _ else _) = _
 rw [if_pos h]
theorem tr_sub {l : List Gag} {p : List Int} {X x : Rng} (hl : okGag l = true) (hp : ∀ k, k < p.length → 0 ≤ at0 p k ∧ at0 p k < (l.length : Int)) (hx : Sub x X) :
 ∀ k, k ≤ p.length → (trKF l p X k).2 = 0 → (trKF l p x k).2 = 0 ∧ Sub (trKF l p x k).1 (trKF l p X k).1
 | 0, _, _ => ⟨rfl, hx⟩
 | k + 1, hk, h => by
   have h0 := trK_pre (Nat.le_succ k) h
   obtain ⟨h1, h2⟩ := tr_sub hl hp hx k (by omega) h0
   rw [trK_stp h0] at h ⊢
   rw [trK_stp h1]
   have := hp k (by omega)
   exact stp_sub (gag_in hl (by omega)) h h2
def frN (l : List Gag) (p tr : List Int) (n : Int) : Nat → Int
 | 0 => n
 | k + 1 => (mdF (frN l p tr n k) (plcF (at0 l (at0 p k).toNat).f (at0 tr (3 * k + 1))) 1000000 (1 + at0 tr (3 * k + 2) % 3)).1 + plcF (at0 l (at0 p k).toNat).o (at0 tr (3 * k + 3))
theorem fr_in {l : List Gag} {p tr : List Int} {X : Rng} {n : Int} (hl : okGag l = true) (hp : ∀ k, k < p.length → 0 ≤ at0 p k ∧ at0 p k < (l.length : Int)) (hn : X.lo ≤ n ∧ n ≤ X.hi) (hX : (trKF l p X p.length).2 = 0) :
 ∀ k, k ≤ p.length → (trKF l p X k).1.lo ≤ frN l p tr n k ∧ frN l p tr n k ≤ (trKF l p X k).1.hi
 | 0, _ => hn
 | k + 1, hk => by
   have ih := fr_in hl hp hn hX (tr := tr) k (by omega)
   have h1 := trK_pre hk hX
   rw [trK_stp (trK_pre (by omega) hX)] at h1 ⊢
   have hq := hp k (by omega)
   have hg := gag_in hl (k := (at0 p k).toNat) (by omega)
   exact (stp_num h1 ih (plc_inF (by have := hg.1; omega)) (plc_inF (by have := hg.2; omega)) (by omega)).2.2
theorem fr_step {l : List Gag} {p tr : List Int} {X : Rng} {n : Int} (hl : okGag l = true) (hp : ∀ k, k < p.length → 0 ≤ at0 p k ∧ at0 p k < (l.length : Int)) (hn : X.lo ≤ n ∧ n ≤ X.hi) (hX : (trKF l p X p.length).2 = 0) {k : Nat} (hk : k < p.length) :
 (mdF (frN l p tr n k) (plcF (at0 l (at0 p k).toNat).f (at0 tr (3 * k + 1))) 1000000 (1 + at0 tr (3 * k + 2) % 3)).2.2 = 0 ∧ -1000000000000000 ≤ (mdF (frN l p tr n k) (plcF (at0 l (at0 p k).toNat).f (at0 tr (3 * k + 1))) 1000000 (1 + at0 tr (3 * k + 2) % 3)).1 ∧ (mdF (frN l p tr n k) (plcF (at0 l (at0 p k).toNat).f (at0 tr (3 * k + 1))) 1000000 (1 + at0 tr (3 * k + 2) % 3)).1 ≤ 1000000000000000 := by
 have ih := fr_in hl hp hn hX (tr := tr) k (by omega)
 have h1 := trK_pre (show k + 1 ≤ p.length by omega) hX
 rw [trK_stp (trK_pre (by omega) hX)] at h1
 have hq := hp k (by omega)
 have hg := gag_in hl (k := (at0 p k).toNat) (by omega)
 have := stp_num h1 ih (plc_inF (r := (at0 l (at0 p k).toNat).f) (b := at0 tr (3 * k + 1)) (by have := hg.1; omega)) (plc_inF (r := (at0 l (at0 p k).toNat).o) (b := at0 tr (3 * k + 3)) (by have := hg.2; omega)) (how := 1 + at0 tr (3 * k + 2) % 3) (by omega)
 exact ⟨this.1, this.2.1⟩
theorem fr_bdF {l : List Gag} {p : List Int} {X : Rng} (hx : -1000000000000000 ≤ X.lo ∧ X.lo ≤ X.hi ∧ X.hi ≤ 1000000000000000) (hX : (trKF l p X p.length).2 = 0) :
 ∀ k, k ≤ p.length → -1000000000000000 ≤ (trKF l p X k).1.lo ∧ (trKF l p X k).1.hi ≤ 1000000000000000
 | 0, _ => ⟨hx.1, hx.2.2⟩
 | k + 1, hk => by
   have h1 := trK_pre hk hX
   rw [trK_stp (trK_pre (by omega) hX)] at h1 ⊢
   obtain ⟨T, _, _, _, hn, hs⟩ := stp_t h1
   rw [hs]
   have m1 := numB_iff.1 hn.1
   have m2 := numB_iff.1 hn.2
   exact ⟨m1.1, m2.2⟩
def itr (l : List Gag) (g : Int) : Nat → Int
 | 0 => g | k + 1 => (at0 l (itr l g k).toNat).by_
theorem itr_cons (l : List Gag) (g : Int) : ∀ k, itr l g (k + 1) = itr l (at0 l g.toNat).by_ k
 | 0 => rfl
 | k + 1 => by show (at0 l (itr l g (k + 1)).toNat).by_ = _; rw [itr_cons l g k]; rfl
theorem pth_itr {l : List Gag} (h : okGag l = true) : ∀ (f : Nat) (g : Int), g + 1 ≤ (f : Int) → -1 ≤ g → g < (l.length : Int) → (∀ k, k < (pth l f g).length → at0 (pth l f g) k = itr l g k) ∧ itr l g (pth l f g).length = -1
 | 0, g, h1, h2, _ => ⟨fun k hk => absurd hk (by simp [pth]), by show g = -1; omega⟩
 | f + 1, g, h1, h2, h3 => by
   unfold pth
   by_cases h0 : g < 0
   · rw [if_pos h0]
     exact ⟨fun k hk => absurd hk (by simp), by show g = -1; omega⟩
   · rw [if_neg h0]
     have hb := gag_by h (k := g.toNat) (by omega)
     obtain ⟨i1, i2⟩ := pth_itr h f (at0 l g.toNat).by_ (by omega) hb.1 (by omega)
     refine ⟨fun k hk => ?_, ?_⟩
     · cases k with
       | zero => rfl
       | succ k =>
         rw [itr_cons, ← i1 k (by simpa using hk)]
         rfl
     · rw [List.length_cons, itr_cons, i2]
theorem at0_in9 {α : Type} [Inhabited α] {l : List α} {k : Nat} (hk : k < l.length) : at0 l k ∈ l := by rw [at0_get hk]; exact List.getElem_mem hk
theorem trF_ok {l : List Gag} {g day : Int} {x : Rng} (h : (trF l g day x).2.2 = 0) :
 okGag l = true ∧ spn9 x (-1000000000000000) 1000000000000000 = true ∧ (0 ≤ g ∧ g < (l.length : Int)) ∧ (∀ k, k < (path9 l g).length → 0 ≤ at0 (path9 l g) k ∧ at0 (path9 l g) k < (l.length : Int) ∧ at0 (path9 l g) k = itr l g k ∧ day ≤ (at0 l (itr l g k).toNat).u) ∧ itr l g (path9 l g).length = -1 ∧ (trKF l (path9 l g) x (path9 l g).length).2 = 0 ∧ trF l g day x = ((trKF l (path9 l g) x (path9 l g).length).1, path9 l g, 0) := by
 unfold trF at h ⊢
 rcases ho : okGag l with _ | _
 · rw [ho] at h; cases h
 rcases hs : spn9 x (-1000000000000000) 1000000000000000 with _ | _
 · rw [ho, hs] at h; cases h
 rw [ho, hs] at h
 rw [Bool.true_and, if_pos rfl] at h ⊢
 by_cases hg : g < 0 ∨ (l.length : Int) ≤ g
 · rw [if_pos hg] at h; cases h
 rw [if_neg hg] at h ⊢
 by_cases ha : (path9 l g).any (old9 l day) = true
 · rw [if_pos ha] at h; cases h
 rw [if_neg ha] at h ⊢
 by_cases hk : (trKF l (path9 l g) x (path9 l g).length).2 = 0
 case neg => rw [if_neg hk] at h; exact absurd h hk
 rw [if_pos hk]
 have hp := pth_itr ho (g.toNat + 1) g (by omega) (by omega) (by omega)
 refine ⟨rfl, rfl, by omega, fun k hkl => ?_, hp.2, hk, rfl⟩
 have hi := pth_in ho (g.toNat + 1) g (by omega) _ (at0_in9 hkl)
 refine ⟨hi.1, hi.2, hp.1 k hkl, ?_⟩
 rw [← hp.1 k hkl]
 have hn : old9 l day (at0 (path9 l g) k) = false := by
  rcases hb : old9 l day (at0 (path9 l g) k) with _ | _
  · rfl
  · exact absurd (List.any_eq_true.2 ⟨_, at0_in9 hkl, hb⟩) ha
 unfold old9 at hn
 have := of_decide_eq_false hn
 show day ≤ (at0 l (at0 (path9 l g) k).toNat).u
 omega
theorem trF_sub {l : List Gag} {g day : Int} {X x : Rng} (h : (trF l g day X).2.2 = 0) (hx : Sub x X) : (trF l g day x).2.2 = 0 ∧ Sub (trF l g day x).1 (trF l g day X).1 := by
 obtain ⟨h1, h2, h3, h4, h5, h6, h7⟩ := trF_ok h
 have hs := tr_sub h1 (fun k hk => ⟨(h4 k hk).1, (h4 k hk).2.1⟩) hx _ (Nat.le_refl _) h6
 have hx2 : spn9 x (-1000000000000000) 1000000000000000 = true := spn9_iff.2 (by have := spn9_iff.1 h2; obtain ⟨a, b, c⟩ := hx; omega)
 have hE : trF l g day x = ((trKF l (path9 l g) x (path9 l g).length).1, path9 l g, 0) := by
  have hany : (path9 l g).any (old9 l day) = false := by
   rw [h7] at h
   rcases hb : (path9 l g).any (old9 l day) with _ | _
   · rfl
   · exfalso
     unfold trF at h7
     rw [h1, h2, Bool.true_and, if_pos rfl, if_neg (by omega), if_pos hb] at h7
     injection h7 with _ h8
     injection h8 with _ h9
     cases h9
  unfold trF
  rw [h1, hx2, Bool.true_and, if_pos rfl, if_neg (by omega), if_neg (by rw [hany]; decide), if_pos hs.1]
 rw [hE, h7]
 exact ⟨rfl, hs.2⟩
end Go.Proofs.YtliolnfcgaflcaaGreat.Un
