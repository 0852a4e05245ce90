/- The plain law of FinishCommon. -/
import Derived.Test.YtljjpidigckheaaRmp
import Derived.Test.YtljjpidigckheaaKfq
namespace Go.Proofs.Ytljjpidigckheaa.Un
open Go.RowKit
theorem rmSp_one (r : Rmv) : rmSp [r] 1 = r.s := by
 show 0 + r.s = r.s
 omega
theorem cm_same {x : Sht} {r : Rmv} (h : rmEr x [r] = 0) (h0 : r.s = 0) : (rmX x [r]).s = x.s ∧ (rmX x [r]).w = x.w := by
 rw [(rm_ok h).2.2.2.2]
 refine ⟨?_, rfl⟩
 show x.s.map (fun q => (⟨q.lo - rmSp [r] 1, q.hi + rmSp [r] 1⟩ : Rng)) = x.s
 rw [rmSp_one, h0]
 have e : (fun q : Rng => (⟨q.lo - 0, q.hi + 0⟩ : Rng)) = id := by funext q; simp
 rw [e, List.map_id]
theorem ff_same {x y : Sht} (hs : y.s = x.s) (hw : y.w = x.w) (g : Bool) : ff9 y g = ff9 x g := by
 unfold ff9 shG
 rw [hs, hw]
theorem cm_wide {x : Sht} {r : Rmv} (h : rmEr x [r] = 0) : ((rmX x [r]).s.length = x.s.length ∧ (rmX x [r]).w = x.w) ∧ ∀ k, k < x.s.length → (at0 (rmX x [r]).s k).lo ≤ (at0 x.s k).lo ∧ (at0 x.s k).hi ≤ (at0 (rmX x [r]).s k).hi := by
 have hs := (rm_left h 1 (Nat.le_refl _)).2.1
 refine ⟨by rw [(rm_ok h).2.2.2.2]; simp, fun k hk => ?_⟩
 rw [rm_site h hk]
 show (at0 x.s k).lo - rmSp [r] 1 ≤ _ ∧ _ ≤ (at0 x.s k).hi + rmSp [r] 1
 omega
theorem grid_at9 {W n : Nat} : ∀ q ∈ gridL W n, q.at_ < n := fun q hq => by
 obtain ⟨i, hi, rfl⟩ := mem_gPt hq
 exact hi
theorem ff_wide {x y : Sht} (hl : y.s.length = x.s.length) (hw : y.w = x.w) (h : ∀ k, k < x.s.length → (at0 y.s k).lo ≤ (at0 x.s k).lo ∧ (at0 x.s k).hi ≤ (at0 y.s k).hi) :
 Lef (ff9 y false).1 (ff9 x false).1 ∧ Lef (ff9 x true).1 (ff9 y true).1 := by
 unfold ff9 shG
 rw [hl, hw]
 exact flat_wider (l := gridL x.w.toNat x.s.length) (zs := at0 x.s) (zs' := at0 y.s) (n := x.s.length) grid_at9 h
theorem co_le {f g : Frc} (hf : fok f = true) (hg : fok g = true) (h : Lef f g) : (coF f g).2 = 0 ∧ (coF f g).1 ≤ 0 := by
 unfold coF
 rw [hf, hg]
 refine ⟨rfl, ?_⟩
 show cmpI (f.n * g.d) (g.n * f.d) ≤ 0
 unfold cmpI
 have h : f.n * g.d ≤ g.n * f.d := h
 split
 · omega
 · split <;> omega
theorem co_ge {f g : Frc} (hf : fok f = true) (hg : fok g = true) (h : Lef g f) : (coF f g).2 = 0 ∧ 0 ≤ (coF f g).1 := by
 unfold coF
 rw [hf, hg]
 refine ⟨rfl, ?_⟩
 show 0 ≤ cmpI (f.n * g.d) (g.n * f.d)
 unfold cmpI
 have h : g.n * f.d ≤ f.n * g.d := h
 split
 · omega
 · split <;> omega
theorem ff_fok {x : Sht} (h : okSh x = true) (g : Bool) : fok (ff9 x g).1 = true := by
 obtain ⟨WW, HH, eW, eH, bW, bH, eL⟩ := sh_nat h
 have hg : shG x = gridL WW (WW * HH) := by unfold shG; rw [eW, eL]; rfl
 have hi : ∀ q ∈ gridL WW (WW * HH), InG q := grid_in ⟨by omega, bW.2⟩ bH.2
 have ha : ∀ q ∈ gridL WW (WW * HH), q.at_ < x.s.length := by rw [eL]; exact grid_at
 have hf := fl9_in (g := g) hi ha (sh_z h)
 have hd : InD (ds9 (fl9 (gridL WW (WW * HH)) (at0 x.s) g)) := ds_in hf fun hs => fl9_some hs
 unfold ff9
 rw [hg]
 obtain ⟨⟨h1, h2⟩, h3, h4⟩ := hd
 exact fok_iff.2 (by simp only; omega)
end Go.Proofs.Ytljjpidigckheaa.Un
