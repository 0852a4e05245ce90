/- Plain law of FinishBests: the distance of the best plane is the flatness. -/
import Derived.Test.YtljjpidigckheaaKh
import Derived.Test.YtljjpidigckheaaKfq
namespace Go.Proofs.Ytljjpidigckheaa.Un
open Go.RowKit
def awK (W : Nat) (z : List Int) (p : Pln) : Nat → Int
 | 0 => 0 | k + 1 => max (max (awK W z p k) (p.off (gPt W k) (at0 z k))) (-(p.off (gPt W k) (at0 z k)))
theorem awK_nonneg (W : Nat) (z : List Int) (p : Pln) : ∀ k, 0 ≤ awK W z p k
 | 0 => Int.le_refl 0
 | k + 1 => by
   have := awK_nonneg W z p k
   show 0 ≤ max (max (awK W z p k) _) _
   omega
theorem awK_ge {W : Nat} {z : List Int} {p : Pln} : ∀ {k j : Nat}, j < k → ofa p (at0 z) (gPt W j) ≤ awK W z p k
 | 0, _, h => absurd h (by omega)
 | k + 1, j, h => by
   unfold ofa
   rcases Nat.lt_or_ge j k with h1 | h1
   · have := awK_ge (W := W) (z := z) (p := p) h1
     unfold ofa at this
     show _ ≤ max (max (awK W z p k) _) _
     omega
   · obtain rfl : j = k := by omega
     show _ ≤ max (max (awK W z p j) (p.off (gPt W j) (at0 z j))) (-(p.off (gPt W j) (at0 z j)))
     show max (p.off (gPt W j) (at0 z j)) (-(p.off (gPt W j) (at0 z j))) ≤ _
     omega
theorem awK_le {W : Nat} {z : List Int} {p : Pln} {d : Frc} (h0 : 0 ≤ d.n * p.d) : ∀ {k : Nat}, (∀ j, j < k → ofa p (at0 z) (gPt W j) * d.d ≤ d.n * p.d) → awK W z p k * d.d ≤ d.n * p.d
 | 0, _ => by show 0 * d.d ≤ _; rw [Int.zero_mul]; exact h0
 | k + 1, h => by
   have h1 := awK_le h0 (k := k) (fun j hj => h j (by omega))
   have h2 := h k (by omega)
   unfold ofa at h2
   change max (p.off (gPt W k) (at0 z k)) (-(p.off (gPt W k) (at0 z k))) * d.d ≤ _ at h2
   show max (max (awK W z p k) (p.off (gPt W k) (at0 z k))) (-(p.off (gPt W k) (at0 z k))) * d.d ≤ _
   generalize p.off (gPt W k) (at0 z k) = o at h2 ⊢
   generalize awK W z p k = m at h1 ⊢
   have e : max (max m o) (-o) = m ∨ max (max m o) (-o) = max o (-o) := by omega
   rcases e with e | e <;> rw [e]
   · exact h1
   · exact h2
theorem best_dist {W H : Nat} {zs : List Int} {P : Pln} {f : Frc} (hW : 2 ≤ W) (hH : 2 ≤ H) (hl : zs.length = W * H) (hp : 0 < P.d) (hf : f = ds9 (fl9 (gridL W zs.length) (ex9 (at0 zs)) true)) (hn : near9 P (gridL W zs.length) (at0 zs) f = true) :
 low9 (awK W zs P zs.length) P.d = f := by
 have hg : Grd (gridL W zs.length) := by rw [hl]; exact grid_grd hW hH
 have hlub := fl_lub (gridL W zs.length) (ex9 (at0 zs)) true
 rw [← hf] at hlub
 obtain ⟨h1, h2, h3, _⟩ := hlub
 refine low9_uniq (by omega) h1 ?_ h3
 refine Int.le_antisymm ?_ ?_
 · refine awK_le (Int.mul_nonneg h2 (Int.le_of_lt hp)) fun j hj => ?_
   have := near9_iff.1 hn j (by rw [gridL_len]; exact hj)
   rw [gridL_get hj] at this
   exact this
 · have := no_better (g := true) hg (z := at0 zs) hp (far := awK W zs P zs.length) (fun q hq => by
    obtain ⟨i, hi, rfl⟩ := mem_gPt hq
    exact awK_ge hi)
   rw [← hf] at this
   exact this
theorem best_ff {W H : Int} {zs : List Int} {f : Frc} (ho : okSh (bsX W H zs) = true) (hf : f = ds9 (fl9 (gridL W.toNat zs.length) (ex9 (at0 zs)) true)) (g : Bool) : (ff9 (bsX W H zs) g).1 = f := by
 show ds9 (fl9 (shG (bsX W H zs)) (at0 (exR zs)) g) = f
 obtain ⟨WW, HH, eW, eH, bW, bH, eL⟩ := sh_nat ho
 change W = _ at eW
 change H = _ at eH
 change (exR zs).length = _ at eL
 rw [exR_len] at eL
 subst eW eH
 rw [hf, ex_eq]
 show ds9 (fl9 (shG (bsX WW HH zs)) (ex9 (at0 zs)) g) = ds9 (fl9 (gridL WW zs.length) (ex9 (at0 zs)) true)
 rw [show shG (bsX WW HH zs) = gridL WW zs.length from by unfold shG bsX; simp [exR_len, eL]]
 exact ex_same _ _ _
theorem awK_bd {p : Pln} {W H : Nat} {z : List Int} (hp : InP p) (hW : 1 ≤ W ∧ W ≤ 6) (hH : H ≤ 6) (hl : z.length = W * H) (hz : InH z) : ∀ k, k ≤ z.length → awK W z p k ≤ 1000000000000000
 | 0, _ => by show (0 : Int) ≤ _; omega
 | k + 1, h1 => by
   have := awK_bd hp hW hH hl hz k (by omega)
   have := off_bd hp (gPt_in hW hH (show k < W * H by omega)) (hz k (by omega))
   show max (max (awK W z p k) _) _ ≤ _
   omega
end Go.Proofs.Ytljjpidigckheaa.Un
