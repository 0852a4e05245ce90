/- Plain law of narrower runs: nothing that is predicted gets wider. -/
import Derived.Test.YtfifdfagikbahaaDoorCm2
namespace Go.Proofs.YtfifdfagikbahaaDoor
open Go.RowKit
/-- A run that says more. -/
structure NrwR (m' : Mlt) (l' : List Stp) (m : Mlt) (l : List Stp) : Prop where
  ms : m'.ms = m.ms
  lo : ∀ s, s < 3 → m.ct (s * 2) ≤ m'.ct (s * 2)
  hi : ∀ s, s < 3 → m'.ct (s * 2 + 1) ≤ m.ct (s * 2 + 1)
  len : l'.length = l.length
  st : ∀ k, k < l.length → NrwS (at0 l' k) (at0 l k)
section
variable {m' : Mlt} {l' : List Stp} {m : Mlt} {l : List Stp} {s : Nat} {D c : Nat → Int}
theorem NrwR.msK (h : NrwR m' l' m l) : ∀ k, k ≤ l.length → msK m' l' k = msK m l k
  | 0, _ => h.ms
  | k + 1, hk => by
    show grF (Go.Proofs.YtfifdfagikbahaaDoor.msK m' l' k) (at0 l' k) = grF (Go.Proofs.YtfifdfagikbahaaDoor.msK m l k) (at0 l k)
    rw [h.msK k (by omega)]
    unfold grF
    rw [(h.st k (by omega)).kd, (h.st k (by omega)).ms]
theorem NrwR.fz (h : NrwR m' l' m l) : ∀ k, k ≤ l.length → fzK l' k = fzK l k
  | 0, _ => rfl
  | k + 1, hk => by rw [fzK, fzK, h.fz k (by omega), (h.st k (by omega)).kd]
/-- Whatever goes in the narrower run goes in the other one. -/
theorem Goes.wider (hg : Goes m' l' s D c l.length) (h : NrwR m' l' m l) (hv : Vld m l) (hv' : Vld m' l') (hs : s < 3) : Goes m l s D c l.length := by
  have h1 := h.lo s hs
  have h2 := h.hi s hs
  have hz := hg.z
  refine ⟨by omega, fun k hk => ?_, fun k hk => ?_⟩
  · rw [hg.st k hk, (h.st k hk).kd]
  · have hb := hg.bd' hv' hs (by rw [h.len]; exact Nat.le_refl _) (show k ≤ l.length by omega)
    have hc := hg.ch k hk
    rw [h.msK k (by omega)] at hc
    have hn := ch_narrow (hv'.isS (by rw [h.len]; exact hk)) (hv.isS hk) (h.st k hk) hs (hv.ms (show k ≤ l.length by omega)) (hv.le hk) hb
    omega
/-- What a rule's course takes in all is the sum of its choices. -/
theorem tl_sum (q : Crs) (st : Int) (hv : Vld m l) : ∀ k, k ≤ l.length → (tlK m q s st l k).1 = sumK l (fun k => pkF q (at0 l k).kd (chF (at0 l k) s (wkD m q s st l k) (Go.Proofs.YtfifdfagikbahaaDoor.msK m l k)).1 (chF (at0 l k) s (wkD m q s st l k) (Go.Proofs.YtfifdfagikbahaaDoor.msK m l k)).2) isF k ∧ (tlK m q s st l k).2 = sumK l (fun k => pkF q (at0 l k).kd (chF (at0 l k) s (wkD m q s st l k) (Go.Proofs.YtfifdfagikbahaaDoor.msK m l k)).1 (chF (at0 l k) s (wkD m q s st l k) (Go.Proofs.YtfifdfagikbahaaDoor.msK m l k)).2) isV k
  | 0, _ => ⟨rfl, rfl⟩
  | k + 1, hk => by
    have ih := tl_sum q st hv k (by omega)
    have hw : wkD m q s st l (k + 1) = if (at0 l k).kd = 2 ∨ (at0 l k).kd = 3 then wkD m q s st l k + pkF q (at0 l k).kd (chF (at0 l k) s (wkD m q s st l k) (Go.Proofs.YtfifdfagikbahaaDoor.msK m l k)).1 (chF (at0 l k) s (wkD m q s st l k) (Go.Proofs.YtfifdfagikbahaaDoor.msK m l k)).2
      else wkD m q s st l k - pkF q (at0 l k).kd (chF (at0 l k) s (wkD m q s st l k) (Go.Proofs.YtfifdfagikbahaaDoor.msK m l k)).1 (chF (at0 l k) s (wkD m q s st l k) (Go.Proofs.YtfifdfagikbahaaDoor.msK m l k)).2 := rfl
    rw [tl1_step, tl2_step, sumK, sumK, ih.1, ih.2, hw]
    generalize pkF q (at0 l k).kd (chF (at0 l k) s (wkD m q s st l k) (Go.Proofs.YtfifdfagikbahaaDoor.msK m l k)).1 (chF (at0 l k) s (wkD m q s st l k) (Go.Proofs.YtfifdfagikbahaaDoor.msK m l k)).2 = g
    rcases isS_kd (hv.isS (show k < l.length by omega)) with h1 | h1 | h1 | h1 <;> rw [h1] <;> simp [isF, isV] <;> omega
/-- No range of the end, of what is added, freezes or evaporates is wider, and each is in order. -/
structure InR (a b c d : Int) : Prop where
  lo : c ≤ a
  hi : b ≤ d
  ok : a ≤ b
theorem nrw_end (h : NrwR m' l' m l) (hv : Vld m l) (hv' : Vld m' l') (hs : s < 3) : InR (wkD m' crsPoor s (m'.ct (s * 2)) l' l'.length) (wkD m' crsRich s (m'.ct (s * 2 + 1)) l' l'.length) (wkD m crsPoor s (m.ct (s * 2)) l l.length) (wkD m crsRich s (m.ct (s * 2 + 1)) l l.length) := by
  have g1 := goes_wk crsPoor hv' hs
  have g2 := goes_wk crsRich hv' hs
  have e1 := g1.between hv' hs (Nat.le_refl _) _ (Nat.le_refl _)
  rw [h.len] at g1 g2 e1 ⊢
  exact ⟨((g1.wider h hv hv' hs).between hv hs (Nat.le_refl _) _ (Nat.le_refl _)).1, ((g2.wider h hv hv' hs).between hv hs (Nat.le_refl _) _ (Nat.le_refl _)).2, e1.2⟩
theorem NrwR.sum (h : NrwR m' l' m l) (p : Int → Bool) : ∀ k, k ≤ l.length → sumK l' c p k = sumK l c p k
  | 0, _ => rfl
  | k + 1, hk => by rw [sumK, sumK, h.sum p k (by omega), (h.st k (by omega)).kd]
theorem nrw_solid (h : NrwR m' l' m l) (hv : Vld m l) (hv' : Vld m' l') (hs : s < 3) : InR (tlF m' ⟨false, false, true⟩ s l').1 (tlF m' ⟨true, true, false⟩ s l').1 (tlF m ⟨false, false, true⟩ s l).1 (tlF m ⟨true, true, false⟩ s l).1 := by
  have g1 := goes_wk ⟨false, false, true⟩ hv' hs
  have g2 := goes_wk ⟨true, true, false⟩ hv' hs
  have t1 := (tl_sum (s := s) ⟨false, false, true⟩ (m'.ct (s * 2)) hv' l'.length (Nat.le_refl _)).1
  have t2 := (tl_sum (s := s) ⟨true, true, false⟩ (m'.ct (s * 2 + 1)) hv' l'.length (Nat.le_refl _)).1
  have e1 := (g1.solid_hi hv' hs (Nat.le_refl _) _ (Nat.le_refl _)).1
  have E1 := Int.le_trans (Int.le_of_eq t1) e1
  rw [h.len] at g1 g2 t1 t2
  have a1 := ((g1.wider h hv hv' hs).solid_lo hv hs (Nat.le_refl _) _ (Nat.le_refl _)).1
  have a2 := ((g2.wider h hv hv' hs).solid_hi hv hs (Nat.le_refl _) _ (Nat.le_refl _)).1
  have T1 := t1.trans (h.sum isF l.length (Nat.le_refl _))
  have T2 := t2.trans (h.sum isF l.length (Nat.le_refl _))
  refine ⟨?_, ?_, E1⟩
  · show (tlK m _ s (m.ct (s * 2)) l l.length).1 ≤ (tlK m' _ s (m'.ct (s * 2)) l' l'.length).1
    rw [h.len, T1]; exact a1
  · show (tlK m' _ s (m'.ct (s * 2 + 1)) l' l'.length).1 ≤ (tlK m _ s (m.ct (s * 2 + 1)) l l.length).1
    rw [h.len, T2]; exact a2
theorem nrw_gone (h : NrwR m' l' m l) (hv : Vld m l) (hv' : Vld m' l') (hs : s < 3) : InR (tlF m' ⟨false, true, false⟩ s l').2 (tlF m' ⟨true, false, true⟩ s l').2 (tlF m ⟨false, true, false⟩ s l).2 (tlF m ⟨true, false, true⟩ s l).2 := by
  have g1 := goes_wk ⟨false, true, false⟩ hv' hs
  have g2 := goes_wk ⟨true, false, true⟩ hv' hs
  have t1 := (tl_sum (s := s) ⟨false, true, false⟩ (m'.ct (s * 2)) hv' l'.length (Nat.le_refl _)).2
  have t2 := (tl_sum (s := s) ⟨true, false, true⟩ (m'.ct (s * 2 + 1)) hv' l'.length (Nat.le_refl _)).2
  have e1 := (g1.gone_hi hv' hs (Nat.le_refl _) _ (Nat.le_refl _)).1
  have E1 := Int.le_trans (Int.le_of_eq t1) e1
  rw [h.len] at g1 g2 t1 t2
  have a1 := ((g1.wider h hv hv' hs).gone_lo hv hs (Nat.le_refl _) _ (Nat.le_refl _)).1
  have a2 := ((g2.wider h hv hv' hs).gone_hi hv hs (Nat.le_refl _) _ (Nat.le_refl _)).1
  have T1 := t1.trans (h.sum isV l.length (Nat.le_refl _))
  have T2 := t2.trans (h.sum isV l.length (Nat.le_refl _))
  refine ⟨?_, ?_, E1⟩
  · show (tlK m _ s (m.ct (s * 2)) l l.length).2 ≤ (tlK m' _ s (m'.ct (s * 2)) l' l'.length).2
    rw [h.len, T1]; exact a1
  · show (tlK m' _ s (m'.ct (s * 2 + 1)) l' l'.length).2 ≤ (tlK m _ s (m.ct (s * 2 + 1)) l l.length).2
    rw [h.len, T2]; exact a2
theorem nrw_added (h : NrwR m' l' m l) (hv' : Vld m' l') (hs : s < 3) : ∀ k, k ≤ l.length → InR (adK l' s k).1 (adK l' s k).2 (adK l s k).1 (adK l s k).2
  | 0, _ => ⟨Int.le_refl _, Int.le_refl _, Int.le_refl _⟩
  | k + 1, hk => by
    have ih := nrw_added h hv' hs k (by omega)
    have i1 := ih.lo
    have i2 := ih.hi
    have i3 := ih.ok
    have hb := isS_by (hv'.isS (show k < l'.length by rw [h.len]; omega)) hs
    have h1 := (h.st k (by omega)).lo s hs
    have h2 := (h.st k (by omega)).hi s hs
    rw [adK, adK, (h.st k (by omega)).kd]
    split
    · exact ⟨by show _ + _ ≤ _ + _; omega, by show _ + _ ≤ _ + _; omega, by show _ + _ ≤ _ + _; omega⟩
    · exact ih
theorem nrw_slice (h : NrwR m' l' m l) (hv : Vld m l) (hv' : Vld m' l') (hs : s < 3) {k : Nat} (hk : k < l.length) (h1 : (at0 l k).kd = 1) : InR (lwK m' s l' k) (hgK m' s l' k) (lwK m s l k) (hgK m s l k) := by
  have hk' : k < l'.length := by rw [h.len]; exact hk
  have g1 := goes_wk crsPoor hv' hs
  have g2 := goes_wk crsRich hv' hs
  have b1 := g1.bd' hv' hs (Nat.le_refl _) (show k ≤ l'.length by omega)
  have b2 := g2.bd' hv' hs (Nat.le_refl _) (show k ≤ l'.length by omega)
  have e1 := g1.between hv' hs (Nat.le_refl _) k (by omega)
  rw [h.len] at g1 g2
  have w1 := ((g1.wider h hv hv' hs).between hv hs (Nat.le_refl _) k (by omega)).1
  have w2 := ((g2.wider h hv hv' hs).between hv hs (Nat.le_refl _) k (by omega)).2
  have p1 := (goes_wk crsPoor hv hs).bd' hv hs (Nat.le_refl _) (show k ≤ l.length by omega)
  have p2 := (goes_wk crsRich hv hs).bd' hv hs (Nat.le_refl _) (show k ≤ l.length by omega)
  have hkd : ¬ ((at0 l k).kd = 2 ∨ (at0 l k).kd = 3) := by omega
  have hkd' : ¬ ((at0 l' k).kd = 2 ∨ (at0 l' k).kd = 3) := by rw [(h.st k hk).kd]; exact hkd
  have hm := h.msK k (by omega)
  have n1 := ch_narrow (hv'.isS hk') (hv.isS hk) (h.st k hk) hs (hv.ms (show k ≤ l.length by omega)) (hv.le hk) b1
  have n2 := ch_narrow (hv'.isS hk') (hv.isS hk) (h.st k hk) hs (hv.ms (show k ≤ l.length by omega)) (hv.le hk) b2
  have m1 := hv.mono hk hs hkd p1.1 w1 b1.2
  have m2 := hv.mono hk hs hkd b2.1 w2 p2.2
  have m3 := hv'.mono hk' hs hkd' b1.1 e1.2 b2.2
  have t3 := ((hv'.takes hk' hs hkd').le _ b2.1 b2.2).2.1
  rw [← hm] at n1 n2 m1 m2
  unfold lwK hgK
  rw [← hm]
  exact ⟨Int.le_trans m1.1 n1.1, Int.le_trans n2.2 m2.2.2.1, Int.le_trans m3.1 t3⟩
end
end Go.Proofs.YtfifdfagikbahaaDoor
