/- What is told of a run, number by number; what is followed is a course. -/
import Derived.Test.YtfifdfagikbahaaDoorCm1
import Derived.Test.YtfifdfagikbahaaDoorFo4
namespace Go.Proofs.YtfifdfagikbahaaDoor
open Go.RowKit
/-- The numbers of a species in what is told. -/
structure PrV (m : Mlt) (l : List Stp) (s : Nat) : Prop where
  e0 : prR m l (2 + s * 2) = wkD m crsPoor s (m.ct (s * 2)) l l.length
  e1 : prR m l (2 + s * 2 + 1) = wkD m crsRich s (m.ct (s * 2 + 1)) l l.length
  a0 : prR m l (8 + s * 2) = (adK l s l.length).1
  a1 : prR m l (8 + s * 2 + 1) = (adK l s l.length).2
  f0 : prR m l (14 + s * 2) = (tlF m ⟨false, false, true⟩ s l).1
  f1 : prR m l (14 + s * 2 + 1) = (tlF m ⟨true, true, false⟩ s l).1
  v0 : prR m l (20 + s * 2) = (tlF m ⟨false, true, false⟩ s l).2
  v1 : prR m l (20 + s * 2 + 1) = (tlF m ⟨true, false, true⟩ s l).2
theorem rnF_own {m : Mlt} {l : List Stp} {s : Nat} {R : Nat → Int} (hs : s < 3) (h8 : R (8 + s * 2) = 0) (h9 : R (8 + s * 2 + 1) = 0) : rnF m l s R (2 + s * 2) = wkD m crsPoor s (m.ct (s * 2)) l l.length ∧ rnF m l s R (2 + s * 2 + 1) = wkD m crsRich s (m.ct (s * 2 + 1)) l l.length ∧ rnF m l s R (8 + s * 2) = (adK l s l.length).1 ∧ rnF m l s R (8 + s * 2 + 1) = (adK l s l.length).2 ∧
    rnF m l s R (14 + s * 2) = (tlF m ⟨false, false, true⟩ s l).1 ∧ rnF m l s R (14 + s * 2 + 1) = (tlF m ⟨true, true, false⟩ s l).1 ∧ rnF m l s R (20 + s * 2) = (tlF m ⟨false, true, false⟩ s l).2 ∧ rnF m l s R (20 + s * 2 + 1) = (tlF m ⟨true, false, true⟩ s l).2 := by
  match s, hs with
  | 0, _ => simp only [rnF, rnK, upd]; simp at *; simp [h8, h9]
  | 1, _ => simp only [rnF, rnK, upd]; simp at *; simp [h8, h9]
  | 2, _ => simp only [rnF, rnK, upd]; simp at *; simp [h8, h9]
theorem prR_val (m : Mlt) (l : List Stp) {s : Nat} (hs : s < 3) : PrV m l s := by
  have z8 : prRk m l s (8 + s * 2) = 0 := prRk_zero s (by omega) (by omega)
  have z9 : prRk m l s (8 + s * 2 + 1) = 0 := prRk_zero s (by omega) (by omega)
  obtain ⟨h1, h2, h3, h4, h5, h6, h7, h8⟩ := rnF_own (m := m) (l := l) hs z8 z9
  have up : ∀ j, (∀ t, s < t → t < 3 → j ≠ 2 + t * 2 ∧ j ≠ 2 + t * 2 + 1 ∧ j ≠ 8 + t * 2 ∧ j ≠ 8 + t * 2 + 1 ∧ j ≠ 14 + t * 2 ∧ j ≠ 14 + t * 2 + 1 ∧ j ≠ 20 + t * 2 ∧ j ≠ 20 + t * 2 + 1) → prR m l j = rnF m l s (prRk m l s) j := by
    intro j hj
    match s, hs with
    | 0, _ =>
      show rnF m l 2 (rnF m l 1 (rnF m l 0 (prRk m l 0))) j = _
      rw [rnF_other (hj 2 (by omega) (by omega)), rnF_other (hj 1 (by omega) (by omega))]
    | 1, _ =>
      show rnF m l 2 (rnF m l 1 (prRk m l 1)) j = _
      rw [rnF_other (hj 2 (by omega) (by omega))]
    | 2, _ => rfl
  exact ⟨(up _ fun t h h' => by omega).trans h1, (up _ fun t h h' => by omega).trans h2, (up _ fun t h h' => by omega).trans h3, (up _ fun t h h' => by omega).trans h4, (up _ fun t h h' => by omega).trans h5, (up _ fun t h h' => by omega).trans h6, (up _ fun t h h' => by omega).trans h7, (up _ fun t h h' => by omega).trans h8⟩
theorem prR_1 (m : Mlt) (l : List Stp) : prR m l 1 = msK m l l.length := by
  show rnF m l 2 (rnF m l 1 (rnF m l 0 (rIni m (msK m l l.length)))) 1 = _
  rw [rnF_other (by omega), rnF_other (by omega), rnF_other (by omega)]
  rfl
/-- The slices, one after another. -/
theorem fz_lt {l : List Stp} {j k : Nat} (h : j < k) (h1 : (at0 l j).kd = 1) : fzK l j < fzK l k := by
  have h2 := fzK_mono l (show j + 1 ≤ k by omega)
  rw [fzK, if_pos h1] at h2
  omega
theorem fz_ex {l : List Stp} : ∀ n i, i < fzK l n → ∃ k, k < n ∧ (at0 l k).kd = 1 ∧ fzK l k = i
  | 0, i, h => absurd h (by show ¬ i < 0; omega)
  | n + 1, i, h => by
    rw [fzK] at h
    by_cases h1 : (at0 l n).kd = 1
    · rw [if_pos h1] at h
      by_cases h2 : i < fzK l n
      · obtain ⟨k, a, b, c⟩ := fz_ex n i h2
        exact ⟨k, by omega, b, c⟩
      · exact ⟨n, by omega, h1, by omega⟩
    · rw [if_neg h1] at h
      obtain ⟨k, a, b, c⟩ := fz_ex n i h
      exact ⟨k, by omega, b, c⟩
theorem fzL_at {l : List Stp} {cs : List (Nat → Int)} : ∀ n k, k < n → (at0 l k).kd = 1 → at0 (fzL l cs n) (fzK l k) = at0 cs k
  | 0, k, h, _ => absurd h (by omega)
  | n + 1, k, h, h1 => by
    rw [fzL]
    by_cases hk : k < n
    · have ih := fzL_at n k hk h1 (cs := cs)
      have hlt := fz_lt hk h1
      by_cases h2 : (at0 l n).kd = 1
      · rw [if_pos h2, at0_app _ _ (by rw [fzL_len]; exact hlt)]
        exact ih
      · rw [if_neg h2]
        exact ih
    · obtain rfl : k = n := by omega
      rw [if_pos h1]
      have := at0_new (fzL l cs k) (at0 cs k)
      rw [fzL_len] at this
      exact this
theorem slK_at {m : Mlt} {l : List Stp} {s : Nat} {g : Nat → Nat → Int} : ∀ n k, k < n → (at0 l k).kd = 1 → slK m l s g n (fzK l k) (1 + s * 2) = lwK m s l k ∧ slK m l s g n (fzK l k) (1 + s * 2 + 1) = hgK m s l k
  | 0, k, h, _ => absurd h (by omega)
  | n + 1, k, h, h1 => by
    rw [slK]
    by_cases hk : k < n
    · have ih := slK_at n k hk h1 (m := m) (s := s) (g := g)
      have hlt := fz_lt hk h1
      by_cases h2 : (at0 l n).kd = 1
      · rw [if_pos h2]
        unfold upd2
        rw [if_neg (by omega), if_neg (by omega), if_neg (by omega), if_neg (by omega)]
        exact ih
      · rw [if_neg h2]
        exact ih
    · obtain rfl : k = n := by omega
      rw [if_pos h1]
      unfold upd2
      rw [if_pos ⟨rfl, rfl⟩, if_neg (by omega), if_pos ⟨rfl, rfl⟩]
      exact ⟨rfl, rfl⟩
theorem slK_else {m : Mlt} {l : List Stp} {s i j : Nat} {g : Nat → Nat → Int} (h : j ≠ 1 + s * 2 ∧ j ≠ 1 + s * 2 + 1) : ∀ n, slK m l s g n i j = g i j
  | 0 => rfl
  | n + 1 => by
    rw [slK]
    split
    · unfold upd2
      rw [if_neg (by omega), if_neg (by omega)]
      exact slK_else h n
    · exact slK_else h n
theorem prS_at {m : Mlt} {l : List Stp} {s k : Nat} (hs : s < 3) (hk : k < l.length) (h1 : (at0 l k).kd = 1) : prS m l (fzK l k) (1 + s * 2) = lwK m s l k ∧ prS m l (fzK l k) (1 + s * 2 + 1) = hgK m s l k := by
  match s, hs with
  | 0, _ =>
    show slK m l 2 (slK m l 1 (prSk m l 1) l.length) l.length _ 1 = _ ∧ slK m l 2 (slK m l 1 (prSk m l 1) l.length) l.length _ 2 = _
    rw [slK_else (by omega), slK_else (by omega), slK_else (by omega), slK_else (by omega)]
    exact slK_at (s := 0) _ _ hk h1
  | 1, _ =>
    show slK m l 2 (prSk m l 2) l.length _ 3 = _ ∧ slK m l 2 (prSk m l 2) l.length _ 4 = _
    rw [slK_else (by omega), slK_else (by omega)]
    exact slK_at (s := 1) _ _ hk h1
  | 2, _ => exact slK_at (s := 2) _ _ hk h1
theorem okK_pre {m : Mlt} {l : List Stp} {v : Int} {cs : List (Nat → Int)} {s n : Nat} (h : okK m l v cs s n = true) {k : Nat} (hk : k ≤ n) : okK m l v cs s k = true := by
  rcases ho : okK m l v cs s k with _ | _
  · have := okK_no ho (n - k)
    rw [show k + (n - k) = n by omega, h] at this
    cases this
  · rfl
theorem okK_at {m : Mlt} {l : List Stp} {v : Int} {cs : List (Nat → Int)} {s n : Nat} (h : okK m l v cs s n = true) {k : Nat} (hk : k < n) : (chF (at0 l k) s (wkG m (tdG cs s) s v l k) (msK m l k)).1 ≤ at0 cs k s ∧ at0 cs k s ≤ (chF (at0 l k) s (wkG m (tdG cs s) s v l k) (msK m l k)).2 := by
  have h1 := okK_pre h (show k + 1 ≤ n by omega)
  rw [okK, Bool.and_eq_true] at h1
  have h2 := h1.2
  unfold wiB at h2
  simpa using h2
/-- What is followed is a course. -/
theorem goes_ok {m : Mlt} {l : List Stp} {v : Int} {cs : List (Nat → Int)} {s n : Nat} (h : okK m l v cs s n = true) : Goes m l s (wkG m (tdG cs s) s v l) (fun k => at0 cs k s) n := by
  have h0 : wiB v (m.ct (s * 2)) (m.ct (s * 2 + 1)) = true := okK_pre h (Nat.zero_le _)
  unfold wiB at h0
  have h0' : m.ct (s * 2) ≤ v ∧ v ≤ m.ct (s * 2 + 1) := by simpa using h0
  refine ⟨h0', fun k hk => ?_, fun k hk => okK_at h hk⟩
  have hc := okK_at h hk
  have e : tdG cs s k (chF (at0 l k) s (wkG m (tdG cs s) s v l k) (msK m l k)).1 (chF (at0 l k) s (wkG m (tdG cs s) s v l k) (msK m l k)).2 = at0 cs k s := by
    show min (max (at0 cs k s) _) _ = _
    omega
  rw [wkG, e]
theorem flE_ok {m : Mlt} {l : List Stp} {st : Nat → Int} {cs : List (Nat → Int)} (h : flE m l st cs = 0) : ckF m l = 0 ∧ cs.length = l.length ∧ ∀ s, s < 3 → okK m l (st s) cs s l.length = true := by
  unfold flE at h
  by_cases h0 : ckF m l = 0
  · rw [if_neg (by omega)] at h
    by_cases h1 : cs.length = l.length
    · rw [if_neg (by omega)] at h
      split at h
      · rename_i h2
        simp only [Bool.and_eq_true] at h2
        refine ⟨h0, h1, fun s hs => ?_⟩
        match s, hs with
        | 0, _ => exact h2.1.1
        | 1, _ => exact h2.1.2
        | 2, _ => exact h2.2
      · exact absurd h (by decide)
    · rw [if_pos h1] at h; exact absurd h (by decide)
  · rw [if_pos h0] at h; exact absurd h h0
theorem vld_of {m : Mlt} {l : List Stp} (h : ckF m l = 0) : Vld m l := ⟨(ckF_ok h).1, (ckF_ok h).2.1, (ckF_ok h).2.2⟩
/-- All of it: what the law asks of a species. -/
structure Cons (m : Mlt) (l : List Stp) (st : Nat → Int) (cs : List (Nat → Int)) (s : Nat) : Prop where
  sum : st s + sumK l (fun k => at0 cs k s) isA l.length = sumK l (fun k => at0 cs k s) isF l.length + sumK l (fun k => at0 cs k s) isV l.length + wkG m (tdG cs s) s (st s) l l.length
  ad : wiB (sumK l (fun k => at0 cs k s) isA l.length) (prR m l (8 + s * 2)) (prR m l (8 + s * 2 + 1)) = true
  fr : wiB (sumK l (fun k => at0 cs k s) isF l.length) (prR m l (14 + s * 2)) (prR m l (14 + s * 2 + 1)) = true
  va : wiB (sumK l (fun k => at0 cs k s) isV l.length) (prR m l (20 + s * 2)) (prR m l (20 + s * 2 + 1)) = true
  en : wiB (wkG m (tdG cs s) s (st s) l l.length) (prR m l (2 + s * 2)) (prR m l (2 + s * 2 + 1)) = true
  sl : ∀ i, i < fzK l l.length → wiB (at0 (fzL l cs l.length) i s) (prS m l i (1 + s * 2)) (prS m l i (1 + s * 2 + 1)) = true
  bd : ∀ k, k < l.length → 0 ≤ at0 cs k s ∧ at0 cs k s ≤ 300000000000000
  eb : 0 ≤ wkG m (tdG cs s) s (st s) l l.length ∧ wkG m (tdG cs s) s (st s) l l.length ≤ 300000000000000
  sb : 0 ≤ st s ∧ st s ≤ 1000000000000
theorem wi_of {a b c : Int} (h : b ≤ a ∧ a ≤ c) : wiB a b c = true := by unfold wiB; simpa using h
theorem cons_all {m : Mlt} {l : List Stp} {st : Nat → Int} {cs : List (Nat → Int)} (h : flE m l st cs = 0) {s : Nat} (hs : s < 3) : Cons m l st cs s := by
  obtain ⟨h0, _, hok⟩ := flE_ok h
  have hv := vld_of h0
  have hg := goes_ok (hok s hs)
  have pv := prR_val m l hs
  have hct := hv.ct hs
  have hz : m.ct (s * 2) ≤ st s ∧ st s ≤ m.ct (s * 2 + 1) := hg.z
  refine ⟨hg.keeps hv (Nat.le_refl _) _ (Nat.le_refl _), ?_, ?_, ?_, ?_, fun i hi => ?_, fun k hk => ?_, hg.bd' hv hs (Nat.le_refl _) (Nat.le_refl _), by omega⟩
  · rw [pv.a0, pv.a1]; exact wi_of (hg.added _ (Nat.le_refl _))
  · rw [pv.f0, pv.f1]; exact wi_of ⟨(hg.solid_lo hv hs (Nat.le_refl _) _ (Nat.le_refl _)).1, (hg.solid_hi hv hs (Nat.le_refl _) _ (Nat.le_refl _)).1⟩
  · rw [pv.v0, pv.v1]; exact wi_of ⟨(hg.gone_lo hv hs (Nat.le_refl _) _ (Nat.le_refl _)).1, (hg.gone_hi hv hs (Nat.le_refl _) _ (Nat.le_refl _)).1⟩
  · rw [pv.e0, pv.e1]; exact wi_of (hg.between hv hs (Nat.le_refl _) _ (Nat.le_refl _))
  · obtain ⟨k, hk, h1, rfl⟩ := fz_ex _ _ hi
    have hp := prS_at hs hk h1 (m := m)
    rw [hp.1, hp.2, fzL_at _ _ hk h1]
    exact wi_of (hg.slice hv hs (Nat.le_refl _) hk h1)
  · have hb := hg.bd' hv hs (Nat.le_refl _) (show k ≤ l.length by omega)
    have hb2 := ch_bd (mass := msK m l k) (hv.isS hk) hs hb.1
    have hc := hg.ch k hk
    by_cases hkd : (at0 l k).kd = 2 ∨ (at0 l k).kd = 3
    · have := hb2.2.2 hkd; omega
    · have := hb2.2.1 hkd; omega
end Go.Proofs.YtfifdfagikbahaaDoor
