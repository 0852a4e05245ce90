/- DefectWindowHolds: the plain law. -/
import Derived.Test.YteibgenkklpoaaaWh1
namespace Go.Proofs.Yteibgenkklpoaaa.Un
open Go.RowKit
theorem wh_bit {u : Int} (hu : 0 ≤ u ∧ u ≤ 31) (k : Nat) : bits .and .u8 (u / 2 ^ k) 1 = if unw u k then 0 else 1 := by
  obtain ⟨n, hn⟩ : ∃ n : Nat, u / 2 ^ k = n := ⟨(u / 2 ^ k).toNat, by have := Int.ediv_nonneg hu.1 (show (0 : Int) ≤ 2 ^ k from Int.le_of_lt (Int.pow_pos (by decide))); omega⟩
  have hle : u / 2 ^ k ≤ u := Int.ediv_le_self _ hu.1
  have h9 := bit01 ⟨n, by omega⟩
  simp only at h9
  unfold unw
  rw [hn]
  rcases h9 with h | h <;> rw [h] <;> decide
theorem wh_has {m : Mdl} {zs l : List Rng} {u v : Int} (hw : WinOf (badAt m u zs) l) (hv : 0 ≤ v ∧ v ≤ 1000000) : hasB l v = barB (whyL m u v zs) := by
  rw [Bool.eq_iff_iff, hasB_iff, barB_iff, whyL_none]
  exact hw.same v hv.1 hv.2
theorem wh_in {bad : Int → Prop} {l : List Rng} (hw : WinOf bad l) {i : Nat} (hi : i < l.length) : 0 ≤ (at0 l i).lo ∧ (at0 l i).lo ≤ (at0 l i).hi ∧ (at0 l i).hi ≤ 1000000 := by
  have hm : at0 l i ∈ l := by rw [at0_get hi]; exact List.getElem_mem hi
  have h1 := hw.runs.lo _ hm
  exact ⟨h1.1, h1.2, hw.hi _ hm⟩
theorem runs_at {a : Int} : ∀ {l : List Rng}, Runs a l → ∀ i, i + 1 < l.length → (at0 l i).hi + 2 ≤ (at0 l (i + 1)).lo
  | [], _, i, hi => absurd hi (by simp)
  | [_], _, i, hi => absurd hi (by simp)
  | x :: y :: l, h, 0, _ => h.2.2.1
  | x :: y :: l, h, i + 1, hi => runs_at (l := y :: l) h.2.2 i (by simpa using hi)
theorem runs_two {a : Int} : ∀ {l : List Rng}, Runs a l → ∀ r s, r ∈ l → s ∈ l → r = s ∨ r.hi + 2 ≤ s.lo ∨ s.hi + 2 ≤ r.lo
  | [], _, _, _, hr, _ => by cases hr
  | x :: l, h, r, s, hr, hs => by
    rcases List.mem_cons.1 hr with hr2 | hr2
    · rcases List.mem_cons.1 hs with hs2 | hs2
      · exact .inl (hr2.trans hs2.symm)
      · rw [hr2]
        exact .inr (.inl (h.2.2.lo s hs2).1)
    · rcases List.mem_cons.1 hs with hs2 | hs2
      · rw [hs2]
        exact .inr (.inr (h.2.2.lo r hr2).1)
      · exact runs_two h.2.2 r s hr2 hs2
/-- What lies next to a run is bad. -/
theorem wh_next {m : Mdl} {zs l : List Rng} {u : Int} (hw : WinOf (badAt m u zs) l) {i : Nat} (hi : i < l.length) :
    (0 < (at0 l i).lo → barB (whyL m u ((at0 l i).lo - 1) zs) = false) ∧ ((at0 l i).hi < 1000000 → barB (whyL m u ((at0 l i).hi + 1) zs) = false) := by
  have hm : at0 l i ∈ l := by rw [at0_get hi]; exact List.getElem_mem hi
  have hb := wh_in hw hi
  constructor
  · intro h0
    rw [← wh_has hw ⟨by omega, by omega⟩, Bool.eq_false_iff]
    intro h
    obtain ⟨s, hs, h1, h2⟩ := hasB_iff.1 h
    rcases runs_two hw.runs _ _ hm hs with rfl | h3 | h3
    · omega
    · have := (hw.runs.lo s hs).2
      omega
    · omega
  · intro h0
    rw [← wh_has hw ⟨by omega, by omega⟩, Bool.eq_false_iff]
    intro h
    obtain ⟨s, hs, h1, h2⟩ := hasB_iff.1 h
    rcases runs_two hw.runs _ _ hm hs with rfl | h3 | h3
    · omega
    · omega
    · have := (hw.runs.lo s hs).2
      omega
/-- With nothing unwanted, the true region is wanted. -/
theorem wh_true {m : Mdl} (hm : okMdl m = true) {zs : List Rng} {u v g : Int} (hu : 0 ≤ u ∧ u ≤ 31) (hv : 0 ≤ v ∧ v ≤ 1000000) (hb : barB (whyL m u v zs) = true) {i : Nat} (hi : i < zs.length) (hz : spanB (at0 zs i) 1 1000000 = true) (hg : inR (at0 zs i) g) {t : Nat → Int} (ht : ∀ i, 0 ≤ t i) :
    ∃ k : Nat, k < 5 ∧ (rgK m t v g 4).1 = k ∧ bits .and .u8 (u / 2 ^ k) 1 = 1 := by
  have hz := spanB_iff.1 hz
  obtain ⟨k, hk, hr, hp⟩ := rg_pos hm ht hv (g := g) ⟨by have := hg.1; omega, by have := hg.2; omega⟩
  refine ⟨k, hk, hr, ?_⟩
  have hp2 := posB_mono hm (r := ⟨v, v⟩) (g := at0 zs i) hk ⟨hv.1, Int.le_refl _, Int.le_refl _, hv.1⟩ ⟨hz.1, hg.1, hg.2⟩ hp
  have hn := whyL_none.1 (barB_iff.1 hb)
  rw [wh_bit hu, if_neg]
  intro h
  exact hn ⟨i, hi, k, hk, by unfold whyB; rw [h, hp2]; rfl⟩
/-- What Why names is possible and unwanted. -/
theorem wh_named {m : Mdl} {zs : List Rng} {u v : Int} (hu : 0 ≤ u ∧ u ≤ 31) {i k : Nat} (h : whyL m u v zs = some (i, k)) :
    i < zs.length ∧ k < 5 ∧ bits .and .u8 (u / 2 ^ k) 1 = 0 ∧ bits .and .u8 (regK (posB m ⟨v, v⟩ (at0 zs i)) 5 / 2 ^ k) 1 = 1 := by
  unfold whyL at h
  obtain ⟨j, hj, h2⟩ := List.exists_of_findSome?_eq_some h
  have hj := List.mem_range.1 hj
  rcases hz : whyZ m u v (at0 zs j) with _ | k'
  · rw [hz] at h2; cases h2
  · rw [hz] at h2
    injection h2 with h2
    injection h2 with h3 h4
    subst h3 h4
    unfold whyZ at hz
    have hk := List.mem_range.1 (List.mem_of_find?_eq_some hz)
    have hb := List.find?_some hz
    unfold whyB at hb
    obtain ⟨hb1, hb2⟩ := Bool.and_eq_true_iff.1 hb
    exact ⟨hj, hk, by rw [wh_bit hu, if_pos hb1], by rw [bit_reg _ hk, if_pos hb2]⟩
theorem or_set : ∀ w : Fin 32, ∀ j : Fin 5, 0 ≤ bits .or .u8 ((w : Nat) : Int) (2 ^ (j : Nat)) ∧ bits .or .u8 ((w : Nat) : Int) (2 ^ (j : Nat)) ≤ 31 ∧ ∀ k : Fin 5, unw (bits .or .u8 ((w : Nat) : Int) (2 ^ (j : Nat))) (k : Nat) = true → unw ((w : Nat) : Int) (k : Nat) = true := by decide +kernel
/-- With one region more that is wanted. -/
theorem wh_more {m : Mdl} {zs : List Rng} {u : Int} (hck : ckF m zs u = 0) (hu : 0 ≤ u) {j : Nat} (hj : j < 5) : ckF m zs (bits .or .u8 u (2 ^ j)) = 0 ∧ 0 ≤ bits .or .u8 u (2 ^ j) ∧ ∀ v, badAt m (bits .or .u8 u (2 ^ j)) zs v → badAt m u zs v := by
  obtain ⟨hok, hzs, hzl, hu31⟩ := ck_ok hck
  obtain ⟨n, rfl⟩ : ∃ n : Nat, u = n := ⟨u.toNat, by omega⟩
  obtain ⟨h1, h2, h3⟩ := or_set ⟨n, by omega⟩ ⟨j, hj⟩
  simp only at h1 h2 h3
  refine ⟨?_, h1, fun v ⟨i, hi, k, hk, hb⟩ => ⟨i, hi, k, hk, ?_⟩⟩
  · have hany : zs.any notGr = false := by
      rw [List.any_eq_false]
      intro x hx
      obtain ⟨q, hq, rfl⟩ := at0_mem hx
      unfold notGr
      rw [hzs q hq]
      decide
    unfold ckF
    rw [hok, if_pos rfl, if_neg (by omega), hany, decide_eq_false (by omega)]
    rfl
  · unfold whyB at hb ⊢
    obtain ⟨hb1, hb2⟩ := Bool.and_eq_true_iff.1 hb
    rw [h3 ⟨k, hk⟩ hb1, hb2]
    rfl
/-- Without a zone. -/
theorem wh_few {m : Mdl} {zs : List Rng} {u : Int} (hck : ckF m zs u = 0) : ckF m zs.tail u = 0 ∧ ∀ v, badAt m u zs.tail v → badAt m u zs v := by
  obtain ⟨hok, hzs, hzl, hu31⟩ := ck_ok hck
  rcases zs with _ | ⟨z, zs⟩
  · exact ⟨hck, fun _ h => h⟩
  · have hat : ∀ i, at0 (z :: zs) (i + 1) = at0 zs i := fun i => rfl
    refine ⟨?_, fun v ⟨i, hi, k, hk, hb⟩ => ⟨i + 1, by simpa using hi, k, hk, by rw [hat]; exact hb⟩⟩
    have hany : zs.any notGr = false := by
      rw [List.any_eq_false]
      intro x hx
      obtain ⟨q, hq, rfl⟩ := at0_mem hx
      unfold notGr
      have := hzs (q + 1) (by simpa using hq)
      rw [hat] at this
      rw [this]
      decide
    show ckF m zs u = 0
    unfold ckF
    rw [hok, if_pos rfl, if_neg (by simp at hzl; omega), hany, decide_eq_false (by omega)]
    rfl
theorem wh_sub {m : Mdl} {zs zs' l : List Rng} {u u' v : Int} (hw : WinOf (badAt m u' zs') l) (hs : ∀ v, badAt m u' zs' v → badAt m u zs v) (hv : 0 ≤ v ∧ v ≤ 1000000) (hb : barB (whyL m u v zs) = true) : hasB l v = true := by
  rw [hasB_iff, hw.same v hv.1 hv.2]
  exact fun h => whyL_none.1 (barB_iff.1 hb) (hs v h)
end Go.Proofs.Yteibgenkklpoaaa.Un
