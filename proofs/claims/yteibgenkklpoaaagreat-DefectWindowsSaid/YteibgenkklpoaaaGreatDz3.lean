/- The reference of chapter 5: Window. -/
import Derived.Test.YteibgenkklpoaaaGreatDz2
import Derived.Test.YteibgenkklpoaaaGreatJo
import Derived.Test.YteibgenkklpoaaaGreatHp
namespace Go.Proofs.YteibgenkklpoaaaGreat.Un
open Go.RowKit
theorem rc_len' (l : List Rng) : (rc l).length = l.length * 2 := by rw [rc_flat, flat_len]
theorem rc_set' (i : List Rng) (x : Rng) (k : Int) : (rc (i ++ [x])).set (i.length * 2 + 1) (I k) = rc (i ++ [⟨x.lo, k⟩]) := by
  rw [rc_app, rc_app, List.set_append_right _ _ (by rw [rc_len']; omega), rc_len']
  have : i.length * 2 + 1 - i.length * 2 = 1 := by omega
  rw [this]; rfl
theorem rc_get' (i : List Rng) (x : Rng) : (rc (i ++ [x]))[i.length * 2 + 1]? = some (I x.hi) := by
  rw [rc_app, List.getElem?_append_right (by rw [rc_len']; omega), rc_len']
  have : i.length * 2 + 1 - i.length * 2 = 1 := by omega
  rw [this]; rfl
/-- The answer of the reference's Window. -/
def RetWr (w : World) (m : Mdl) (zs : List Rng) (u : Int) (e : Ending) (w' : World) : Prop :=
  ∃ A c l, e = .returned (.slice A l.length c) ∧ WinOf (badAt m u zs) l ∧ l.length ≤ c ∧ Rd w' w'.heap.size 2 A l.length (rR l) ∧ Below w.heap.size w w'
theorem soc_own {e : TypeId} {sz B n : Nat} {olds : List Value} {v : Value} {w : World} (h : SoC e sz B n olds v w) (hn : 0 < n) : ∃ g cap, v = .slice (some ⟨g, 0, none⟩) n cap ∧ B ≤ g ∧ g < w.heap.size ∧ w.ownsRow B e sz v n olds := by
  rcases h with ⟨h0, _⟩ | ho
  · omega
  · obtain ⟨h1, ⟨_, h2⟩ | ⟨g, cap, cur, hv, hb, hg, r⟩⟩ := id ho
    · omega
    · exact ⟨g, cap, hv, hb, (Array.getElem?_eq_some_iff.1 hg).1, ho⟩
set_option maxRecDepth 100000 in
set_option maxHeartbeats 4000000 in
theorem refWindow_any (m : Mdl) (A : Option Addr) (c : Nat) (zs : List Rng) (u : Int) (w : World) (B : Nat) (hB : B ≤ w.heap.size) (hx : Rd w B 2 A zs.length (rR zs)) (hck : ckF m zs u = 0) (hu : 0 ≤ u) :
    Calls Tryz.prog 13 #[.agg (mdA m), .slice A zs.length c, .int .u8 u] w (RetWr w m zs u) := by
  obtain ⟨hok, hzs, hzl, hu31⟩ := ck_ok' hck
  have CN : Hid (∀ V v, Below w.heap.size w V → Calls Tryz.prog 37 #[.agg (mdA m), .slice A zs.length c, I v] V fun e w' => e = .returned (I (nxL m zs v zs.length)) ∧ Below V.heap.size V w') := fun V v hV => next_any m A c zs v V B (Nat.le_trans hB hV.size) (hx.below (hV.mono hB)) hok hzs hzl
  have CY : Hid (∀ V v, Below w.heap.size w V → 0 ≤ v ∧ v ≤ 1000000 → Calls Tryz.prog 14 #[.agg (mdA m), .slice A zs.length c, .int .u8 u, I v] V fun e w' => e = .returned (.tuple #[I (whyP (whyL m u v zs)).1, I (whyP (whyL m u v zs)).2]) ∧ Below V.heap.size V w') := fun V v hV hv => refWhy_any m A c zs u v V B (Nat.le_trans hB hV.size) (hx.below (hV.mono hB)) hck hv hu
  have HSU : Hid (∀ v x, 0 ≤ v ∧ v ≤ 1000000 → v ≤ x ∧ x < nxL m zs v zs.length → (badAt m u zs x ↔ badAt m u zs v)) := fun v x hv hx => same_until hok hzs hv hx
  have HNL : Hid (∀ v, v < 1000001 → v < nxL m zs v zs.length ∧ nxL m zs v zs.length ≤ 1000001) := fun v hv => ⟨(nxL_le m zs v zs.length).2.1 hv, (nxL_le m zs v zs.length).1⟩
  obtain ⟨i0, hi0, iz0, iz1, iz2⟩ := info_parts rng_info
  clear hx hB hok hzs hzl hu31 hck hu
  obtain ⟨W, hW⟩ : ∃ W, W = (w.alloc (.cells #[I m.sc, I (m.b 0).lo, I (m.b 0).hi, I (m.b 1).lo, I (m.b 1).hi, I (m.b 2).lo, I (m.b 2).hi, I (m.b 3).lo, I (m.b 3).hi] 26)) := ⟨_, rfl⟩
  have rowW0 : W.heap[w.heap.size]? = some (.cells #[I m.sc, I (m.b 0).lo, I (m.b 0).hi, I (m.b 1).lo, I (m.b 1).hi, I (m.b 2).lo, I (m.b 2).hi, I (m.b 3).lo, I (m.b 3).hi] 26 (0, 0)) := by rw [hW]; exact heap_last _ _ _ rfl
  have yW00 := ovr_cell (W := W) (b := w.heap.size) (o := 0) (v := I m.sc) (by rw [cell_of_row _ _ _ _ _ _ rowW0]; rfl)
  have yW01 := ovr_cell (W := W) (b := w.heap.size) (o := 1) (v := I (m.b 0).lo) (by rw [cell_of_row _ _ _ _ _ _ rowW0]; rfl)
  have yW02 := ovr_cell (W := W) (b := w.heap.size) (o := 2) (v := I (m.b 0).hi) (by rw [cell_of_row _ _ _ _ _ _ rowW0]; rfl)
  have yW03 := ovr_cell (W := W) (b := w.heap.size) (o := 3) (v := I (m.b 1).lo) (by rw [cell_of_row _ _ _ _ _ _ rowW0]; rfl)
  have yW04 := ovr_cell (W := W) (b := w.heap.size) (o := 4) (v := I (m.b 1).hi) (by rw [cell_of_row _ _ _ _ _ _ rowW0]; rfl)
  have yW05 := ovr_cell (W := W) (b := w.heap.size) (o := 5) (v := I (m.b 2).lo) (by rw [cell_of_row _ _ _ _ _ _ rowW0]; rfl)
  have yW06 := ovr_cell (W := W) (b := w.heap.size) (o := 6) (v := I (m.b 2).hi) (by rw [cell_of_row _ _ _ _ _ _ rowW0]; rfl)
  have yW07 := ovr_cell (W := W) (b := w.heap.size) (o := 7) (v := I (m.b 3).lo) (by rw [cell_of_row _ _ _ _ _ _ rowW0]; rfl)
  have yW08 := ovr_cell (W := W) (b := w.heap.size) (o := 8) (v := I (m.b 3).hi) (by rw [cell_of_row _ _ _ _ _ _ rowW0]; rfl)
  have RrowW0 := Lib.hid (ovr_row rowW0)
  clear rowW0
  have HUW : Hid (∀ u, Below w.heap.size w (ovr W u)) := U1 hW
  have HW := Lib.hid hW
  clear hW
  have HWB : Hid (Below w.heap.size w W) := below_self0' HUW.out
  go_enter Tryz.func13, Tryz.ntmps13
  go_upto_region 1 with (fail)
  rw [← HW.out]
  obtain ⟨u0, hu0⟩ := ovr_self W
  rw [hu0]
  clear hu0
  go_wp2_with fail
  go_loopw [7, 8] (fun q i wr => ∃ (v : Int) (l : List Rng), 0 ≤ v ∧ v ≤ 1000001 ∧ i = I v ∧ WinUp (badAt m u zs) v l ∧ SoC 23 2 W.heap.size l.length (rc l) q wr ∧ Below W.heap.size W wr) (fun _ i _ => (1000001 - intOf i).toNat)
  case atStart => exact ⟨0, [], by omega, by omega, rfl, winUp_nil _, .inl ⟨rfl, rfl, _, rfl⟩, (ovr_below _ _).alloc (ovr_below _ _).size _⟩
  case round =>
    obtain ⟨v, l, hv0, hv1, rfl, hwu, hso, hb⟩ := hrel
    rename World => Y
    have HBY := Lib.hid hb
    have HWU := Lib.hid hwu
    have HSO := Lib.hid hso
    clear hwu hso
    by_cases hlt : v ≤ 1000000
    · have HV0 : Hid (0 ≤ v) := hv0
      have HV1 : Hid (v ≤ 1000000) := hlt
      obtain ⟨ht0, ht1⟩ := HNL.out v (by omega)
      have hsu := HSU.out v
      have CNv := Lib.hid fun V hV => CN.out V v hV
      have CYv := Lib.hid fun V hV => CY.out V v hV ⟨hv0, hlt⟩
      obtain ⟨t, ht⟩ : ∃ t, nxL m zs v zs.length = t := ⟨_, rfl⟩
      rw [ht] at ht0 ht1 hsu CNv
      have HT0 : Hid (v < t) := ht0
      have HT1 : Hid (t ≤ 1000001) := ht1
      have HBAD : Hid (badAt m u zs v → WinUp (badAt m u zs) t l) := fun hb => HWU.out.bad ht0 fun x h1 h2 => (hsu x ⟨hv0, hlt⟩ ⟨h1, h2⟩).2 hb
      have HWA0 : Hid (¬ badAt m u zs v → ∀ x, v ≤ x → x < t → ¬ badAt m u zs x) := fun hb x h1 h2 hc => hb ((hsu x ⟨hv0, hlt⟩ ⟨h1, h2⟩).1 hc)
      have kt : IntKind.i64.wrap (t - 1) = t - 1 := IntWalk.i64_in _ (by omega)
      have kv : IntKind.i64.wrap (v - 1) = v - 1 := IntWalk.i64_in _ (by omega)
      clear ht hsu ht0 ht1 hv0 hv1
      have d0 : decide (v ≤ 1000000) = true := decide_eq_true hlt
      clear hlt
      have reY : ∀ v, ∃ x, ovr Y v = ovr W x := fun v => ovr_reB hb v
      have SW_yW00 := Lib.hid yW00
      replace yW00 := tr_cell reY yW00
      have SW_yW01 := Lib.hid yW01
      replace yW01 := tr_cell reY yW01
      have SW_yW02 := Lib.hid yW02
      replace yW02 := tr_cell reY yW02
      have SW_yW03 := Lib.hid yW03
      replace yW03 := tr_cell reY yW03
      have SW_yW04 := Lib.hid yW04
      replace yW04 := tr_cell reY yW04
      have SW_yW05 := Lib.hid yW05
      replace yW05 := tr_cell reY yW05
      have SW_yW06 := Lib.hid yW06
      replace yW06 := tr_cell reY yW06
      have SW_yW07 := Lib.hid yW07
      replace yW07 := tr_cell reY yW07
      have SW_yW08 := Lib.hid yW08
      replace yW08 := tr_cell reY yW08
      have SW_RrowW0 := Lib.hid RrowW0.out
      replace RrowW0 := Lib.hid (tr_row reY RrowW0.out)
      have HUY : Hid (∀ u, Below w.heap.size w (ovr Y u)) := fun u => by obtain ⟨x, hx⟩ := reY u; rw [hx]; exact HUW.out x
      clear reY hb
      obtain ⟨y0, hy0⟩ := ovr_self Y
      rw [hy0]
      clear hy0
      go_wp2_with fail
      refine (CNv.out _ (HWB.out.trans ((HBY.out.trans ((ovr_below Y y0).mono HBY.out.size)).mono HWB.out.size))).mono ?_
      rintro e w1 ⟨rfl, hb1⟩
      obtain ⟨y1, rfl⟩ := ovr_next hb1
      clear hb1
      go_wp2_with fail
      refine (CYv.out _ (HWB.out.trans ((HBY.out.trans ((ovr_below Y y1).mono HBY.out.size)).mono HWB.out.size))).mono ?_
      rintro e w1 ⟨rfl, hb1⟩
      obtain ⟨y2, rfl⟩ := ovr_next hb1
      clear hb1
      have HSO2 : Hid (SoC 23 2 W.heap.size l.length (rc l) u7 (ovr Y y2)) := HSO.out.over (ovr_below Y y2)
      have HBY2 : Hid (Below W.heap.size W (ovr Y y2)) := HBY.out.trans ((ovr_below Y y2).mono HBY.out.size)
      clear d0
      rcases hq : whyL m u v zs with _ | ⟨i, k⟩
      · have HNB := HWA0.out (whyL_none.1 hq)
        have HNBH := Lib.hid HNB
        clear HNB hq
        by_cases hl0 : 0 < l.length
        · obtain ⟨p, x, hpx⟩ : ∃ p x, l = p ++ [x] := ⟨l.dropLast, l.getLast (by intro e; rw [e] at hl0; exact absurd hl0 (Nat.lt_irrefl _)), (List.dropLast_concat_getLast _).symm⟩
          obtain ⟨g, cap, hv, hg1, hg2, ho⟩ := soc_own HSO2.out hl0
          have hlp : l.length = p.length + 1 := by rw [hpx]; simp
          have hc1 : (ovr Y y2).cell? ⟨g, p.length * 2 + 1, none⟩ = some (I x.hi) := by
            rw [hv] at ho
            rw [ho.cellAt _ (by omega), hpx]
            exact rc_get' p x
          have hp9 : p.length ≤ 1000001 := by have := HWU.out.len; have := HV1.out; omega
          have HO := Lib.hid ho
          have HG1 := Lib.hid hg1
          have HLP := Lib.hid hlp
          have HPX := Lib.hid hpx
          subst hv
          rw [hlp]
          clear ho hg1 hg2 hlp hpx hl0
          by_cases hhi : x.hi = v - 1
          · have hfz : (ovr Y y2).frozen? ⟨g, p.length * 2 + 1, none⟩ = false := HO.out.frozenAt _
            rw [hhi] at hc1
            have HHI := Lib.hid hhi
            clear hhi
            go_wp2_with fail
            have hst := HO.out.stored (p.length * 2 + 1) (I (t - 1))
            have hjn : WinUp (badAt m u zs) t (p ++ [⟨x.lo, t - 1⟩]) := by
              refine WinUp.join (v := v) ?_ HT0.out HNBH.out
              have h9 := HWU.out
              rw [HPX.out, show x = ⟨x.lo, v - 1⟩ by rw [← HHI.out]] at h9
              exact h9
            refine ⟨⟨t, p ++ [⟨x.lo, t - 1⟩], by have := HT0.out; have := HV0.out; omega, HT1.out, rfl, hjn, .inr ?_, HBY2.out.setCell HG1.out _⟩, by have := HT0.out; have := HT1.out; simp [intOf]; omega⟩
            have h9 := hst.1
            rw [HPX.out, rc_set'] at h9
            simpa using h9
          · have HWA : Hid (WinUp (badAt m u zs) t (l ++ [⟨v, t - 1⟩])) := HWU.out.app HV0.out HT0.out (HWU.out.far (by rw [HLP.out]; omega) (by rw [HLP.out, Nat.add_sub_cancel, HPX.out, at0_last]; exact hhi)) HNBH.out
            have hbq2 : (x.hi == v - 1) = false := by simpa using hhi
            have HSO9 : Hid (SoC 23 2 W.heap.size (p.length + 1) (rc l) (.slice (some ⟨g, 0, none⟩) (p.length + 1) cap) (ovr Y y2)) := by
              have h9 := HSO2.out
              rw [HLP.out] at h9
              exact h9
            have HLEN : Hid (l.length = p.length + 1) := HLP.out
            go_wp2_with (with_reducible show wpList _ _ _ (⟨some 58, _, _, _, _, _⟩ :: _) _ _; refine Hid.out ?_)
            refine Lib.hid ?_
            refine wpList_app_soc rfl _ _ 27 rfl 23 i0 _ 2 16 Tryz.underlying27 hi0 iz0 iz1 iz2 rfl (by decide) W.heap.size (p.length + 1) (rc l) _ rfl (HSO9.out.over ((Below.refl _ _).alloc (Nat.le_refl _) _)) ⟨(ovr Y y2).heap.size, 0, none⟩ 1 [I v, I (t - 1)] rfl rfl (cells_row (heap_last _ _ _ rfl)) (by simp [Value.oneCell']) (by have := HBY2.out.size; simp; omega) (by have := HWU.out.len; have := HV1.out; have := HLEN.out; omega) (by decide) ?_
            intro v' w2 hso2 hb2
            have HB2 : Hid (Below W.heap.size W w2) := (HBY2.out.alloc HBY2.out.size _).trans hb2
            have HSO3 := Lib.hid hso2
            clear hso2 hb2
            go_wp2_with fail
            exact ⟨⟨t, l ++ [⟨v, t - 1⟩], by have := HT0.out; have := HV0.out; omega, HT1.out, rfl, HWA.out, by rw [List.length_append, rc_app, HLEN.out]; exact HSO3.out, HB2.out⟩, by have := HT0.out; have := HT1.out; simp [intOf]; omega⟩
        · have hl0' : l.length = 0 := by omega
          have HWA : Hid (WinUp (badAt m u zs) t (l ++ [⟨v, t - 1⟩])) := HWU.out.app HV0.out HT0.out (fun r hr => by rw [List.length_eq_zero_iff.1 hl0'] at hr; cases hr) HNBH.out
          obtain ⟨A7, c7, rfl, _⟩ := (show SoC 23 2 W.heap.size l.length (flat 2 (rR l) l.length) u7 (ovr Y y2) by rw [← rc_flat]; exact HSO2.out).rd
          have HL0 := Lib.hid hl0'
          have HSO9 : Hid (SoC 23 2 W.heap.size 0 (rc l) (.slice A7 0 c7) (ovr Y y2)) := by
            have h9 := HSO2.out
            rw [hl0'] at h9
            exact h9
          have HLEN : Hid (l.length = 0) := hl0'
          rw [hl0']
          clear hl0 hl0'
          go_wp2_with (with_reducible show wpList _ _ _ (⟨some 58, _, _, _, _, _⟩ :: _) _ _; refine Hid.out ?_)
          refine Lib.hid ?_
          refine wpList_app_soc rfl _ _ 27 rfl 23 i0 _ 2 16 Tryz.underlying27 hi0 iz0 iz1 iz2 rfl (by decide) W.heap.size (0) (rc l) _ rfl (HSO9.out.over ((Below.refl _ _).alloc (Nat.le_refl _) _)) ⟨(ovr Y y2).heap.size, 0, none⟩ 1 [I v, I (t - 1)] rfl rfl (cells_row (heap_last _ _ _ rfl)) (by simp [Value.oneCell']) (by have := HBY2.out.size; simp; omega) (by have := HWU.out.len; have := HV1.out; have := HLEN.out; omega) (by decide) ?_
          intro v' w2 hso2 hb2
          have HB2 : Hid (Below W.heap.size W w2) := (HBY2.out.alloc HBY2.out.size _).trans hb2
          have HSO3 := Lib.hid hso2
          clear hso2 hb2
          go_wp2_with fail
          exact ⟨⟨t, l ++ [⟨v, t - 1⟩], by have := HT0.out; have := HV0.out; omega, HT1.out, rfl, HWA.out, by rw [List.length_append, rc_app, HLEN.out]; exact HSO3.out, HB2.out⟩, by have := HT0.out; have := HT1.out; simp [intOf]; omega⟩
      · have hbd : badAt m u zs v := by
          by_cases h : badAt m u zs v
          · exact h
          · rw [whyL_none.2 h] at hq; cases hq
        have HWT := Lib.hid (HBAD.out hbd)
        clear hq hbd
        have d5 : decide ((i : Int) < 0) = false := decide_eq_false (by omega)
        go_wp2_with fail
        exact ⟨⟨t, l, by have := HT0.out; have := HV0.out; omega, HT1.out, rfl, HWT.out, HSO2.out, HBY2.out⟩, by have := HT0.out; have := HT1.out; simp [intOf]; omega⟩
    · have hv9 : v = 1000001 := by omega
      subst hv9
      obtain ⟨A7, c7, rfl, hc7, _, hrd⟩ := (show SoC 23 2 W.heap.size l.length (flat 2 (rR l) l.length) u7 Y by rw [← rc_flat]; exact HSO.out).rd
      have hwd := HWU.out.done
      have hbf := Lib.hid (HWB.out.trans (HBY.out.mono HWB.out.size))
      have HRD := Lib.hid hrd
      have HWD := Lib.hid hwd
      clear hb hrd hwd hlt
      go_wp2_with fail
      go_ret
      exact ⟨A7, c7, l, rfl, HWD.out, hc7, HRD.out, hbf.out⟩
end Go.Proofs.YteibgenkklpoaaaGreat.Un
