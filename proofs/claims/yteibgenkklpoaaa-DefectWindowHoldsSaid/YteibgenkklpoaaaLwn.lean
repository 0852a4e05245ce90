/- The law DefectWindowHolds: its walk. -/
import Derived.Test.YteibgenkklpoaaaWh3
namespace Go.Proofs.Yteibgenkklpoaaa.Un
open Go.RowKit
set_option maxRecDepth 100000 in
set_option maxHeartbeats 8000000 in
theorem defectWindowHolds_any (m : Mdl) (A : Option Addr) (c : Nat) (zs : List Rng) (u rt : Int) (t : Nat → Int) (tr tg : Int) (w : World) (hf : Fits zs.length) (hx : Rd w w.heap.size 2 A zs.length (rR zs)) (hu : 0 ≤ u ∧ u ≤ 255) (ht : TtOk t tr tg) :
    Calls Try.prog 5 #[.agg (mdA m), .agg #[.slice A zs.length c, .int .u8 u, I rt], .agg (ttA t tr tg)] w fun e w' => e = .returned (.bool true) ∧ Below w.heap.size w w' := by
  have KN := Lib.hid known_any
  have HX : Hid (∀ V, Below w.heap.size w V → Rd V w.heap.size 2 A zs.length (rR zs)) := fun V hV => hx.below hV
  have HF := Lib.hid hf
  have HU := Lib.hid hu
  have HT := Lib.hid ht
  have CZ : Hid (∀ V, Below w.heap.size w V → Calls Try.prog 21 #[.slice A zs.length c] V (RetLc V 2 zs.length (rR zs))) := fun V hV => zones_any A zs.length c (rR zs) V w.heap.size hf hV.size (hx.below hV)
  obtain ⟨ck, hck⟩ : ∃ k, ckF m zs u = k := ⟨_, rfl⟩
  have HCK := Lib.hid hck
  have CW : Hid (∀ V A' c', Rd V V.heap.size 2 A' zs.length (rR zs) → Calls Try.prog 20 #[.agg (mdA m), .slice A' zs.length c', .int .u8 u] V (RetW V m zs u)) := fun V A' c' h => window_any m A' c' zs u V V.heap.size hf.a (Nat.le_refl _) h hu.1
  clear hx hf hu ht hck
  obtain ⟨W, hW⟩ : ∃ W, W = (((w.alloc (.cells #[I m.sc, I (m.b 0).lo, I (m.b 0).hi, I (m.b 1).lo, I (m.b 1).hi, I (m.b 2).lo, I (m.b 2).hi, I (m.b 3).lo, I (m.b 3).hi] 26)).alloc (.cells #[.slice A zs.length c, .int .u8 u, I rt] 43)).alloc (.cells #[.int .u16 (t 0), .int .u16 (t 1), .int .u16 (t 2), .int .u16 (t 3), .int .u16 tr, .int .u16 tg] 47)) := ⟨_, rfl⟩
  have rowW0 : W.heap[w.heap.size]? = some (.cells #[I m.sc, I (m.b 0).lo, I (m.b 0).hi, I (m.b 1).lo, I (m.b 1).hi, I (m.b 2).lo, I (m.b 2).hi, I (m.b 3).lo, I (m.b 3).hi] 26 (0, 0)) := by rw [hW]; exact heap_before (heap_before (heap_last _ _ _ rfl))
  have yW00 := ovr_cell (W := W) (b := w.heap.size) (o := 0) (v := I m.sc) (by rw [cell_of_row _ _ _ _ _ _ rowW0]; rfl)
  have yW01 := ovr_cell (W := W) (b := w.heap.size) (o := 1) (v := I (m.b 0).lo) (by rw [cell_of_row _ _ _ _ _ _ rowW0]; rfl)
  have yW02 := ovr_cell (W := W) (b := w.heap.size) (o := 2) (v := I (m.b 0).hi) (by rw [cell_of_row _ _ _ _ _ _ rowW0]; rfl)
  have yW03 := ovr_cell (W := W) (b := w.heap.size) (o := 3) (v := I (m.b 1).lo) (by rw [cell_of_row _ _ _ _ _ _ rowW0]; rfl)
  have yW04 := ovr_cell (W := W) (b := w.heap.size) (o := 4) (v := I (m.b 1).hi) (by rw [cell_of_row _ _ _ _ _ _ rowW0]; rfl)
  have yW05 := ovr_cell (W := W) (b := w.heap.size) (o := 5) (v := I (m.b 2).lo) (by rw [cell_of_row _ _ _ _ _ _ rowW0]; rfl)
  have yW06 := ovr_cell (W := W) (b := w.heap.size) (o := 6) (v := I (m.b 2).hi) (by rw [cell_of_row _ _ _ _ _ _ rowW0]; rfl)
  have yW07 := ovr_cell (W := W) (b := w.heap.size) (o := 7) (v := I (m.b 3).lo) (by rw [cell_of_row _ _ _ _ _ _ rowW0]; rfl)
  have yW08 := ovr_cell (W := W) (b := w.heap.size) (o := 8) (v := I (m.b 3).hi) (by rw [cell_of_row _ _ _ _ _ _ rowW0]; rfl)
  have RrowW0 := Lib.hid (ovr_row rowW0)
  clear rowW0
  have rowW1 : W.heap[w.heap.size + 1]? = some (.cells #[.slice A zs.length c, .int .u8 u, I rt] 43 (0, 0)) := by rw [hW]; exact heap_before (heap_last _ _ _ (by simp))
  have yW10 := ovr_cell (W := W) (b := w.heap.size + 1) (o := 0) (v := .slice A zs.length c) (by rw [cell_of_row _ _ _ _ _ _ rowW1]; rfl)
  have yW11 := ovr_cell (W := W) (b := w.heap.size + 1) (o := 1) (v := .int .u8 u) (by rw [cell_of_row _ _ _ _ _ _ rowW1]; rfl)
  have yW12 := ovr_cell (W := W) (b := w.heap.size + 1) (o := 2) (v := I rt) (by rw [cell_of_row _ _ _ _ _ _ rowW1]; rfl)
  have RrowW1 := Lib.hid (ovr_row rowW1)
  clear rowW1
  have rowW2 : W.heap[w.heap.size + 1 + 1]? = some (.cells #[.int .u16 (t 0), .int .u16 (t 1), .int .u16 (t 2), .int .u16 (t 3), .int .u16 tr, .int .u16 tg] 47 (0, 0)) := by rw [hW]; exact heap_last _ _ _ (by simp)
  have yW20 := ovr_cell (W := W) (b := w.heap.size + 1 + 1) (o := 0) (v := .int .u16 (t 0)) (by rw [cell_of_row _ _ _ _ _ _ rowW2]; rfl)
  have yW21 := ovr_cell (W := W) (b := w.heap.size + 1 + 1) (o := 1) (v := .int .u16 (t 1)) (by rw [cell_of_row _ _ _ _ _ _ rowW2]; rfl)
  have yW22 := ovr_cell (W := W) (b := w.heap.size + 1 + 1) (o := 2) (v := .int .u16 (t 2)) (by rw [cell_of_row _ _ _ _ _ _ rowW2]; rfl)
  have yW23 := ovr_cell (W := W) (b := w.heap.size + 1 + 1) (o := 3) (v := .int .u16 (t 3)) (by rw [cell_of_row _ _ _ _ _ _ rowW2]; rfl)
  have yW24 := ovr_cell (W := W) (b := w.heap.size + 1 + 1) (o := 4) (v := .int .u16 tr) (by rw [cell_of_row _ _ _ _ _ _ rowW2]; rfl)
  have yW25 := ovr_cell (W := W) (b := w.heap.size + 1 + 1) (o := 5) (v := .int .u16 tg) (by rw [cell_of_row _ _ _ _ _ _ rowW2]; rfl)
  have RrowW2 := Lib.hid (ovr_row rowW2)
  clear rowW2
  have HUW : Hid (∀ u, Below w.heap.size w (ovr W u)) := U3 hW
  have HW := Lib.hid hW
  clear hW
  go_enter Try.func5, Try.ntmps5
  go_upto_region 1 with (fail)
  rw [← HW.out]
  obtain ⟨u0, hu0⟩ := ovr_self W
  rw [hu0]
  clear hu0
  have hbY := ovr_below W u0
  obtain ⟨Y, hY⟩ : ∃ Y, Y = ovr W u0 := ⟨_, rfl⟩
  rw [← hY] at hbY
  rw [← hY]
  have hY' := Lib.hid hY
  clear hY
  have hbY' := Lib.hid hbY
  have reY : ∀ v, ∃ x, ovr Y v = ovr W x := fun v => ovr_reB hbY v
  replace yW00 := tr_cell reY yW00
  replace yW01 := tr_cell reY yW01
  replace yW02 := tr_cell reY yW02
  replace yW03 := tr_cell reY yW03
  replace yW04 := tr_cell reY yW04
  replace yW05 := tr_cell reY yW05
  replace yW06 := tr_cell reY yW06
  replace yW07 := tr_cell reY yW07
  replace yW08 := tr_cell reY yW08
  replace RrowW0 := Lib.hid (tr_row reY RrowW0.out)
  replace yW10 := tr_cell reY yW10
  replace yW11 := tr_cell reY yW11
  replace yW12 := tr_cell reY yW12
  replace RrowW1 := Lib.hid (tr_row reY RrowW1.out)
  replace yW20 := tr_cell reY yW20
  replace yW21 := tr_cell reY yW21
  replace yW22 := tr_cell reY yW22
  replace yW23 := tr_cell reY yW23
  replace yW24 := tr_cell reY yW24
  replace yW25 := tr_cell reY yW25
  replace RrowW2 := Lib.hid (tr_row reY RrowW2.out)
  have HUY : Hid (∀ u, Below w.heap.size w (ovr Y u)) := fun u => by obtain ⟨x, hx⟩ := reY u; rw [hx]; exact HUW.out x
  clear reY hbY
  refine Dl.wp_region_late 10 [9] (fun j => if j = 3 then some (SlK 2 zs.length (rR zs)) else if j = 6 then some (WdT m zs u) else none) (by kernel_rfl) (by kernel_rfl) (by kernel_rfl) (by kernel_rfl) [] (E := 23)
    ⟨by kernel_rfl, alloc_rng, fun j hj => by cases hj⟩ (by kernel_rfl) (fun i hi => by simp only [List.mem_cons, List.not_mem_nil, or_false] at hi; rcases hi with rfl; rfl) (fun c a d v w h => by cases d <;> exact h) ?_
  simp only [List.take_succ_cons, List.take_zero, List.drop_succ_cons, List.drop_zero]
  repeat (refine Dk.wpG_one rfl rfl rfl ?_; intro K hK; go_big_quiet_op; go_big_quiet_on)
  refine Dk.wpG_make (SlK 2 zs.length (rR zs)) rfl rfl (fun w' hw' _ => ?_) (fun u hu => ?_)
  · obtain ⟨x, rfl⟩ := hw'
    go_simp
    exact own_growK (CZ.out _ (HUY.out x))
  obtain ⟨_, _, A2, c2, rfl, _, _, _⟩ := hu
  simp only [Act.put, List.setIfInBounds_toArray, List.set_cons_zero, List.set_cons_succ]
  repeat (refine Dk.wpG_one rfl rfl rfl ?_; intro K hK; go_big_quiet_op; go_big_quiet_on)
  refine Dk.wpG_make (WdT m zs u) rfl rfl (fun w' hw' hk => ?_) (fun u hu => ?_)
  · have hk2 := hk ⟨3, .data⟩ (by simp) rfl _ 25 _ rfl rfl rfl (Nat.lt_of_lt_of_eq (by decide : 25 < 287) rfl) rfl
    obtain ⟨A3, c3, he, _, _, hr⟩ := hk2.now
    obtain ⟨rfl, rfl⟩ : A2 = A3 ∧ c2 = c3 := by
      injection he with e1 e2 e3
      exact ⟨e1, e3⟩
    go_simp
    exact win_grow (CW.out w' A2 c2 hr)
  obtain ⟨_, _, A4, c4, l0, rfl, _, _⟩ := hu
  obtain ⟨n4, hn4⟩ : ∃ n, l0.length = n := ⟨_, rfl⟩
  rw [hn4, HCK.out]
  clear hn4
  simp only [Act.put, List.setIfInBounds_toArray, List.set_cons_zero, List.set_cons_succ]
  repeat (refine Dk.wpG_one rfl rfl rfl ?_; intro K hK; go_big_quiet_op; go_big_quiet_on)
  refine Dk.wpG_nil (fun w5 hw5 hG => ?_)
  obtain ⟨l, rfl, hwin, hrd⟩ := (Box.now hG.2).same
  clear hG
  refine Dl.wpTailH_cons (wp_assign _ (.slice A4 l.length c4) rfl rfl ⟨hw5, ?_⟩)
  refine Dl.wpTailH_cons (wp_assign _ (I ck) rfl rfl ⟨hw5, ?_⟩)
  refine Dl.wpTailH_nil ?_
  simp only [Act.put]
  obtain ⟨x5, rfl⟩ := hw5
  have HWI := Lib.hid hwin
  clear hwin
  have hrd' := Lib.hid hrd
  clear hrd
  have hbV := ovr_below Y x5
  obtain ⟨V, hV⟩ : ∃ V, V = ovr Y x5 := ⟨_, rfl⟩
  rw [← hV] at hbV
  rw [← hV]
  have hV' := Lib.hid hV
  clear hV
  have hbV' := Lib.hid hbV
  have reV : ∀ v, ∃ x, ovr V v = ovr Y x := fun v => ovr_reB hbV v
  replace yW00 := tr_cell reV yW00
  replace yW01 := tr_cell reV yW01
  replace yW02 := tr_cell reV yW02
  replace yW03 := tr_cell reV yW03
  replace yW04 := tr_cell reV yW04
  replace yW05 := tr_cell reV yW05
  replace yW06 := tr_cell reV yW06
  replace yW07 := tr_cell reV yW07
  replace yW08 := tr_cell reV yW08
  replace RrowW0 := Lib.hid (tr_row reV RrowW0.out)
  replace yW10 := tr_cell reV yW10
  replace yW11 := tr_cell reV yW11
  replace yW12 := tr_cell reV yW12
  replace RrowW1 := Lib.hid (tr_row reV RrowW1.out)
  replace yW20 := tr_cell reV yW20
  replace yW21 := tr_cell reV yW21
  replace yW22 := tr_cell reV yW22
  replace yW23 := tr_cell reV yW23
  replace yW24 := tr_cell reV yW24
  replace yW25 := tr_cell reV yW25
  replace RrowW2 := Lib.hid (tr_row reV RrowW2.out)
  have HUV : Hid (∀ u, Below w.heap.size w (ovr V u)) := fun u => by obtain ⟨x, hx⟩ := reV u; rw [hx]; exact HUY.out x
  clear reV hbV
  have HR : Hid (∀ q, Below V.heap.size V q → Rd q V.heap.size 2 A4 l.length (rR l)) := fun q hq => by
    have h9 := hrd'.out
    rw [← hV'.out] at h9
    exact h9.below hq
  clear hrd'
  obtain ⟨v0, hv0⟩ := ovr_self V
  rw [hv0]
  clear hv0
  rcases ck_cases m zs u with h1 | h1 | h1
  case inr.inl =>
    have hl : l.length = 0 := by rw [HWI.out.no (by omega)]; rfl
    rw [HCK.out] at h1
    subst h1
    rw [hl]
    go_wp2_with fail
    refine (KN.out _).mono ?_
    rintro e w1 ⟨rfl, hb1⟩
    obtain ⟨vk, rfl⟩ := ovr_next hb1
    clear hb1
    go_wp2_with fail
    go_ret
    exact ⟨rfl, HUV.out _⟩
  case inr.inr =>
    have hl : l.length = 0 := by rw [HWI.out.no (by omega)]; rfl
    rw [HCK.out] at h1
    subst h1
    rw [hl]
    go_wp2_with fail
    refine (KN.out _).mono ?_
    rintro e w1 ⟨rfl, hb1⟩
    obtain ⟨vk, rfl⟩ := ovr_next hb1
    clear hb1
    go_wp2_with fail
    go_ret
    exact ⟨rfl, HUV.out _⟩
  have HW := Lib.hid (HWI.out.ok h1)
  have HLN := Lib.hid HWI.out.len
  have H0 := Lib.hid h1
  rw [HCK.out] at h1
  subst h1
  obtain ⟨hok, hzs, hz20, hu31⟩ := ck_ok H0.out
  have HOK := Lib.hid hok
  have HZS := Lib.hid hzs
  have HZL := Lib.hid hz20
  have HU31 : Hid (0 ≤ u ∧ u ≤ 31) := ⟨HU.out.1, hu31⟩
  clear hok hzs hu31
  have d1 : decide ((20 : Int) < (zs.length : Int)) = false := decide_eq_false (by omega)
  clear hz20
  go_upto_region 5 with fail
  obtain ⟨va, hva, hvb⟩ : ∃ va, wrap64 ((IntKind.u64.wrap rt).tmod 1000001) = va ∧ 0 ≤ va ∧ va ≤ 1000000 := by
    have h0 : 0 ≤ IntKind.u64.wrap rt := by show 0 ≤ rt % 18446744073709551616; omega
    have h2 : (IntKind.u64.wrap rt).tmod 1000001 = IntKind.u64.wrap rt % 1000001 := Int.tmod_eq_emod_of_nonneg h0
    refine ⟨_, rfl, ?_, ?_⟩ <;> rw [h2] <;> unfold wrap64 <;> omega
  rw [hva]
  have HVA := Lib.hid hvb
  clear hva hvb d1
  go_cut [58] (fun s wx => ∃ b : Bool, s = .bool b ∧ (b = true → 0 < l.length) ∧ Below V.heap.size V wx)
  case first =>
    as_aux_lemma =>
      have hb0 := ovr_below V v0
      by_cases h5 : 0 < l.length
      · have d5 : decide ((0 : Int) < (l.length : Int)) = true := decide_eq_true (by omega)
        have d6 : decide (0 < l.length) = true := decide_eq_true h5
        have H5 := Lib.hid h5
        clear h5
        go_wp2_with fail
        all_goals
          go_meet
          case rel => exact ⟨_, rfl, fun _ => H5.out, hb0⟩
      · have d5 : decide ((0 : Int) < (l.length : Int)) = false := decide_eq_false (by omega)
        have d6 : decide (0 < l.length) = false := decide_eq_false h5
        clear h5
        go_wp2_with fail
        go_meet
        case rel => exact ⟨false, rfl, fun h => (by cases h), hb0⟩
  case rest =>
    as_aux_lemma =>
      obtain ⟨b, rfl, hb, hbv⟩ := hcut
      obtain ⟨v1, rfl⟩ : ∃ u, wc = ovr V u := ⟨wc, ovr_of hbv⟩
      have HBL := Lib.hid hb
      clear hb hbv
      go_upto_if 58 with fail
      go_cut [9] (fun s wx => ∃ v : Int, s = .int .i64 v ∧ (0 ≤ v ∧ v ≤ 1000000) ∧ Below V.heap.size V wx)
      case first =>
        as_aux_lemma =>
          have hb0 := ovr_below V v1
          rcases b with _ | _
          · go_wp2_with fail
            go_meet
            case rel => exact ⟨_, rfl, HVA.out, hb0⟩
          · have H5 := Lib.hid (HBL.out rfl)
            go_upto_region 6 with fail
            obtain ⟨jn, hjn, hjl⟩ : ∃ j : Nat, tg.tmod (l.length : Int) = j ∧ j < l.length := by
              have h0 := HT.out.g.1
              have h9 := H5.out
              have h2 : tg.tmod (l.length : Int) = tg % (l.length : Int) := Int.tmod_eq_emod_of_nonneg h0
              have h3 := Int.emod_nonneg tg (show (l.length : Int) ≠ 0 by omega)
              have h4 := Int.emod_lt_of_pos tg (show (0 : Int) < l.length by omega)
              exact ⟨(tg % (l.length : Int)).toNat, by omega, by omega⟩
            have HJL := Lib.hid hjl
            obtain ⟨⟨ra, rb⟩, hr⟩ : ∃ r, at0 l jn = r := ⟨_, rfl⟩
            have HRB : Hid (0 ≤ ra ∧ ra ≤ rb ∧ rb ≤ 1000000) := by
              have h9 := wh_in HW.out hjl
              rw [hr] at h9
              exact h9
            have hl0 : ¬ l = [] := by rintro rfl; simp at hjl
            have kw : wrap64 tg = tg := by have := HT.out.g; unfold wrap64; omega
            have CPL : Hid (∀ Z, Calls Try.prog 22 #[.agg #[I ra, I rb], .int .u16 tr] Z fun e w' => e = .returned (I (plF ⟨ra, rb⟩ tr)) ∧ Below Z.heap.size Z w') := fun Z => place_any ⟨ra, rb⟩ tr HT.out.r Z
            have HPI : Hid (0 ≤ plF ⟨ra, rb⟩ tr ∧ plF ⟨ra, rb⟩ tr ≤ 1000000) := by
              have h9 := plF_in (r := ⟨ra, rb⟩) (b := tr) HT.out.r.1 HRB.out.2.1
              have h8 := HRB.out
              simp only at h9
              exact ⟨by omega, by omega⟩
            obtain ⟨pv, hpv⟩ : ∃ p, plF ⟨ra, rb⟩ tr = p := ⟨_, rfl⟩
            rw [hpv] at CPL HPI
            clear hpv
            have hbY6 := ovr_below V v1
            obtain ⟨Y6, hY6⟩ : ∃ Y6, Y6 = ovr V v1 := ⟨_, rfl⟩
            rw [← hY6] at hbY6
            rw [← hY6]
            have hY6' := Lib.hid hY6
            clear hY6
            have hbY6' := Lib.hid hbY6
            have reY6 : ∀ v, ∃ x, ovr Y6 v = ovr V x := fun v => ovr_reB hbY6 v
            replace yW00 := tr_cell reY6 yW00
            replace yW01 := tr_cell reY6 yW01
            replace yW02 := tr_cell reY6 yW02
            replace yW03 := tr_cell reY6 yW03
            replace yW04 := tr_cell reY6 yW04
            replace yW05 := tr_cell reY6 yW05
            replace yW06 := tr_cell reY6 yW06
            replace yW07 := tr_cell reY6 yW07
            replace yW08 := tr_cell reY6 yW08
            replace RrowW0 := Lib.hid (tr_row reY6 RrowW0.out)
            replace yW10 := tr_cell reY6 yW10
            replace yW11 := tr_cell reY6 yW11
            replace yW12 := tr_cell reY6 yW12
            replace RrowW1 := Lib.hid (tr_row reY6 RrowW1.out)
            replace yW20 := tr_cell reY6 yW20
            replace yW21 := tr_cell reY6 yW21
            replace yW22 := tr_cell reY6 yW22
            replace yW23 := tr_cell reY6 yW23
            replace yW24 := tr_cell reY6 yW24
            replace yW25 := tr_cell reY6 yW25
            replace RrowW2 := Lib.hid (tr_row reY6 RrowW2.out)
            have HUY6 : Hid (∀ u, Below w.heap.size w (ovr Y6 u)) := fun u => by obtain ⟨x, hx⟩ := reY6 u; rw [hx]; exact HUV.out x
            clear reY6 hbY6
            obtain ⟨lb, lo, hA4, _, le0, le1⟩ := (HR.out Y6 hbY6'.out).rng hjl
            subst hA4
            rw [hr] at le0 le1
            have e0 := ovr_cell le0
            have e1 := ovr_cell le1
            clear le0 le1 hr hjl
            refine Dl.wp_region_late 12 [] (fun j => if j = 11 then some (fun u _ => u = I pv) else none) (by kernel_rfl) (by kernel_rfl) (by kernel_rfl) (by kernel_rfl) [] (E := 23)
              ⟨by kernel_rfl, alloc_rng, fun j hj => by cases hj⟩ (by kernel_rfl) (fun i hi => by cases hi) (fun c a d v w h => by cases d <;> exact h) ?_
            simp only [List.take_succ_cons, List.take_zero, List.drop_succ_cons, List.drop_zero]
            have HJL2 := HJL.out
            repeat (refine Dk.wpG_one rfl rfl rfl ?_; intro K hK; go_big_quiet_op; go_big_quiet_on)
            refine Dk.wpG_make (fun u _ => u = I pv) rfl rfl (fun w' hw' _ => ?_) (fun u hu => ?_)
            · go_simp
              exact call_grow (CPL.out w')
            obtain ⟨_, _, rfl⟩ := hu
            simp only [Act.put, List.setIfInBounds_toArray, List.set_cons_zero, List.set_cons_succ]
            refine Dk.wpG_nil (fun w5 hw5 _ => ?_)
            refine Dl.wpTailH_cons (wp_assign _ (I pv) rfl rfl ⟨hw5, ?_⟩)
            refine Dl.wpTailH_nil ?_
            simp only [Act.put]
            obtain ⟨x5, rfl⟩ := hw5
            have hb6 := hbY6'.out.trans ((ovr_below Y6 x5).mono hbY6'.out.size)
            go_wp2_with fail
            go_meet
            case rel => exact ⟨_, rfl, HPI.out, hb6⟩
      case rest =>
        as_aux_lemma =>
          obtain ⟨v, rfl, hvv, hbv⟩ := hcut
          obtain ⟨v2, rfl⟩ : ∃ u, wc = ovr V u := ⟨wc, ovr_of hbv⟩
          clear hbv
          have HV := Lib.hid hvv
          have d1 : decide (v < 0) = false := decide_eq_false (by omega)
          have d2 : decide (1000000 < v) = false := decide_eq_false (by omega)
          clear hvv
          go_upto_region 9 with fail
          clear d1 d2
          obtain ⟨⟨zi, zk⟩, hzq⟩ : ∃ q, whyQ (whyL m u v zs) = q := ⟨_, rfl⟩
          have HZQ := Lib.hid hzq
          have CY : Hid (∀ V A' c', Rd V V.heap.size 2 A' zs.length (rR zs) → Calls Try.prog 23 #[.agg (mdA m), .slice A' zs.length c', .int .u8 u, I v] V fun e w' => e = .returned (.tuple #[I zi, I zk, I 0]) ∧ Below V.heap.size V w') := fun V A' c' h => by
            have := why_any m A' c' zs u v V V.heap.size HF.out.a (Nat.le_refl _) h
            rw [whyF_in H0.out HV.out, hzq] at this
            exact this
          have CH : Hid (∀ V', Below V.heap.size V V' → Calls Try.prog 24 #[.slice A4 l.length c4, I v] V' fun e w' => e = .returned (.bool (zi == -1)) ∧ Below V'.heap.size V' w') := fun V' h => by
            have := hasRate_any A4 c4 l v V' V.heap.size (by have := HLN.out; omega) h.size (HR.out V' h)
            rw [wh_has HW.out HV.out] at this
            unfold barB at this
            rw [hzq] at this
            exact this
          clear hzq
          have hbY8 := ovr_below V v2
          obtain ⟨Y8, hY8⟩ : ∃ Y8, Y8 = ovr V v2 := ⟨_, rfl⟩
          rw [← hY8] at hbY8
          rw [← hY8]
          have hY8' := Lib.hid hY8
          clear hY8
          have hbY8' := Lib.hid hbY8
          have reY8 : ∀ v, ∃ x, ovr Y8 v = ovr V x := fun v => ovr_reB hbY8 v
          replace yW00 := tr_cell reY8 yW00
          replace yW01 := tr_cell reY8 yW01
          replace yW02 := tr_cell reY8 yW02
          replace yW03 := tr_cell reY8 yW03
          replace yW04 := tr_cell reY8 yW04
          replace yW05 := tr_cell reY8 yW05
          replace yW06 := tr_cell reY8 yW06
          replace yW07 := tr_cell reY8 yW07
          replace yW08 := tr_cell reY8 yW08
          replace RrowW0 := Lib.hid (tr_row reY8 RrowW0.out)
          replace yW10 := tr_cell reY8 yW10
          replace yW11 := tr_cell reY8 yW11
          replace yW12 := tr_cell reY8 yW12
          replace RrowW1 := Lib.hid (tr_row reY8 RrowW1.out)
          replace yW20 := tr_cell reY8 yW20
          replace yW21 := tr_cell reY8 yW21
          replace yW22 := tr_cell reY8 yW22
          replace yW23 := tr_cell reY8 yW23
          replace yW24 := tr_cell reY8 yW24
          replace yW25 := tr_cell reY8 yW25
          replace RrowW2 := Lib.hid (tr_row reY8 RrowW2.out)
          have HUY8 : Hid (∀ u, Below w.heap.size w (ovr Y8 u)) := fun u => by obtain ⟨x, hx⟩ := reY8 u; rw [hx]; exact HUV.out x
          clear reY8 hbY8
          refine Dl.wp_region_late 12 [10, 11] (fun j => if j = 3 then some (SlK 2 zs.length (rR zs)) else if j = 7 then some (fun u _ => u = .tuple #[I zi, I zk, I 0]) else none) (by kernel_rfl) (by kernel_rfl) (by kernel_rfl) (by kernel_rfl) [] (E := 23)
            ⟨by kernel_rfl, alloc_rng, fun j hj => by cases hj⟩ (by kernel_rfl) (fun i hi => by simp only [List.mem_cons, List.not_mem_nil, or_false] at hi; rcases hi with rfl | rfl <;> rfl) (fun c a d v w h => by cases d <;> exact h) ?_
          simp only [List.take_succ_cons, List.take_zero, List.drop_succ_cons, List.drop_zero]
          repeat (refine Dk.wpG_one rfl rfl rfl ?_; intro K hK; go_big_quiet_op; go_big_quiet_on)
          refine Dk.wpG_make (SlK 2 zs.length (rR zs)) rfl rfl (fun w' hw' _ => ?_) (fun u hu => ?_)
          · obtain ⟨x, rfl⟩ := hw'
            go_simp
            exact own_growK (CZ.out _ (HUY8.out x))
          obtain ⟨_, _, A2, c2, rfl, _, _, _⟩ := hu
          simp only [Act.put, List.setIfInBounds_toArray, List.set_cons_zero, List.set_cons_succ]
          repeat (refine Dk.wpG_one rfl rfl rfl ?_; intro K hK; go_big_quiet_op; go_big_quiet_on)
          refine Dk.wpG_make (fun u _ => u = .tuple #[I zi, I zk, I 0]) rfl rfl (fun w' hw' hk => ?_) (fun u hu => ?_)
          · have hk2 := hk ⟨3, .data⟩ (by simp) rfl _ 81 _ rfl rfl rfl (Nat.lt_of_lt_of_eq (by decide : 81 < 287) rfl) rfl
            obtain ⟨A3, c3, he, _, _, hr⟩ := hk2.now
            obtain ⟨rfl, rfl⟩ : A2 = A3 ∧ c2 = c3 := by
              injection he with e1 e2 e3
              exact ⟨e1, e3⟩
            go_simp
            exact call_grow (CY.out w' A2 c2 hr)
          obtain ⟨_, _, rfl⟩ := hu
          simp only [Act.put, List.setIfInBounds_toArray, List.set_cons_zero, List.set_cons_succ]
          repeat (refine Dk.wpG_one rfl rfl rfl ?_; intro K hK; go_big_quiet_op; go_big_quiet_on)
          refine Dk.wpG_nil (fun w5 hw5 _ => ?_)
          refine Dl.wpTailH_cons (wp_assign _ (I zi) rfl rfl ⟨hw5, ?_⟩)
          refine Dl.wpTailH_cons (wp_assign _ (I zk) rfl rfl ⟨hw5, ?_⟩)
          refine Dl.wpTailH_cons (wp_assign _ (I 0) rfl rfl ⟨hw5, ?_⟩)
          refine Dl.wpTailH_nil ?_
          simp only [Act.put]
          obtain ⟨x5, rfl⟩ := hw5
          have hbT := ovr_below Y8 x5
          obtain ⟨T, hT⟩ : ∃ T, T = ovr Y8 x5 := ⟨_, rfl⟩
          rw [← hT] at hbT
          rw [← hT]
          have hT' := Lib.hid hT
          clear hT
          have hbT' := Lib.hid hbT
          have reT : ∀ v, ∃ x, ovr T v = ovr Y8 x := fun v => ovr_reB hbT v
          replace yW00 := tr_cell reT yW00
          replace yW01 := tr_cell reT yW01
          replace yW02 := tr_cell reT yW02
          replace yW03 := tr_cell reT yW03
          replace yW04 := tr_cell reT yW04
          replace yW05 := tr_cell reT yW05
          replace yW06 := tr_cell reT yW06
          replace yW07 := tr_cell reT yW07
          replace yW08 := tr_cell reT yW08
          replace RrowW0 := Lib.hid (tr_row reT RrowW0.out)
          replace yW10 := tr_cell reT yW10
          replace yW11 := tr_cell reT yW11
          replace yW12 := tr_cell reT yW12
          replace RrowW1 := Lib.hid (tr_row reT RrowW1.out)
          replace yW20 := tr_cell reT yW20
          replace yW21 := tr_cell reT yW21
          replace yW22 := tr_cell reT yW22
          replace yW23 := tr_cell reT yW23
          replace yW24 := tr_cell reT yW24
          replace yW25 := tr_cell reT yW25
          replace RrowW2 := Lib.hid (tr_row reT RrowW2.out)
          have HUT : Hid (∀ u, Below w.heap.size w (ovr T u)) := fun u => by obtain ⟨x, hx⟩ := reT u; rw [hx]; exact HUY8.out x
          clear reT hbT
          have HVT : Hid (Below V.heap.size V T) := hbY8'.out.trans (hbT'.out.mono hbY8'.out.size)
          obtain ⟨t0, ht0⟩ := ovr_self T
          rw [ht0]
          clear ht0
          go_wp2_with fail
          refine (CH.out _ (HVT.out.trans ((ovr_below T t0).mono HVT.out.size))).mono ?_
          rintro e w1 ⟨rfl, hb1⟩
          obtain ⟨t1, rfl⟩ := ovr_next hb1
          clear hb1
          go_upto_block 0 with (fail)
          go_cut [8] (fun s wx => s = I 0 ∧ Below T.heap.size T wx)
          case first =>
            as_aux_lemma =>
              rcases hq : whyL m u v zs with _ | ⟨i, k⟩
              · have hz := HZQ.out
                rw [hq] at hz
                injection hz with hz1 hz2
                subst hz1 hz2
                have hbar : Hid (barB (whyL m u v zs) = true) := by show _ = _; rw [hq]; rfl
                clear hq
                go_wp2_with fail
                go_loopw [12] (fun i wr => ∃ (n : Nat) (x : World), n ≤ zs.length ∧ i = .int .i64 n ∧ wr = ovr T x) (fun i _ => zs.length - (intOf i).toNat)
                case atStart => exact ⟨0, t1, by omega, rfl, rfl⟩
                case round =>
                  obtain ⟨n, x, hnl, rfl, rfl⟩ := hrel
                  have hln : n ≤ 20 := by have : zs.length ≤ 20 := HZL.out; omega
                  by_cases hlt : n < zs.length
                  · have HLT := Lib.hid hlt
                    have hz := HZS.out n hlt
                    have hzi := spanB_iff.1 hz
                    obtain ⟨⟨za, zb⟩, hr⟩ : ∃ r, at0 zs n = r := ⟨_, rfl⟩
                    have hpi := plF_in (r := at0 zs n) (b := tg) HT.out.g.1 hzi.2.1
                    obtain ⟨k, hk5, hrk, hbit⟩ := wh_true HOK.out HU31.out HV.out hbar.out hlt hz (g := plF (at0 zs n) tg) hpi (fun i => (HT.out.t i).1)
                    have CP1 : Hid (∀ Z, Calls Try.prog 22 #[.agg #[I za, I zb], .int .u16 tg] Z fun e w' => e = .returned (I (plF ⟨za, zb⟩ tg)) ∧ Below Z.heap.size Z w') := fun Z => place_any ⟨za, zb⟩ tg HT.out.g Z
                    have CR1 : Hid (∀ Z, Calls Try.prog 25 #[.agg (mdA m), .agg (ttA t tr tg), I v, I (plF ⟨za, zb⟩ tg)] Z fun e w' => e = .returned (I k) ∧ Below Z.heap.size Z w') := fun Z => by
                      have h9 := region_any m HOK.out t tr tg HT.out v (plF (at0 zs n) tg) HV.out ⟨by have := hpi.1; omega, by have := hpi.2; omega⟩ Z
                      rw [hrk, hr] at h9
                      exact h9
                    obtain ⟨g, hg⟩ : ∃ g, plF ⟨za, zb⟩ tg = g := ⟨_, rfl⟩
                    rw [hg] at CP1 CR1
                    have HBIT := Lib.hid hbit
                    have HK5 := Lib.hid hk5
                    clear hz hzi hpi hrk hg hbit
                    go_upto_region 15 with fail
                    have hbX9 := ovr_below T x
                    obtain ⟨X9, hX9⟩ : ∃ X9, X9 = ovr T x := ⟨_, rfl⟩
                    rw [← hX9] at hbX9
                    rw [← hX9]
                    have hX9' := Lib.hid hX9
                    clear hX9
                    have hbX9' := Lib.hid hbX9
                    have reX9 : ∀ v, ∃ x, ovr X9 v = ovr T x := fun v => ovr_reB hbX9 v
                    replace yW00 := tr_cell reX9 yW00
                    replace yW01 := tr_cell reX9 yW01
                    replace yW02 := tr_cell reX9 yW02
                    replace yW03 := tr_cell reX9 yW03
                    replace yW04 := tr_cell reX9 yW04
                    replace yW05 := tr_cell reX9 yW05
                    replace yW06 := tr_cell reX9 yW06
                    replace yW07 := tr_cell reX9 yW07
                    replace yW08 := tr_cell reX9 yW08
                    replace RrowW0 := Lib.hid (tr_row reX9 RrowW0.out)
                    replace yW10 := tr_cell reX9 yW10
                    replace yW11 := tr_cell reX9 yW11
                    replace yW12 := tr_cell reX9 yW12
                    replace RrowW1 := Lib.hid (tr_row reX9 RrowW1.out)
                    replace yW20 := tr_cell reX9 yW20
                    replace yW21 := tr_cell reX9 yW21
                    replace yW22 := tr_cell reX9 yW22
                    replace yW23 := tr_cell reX9 yW23
                    replace yW24 := tr_cell reX9 yW24
                    replace yW25 := tr_cell reX9 yW25
                    replace RrowW2 := Lib.hid (tr_row reX9 RrowW2.out)
                    have HUX9 : Hid (∀ u, Below w.heap.size w (ovr X9 u)) := fun u => by obtain ⟨x, hx⟩ := reX9 u; rw [hx]; exact HUT.out x
                    clear reX9 hbX9
                    obtain ⟨b, o, hA, _, ze0, ze1⟩ := (HX.out X9 ((below_self0' HUT.out).trans (hbX9'.out.mono (below_self0' HUT.out).size))).rng hlt
                    rw [hr] at ze0 ze1
                    have HA := Lib.hid hA
                    clear hA hr
                    have e0 := ovr_cell ze0
                    have e1 := ovr_cell ze1
                    clear ze0 ze1
                    rw [HA.out] at yW10
                    have hk5 := HK5.out
                    have hb1 := HBIT.out
                    have hx9 := Lib.hid (hbX9'.out)
                    refine wp_region_below_lit (by kernel_rfl) (by kernel_rfl) ?_
                    repeat (go_big_quiet_step (fail))
                    go_big_quiet_step ((go_at_call 22; exact call_below (CP1.out _)))
                    go_big_quiet_step ((go_at_call 25; exact call_below (CR1.out _)))
                    repeat (go_big_quiet_step (fail))
                    refine wpQuiet_nil ?_
                    intro Z hZ
                    have hzT : Hid (Below T.heap.size T Z) := hx9.out.trans (hZ.mono hx9.out.size)
                    clear hZ e0 e1
                    go_wp2_with fail
                    exact ⟨⟨n + 1, Z, HLT.out, rfl, ovr_of hzT.out⟩, by have := HLT.out; simp [intOf]; omega⟩
                  · go_wp2_with fail
                    go_meet
                    case rel => exact ⟨rfl, ovr_below _ _⟩
              · have hz := HZQ.out
                rw [hq] at hz
                injection hz with hz1 hz2
                subst hz1 hz2
                clear hq
                have hne : ((i : Int) == -1) = false := beq_eq_false_iff_ne.2 (by omega)
                go_wp2_with fail
                go_loopw [12] (fun i wr => ∃ (n : Nat) (x : World), n ≤ zs.length ∧ i = .int .i64 n ∧ wr = ovr T x) (fun i _ => zs.length - (intOf i).toNat)
                case atStart => exact ⟨0, t1, by omega, rfl, rfl⟩
                case round =>
                  obtain ⟨n, x, hnl, rfl, rfl⟩ := hrel
                  have hln : n ≤ 20 := by have : zs.length ≤ 20 := HZL.out; omega
                  by_cases hlt : n < zs.length
                  · go_wp2_with fail
                    go_meet
                    case rel => exact ⟨rfl, ovr_below _ _⟩
                  · go_wp2_with fail
                    go_meet
                    case rel => exact ⟨rfl, ovr_below _ _⟩
          case rest =>
            as_aux_lemma =>
              obtain ⟨rfl, hbt⟩ := hcut
              obtain ⟨t2, rfl⟩ : ∃ u, wc = ovr T u := ⟨wc, ovr_of hbt⟩
              clear hbt
              go_upto_if 129 with fail
              go_cut [8] (fun s wx => s = I 0 ∧ Below T.heap.size T wx)
              case first =>
                as_aux_lemma =>
                  rcases hq : whyL m u v zs with _ | ⟨i, k⟩
                  · have hz := HZQ.out
                    rw [hq] at hz
                    injection hz with hz1 hz2
                    subst hz1 hz2
                    clear hq
                    go_wp2_with fail
                    go_meet
                    case rel => exact ⟨rfl, ovr_below _ _⟩
                  · have hz := HZQ.out
                    rw [hq] at hz
                    injection hz with hz1 hz2
                    subst hz1 hz2
                    obtain ⟨hi, hk, hb0, hb1⟩ := wh_named HU31.out hq
                    clear hq
                    have HI := Lib.hid hi
                    have HK5 := Lib.hid hk
                    have HB1 := Lib.hid hb1
                    have d1 : decide ((zs.length : Int) ≤ (i : Int)) = false := decide_eq_false (by omega)
                    have d2 : decide (zs.length ≤ i) = false := decide_eq_false (by omega)
                    have d3 : decide ((4 : Int) < (k : Int)) = false := decide_eq_false (by omega)
                    have d4 : decide (4 < k) = false := decide_eq_false (by omega)
                    have d5 : decide ((i : Int) < 0) = false := decide_eq_false (by omega)
                    have d6 : decide ((k : Int) < 0) = false := decide_eq_false (by omega)
                    have hz := HZS.out i hi
                    have CRG : Hid (∀ Z, Calls Try.prog 12 #[.agg (mdA m), .agg #[I v, I v], .agg #[I (at0 zs i).lo, I (at0 zs i).hi]] Z fun e w' => e = .returned (.tuple #[.int .u8 (regK (posB m ⟨v, v⟩ (at0 zs i)) 5), I 0]) ∧ Below Z.heap.size Z w') := fun Z => by
                      have h9 := regionsX_any m ⟨v, v⟩ (at0 zs i) Z
                      unfold rgsF at h9
                      rw [HOK.out, hz, spanB_iff.2 ⟨HV.out.1, Int.le_refl _, HV.out.2⟩] at h9
                      exact h9
                    obtain ⟨S, hS⟩ : ∃ S, regK (posB m ⟨v, v⟩ (at0 zs i)) 5 = S := ⟨_, rfl⟩
                    rw [hS] at CRG HB1
                    clear hS hz hb1 hi
                    go_upto_region 20 with fail
                    clear d1 d2 d3 d4 d5 d6 hb0
                    have hbX9 := ovr_below T t2
                    obtain ⟨X9, hX9⟩ : ∃ X9, X9 = ovr T t2 := ⟨_, rfl⟩
                    rw [← hX9] at hbX9
                    rw [← hX9]
                    have hX9' := Lib.hid hX9
                    clear hX9
                    have hbX9' := Lib.hid hbX9
                    have reX9 : ∀ v, ∃ x, ovr X9 v = ovr T x := fun v => ovr_reB hbX9 v
                    replace yW00 := tr_cell reX9 yW00
                    replace yW01 := tr_cell reX9 yW01
                    replace yW02 := tr_cell reX9 yW02
                    replace yW03 := tr_cell reX9 yW03
                    replace yW04 := tr_cell reX9 yW04
                    replace yW05 := tr_cell reX9 yW05
                    replace yW06 := tr_cell reX9 yW06
                    replace yW07 := tr_cell reX9 yW07
                    replace yW08 := tr_cell reX9 yW08
                    replace RrowW0 := Lib.hid (tr_row reX9 RrowW0.out)
                    replace yW10 := tr_cell reX9 yW10
                    replace yW11 := tr_cell reX9 yW11
                    replace yW12 := tr_cell reX9 yW12
                    replace RrowW1 := Lib.hid (tr_row reX9 RrowW1.out)
                    replace yW20 := tr_cell reX9 yW20
                    replace yW21 := tr_cell reX9 yW21
                    replace yW22 := tr_cell reX9 yW22
                    replace yW23 := tr_cell reX9 yW23
                    replace yW24 := tr_cell reX9 yW24
                    replace yW25 := tr_cell reX9 yW25
                    replace RrowW2 := Lib.hid (tr_row reX9 RrowW2.out)
                    have HUX9 : Hid (∀ u, Below w.heap.size w (ovr X9 u)) := fun u => by obtain ⟨x, hx⟩ := reX9 u; rw [hx]; exact HUT.out x
                    clear reX9 hbX9
                    obtain ⟨b, o, hA, _, ze0, ze1⟩ := (HX.out X9 ((below_self0' HUT.out).trans (hbX9'.out.mono (below_self0' HUT.out).size))).rng HI.out
                    have HA := Lib.hid hA
                    clear hA
                    have e0 := ovr_cell ze0
                    have e1 := ovr_cell ze1
                    clear ze0 ze1
                    rw [HA.out] at yW10
                    have hlt := HI.out
                    refine Dl.wp_region_late 13 [12] (fun j => if j = 9 then some (fun u _ => u = .tuple #[.int .u8 S, I 0]) else none) (by kernel_rfl) (by kernel_rfl) (by kernel_rfl) (by kernel_rfl) [] (E := 23)
                      ⟨by kernel_rfl, alloc_rng, fun j hj => by cases hj⟩ (by kernel_rfl) (fun i hi => by simp only [List.mem_cons, List.not_mem_nil, or_false] at hi; rcases hi with rfl; rfl) (fun c a d v w h => by cases d <;> exact h) ?_
                    simp only [List.take_succ_cons, List.take_zero, List.drop_succ_cons, List.drop_zero]
                    repeat (refine Dk.wpG_one rfl rfl rfl ?_; intro K hK; go_big_quiet_op; go_big_quiet_on)
                    refine Dk.wpG_make (fun u _ => u = .tuple #[.int .u8 S, I 0]) rfl rfl (fun w' hw' _ => ?_) (fun u hu => ?_)
                    · go_simp
                      exact call_grow (CRG.out w')
                    obtain ⟨_, _, rfl⟩ := hu
                    simp only [Act.put, List.setIfInBounds_toArray, List.set_cons_zero, List.set_cons_succ]
                    repeat (refine Dk.wpG_one rfl rfl rfl ?_; intro K hK; go_big_quiet_op; go_big_quiet_on)
                    refine Dk.wpG_nil (fun w5 hw5 _ => ?_)
                    refine Dl.wpTailH_cons (wp_assign _ (.int .u8 S) rfl rfl ⟨hw5, ?_⟩)
                    refine Dl.wpTailH_cons (wp_assign _ (I 0) rfl rfl ⟨hw5, ?_⟩)
                    refine Dl.wpTailH_nil ?_
                    simp only [Act.put]
                    obtain ⟨x5, rfl⟩ := hw5
                    have hb1 := HB1.out
                    have hk5 := HK5.out
                    have hb6 := Lib.hid (hbX9'.out.trans ((ovr_below X9 x5).mono hbX9'.out.size))
                    clear e0 e1 hlt
                    go_wp2_with fail
                    go_meet
                    case rel => exact ⟨rfl, hb6.out⟩
              case rest =>
                as_aux_lemma =>
                  obtain ⟨rfl, hbt⟩ := hcut
                  obtain ⟨t3, rfl⟩ : ∃ u, wc = ovr T u := ⟨wc, ovr_of hbt⟩
                  clear hbt
                  obtain ⟨j, hj, hj5⟩ : ∃ j : Nat, tr.tmod 5 = j ∧ j < 5 := by
                    have h0 := HT.out.r.1
                    have h2 : tr.tmod 5 = tr % 5 := Int.tmod_eq_emod_of_nonneg h0
                    exact ⟨(tr % 5).toNat, by omega, by omega⟩
                  have H2J : Hid ((2 : Int) ^ j % 256 = 2 ^ j) := by
                    have : ∀ q : Fin 5, (2 : Int) ^ (q : Nat) % 256 = 2 ^ (q : Nat) := by decide
                    exact this ⟨j, hj5⟩
                  obtain ⟨hm1, hm2, hm3⟩ := wh_more H0.out HU.out.1 hj5
                  obtain ⟨uj, huj⟩ : ∃ q, bits .or .u8 u (2 ^ j) = q := ⟨_, rfl⟩
                  have HUJ := Lib.hid huj
                  rw [huj] at hm1 hm2 hm3
                  have HM1 := Lib.hid hm1
                  have HM3 := Lib.hid hm3
                  have CW2 : Hid (∀ V A' c', Rd V V.heap.size 2 A' zs.length (rR zs) → Calls Try.prog 20 #[.agg (mdA m), .slice A' zs.length c', .int .u8 uj] V (RetW V m zs uj)) := fun V A' c' h => window_any m A' c' zs uj V V.heap.size HF.out.a (Nat.le_refl _) h hm2
                  clear huj hm1 hm2 hm3
                  go_upto_region 23 with fail
                  have hbY9 := ovr_below T t3
                  obtain ⟨Y9, hY9⟩ : ∃ Y9, Y9 = ovr T t3 := ⟨_, rfl⟩
                  rw [← hY9] at hbY9
                  rw [← hY9]
                  have hY9' := Lib.hid hY9
                  clear hY9
                  have hbY9' := Lib.hid hbY9
                  have reY9 : ∀ v, ∃ x, ovr Y9 v = ovr T x := fun v => ovr_reB hbY9 v
                  replace yW00 := tr_cell reY9 yW00
                  replace yW01 := tr_cell reY9 yW01
                  replace yW02 := tr_cell reY9 yW02
                  replace yW03 := tr_cell reY9 yW03
                  replace yW04 := tr_cell reY9 yW04
                  replace yW05 := tr_cell reY9 yW05
                  replace yW06 := tr_cell reY9 yW06
                  replace yW07 := tr_cell reY9 yW07
                  replace yW08 := tr_cell reY9 yW08
                  replace RrowW0 := Lib.hid (tr_row reY9 RrowW0.out)
                  replace yW10 := tr_cell reY9 yW10
                  replace yW11 := tr_cell reY9 yW11
                  replace yW12 := tr_cell reY9 yW12
                  replace RrowW1 := Lib.hid (tr_row reY9 RrowW1.out)
                  replace yW20 := tr_cell reY9 yW20
                  replace yW21 := tr_cell reY9 yW21
                  replace yW22 := tr_cell reY9 yW22
                  replace yW23 := tr_cell reY9 yW23
                  replace yW24 := tr_cell reY9 yW24
                  replace yW25 := tr_cell reY9 yW25
                  replace RrowW2 := Lib.hid (tr_row reY9 RrowW2.out)
                  have HUY9 : Hid (∀ u, Below w.heap.size w (ovr Y9 u)) := fun u => by obtain ⟨x, hx⟩ := reY9 u; rw [hx]; exact HUT.out x
                  clear reY9 hbY9
                  refine Dl.wp_region_late 16 [15] (fun j => if j = 3 then some (SlK 2 zs.length (rR zs)) else if j = 12 then some (WdT m zs uj) else none) (by kernel_rfl) (by kernel_rfl) (by kernel_rfl) (by kernel_rfl) [] (E := 23)
                    ⟨by kernel_rfl, alloc_rng, fun j hj => by cases hj⟩ (by kernel_rfl) (fun i hi => by simp only [List.mem_cons, List.not_mem_nil, or_false] at hi; rcases hi with rfl; rfl) (fun c a d v w h => by cases d <;> exact h) ?_
                  simp only [List.take_succ_cons, List.take_zero, List.drop_succ_cons, List.drop_zero]
                  repeat (refine Dk.wpG_one rfl rfl rfl ?_; intro K hK; go_big_quiet_op; go_big_quiet_on)
                  refine Dk.wpG_make (SlK 2 zs.length (rR zs)) rfl rfl (fun w' hw' _ => ?_) (fun u hu => ?_)
                  · obtain ⟨x, rfl⟩ := hw'
                    go_simp
                    exact own_growK (CZ.out _ (HUY9.out x))
                  obtain ⟨_, _, A2, c2, rfl, _, _, _⟩ := hu
                  simp only [Act.put, List.setIfInBounds_toArray, List.set_cons_zero, List.set_cons_succ]
                  repeat (refine Dk.wpG_one rfl rfl rfl ?_; intro K hK; go_big_quiet_op; go_big_quiet_on)
                  rw [H2J.out, HUJ.out]
                  refine Dk.wpG_make (WdT m zs uj) rfl rfl (fun w' hw' hk => ?_) (fun u hu => ?_)
                  · have hk2 := hk ⟨3, .data⟩ (by simp) rfl _ 183 _ rfl rfl rfl (Nat.lt_of_lt_of_eq (by decide : 183 < 287) rfl) rfl
                    obtain ⟨A3, c3, he, _, _, hr⟩ := hk2.now
                    obtain ⟨rfl, rfl⟩ : A2 = A3 ∧ c2 = c3 := by
                      injection he with e1 e2 e3
                      exact ⟨e1, e3⟩
                    go_simp
                    exact win_grow (CW2.out w' A2 c2 hr)
                  obtain ⟨_, _, A6, c6, l6, rfl, _, _⟩ := hu
                  obtain ⟨n6, hn6⟩ : ∃ n, l6.length = n := ⟨_, rfl⟩
                  rw [hn6, HM1.out]
                  clear hn6
                  simp only [Act.put, List.setIfInBounds_toArray, List.set_cons_zero, List.set_cons_succ]
                  repeat (refine Dk.wpG_one rfl rfl rfl ?_; intro K hK; go_big_quiet_op; go_big_quiet_on)
                  refine Dk.wpG_nil (fun w5 hw5 hG => ?_)
                  obtain ⟨l1, rfl, hwin1, hrd1⟩ := (Box.now hG.2).same
                  clear hG
                  refine Dl.wpTailH_cons (wp_assign _ (.slice A6 l1.length c6) rfl rfl ⟨hw5, ?_⟩)
                  refine Dl.wpTailH_cons (wp_assign _ (I 0) rfl rfl ⟨hw5, ?_⟩)
                  refine Dl.wpTailH_nil ?_
                  simp only [Act.put, List.setIfInBounds_toArray, List.set_cons_zero, List.set_cons_succ]
                  obtain ⟨x5, rfl⟩ := hw5
                  have HW1 := Lib.hid (hwin1.ok HM1.out)
                  have HLN1 := Lib.hid hwin1.len
                  have hrd1' := Lib.hid hrd1
                  clear hrd1 hwin1
                  have hbV2 := ovr_below Y9 x5
                  obtain ⟨V2, hV2⟩ : ∃ V2, V2 = ovr Y9 x5 := ⟨_, rfl⟩
                  rw [← hV2] at hbV2
                  rw [← hV2]
                  have hV2' := Lib.hid hV2
                  clear hV2
                  have hbV2' := Lib.hid hbV2
                  have reV2 : ∀ v, ∃ x, ovr V2 v = ovr Y9 x := fun v => ovr_reB hbV2 v
                  replace yW00 := tr_cell reV2 yW00
                  replace yW01 := tr_cell reV2 yW01
                  replace yW02 := tr_cell reV2 yW02
                  replace yW03 := tr_cell reV2 yW03
                  replace yW04 := tr_cell reV2 yW04
                  replace yW05 := tr_cell reV2 yW05
                  replace yW06 := tr_cell reV2 yW06
                  replace yW07 := tr_cell reV2 yW07
                  replace yW08 := tr_cell reV2 yW08
                  replace RrowW0 := Lib.hid (tr_row reV2 RrowW0.out)
                  replace yW10 := tr_cell reV2 yW10
                  replace yW11 := tr_cell reV2 yW11
                  replace yW12 := tr_cell reV2 yW12
                  replace RrowW1 := Lib.hid (tr_row reV2 RrowW1.out)
                  replace yW20 := tr_cell reV2 yW20
                  replace yW21 := tr_cell reV2 yW21
                  replace yW22 := tr_cell reV2 yW22
                  replace yW23 := tr_cell reV2 yW23
                  replace yW24 := tr_cell reV2 yW24
                  replace yW25 := tr_cell reV2 yW25
                  replace RrowW2 := Lib.hid (tr_row reV2 RrowW2.out)
                  have HUV2 : Hid (∀ u, Below w.heap.size w (ovr V2 u)) := fun u => by obtain ⟨x, hx⟩ := reV2 u; rw [hx]; exact HUY9.out x
                  clear reV2 hbV2
                  have HR1 : Hid (∀ q, Below V2.heap.size V2 q → Rd q V2.heap.size 2 A6 l1.length (rR l1)) := fun q hq => by
                    have h9 := hrd1'.out
                    rw [← hV2'.out] at h9
                    exact h9.below hq
                  clear hrd1'
                  have HVV2 : Hid (Below V.heap.size V V2) := HVT.out.trans ((hbY9'.out.trans (hbV2'.out.mono hbY9'.out.size)).mono HVT.out.size)
                  have CZ2 : Hid (∀ u, Calls Try.prog 21 #[.slice A zs.length c] (ovr V2 u) (RetLc (ovr V2 u) 2 zs.length (rR zs))) := fun u => CZ.out _ (HUV2.out u)
                  obtain ⟨hfk, hfs⟩ := wh_few H0.out
                  have htl : zs.tail.length = zs.length - 1 := List.length_tail
                  obtain ⟨zt, hzt⟩ : ∃ l, zs.tail = l := ⟨_, rfl⟩
                  rw [hzt] at hfk hfs htl
                  have HZT := Lib.hid hzt
                  have HTL := Lib.hid htl
                  have HFK := Lib.hid hfk
                  have HFS := Lib.hid hfs
                  have CW3 : Hid (∀ V A' c', Rd V V.heap.size 2 A' zt.length (rR zt) → Calls Try.prog 20 #[.agg (mdA m), .slice A' zt.length c', .int .u8 u] V (RetW V m zt u)) := fun V A' c' h => window_any m A' c' zt u V V.heap.size (by rw [HTL.out]; have := HF.out.a; omega) (Nat.le_refl _) h HU.out.1
                  clear hfk hfs hzt htl
                  obtain ⟨s0, hs0⟩ := ovr_self V2
                  rw [hs0]
                  clear hs0
                  go_wp2_with fail
                  refine (CZ2.out _).mono ?_
                  rintro e w1 ⟨A7, c7, rfl, hc7, hm7, hr7, hb7⟩
                  have hw1 : Below V2.heap.size V2 w1 := (ovr_below V2 s0).trans (hb7.mono (ovr_below V2 s0).size)
                  have HC7 := Lib.hid hc7
                  obtain ⟨s1, rfl⟩ : ∃ u, w1 = ovr V2 u := ⟨w1, ovr_of hw1⟩
                  have HR7 := Lib.hid hr7
                  clear hr7 hb7 hw1 hm7 hc7
                  go_upto_if 200 with fail
                  go_cut [16] (fun s wx => ∃ A8 c8, s = .slice A8 zt.length c8 ∧ Rd wx wx.heap.size 2 A8 zt.length (rR zt) ∧ Below V2.heap.size V2 wx)
                  case first =>
                    as_aux_lemma =>
                      by_cases h0 : 0 < zs.length
                      · obtain ⟨b7, o7, hA7, _, _, _⟩ := HR7.out.rng h0
                        subst hA7
                        have H00 := Lib.hid h0
                        have d1 : decide ((0 : Int) < (zs.length : Int)) = true := decide_eq_true (by omega)
                        have d2 : decide (0 < zs.length) = true := decide_eq_true h0
                        clear h0
                        go_wp2_with (with_reducible show wpList _ _ _ (⟨some 202, _, _, _, _, _⟩ :: _) _ _; refine Hid.out ?_)
                        refine Lib.hid ?_
                        refine wpList_slice_tail rfl 41 23 _ _ rfl Try.underlying41 (fun w => rfl) _ b7 o7 c7 zs rfl rfl H00.out HC7.out HR7.out ?_
                        rw [HZT.out]
                        intro A8 hr8
                        have HR8 := Lib.hid hr8
                        clear hr8
                        go_wp2_with fail
                        go_meet
                        case rel => exact ⟨A8, c7 - 1, rfl, HR8.out, ovr_below _ _⟩
                      · have d1 : decide ((0 : Int) < (zs.length : Int)) = false := decide_eq_false (by omega)
                        have d2 : decide (0 < zs.length) = false := decide_eq_false h0
                        have hz0 : zs.length = 0 := by omega
                        have hzt : Hid (zt.length = 0) := by show _ = 0; rw [HTL.out]; omega
                        go_wp2_with fail
                        go_meet
                        case rel => exact ⟨A7, c7, by rw [hzt.out, hz0], by rw [hzt.out]; exact Rd.nil, ovr_below _ _⟩
                  case rest =>
                    as_aux_lemma =>
                      obtain ⟨A8, c8, rfl, hr8, hb8⟩ := hcut
                      obtain ⟨s2, rfl⟩ : ∃ u, wc = ovr V2 u := ⟨wc, ovr_of hb8⟩
                      have HR8 := Lib.hid hr8
                      clear hr8 hb8
                      go_wp2_with fail
                      refine (CW3.out _ A8 c8 HR8.out).mono ?_
                      intro e V3 hret
                      obtain ⟨VV, he, hb9, hwd⟩ := win_T hret
                      obtain ⟨A9, c9, l2, hVV, hwin2, hr9⟩ := hwd
                      subst he hVV
                      rw [HFK.out]
                      have hb2 : Below V2.heap.size V2 V3 := (ovr_below V2 s2).trans (hb9.mono (ovr_below V2 s2).size)
                      have HW2 := Lib.hid (hwin2.ok HFK.out)
                      have HLN2 := Lib.hid hwin2.len
                      have HR9 := Lib.hid hr9
                      have HB2 := Lib.hid hb2
                      have HVV3 : Hid (Below V.heap.size V V3) := HVV2.out.trans (hb2.mono HVV2.out.size)
                      clear hret hwin2 hb9 hr9
                      have reV3 : ∀ v, ∃ x, ovr V3 v = ovr V2 x := fun v => ovr_reB hb2 v
                      replace yW00 := tr_cell reV3 yW00
                      replace yW01 := tr_cell reV3 yW01
                      replace yW02 := tr_cell reV3 yW02
                      replace yW03 := tr_cell reV3 yW03
                      replace yW04 := tr_cell reV3 yW04
                      replace yW05 := tr_cell reV3 yW05
                      replace yW06 := tr_cell reV3 yW06
                      replace yW07 := tr_cell reV3 yW07
                      replace yW08 := tr_cell reV3 yW08
                      replace RrowW0 := Lib.hid (tr_row reV3 RrowW0.out)
                      replace yW10 := tr_cell reV3 yW10
                      replace yW11 := tr_cell reV3 yW11
                      replace yW12 := tr_cell reV3 yW12
                      replace RrowW1 := Lib.hid (tr_row reV3 RrowW1.out)
                      replace yW20 := tr_cell reV3 yW20
                      replace yW21 := tr_cell reV3 yW21
                      replace yW22 := tr_cell reV3 yW22
                      replace yW23 := tr_cell reV3 yW23
                      replace yW24 := tr_cell reV3 yW24
                      replace yW25 := tr_cell reV3 yW25
                      replace RrowW2 := Lib.hid (tr_row reV3 RrowW2.out)
                      have HUV3 : Hid (∀ u, Below w.heap.size w (ovr V3 u)) := fun u => by obtain ⟨x, hx⟩ := reV3 u; rw [hx]; exact HUV2.out x
                      clear reV3 hb2
                      have CB : Hid (∀ V' v', Below w.heap.size w V' → 0 ≤ v' ∧ v' ≤ 1000000 → Calls Try.prog 27 #[.agg (mdA m), .agg #[.slice A zs.length c, .int .u8 u, I rt], I v'] V' fun e w' => e = .returned (.bool (barB (whyL m u v' zs))) ∧ Below V'.heap.size V' w') := fun V' v' hV hv => bare_any m A c zs u rt v' V' w.heap.size HF.out hV.size (HX.out V' hV) H0.out hv
                      obtain ⟨q0, hq0⟩ := ovr_self V3
                      rw [hq0]
                      clear hq0
                      go_upto_region 28 with fail
                      go_cut [232] (fun s wx => s = .bool false ∧ Below V3.heap.size V3 wx)
                      case first =>
                        as_aux_lemma =>
                          rcases hq : whyL m u v zs with _ | ⟨i, k⟩
                          · have hz := HZQ.out
                            rw [hq] at hz
                            injection hz with hz1 hz2
                            subst hz1 hz2
                            have hbar : barB (whyL m u v zs) = true := by rw [hq]; rfl
                            have h1 := wh_sub HW1.out HM3.out HV.out hbar
                            have h2 := wh_sub HW2.out HFS.out HV.out hbar
                            have CH1 : Hid (∀ V', Below V3.heap.size V3 V' → Calls Try.prog 24 #[.slice A6 l1.length c6, I v] V' fun e w' => e = .returned (.bool true) ∧ Below V'.heap.size V' w') := fun V' h => by
                              have hh := HB2.out.trans (h.mono HB2.out.size)
                              have h9 := hasRate_any A6 c6 l1 v V' V2.heap.size (by have := HLN1.out; omega) hh.size (HR1.out V' hh)
                              rw [h1] at h9
                              exact h9
                            have CH2 : Hid (∀ V', Below V3.heap.size V3 V' → Calls Try.prog 24 #[.slice A9 l2.length c9, I v] V' fun e w' => e = .returned (.bool true) ∧ Below V'.heap.size V' w') := fun V' h => by
                              have h9 := hasRate_any A9 c9 l2 v V' V3.heap.size (by have := HLN2.out; omega) h.size (HR9.out.below h)
                              rw [h2] at h9
                              exact h9
                            clear hbar h1 h2 hq
                            go_wp2_with fail
                            refine (CH1.out _ (ovr_below V3 _)).mono ?_
                            rintro e w1 ⟨rfl, hb1⟩
                            obtain ⟨q1, rfl⟩ := ovr_next hb1
                            clear hb1
                            go_wp2_with fail
                            refine (CH2.out _ (ovr_below V3 _)).mono ?_
                            rintro e w1 ⟨rfl, hb1⟩
                            obtain ⟨q2, rfl⟩ := ovr_next hb1
                            clear hb1
                            go_wp2_with fail
                            go_meet
                            case rel => exact ⟨rfl, ovr_below _ _⟩
                          · have hz := HZQ.out
                            rw [hq] at hz
                            injection hz with hz1 hz2
                            subst hz1 hz2
                            clear hq
                            have hne : ((i : Int) == -1) = false := beq_eq_false_iff_ne.2 (by omega)
                            go_wp2_with fail
                            go_meet
                            case rel => exact ⟨rfl, ovr_below _ _⟩
                      case rest =>
                        as_aux_lemma =>
                          obtain ⟨rfl, hbt⟩ := hcut
                          obtain ⟨q2, rfl⟩ : ∃ u, wc = ovr V3 u := ⟨wc, ovr_of hbt⟩
                          clear hbt
                          by_cases hl0 : l.length = 0
                          · rw [hl0]
                            go_wp2_with fail
                            go_loopw [19] (fun i wr => i = I 0 ∧ ∃ x : World, wr = ovr V3 x) (fun _ _ => 0)
                            case atStart => exact ⟨rfl, q2, rfl⟩
                            case round =>
                              obtain ⟨rfl, x, rfl⟩ := hrel
                              go_wp2_with fail
                              refine (KN.out _).mono ?_
                              rintro e w1 ⟨rfl, hb1⟩
                              obtain ⟨vk, rfl⟩ := ovr_next hb1
                              clear hb1
                              go_wp2_with fail
                              go_ret
                              exact ⟨rfl, HUV3.out _⟩
                          obtain ⟨lb, lo, hA4, _, _, _⟩ := (HR.out V3 HVV3.out).rng (k := 0) (by omega)
                          subst hA4
                          clear hl0
                          go_wp2_with fail
                          go_loopw [19] (fun i wr => ∃ (n : Nat) (x : World), n ≤ l.length ∧ i = .int .i64 n ∧ wr = ovr V3 x) (fun i _ => l.length - (intOf i).toNat)
                          case atStart => exact ⟨0, q2, by omega, rfl, rfl⟩
                          case round =>
                            obtain ⟨n, x, hnl, rfl, rfl⟩ := hrel
                            have hln : n ≤ 101 := by have := HLN.out; omega
                            by_cases hlt : n < l.length
                            · have HLT := Lib.hid hlt
                              have hwi := wh_in HW.out hlt
                              have hnx := wh_next HW.out hlt
                              have hpv : Hid (0 < n → (at0 l (n - 1)).hi + 2 ≤ (at0 l n).lo) := fun h0 => by
                                have := runs_at HW.out.runs (n - 1) (by omega)
                                rw [show n - 1 + 1 = n by omega] at this
                                exact this
                              have hVx : Below V.heap.size V (ovr V3 x) := HVV3.out.trans ((ovr_below V3 x).mono HVV3.out.size)
                              obtain ⟨e0, e1⟩ := rd_at2 (HR.out (ovr V3 x) hVx) hlt
                              obtain ⟨⟨ra, rb⟩, hr⟩ : ∃ r, at0 l n = r := ⟨_, rfl⟩
                              rw [hr] at e0 e1 hwi hnx hpv
                              simp only at e0 e1 hwi hnx
                              have HPV := Lib.hid hpv.out
                              have HWI2 := Lib.hid hwi
                              have HNX := Lib.hid hnx
                              clear hwi hnx hpv hr hVx
                              go_upto_region 34 with fail
                              clear e0 e1
                              refine name_w fun T' hT' => ?_
                              obtain ⟨bt, hbt⟩ : ∃ T, T = (ovr V3 x).heap.size := ⟨_, rfl⟩
                              have rV : T'.heap[bt]? = some (.cells #[I ra, I rb] 23 (0, 0)) := by rw [hT']; exact heap_last _ _ _ hbt
                              have bV : Below V3.heap.size V3 T' := by rw [hT']; exact (ovr_below V3 x).alloc (ovr_below V3 x).size _
                              rw [← hbt]
                              have BV := Lib.hid bV
                              clear hT' hbt
                              have reT' : ∀ v, ∃ x, ovr T' v = ovr V3 x := fun v => ovr_reB bV v
                              replace yW00 := tr_cell reT' yW00
                              replace yW01 := tr_cell reT' yW01
                              replace yW02 := tr_cell reT' yW02
                              replace yW03 := tr_cell reT' yW03
                              replace yW04 := tr_cell reT' yW04
                              replace yW05 := tr_cell reT' yW05
                              replace yW06 := tr_cell reT' yW06
                              replace yW07 := tr_cell reT' yW07
                              replace yW08 := tr_cell reT' yW08
                              replace RrowW0 := Lib.hid (tr_row reT' RrowW0.out)
                              replace yW10 := tr_cell reT' yW10
                              replace yW11 := tr_cell reT' yW11
                              replace yW12 := tr_cell reT' yW12
                              replace RrowW1 := Lib.hid (tr_row reT' RrowW1.out)
                              replace yW20 := tr_cell reT' yW20
                              replace yW21 := tr_cell reT' yW21
                              replace yW22 := tr_cell reT' yW22
                              replace yW23 := tr_cell reT' yW23
                              replace yW24 := tr_cell reT' yW24
                              replace yW25 := tr_cell reT' yW25
                              replace RrowW2 := Lib.hid (tr_row reT' RrowW2.out)
                              have yT'00 := ovr_cell (W := T') (b := bt) (o := 0) (v := I ra) (by rw [cell_of_row _ _ _ _ _ _ rV]; rfl)
                              have yT'01 := ovr_cell (W := T') (b := bt) (o := 1) (v := I rb) (by rw [cell_of_row _ _ _ _ _ _ rV]; rfl)
                              have RrowT'0 := Lib.hid (ovr_row rV)
                              clear rV
                              have HUT' : Hid (∀ u, Below w.heap.size w (ovr T' u)) := fun u => by obtain ⟨x, hx⟩ := reT' u; rw [hx]; exact HUV3.out x
                              clear reT' bV
                              have CF : Hid (∀ V', Calls Try.prog 26 #[.agg #[I ra, I rb], I 0, I 1000000] V' fun e w' => e = .returned (.bool true) ∧ Below V'.heap.size V' w') := fun V' => fitsR_any ⟨ra, rb⟩ 0 1000000 V' HWI2.out.1 HWI2.out.2.1 HWI2.out.2.2
                              have hra := HWI2.out
                              have ka : IntKind.i64.wrap (ra - 1) = ra - 1 := IntWalk.i64_in _ (by omega)
                              have kb : IntKind.i64.wrap (rb + 1) = rb + 1 := IntWalk.i64_in _ (by omega)
                              clear hra
                              by_cases h0 : 0 < n
                              · obtain ⟨⟨pa, pb⟩, hp⟩ : ∃ r, at0 l (n - 1) = r := ⟨_, rfl⟩
                                have hpv := HPV.out h0
                                obtain ⟨_, f1⟩ := rd_at2 (HR.out T' (HVV3.out.trans (BV.out.mono HVV3.out.size))) (k := n - 1) (by have := HLT.out; omega)
                                rw [hp] at f1 hpv
                                simp only at f1 hpv
                                have c1 := ovr_cell f1
                                have d0 : decide (0 < (n : Int)) = true := decide_eq_true (by omega)
                                have q0 : decide (0 < n) = true := decide_eq_true h0
                                have kk : IntKind.i64.wrap ((n : Int) - 1) = ((n - 1 : Nat) : Int) := by rw [show ((n - 1 : Nat) : Int) = (n : Int) - 1 by omega]; exact IntWalk.i64_in _ (by omega)
                                have d3 : decide (ra - 1 ≤ pb) = false := decide_eq_false (by omega)
                                have hn1 : n - 1 < l.length := by have := HLT.out; omega
                                clear hp hpv f1 h0
                                refine wp_region_below_lit (by kernel_rfl) (by kernel_rfl) ?_
                                go_big_quiet_step (fail)
                                go_big_quiet_step ((go_at_call 26; exact call_below (CF.out _)))
                                repeat (go_big_quiet_step (fail))
                                refine wpQuiet_nil ?_
                                intro Z hZ
                                obtain ⟨z1, rfl⟩ : ∃ u, Z = ovr T' u := ⟨Z, ovr_of hZ⟩
                                clear hZ c1 d0 q0 kk d3 hn1
                                by_cases p1 : 0 < ra
                                · have CB1 : Hid (∀ V', Below w.heap.size w V' → Calls Try.prog 27 #[.agg (mdA m), .agg #[.slice A zs.length c, .int .u8 u, I rt], I (ra - 1)] V' fun e w' => e = .returned (.bool false) ∧ Below V'.heap.size V' w') := fun V' hV => by
                                    have h9 := CB.out V' (ra - 1) hV (by have := HWI2.out; omega)
                                    rw [HNX.out.1 p1] at h9
                                    exact h9
                                  have d1 := decide_eq_true p1
                                  clear p1
                                  go_wp2_with fail
                                  refine (CB1.out _ (HUT'.out _)).mono ?_
                                  rintro e w1 ⟨rfl, hb1⟩
                                  obtain ⟨z8, rfl⟩ := ovr_next hb1
                                  clear hb1
                                  by_cases p2 : rb < 1000000
                                  · have CB2 : Hid (∀ V', Below w.heap.size w V' → Calls Try.prog 27 #[.agg (mdA m), .agg #[.slice A zs.length c, .int .u8 u, I rt], I (rb + 1)] V' fun e w' => e = .returned (.bool false) ∧ Below V'.heap.size V' w') := fun V' hV => by
                                      have h9 := CB.out V' (rb + 1) hV (by have := HWI2.out; omega)
                                      rw [HNX.out.2 p2] at h9
                                      exact h9
                                    have d2 := decide_eq_true p2
                                    clear p2
                                    go_wp2_with fail
                                    refine (CB2.out _ (HUT'.out _)).mono ?_
                                    rintro e w1 ⟨rfl, hb1⟩
                                    obtain ⟨z9, rfl⟩ := ovr_next hb1
                                    clear hb1
                                    go_wp2_with fail
                                    exact ⟨⟨n + 1, _, HLT.out, rfl, ovr_of (BV.out.trans ((ovr_below T' _).mono BV.out.size))⟩, by have := HLT.out; simp [intOf]; omega⟩
                                  · have d2 := decide_eq_false p2
                                    clear p2
                                    go_wp2_with fail
                                    exact ⟨⟨n + 1, _, HLT.out, rfl, ovr_of (BV.out.trans ((ovr_below T' _).mono BV.out.size))⟩, by have := HLT.out; simp [intOf]; omega⟩
                                · have d1 := decide_eq_false p1
                                  clear p1
                                  by_cases p2 : rb < 1000000
                                  · have CB2 : Hid (∀ V', Below w.heap.size w V' → Calls Try.prog 27 #[.agg (mdA m), .agg #[.slice A zs.length c, .int .u8 u, I rt], I (rb + 1)] V' fun e w' => e = .returned (.bool false) ∧ Below V'.heap.size V' w') := fun V' hV => by
                                      have h9 := CB.out V' (rb + 1) hV (by have := HWI2.out; omega)
                                      rw [HNX.out.2 p2] at h9
                                      exact h9
                                    have d2 := decide_eq_true p2
                                    clear p2
                                    go_wp2_with fail
                                    refine (CB2.out _ (HUT'.out _)).mono ?_
                                    rintro e w1 ⟨rfl, hb1⟩
                                    obtain ⟨z9, rfl⟩ := ovr_next hb1
                                    clear hb1
                                    go_wp2_with fail
                                    exact ⟨⟨n + 1, _, HLT.out, rfl, ovr_of (BV.out.trans ((ovr_below T' _).mono BV.out.size))⟩, by have := HLT.out; simp [intOf]; omega⟩
                                  · have d2 := decide_eq_false p2
                                    clear p2
                                    go_wp2_with fail
                                    exact ⟨⟨n + 1, _, HLT.out, rfl, ovr_of (BV.out.trans ((ovr_below T' _).mono BV.out.size))⟩, by have := HLT.out; simp [intOf]; omega⟩
                              · have d0 : decide (0 < (n : Int)) = false := decide_eq_false (by omega)
                                have q0 : decide (0 < n) = false := decide_eq_false h0
                                clear h0
                                refine wp_region_below_lit (by kernel_rfl) (by kernel_rfl) ?_
                                go_big_quiet_step (fail)
                                go_big_quiet_step ((go_at_call 26; exact call_below (CF.out _)))
                                repeat (go_big_quiet_step (fail))
                                refine wpQuiet_nil ?_
                                intro Z hZ
                                obtain ⟨z1, rfl⟩ : ∃ u, Z = ovr T' u := ⟨Z, ovr_of hZ⟩
                                clear hZ d0 q0
                                by_cases p1 : 0 < ra
                                · have CB1 : Hid (∀ V', Below w.heap.size w V' → Calls Try.prog 27 #[.agg (mdA m), .agg #[.slice A zs.length c, .int .u8 u, I rt], I (ra - 1)] V' fun e w' => e = .returned (.bool false) ∧ Below V'.heap.size V' w') := fun V' hV => by
                                    have h9 := CB.out V' (ra - 1) hV (by have := HWI2.out; omega)
                                    rw [HNX.out.1 p1] at h9
                                    exact h9
                                  have d1 := decide_eq_true p1
                                  clear p1
                                  go_wp2_with fail
                                  refine (CB1.out _ (HUT'.out _)).mono ?_
                                  rintro e w1 ⟨rfl, hb1⟩
                                  obtain ⟨z8, rfl⟩ := ovr_next hb1
                                  clear hb1
                                  by_cases p2 : rb < 1000000
                                  · have CB2 : Hid (∀ V', Below w.heap.size w V' → Calls Try.prog 27 #[.agg (mdA m), .agg #[.slice A zs.length c, .int .u8 u, I rt], I (rb + 1)] V' fun e w' => e = .returned (.bool false) ∧ Below V'.heap.size V' w') := fun V' hV => by
                                      have h9 := CB.out V' (rb + 1) hV (by have := HWI2.out; omega)
                                      rw [HNX.out.2 p2] at h9
                                      exact h9
                                    have d2 := decide_eq_true p2
                                    clear p2
                                    go_wp2_with fail
                                    refine (CB2.out _ (HUT'.out _)).mono ?_
                                    rintro e w1 ⟨rfl, hb1⟩
                                    obtain ⟨z9, rfl⟩ := ovr_next hb1
                                    clear hb1
                                    go_wp2_with fail
                                    exact ⟨⟨n + 1, _, HLT.out, rfl, ovr_of (BV.out.trans ((ovr_below T' _).mono BV.out.size))⟩, by have := HLT.out; simp [intOf]; omega⟩
                                  · have d2 := decide_eq_false p2
                                    clear p2
                                    go_wp2_with fail
                                    exact ⟨⟨n + 1, _, HLT.out, rfl, ovr_of (BV.out.trans ((ovr_below T' _).mono BV.out.size))⟩, by have := HLT.out; simp [intOf]; omega⟩
                                · have d1 := decide_eq_false p1
                                  clear p1
                                  by_cases p2 : rb < 1000000
                                  · have CB2 : Hid (∀ V', Below w.heap.size w V' → Calls Try.prog 27 #[.agg (mdA m), .agg #[.slice A zs.length c, .int .u8 u, I rt], I (rb + 1)] V' fun e w' => e = .returned (.bool false) ∧ Below V'.heap.size V' w') := fun V' hV => by
                                      have h9 := CB.out V' (rb + 1) hV (by have := HWI2.out; omega)
                                      rw [HNX.out.2 p2] at h9
                                      exact h9
                                    have d2 := decide_eq_true p2
                                    clear p2
                                    go_wp2_with fail
                                    refine (CB2.out _ (HUT'.out _)).mono ?_
                                    rintro e w1 ⟨rfl, hb1⟩
                                    obtain ⟨z9, rfl⟩ := ovr_next hb1
                                    clear hb1
                                    go_wp2_with fail
                                    exact ⟨⟨n + 1, _, HLT.out, rfl, ovr_of (BV.out.trans ((ovr_below T' _).mono BV.out.size))⟩, by have := HLT.out; simp [intOf]; omega⟩
                                  · have d2 := decide_eq_false p2
                                    clear p2
                                    go_wp2_with fail
                                    exact ⟨⟨n + 1, _, HLT.out, rfl, ovr_of (BV.out.trans ((ovr_below T' _).mono BV.out.size))⟩, by have := HLT.out; simp [intOf]; omega⟩
                            · go_wp2_with fail
                              refine (KN.out _).mono ?_
                              rintro e w1 ⟨rfl, hb1⟩
                              obtain ⟨vk, rfl⟩ := ovr_next hb1
                              clear hb1
                              go_wp2_with fail
                              go_ret
                              exact ⟨rfl, HUV3.out _⟩
end Go.Proofs.Yteibgenkklpoaaa.Un
