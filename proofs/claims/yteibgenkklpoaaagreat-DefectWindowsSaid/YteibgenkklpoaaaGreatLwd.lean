/- The law DefectWindows: its walk. -/
import Derived.Test.YteibgenkklpoaaaGreatWh1
import Derived.Test.YteibgenkklpoaaaGreatDz3
namespace Go.Proofs.YteibgenkklpoaaaGreat.Un
open Go.RowKit
theorem whyF_cases (m : Mdl) (zs : List Rng) (u v : Int) : ∃ zi zk ze : Int, whyF m zs u v = .tuple #[I zi, I zk, I ze] ∧ (ckF m zs u ≠ 0 → zi = 0 ∧ zk = 0 ∧ ze = ckF m zs u) ∧ (ckF m zs u = 0 → (v < 0 ∨ 1000000 < v) → zi = 0 ∧ zk = 0 ∧ ze = 3) ∧ (ckF m zs u = 0 → ¬ (v < 0 ∨ 1000000 < v) → zi = (whyP (whyL m u v zs)).1 ∧ zk = (whyP (whyL m u v zs)).2 ∧ ze = 0) := by
  by_cases h1 : ckF m zs u = 0
  · by_cases h2 : v < 0 ∨ 1000000 < v
    · exact ⟨0, 0, 3, by unfold whyF; rw [if_neg (by omega), if_pos h2], fun h => absurd h1 h, fun _ _ => ⟨rfl, rfl, rfl⟩, fun _ h => absurd h2 h⟩
    · refine ⟨(whyP (whyL m u v zs)).1, (whyP (whyL m u v zs)).2, 0, ?_, fun h => absurd h1 h, fun _ h => absurd h h2, fun _ _ => ⟨rfl, rfl, rfl⟩⟩
      unfold whyF
      rw [if_neg (by omega), if_neg h2]
      rcases whyL m u v zs with _ | ⟨i, k⟩ <;> rfl
  · exact ⟨0, 0, ckF m zs u, by unfold whyF; rw [if_pos h1], fun _ => ⟨rfl, rfl, rfl⟩, fun h => absurd h h1, fun h => absurd h h1⟩
set_option maxRecDepth 100000 in
set_option maxHeartbeats 8000000 in
theorem defectWindows_any (m : Mdl) (A : Option Addr) (c : Nat) (zs : List Rng) (u rt : Int) (w : World) (hx : Rd w w.heap.size 2 A zs.length (rR zs)) (hu : 0 ≤ u ∧ u ≤ 255) :
    Calls Tryz.prog 3 #[.agg (mdA m), .agg #[.slice A zs.length c, .int .u8 u, I rt]] w fun e w' => e = .returned (.bool true) ∧ Below w.heap.size w w' := by
  have KN := Lib.hid known_any
  have HX : Hid (∀ V, Below w.heap.size w V → Rd V w.heap.size 2 A zs.length (rR zs)) := fun V hV => hx.below hV
  have HU := Lib.hid hu
  clear hx hu
  obtain ⟨W, hW⟩ : ∃ W, W = ((w.alloc (.cells #[I m.sc, I (m.b 0).lo, I (m.b 0).hi, I (m.b 1).lo, I (m.b 1).hi, I (m.b 2).lo, I (m.b 2).hi, I (m.b 3).lo, I (m.b 3).hi] 26)).alloc (.cells #[.slice A zs.length c, .int .u8 u, I rt] 30)) := ⟨_, rfl⟩
  have rowW0 : W.heap[w.heap.size]? = some (.cells #[I m.sc, I (m.b 0).lo, I (m.b 0).hi, I (m.b 1).lo, I (m.b 1).hi, I (m.b 2).lo, I (m.b 2).hi, I (m.b 3).lo, I (m.b 3).hi] 26 (0, 0)) := by rw [hW]; exact heap_before (heap_last _ _ _ rfl)
  have yW00 := ovr_cell (W := W) (b := w.heap.size) (o := 0) (v := I m.sc) (by rw [cell_of_row _ _ _ _ _ _ rowW0]; rfl)
  have yW01 := ovr_cell (W := W) (b := w.heap.size) (o := 1) (v := I (m.b 0).lo) (by rw [cell_of_row _ _ _ _ _ _ rowW0]; rfl)
  have yW02 := ovr_cell (W := W) (b := w.heap.size) (o := 2) (v := I (m.b 0).hi) (by rw [cell_of_row _ _ _ _ _ _ rowW0]; rfl)
  have yW03 := ovr_cell (W := W) (b := w.heap.size) (o := 3) (v := I (m.b 1).lo) (by rw [cell_of_row _ _ _ _ _ _ rowW0]; rfl)
  have yW04 := ovr_cell (W := W) (b := w.heap.size) (o := 4) (v := I (m.b 1).hi) (by rw [cell_of_row _ _ _ _ _ _ rowW0]; rfl)
  have yW05 := ovr_cell (W := W) (b := w.heap.size) (o := 5) (v := I (m.b 2).lo) (by rw [cell_of_row _ _ _ _ _ _ rowW0]; rfl)
  have yW06 := ovr_cell (W := W) (b := w.heap.size) (o := 6) (v := I (m.b 2).hi) (by rw [cell_of_row _ _ _ _ _ _ rowW0]; rfl)
  have yW07 := ovr_cell (W := W) (b := w.heap.size) (o := 7) (v := I (m.b 3).lo) (by rw [cell_of_row _ _ _ _ _ _ rowW0]; rfl)
  have yW08 := ovr_cell (W := W) (b := w.heap.size) (o := 8) (v := I (m.b 3).hi) (by rw [cell_of_row _ _ _ _ _ _ rowW0]; rfl)
  have RrowW0 := Lib.hid (ovr_row rowW0)
  clear rowW0
  have rowW1 : W.heap[w.heap.size + 1]? = some (.cells #[.slice A zs.length c, .int .u8 u, I rt] 30 (0, 0)) := by rw [hW]; exact heap_last _ _ _ (by simp)
  have yW10 := ovr_cell (W := W) (b := w.heap.size + 1) (o := 0) (v := .slice A zs.length c) (by rw [cell_of_row _ _ _ _ _ _ rowW1]; rfl)
  have yW11 := ovr_cell (W := W) (b := w.heap.size + 1) (o := 1) (v := .int .u8 u) (by rw [cell_of_row _ _ _ _ _ _ rowW1]; rfl)
  have yW12 := ovr_cell (W := W) (b := w.heap.size + 1) (o := 2) (v := I rt) (by rw [cell_of_row _ _ _ _ _ _ rowW1]; rfl)
  have RrowW1 := Lib.hid (ovr_row rowW1)
  clear rowW1
  have HUW : Hid (∀ u, Below w.heap.size w (ovr W u)) := U2 hW
  have HW := Lib.hid hW
  clear hW
  have HWB : Hid (Below w.heap.size w W) := below_self0' HUW.out
  go_enter Tryz.func3, Tryz.ntmps3
  go_upto_region 1 with (fail)
  rw [← HW.out]
  obtain ⟨u0, hu0⟩ := ovr_self W
  rw [hu0]
  clear hu0
  by_cases h30 : 30 < zs.length
  · have d1 : decide ((30 : Int) < (zs.length : Int)) = true := decide_eq_true (by omega)
    go_wp2_with fail
    refine (KN.out _).mono ?_
    rintro e w1 ⟨rfl, hb1⟩
    obtain ⟨vk, rfl⟩ := ovr_next hb1
    clear hb1
    go_wp2_with fail
    go_ret
    exact ⟨rfl, HUW.out _⟩
  have d1 : decide ((30 : Int) < (zs.length : Int)) = false := decide_eq_false (by omega)
  have HF : Hid (Fits zs.length) := ⟨by unfold maxLen; omega, by omega⟩
  have HL : Hid (zs.length ≤ 30) := by show _ ≤ _; omega
  have CZ : Hid (∀ V, Below w.heap.size w V → Calls Tryz.prog 8 #[.slice A zs.length c] V (RetLc V 2 zs.length (rR zs))) := fun V hV => zones_any A zs.length c (rR zs) V w.heap.size HF.out hV.size (HX.out V hV)
  have CW : Hid (∀ V A' c', Rd V V.heap.size 2 A' zs.length (rR zs) → Calls Tryz.prog 7 #[.agg (mdA m), .slice A' zs.length c', .int .u8 u] V (RetW V m zs u)) := fun V A' c' h => window_any m A' c' zs u V V.heap.size HF.out.a (Nat.le_refl _) h HU.out.1
  obtain ⟨zi, zk, ze, hwf, hwc⟩ := whyF_cases m zs u rt
  have CY : Hid (∀ V A' c', Rd V V.heap.size 2 A' zs.length (rR zs) → Calls Tryz.prog 9 #[.agg (mdA m), .slice A' zs.length c', .int .u8 u, I rt] V fun e w' => e = .returned (.tuple #[I zi, I zk, I ze]) ∧ Below V.heap.size V w') := fun V A' c' h => by
    have := why_any m A' c' zs u rt V V.heap.size HF.out.a (Nat.le_refl _) h
    rw [hwf] at this
    exact this
  have HWC := Lib.hid hwc
  have CRZ : Hid (∀ V, Below w.heap.size w V → Calls Tryz.prog 11 #[.slice A zs.length c, .int .u8 u] V fun e w' => e = .returned (I (zE zs u)) ∧ Below V.heap.size V w') := fun V hV => refZones_any A c zs u V w.heap.size HF.out.a hV.size (HX.out V hV)
  have CRM : Hid (∀ V, Calls Tryz.prog 10 #[.agg (mdA m)] V fun e w' => e = .returned (.bool (okMdl m)) ∧ Below V.heap.size V w') := fun V => refModel_any m V
  have CRW : Hid (ckF m zs u = 0 → ∀ V, Below w.heap.size w V → Calls Tryz.prog 13 #[.agg (mdA m), .slice A zs.length c, .int .u8 u] V (RetWr V m zs u)) := fun hck V hV => refWindow_any m A c zs u V w.heap.size hV.size (HX.out V hV) hck HU.out.1
  have CRY : Hid (ckF m zs u = 0 → 0 ≤ rt ∧ rt ≤ 1000000 → ∀ V, Below w.heap.size w V → Calls Tryz.prog 14 #[.agg (mdA m), .slice A zs.length c, .int .u8 u, I rt] V fun e w' => e = .returned (.tuple #[I (whyP (whyL m u rt zs)).1, I (whyP (whyL m u rt zs)).2]) ∧ Below V.heap.size V w') := fun hck hr V hV => refWhy_any m A c zs u rt V w.heap.size hV.size (HX.out V hV) hck hr HU.out.1
  obtain ⟨ck, hck⟩ : ∃ k, ckF m zs u = k := ⟨_, rfl⟩
  have HCK := Lib.hid hck
  clear hck hwf hwc h30
  go_upto_region 3 with fail
  clear d1
  have hbY := ovr_below W u0
  obtain ⟨Y, hY⟩ : ∃ Y, Y = ovr W u0 := ⟨_, rfl⟩
  rw [← hY] at hbY
  rw [← hY]
  have hY' := Lib.hid hY
  clear hY
  have hbY' := Lib.hid hbY
  have reY : ∀ v, ∃ x, ovr Y v = ovr W x := fun v => ovr_reB hbY v
  replace yW00 := tr_cell reY yW00
  replace yW01 := tr_cell reY yW01
  replace yW02 := tr_cell reY yW02
  replace yW03 := tr_cell reY yW03
  replace yW04 := tr_cell reY yW04
  replace yW05 := tr_cell reY yW05
  replace yW06 := tr_cell reY yW06
  replace yW07 := tr_cell reY yW07
  replace yW08 := tr_cell reY yW08
  replace RrowW0 := Lib.hid (tr_row reY RrowW0.out)
  replace yW10 := tr_cell reY yW10
  replace yW11 := tr_cell reY yW11
  replace yW12 := tr_cell reY yW12
  replace RrowW1 := Lib.hid (tr_row reY RrowW1.out)
  have HUY : Hid (∀ u, Below w.heap.size w (ovr Y u)) := fun u => by obtain ⟨x, hx⟩ := reY u; rw [hx]; exact HUW.out x
  clear reY hbY
  refine Dl.wp_region_late 10 [9] (fun j => if j = 3 then some (SlK 2 zs.length (rR zs)) else if j = 6 then some (WdT m zs u) else none) (by kernel_rfl) (by kernel_rfl) (by kernel_rfl) (by kernel_rfl) [] (E := 23)
    ⟨by kernel_rfl, alloc_rng, fun j hj => by cases hj⟩ (by kernel_rfl) (fun i hi => by simp only [List.mem_cons, List.not_mem_nil, or_false] at hi; rcases hi with rfl; rfl) (fun c a d v w h => by cases d <;> exact h) ?_
  simp only [List.take_succ_cons, List.take_zero, List.drop_succ_cons, List.drop_zero]
  repeat (refine Dk.wpG_one rfl rfl rfl ?_; intro K hK; go_big_quiet_op; go_big_quiet_on)
  refine Dk.wpG_make (SlK 2 zs.length (rR zs)) rfl rfl (fun w' hw' _ => ?_) (fun u hu => ?_)
  · obtain ⟨x, rfl⟩ := hw'
    go_simp
    exact own_growK (CZ.out _ (HUY.out x))
  obtain ⟨_, _, A2, c2, rfl, _, _, _⟩ := hu
  simp only [Act.put, List.setIfInBounds_toArray, List.set_cons_zero, List.set_cons_succ]
  repeat (refine Dk.wpG_one rfl rfl rfl ?_; intro K hK; go_big_quiet_op; go_big_quiet_on)
  refine Dk.wpG_make (WdT m zs u) rfl rfl (fun w' hw' hk => ?_) (fun u hu => ?_)
  · have hk2 := hk ⟨3, .data⟩ (by simp) rfl _ 22 _ rfl rfl rfl (Nat.lt_of_lt_of_eq (by decide : 22 < 134) rfl) rfl
    obtain ⟨A3, c3, he, _, _, hr⟩ := hk2.now
    obtain ⟨rfl, rfl⟩ : A2 = A3 ∧ c2 = c3 := by
      injection he with e1 e2 e3
      exact ⟨e1, e3⟩
    go_simp
    exact win_grow (CW.out w' A2 c2 hr)
  obtain ⟨_, _, A4, c4, l0, rfl, _, _⟩ := hu
  obtain ⟨n4, hn4⟩ : ∃ n, l0.length = n := ⟨_, rfl⟩
  rw [hn4, HCK.out]
  clear hn4
  simp only [Act.put, List.setIfInBounds_toArray, List.set_cons_zero, List.set_cons_succ]
  repeat (refine Dk.wpG_one rfl rfl rfl ?_; intro K hK; go_big_quiet_op; go_big_quiet_on)
  refine Dk.wpG_nil (fun w5 hw5 hG => ?_)
  obtain ⟨l, rfl, hwin, hrd⟩ := (Box.now hG.2).same
  clear hG
  refine Dl.wpTailH_cons (wp_assign _ (.slice A4 l.length c4) rfl rfl ⟨hw5, ?_⟩)
  refine Dl.wpTailH_cons (wp_assign _ (I ck) rfl rfl ⟨hw5, ?_⟩)
  refine Dl.wpTailH_nil ?_
  simp only [Act.put, List.setIfInBounds_toArray, List.set_cons_zero, List.set_cons_succ]
  obtain ⟨x5, rfl⟩ := hw5
  have HWI := Lib.hid hwin
  clear hwin
  have hrd' := Lib.hid hrd
  clear hrd
  have hbV := ovr_below Y x5
  obtain ⟨V, hV⟩ : ∃ V, V = ovr Y x5 := ⟨_, rfl⟩
  rw [← hV] at hbV
  rw [← hV]
  have hV' := Lib.hid hV
  clear hV
  have hbV' := Lib.hid hbV
  have reV : ∀ v, ∃ x, ovr V v = ovr Y x := fun v => ovr_reB hbV v
  replace yW00 := tr_cell reV yW00
  replace yW01 := tr_cell reV yW01
  replace yW02 := tr_cell reV yW02
  replace yW03 := tr_cell reV yW03
  replace yW04 := tr_cell reV yW04
  replace yW05 := tr_cell reV yW05
  replace yW06 := tr_cell reV yW06
  replace yW07 := tr_cell reV yW07
  replace yW08 := tr_cell reV yW08
  replace RrowW0 := Lib.hid (tr_row reV RrowW0.out)
  replace yW10 := tr_cell reV yW10
  replace yW11 := tr_cell reV yW11
  replace yW12 := tr_cell reV yW12
  replace RrowW1 := Lib.hid (tr_row reV RrowW1.out)
  have HUV : Hid (∀ u, Below w.heap.size w (ovr V u)) := fun u => by obtain ⟨x, hx⟩ := reV u; rw [hx]; exact HUY.out x
  clear reV hbV
  have HR : Hid (∀ q, Below V.heap.size V q → Rd q V.heap.size 2 A4 l.length (rR l)) := fun q hq => by
    have h9 := hrd'.out
    rw [← hV'.out] at h9
    exact h9.below hq
  clear hrd'
  have HVB : Hid (Below w.heap.size w V) := below_self0' HUV.out
  obtain ⟨v0, hv0⟩ := ovr_self V
  rw [hv0]
  clear hv0
  go_upto_region 4 with fail
  have hbV4 := ovr_below V v0
  obtain ⟨V4, hV4⟩ : ∃ V4, V4 = ovr V v0 := ⟨_, rfl⟩
  rw [← hV4] at hbV4
  rw [← hV4]
  have hV4' := Lib.hid hV4
  clear hV4
  have hbV4' := Lib.hid hbV4
  have reV4 : ∀ v, ∃ x, ovr V4 v = ovr V x := fun v => ovr_reB hbV4 v
  replace yW00 := tr_cell reV4 yW00
  replace yW01 := tr_cell reV4 yW01
  replace yW02 := tr_cell reV4 yW02
  replace yW03 := tr_cell reV4 yW03
  replace yW04 := tr_cell reV4 yW04
  replace yW05 := tr_cell reV4 yW05
  replace yW06 := tr_cell reV4 yW06
  replace yW07 := tr_cell reV4 yW07
  replace yW08 := tr_cell reV4 yW08
  replace RrowW0 := Lib.hid (tr_row reV4 RrowW0.out)
  replace yW10 := tr_cell reV4 yW10
  replace yW11 := tr_cell reV4 yW11
  replace yW12 := tr_cell reV4 yW12
  replace RrowW1 := Lib.hid (tr_row reV4 RrowW1.out)
  have HUV4 : Hid (∀ u, Below w.heap.size w (ovr V4 u)) := fun u => by obtain ⟨x, hx⟩ := reV4 u; rw [hx]; exact HUV.out x
  clear reV4 hbV4
  refine Dl.wp_region_late 13 [11, 12] (fun j => if j = 3 then some (SlK 2 zs.length (rR zs)) else if j = 8 then some (fun u _ => u = .tuple #[I zi, I zk, I ze]) else none) (by kernel_rfl) (by kernel_rfl) (by kernel_rfl) (by kernel_rfl) [] (E := 23)
    ⟨by kernel_rfl, alloc_rng, fun j hj => by cases hj⟩ (by kernel_rfl) (fun i hi => by simp only [List.mem_cons, List.not_mem_nil, or_false] at hi; rcases hi with rfl | rfl <;> rfl) (fun c a d v w h => by cases d <;> exact h) ?_
  simp only [List.take_succ_cons, List.take_zero, List.drop_succ_cons, List.drop_zero]
  repeat (refine Dk.wpG_one rfl rfl rfl ?_; intro K hK; go_big_quiet_op; go_big_quiet_on)
  refine Dk.wpG_make (SlK 2 zs.length (rR zs)) rfl rfl (fun w' hw' _ => ?_) (fun u hu => ?_)
  · obtain ⟨x, rfl⟩ := hw'
    go_simp
    exact own_growK (CZ.out _ (HUV4.out x))
  obtain ⟨_, _, A6, c6, rfl, _, _, _⟩ := hu
  simp only [Act.put, List.setIfInBounds_toArray, List.set_cons_zero, List.set_cons_succ]
  repeat (refine Dk.wpG_one rfl rfl rfl ?_; intro K hK; go_big_quiet_op; go_big_quiet_on)
  refine Dk.wpG_make (fun u _ => u = .tuple #[I zi, I zk, I ze]) rfl rfl (fun w' hw' hk => ?_) (fun u hu => ?_)
  · have hk2 := hk ⟨3, .data⟩ (by simp) rfl _ 32 _ rfl rfl rfl (Nat.lt_of_lt_of_eq (by decide : 32 < 134) rfl) rfl
    obtain ⟨A3, c3, he, _, _, hr⟩ := hk2.now
    obtain ⟨rfl, rfl⟩ : A6 = A3 ∧ c6 = c3 := by
      injection he with e1 e2 e3
      exact ⟨e1, e3⟩
    go_simp
    exact call_grow (CY.out w' A6 c6 hr)
  obtain ⟨_, _, rfl⟩ := hu
  simp only [Act.put, List.setIfInBounds_toArray, List.set_cons_zero, List.set_cons_succ]
  repeat (refine Dk.wpG_one rfl rfl rfl ?_; intro K hK; go_big_quiet_op; go_big_quiet_on)
  refine Dk.wpG_nil (fun w5 hw5 _ => ?_)
  refine Dl.wpTailH_cons (wp_assign _ (I zi) rfl rfl ⟨hw5, ?_⟩)
  refine Dl.wpTailH_cons (wp_assign _ (I zk) rfl rfl ⟨hw5, ?_⟩)
  refine Dl.wpTailH_cons (wp_assign _ (I ze) rfl rfl ⟨hw5, ?_⟩)
  refine Dl.wpTailH_nil ?_
  simp only [Act.put, List.setIfInBounds_toArray, List.set_cons_zero, List.set_cons_succ]
  obtain ⟨v1, rfl⟩ := hw5
  rcases hok : okMdl m with _ | _
  · have h2 : ck = 2 := by rw [← HCK.out, ck_zE, hok]; rfl
    rw [hok] at CRM
    subst h2
    clear hok
    go_wp2_with fail
    refine (CRM.out _).mono ?_
    rintro e w1 ⟨rfl, hb1⟩
    obtain ⟨v2, rfl⟩ := ovr_next hb1
    clear hb1
    have hz := HWC.out.1 (by rw [HCK.out]; omega)
    rw [HCK.out] at hz
    obtain ⟨hz1, hz2, hz3⟩ := hz
    subst hz1 hz2 hz3
    have hl : l.length = 0 := by rw [HWI.out.no (by rw [HCK.out]; omega)]; rfl
    rw [hl]
    go_wp2_with fail
    refine (KN.out _).mono ?_
    rintro e w1 ⟨rfl, hb1⟩
    obtain ⟨vk, rfl⟩ := ovr_next hb1
    clear hb1
    go_wp2_with fail
    go_ret
    exact ⟨rfl, HUV4.out _⟩
  rw [hok] at CRM
  have h2 : ck = zE zs u := by rw [← HCK.out, ck_zE, hok]; rfl
  rw [← h2] at CRZ
  clear hok h2
  go_wp2_with fail
  refine (CRM.out _).mono ?_
  rintro e w1 ⟨rfl, hb1⟩
  obtain ⟨v2, rfl⟩ := ovr_next hb1
  clear hb1
  go_wp2_with fail
  refine (CRZ.out _ (HUV4.out _)).mono ?_
  rintro e w1 ⟨rfl, hb1⟩
  obtain ⟨v3, rfl⟩ := ovr_next hb1
  clear hb1
  by_cases h0 : ck = 0
  case neg =>
    have h1 := ck_cases m zs u
    rw [HCK.out] at h1
    rcases h1 with h1 | h1 | h1
    · exact absurd h1 h0
    · subst h1
      clear h0
      have hz := HWC.out.1 (by rw [HCK.out]; omega)
      rw [HCK.out] at hz
      obtain ⟨hz1, hz2, hz3⟩ := hz
      subst hz1 hz2 hz3
      have hl : l.length = 0 := by rw [HWI.out.no (by rw [HCK.out]; omega)]; rfl
      rw [hl]
      go_wp2_with fail
      refine (KN.out _).mono ?_
      rintro e w1 ⟨rfl, hb1⟩
      obtain ⟨vk, rfl⟩ := ovr_next hb1
      clear hb1
      go_wp2_with fail
      go_ret
      exact ⟨rfl, HUV4.out _⟩
    · subst h1
      clear h0
      have hz := HWC.out.1 (by rw [HCK.out]; omega)
      rw [HCK.out] at hz
      obtain ⟨hz1, hz2, hz3⟩ := hz
      subst hz1 hz2 hz3
      have hl : l.length = 0 := by rw [HWI.out.no (by rw [HCK.out]; omega)]; rfl
      rw [hl]
      go_wp2_with fail
      refine (KN.out _).mono ?_
      rintro e w1 ⟨rfl, hb1⟩
      obtain ⟨vk, rfl⟩ := ovr_next hb1
      clear hb1
      go_wp2_with fail
      go_ret
      exact ⟨rfl, HUV4.out _⟩
  subst h0
  have HRW := Lib.hid (CRW.out HCK.out)
  have HLN := Lib.hid HWI.out.len
  have HWO := Lib.hid (HWI.out.ok HCK.out)
  go_wp2_with fail
  refine (HRW.out _ (HUV4.out _)).mono ?_
  rintro e w1 ⟨A8, c8, l8, rfl, hw8, hc8, hr8, hb8⟩
  obtain rfl : l8 = l := hw8.eq HWO.out fun v _ _ => Iff.rfl
  have hy8 : Below V4.heap.size V4 w1 := (ovr_below V4 v3).trans (hb8.mono (ovr_below V4 v3).size)
  have hx8 : Below V.heap.size V w1 := hbV4'.out.trans (hy8.mono hbV4'.out.size)
  have CSM : Hid (Calls Tryz.prog 12 #[.slice A4 l8.length c4, .slice A8 l8.length c8] w1 fun e w' => e = .returned (.bool true) ∧ Below w1.heap.size w1 w') := by
    have h9 := same_any A4 A8 l8.length l8.length c4 c8 l8 l8 w1 rfl rfl ((HR.out w1 hx8).more hx8.size) hr8 (by have := HLN.out; omega) (by have := HLN.out; omega)
    rw [show sameL l8 l8 = true from decide_eq_true rfl] at h9
    exact h9
  obtain ⟨v4, rfl⟩ : ∃ u, w1 = ovr V4 u := ⟨w1, ovr_of hy8⟩
  clear hw8 hr8 hb8 hx8 hy8
  go_wp2_with fail
  refine CSM.out.mono ?_
  rintro e w1 ⟨rfl, hb1⟩
  obtain ⟨v5, rfl⟩ := ovr_next hb1
  clear hb1
  by_cases hr : rt < 0 ∨ 1000000 < rt
  · obtain ⟨hz1, hz2, hz3⟩ := HWC.out.2.1 HCK.out hr
    subst hz1 hz2 hz3
    by_cases hr1 : rt < 0
    · have d1 := decide_eq_true hr1
      clear hr hr1
      go_wp2_with fail
      refine (KN.out _).mono ?_
      rintro e w1 ⟨rfl, hb1⟩
      obtain ⟨vk, rfl⟩ := ovr_next hb1
      clear hb1
      go_wp2_with fail
      go_ret
      exact ⟨rfl, HUV4.out _⟩
    · have d1 := decide_eq_false hr1
      have d2 : decide (1000000 < rt) = true := decide_eq_true (by omega)
      clear hr hr1
      go_wp2_with fail
      refine (KN.out _).mono ?_
      rintro e w1 ⟨rfl, hb1⟩
      obtain ⟨vk, rfl⟩ := ovr_next hb1
      clear hb1
      go_wp2_with fail
      go_ret
      exact ⟨rfl, HUV4.out _⟩
  · obtain ⟨hz1, hz2, hz3⟩ := HWC.out.2.2 HCK.out hr
    have HRY := Lib.hid (CRY.out HCK.out (by omega))
    rw [← hz1, ← hz2] at HRY
    subst hz3
    have d1 : decide (rt < 0) = false := decide_eq_false (by omega)
    have d2 : decide (1000000 < rt) = false := decide_eq_false (by omega)
    clear hr hz1 hz2
    go_wp2_with fail
    refine (HRY.out _ (HUV4.out _)).mono ?_
    rintro e w1 ⟨rfl, hb1⟩
    obtain ⟨v6, rfl⟩ := ovr_next hb1
    clear hb1
    go_wp2_with fail
    refine (KN.out _).mono ?_
    rintro e w1 ⟨rfl, hb1⟩
    obtain ⟨vk, rfl⟩ := ovr_next hb1
    clear hb1
    go_wp2_with fail
    go_ret
    exact ⟨rfl, HUV4.out _⟩
end Go.Proofs.YteibgenkklpoaaaGreat.Un
