/- The law DefectAnneals: its walk. -/
import Derived.Test.YteibgenkklpoaaaDn2
import Derived.Test.YteibgenkklpoaaaDv2
import Derived.Test.YteibgenkklpoaaaRo
import Derived.Test.YteibgenkklpoaaaDl
namespace Go.Proofs.Yteibgenkklpoaaa.Un
open Go.RowKit
theorem hst_info : (Try.prog.info? 66).map (fun i => (i.zero, i.size, i.bytes)) = some (some (.agg #[I 0, I 0, I 0, I 0, I 0, I 0, I 0, I 0, I 0, I 0, I 0]), 11, 88) := by kernel_rfl
set_option maxRecDepth 100000 in
set_option maxHeartbeats 8000000 in
theorem defectAnneals_any (A : Option Addr) (c : Nat) (l : List Hst) (ox : Rng) (v : Int) (w : World) (_ : l.length ≤ c) (_ : c ≤ maxLen) (hx : Rd w w.heap.size 11 A l.length (rH l)) (hv : 0 ≤ v ∧ v ≤ 255) :
    Calls Try.prog 4 #[.slice A l.length c, ox.val, .int .u8 v] w fun e w' => e = .returned (.bool true) ∧ Below w.heap.size w w' := by
  have KN := Lib.hid known_any
  obtain ⟨xl, xh⟩ := ox
  have HX : Hid (∀ V, Below w.heap.size w V → Rd V w.heap.size 11 A l.length (rH l)) := fun V hV => hx.below hV
  have HV := Lib.hid hv.1
  clear hx hv
  obtain ⟨W, hW⟩ : ∃ W, W = (w.alloc (.cells #[I xl, I xh] 23)) := ⟨_, rfl⟩
  have rowW0 : W.heap[w.heap.size]? = some (.cells #[I xl, I xh] 23 (0, 0)) := by rw [hW]; exact heap_last _ _ _ rfl
  have yW00 := ovr_cell (W := W) (b := w.heap.size) (o := 0) (v := I xl) (by rw [cell_of_row _ _ _ _ _ _ rowW0]; rfl)
  have yW01 := ovr_cell (W := W) (b := w.heap.size) (o := 1) (v := I xh) (by rw [cell_of_row _ _ _ _ _ _ rowW0]; rfl)
  have RrowW0 := Lib.hid (ovr_row rowW0)
  clear rowW0
  have HUW : Hid (∀ u, Below w.heap.size w (ovr W u)) := U1 hW
  have HW := Lib.hid hW
  clear hW
  go_enter Try.func4, Try.ntmps4
  go_upto_region 1 with (fail)
  rw [← HW.out]
  obtain ⟨u0, hu0⟩ := ovr_self W
  rw [hu0]
  clear hu0
  by_cases h1 : 40 < l.length
  · have d1 : decide ((40 : Int) < (l.length : Int)) = true := decide_eq_true (by omega)
    go_wp2_with fail
    refine (KN.out _).mono ?_
    rintro e w1 ⟨rfl, hb1⟩
    obtain ⟨uk, rfl⟩ := ovr_next hb1
    clear hb1
    go_wp2_with fail
    go_ret
    exact ⟨rfl, HUW.out _⟩
  have d1 : decide ((40 : Int) < (l.length : Int)) = false := decide_eq_false (by omega)
  have HL : Hid (l.length ≤ 40) := by show _ ≤ _; omega
  clear h1
  obtain ⟨⟨⟨a1, a2⟩, ⟨b1, b2⟩, er⟩, hq⟩ : ∃ q, anF l ⟨xl, xh⟩ v = q := ⟨_, rfl⟩
  have CA : Hid (∀ V A' c', Rd V V.heap.size 11 A' l.length (rH l) → Calls Try.prog 18 #[.slice A' l.length c', .agg #[I xl, I xh], .int .u8 v] V fun e w' => e = .returned (.tuple #[.agg #[I a1, I a2], .agg #[I b1, I b2], I er]) ∧ Below V.heap.size V w') := fun V A' c' h => by
    have := anneal_any A' c' l ⟨xl, xh⟩ v V V.heap.size (by have := HL.out; omega) (Nat.le_refl _) h HV.out
    rw [hq] at this
    exact this
  have CR : Hid (∀ V, Below w.heap.size w V → Calls Try.prog 19 #[.slice A l.length c, .agg #[I xl, I xh], .int .u8 v] V fun e w' => e = .returned (.tuple #[.agg #[I a1, I a2], .agg #[I b1, I b2], I er]) ∧ Below V.heap.size V w') := fun V hV => by
    have := refAnneal_any A c l ⟨xl, xh⟩ v V _ (by have := HL.out; omega) hV.size (HX.out V hV) HV.out
    rw [hq] at this
    exact this
  obtain ⟨i3, hi3, jz0, jz1, jz2⟩ := info_parts hst_info
  clear hq
  go_upto_region 3 with (fail)
  have hbY := ovr_below W u0
  obtain ⟨Y, hY⟩ : ∃ Y, Y = ovr W u0 := ⟨_, rfl⟩
  rw [← hY] at hbY
  rw [← hY]
  have hY' := Lib.hid hY
  clear hY
  have hbY' := Lib.hid hbY
  have reY : ∀ v, ∃ x, ovr Y v = ovr W x := fun v => ovr_reB hbY v
  replace yW00 := tr_cell reY yW00
  replace yW01 := tr_cell reY yW01
  replace RrowW0 := Lib.hid (tr_row reY RrowW0.out)
  have HUY : Hid (∀ u, Below w.heap.size w (ovr Y u)) := fun u => by obtain ⟨x, hx⟩ := reY u; rw [hx]; exact HUW.out x
  clear reY hbY
  refine Dl.wp_region_late 12 [8, 9] (fun j => if j = 0 then some Emp else if j = 2 then some (SlAt Y.heap.size 11 l.length (rH l)) else if j = 5 then some (fun u _ => u = .tuple #[.agg #[I a1, I a2], .agg #[I b1, I b2], I er]) else if j = 10 then some (NewAt Y #[I 0, I 0] 23) else if j = 11 then some (NewAt Y #[I 0, I 0] 23) else none) (by kernel_rfl) (by kernel_rfl) (by kernel_rfl) (by kernel_rfl) [10, 11] (E := 23)
    ⟨by kernel_rfl, alloc_rng, fun j hj => by simp only [List.mem_cons, List.not_mem_nil, or_false] at hj; rcases hj with rfl | rfl <;> exact ⟨_, _, _, rfl⟩⟩ (by kernel_rfl) (fun i hi => by simp only [List.mem_cons, List.not_mem_nil, or_false] at hi; rcases hi with rfl | rfl <;> rfl) (fun c a d v w h => by cases d <;> exact h) ?_
  simp only [List.take_succ_cons, List.take_zero, List.drop_succ_cons, List.drop_zero]
  refine Dk.wpG_make Emp rfl rfl (fun w' hw' _ => ?_) (fun u hu => ?_)
  · go_simp
    exact emp_grow w'
  obtain ⟨_, _, b0, rfl⟩ := hu
  simp only [Act.put, List.setIfInBounds_toArray, List.set_cons_zero, List.set_cons_succ]
  repeat (refine Dk.wpG_one rfl rfl rfl ?_; intro K hK; go_big_quiet_op; go_big_quiet_on)
  refine Dk.wpG_make (SlAt Y.heap.size 11 l.length (rH l)) rfl rfl (fun w' hw' _ => ?_) (fun u hu => ?_)
  · obtain ⟨x, rfl⟩ := hw'
    exact app_grow _ _ 37 rfl 66 i3 _ 11 88 Try.underlying37 hi3 jz0 jz1 jz2 rfl (by decide) b0 rfl A l.length c rfl (rH l) ((HX.out _ (HUY.out x)).more (HUY.out x).size) (by have := HL.out; omega) (by decide) (ovr_below Y x).size
  obtain ⟨_, _, A2, c2, rfl, _, _, _⟩ := hu
  simp only [Act.put, List.setIfInBounds_toArray, List.set_cons_zero, List.set_cons_succ]
  repeat (refine Dk.wpG_one rfl rfl rfl ?_; intro K hK; go_big_quiet_op; go_big_quiet_on)
  refine Dk.wpG_make (fun u _ => u = .tuple #[.agg #[I a1, I a2], .agg #[I b1, I b2], I er]) rfl rfl (fun w' hw' hk => ?_) (fun u hu => ?_)
  · have hk2 := hk ⟨2, .data⟩ (by simp) rfl _ 20 _ rfl rfl rfl (Nat.lt_of_lt_of_eq (by decide : 20 < 51) rfl) rfl
    obtain ⟨A3, c3, he, _, hr, _⟩ := hk2.now
    obtain ⟨rfl, rfl⟩ : A2 = A3 ∧ c2 = c3 := by
      injection he with e1 e2 e3
      exact ⟨e1, e3⟩
    go_simp
    exact call_grow (CA.out w' A2 c2 hr)
  obtain ⟨_, _, rfl⟩ := hu
  simp only [Act.put, List.setIfInBounds_toArray, List.set_cons_zero, List.set_cons_succ]
  repeat (refine Dk.wpG_one rfl rfl rfl ?_; intro K hK; go_big_quiet_op; go_big_quiet_on)
  refine Dk.wpG_make (NewAt Y #[I 0, I 0] 23) rfl rfl (fun w' hw' _ => ?_) (fun u hu => ?_)
  · go_simp
    exact new_grow hw'
  obtain ⟨_, _, pb, rfl, _, _⟩ := hu
  simp only [Act.put, List.setIfInBounds_toArray, List.set_cons_zero, List.set_cons_succ]
  refine Dk.wpG_new (NewAt Y #[I 0, I 0] 23) rfl rfl (by simp) ⟨_, _, rfl, rfl, by simp⟩ (fun w' hw' _ => ?_) (fun u hu hne => ?_)
  · go_simp
    exact new_grow hw'
  obtain ⟨_, _, qb, rfl, _, _⟩ := hu
  have hpq := Dk.ptr_ne (hne 10 _ 7 (by omega) rfl (by simp) rfl (by simp))
  simp only [Act.put, List.setIfInBounds_toArray, List.set_cons_zero, List.set_cons_succ]
  refine Dk.wpG_nil (fun w5 hw5 hG => ?_)
  have hn1 := (Box.now hG.1.2).at
  have hn2 := (Box.now hG.2).at
  clear hG hne
  refine Dl.wpTailH_cons ?_
  refine wp_store_row 23 _ _ rfl pb rfl _ _ hn1.1 #[I a1, I a2] rfl (one2 rfl rfl) rfl (by kernel_rfl) ?_
  have hc1 := below_setRow hw5.le hn1.2 #[I a1, I a2]
  refine ⟨Cl.of hc1, ?_⟩
  refine Dl.wpTailH_cons ?_
  refine wp_store_row 23 _ _ rfl qb rfl _ _ ((setRow_other (Ne.symm hpq)).trans hn2.1) #[I b1, I b2] rfl (one2 rfl rfl) rfl (by kernel_rfl) ?_
  have hc2 := below_setRow hc1 hn2.2 #[I b1, I b2]
  refine ⟨Cl.of hc2, ?_⟩
  refine Dl.wpTailH_cons ?_
  refine wp_assign _ (I er) rfl rfl ?_
  refine ⟨Cl.of hc2, ?_⟩
  refine Dl.wpTailH_nil ?_
  simp only [Act.put]
  obtain ⟨V, hV⟩ : ∃ V, V = (w5.setRow pb #[I a1, I a2]).setRow qb #[I b1, I b2] := ⟨_, rfl⟩
  have rq : V.heap[qb]? = some (.cells #[I b1, I b2] 23 (0, 0)) := by rw [hV]; exact setRow_same ((setRow_other (Ne.symm hpq)).trans hn2.1)
  have rp : V.heap[pb]? = some (.cells #[I a1, I a2] 23 (0, 0)) := by rw [hV, setRow_other hpq]; exact setRow_same hn1.1
  have hbV : Below Y.heap.size Y V := by rw [hV]; exact below_setRow (below_setRow hw5.le hn1.2 _) hn2.2 _
  rw [← hV]
  clear hV hn1 hn2 hw5 hpq
  have reV : ∀ v, ∃ x, ovr V v = ovr Y x := fun v => ovr_reB hbV v
  replace yW00 := tr_cell reV yW00
  replace yW01 := tr_cell reV yW01
  replace RrowW0 := Lib.hid (tr_row reV RrowW0.out)
  have yV00 := ovr_cell (W := V) (b := pb) (o := 0) (v := I a1) (by rw [cell_of_row _ _ _ _ _ _ rp]; rfl)
  have yV01 := ovr_cell (W := V) (b := pb) (o := 1) (v := I a2) (by rw [cell_of_row _ _ _ _ _ _ rp]; rfl)
  have RrowV0 := Lib.hid (ovr_row rp)
  clear rp
  have yV10 := ovr_cell (W := V) (b := qb) (o := 0) (v := I b1) (by rw [cell_of_row _ _ _ _ _ _ rq]; rfl)
  have yV11 := ovr_cell (W := V) (b := qb) (o := 1) (v := I b2) (by rw [cell_of_row _ _ _ _ _ _ rq]; rfl)
  have RrowV1 := Lib.hid (ovr_row rq)
  clear rq
  have HUV : Hid (∀ u, Below w.heap.size w (ovr V u)) := fun u => by obtain ⟨x, hx⟩ := reV u; rw [hx]; exact HUY.out x
  clear reV hbV
  obtain ⟨v0, hv0⟩ := ovr_self V
  rw [hv0]
  clear hv0
  go_wp2_with fail
  refine (CR.out _ (HUV.out v0)).mono ?_
  rintro e w1 ⟨rfl, hb1⟩
  obtain ⟨v1, rfl⟩ := ovr_next hb1
  clear hb1
  go_upto_region 5 with fail
  obtain ⟨T, hT⟩ : ∃ T, T = (((ovr V v1).alloc (.cells #[I a1, I a2] 23)).alloc (.cells #[I b1, I b2] 23)) := ⟨_, rfl⟩
  have reT : ∀ v, ∃ x, ovr T v = ovr V x := fun v => ovr_re2 hT
  replace yW00 := tr_cell reT yW00
  replace yW01 := tr_cell reT yW01
  replace RrowW0 := Lib.hid (tr_row reT RrowW0.out)
  replace yV00 := tr_cell reT yV00
  replace yV01 := tr_cell reT yV01
  replace RrowV0 := Lib.hid (tr_row reT RrowV0.out)
  replace yV10 := tr_cell reT yV10
  replace yV11 := tr_cell reT yV11
  replace RrowV1 := Lib.hid (tr_row reT RrowV1.out)
  have rowT0 : T.heap[(ovr V v1).heap.size]? = some (.cells #[I a1, I a2] 23 (0, 0)) := by rw [hT]; exact heap_before (heap_last _ _ _ rfl)
  have yT00 := ovr_cell (W := T) (b := (ovr V v1).heap.size) (o := 0) (v := I a1) (by rw [cell_of_row _ _ _ _ _ _ rowT0]; rfl)
  have yT01 := ovr_cell (W := T) (b := (ovr V v1).heap.size) (o := 1) (v := I a2) (by rw [cell_of_row _ _ _ _ _ _ rowT0]; rfl)
  have RrowT0 := Lib.hid (ovr_row rowT0)
  clear rowT0
  have rowT1 : T.heap[(ovr V v1).heap.size + 1]? = some (.cells #[I b1, I b2] 23 (0, 0)) := by rw [hT]; exact heap_last _ _ _ (by simp)
  have yT10 := ovr_cell (W := T) (b := (ovr V v1).heap.size + 1) (o := 0) (v := I b1) (by rw [cell_of_row _ _ _ _ _ _ rowT1]; rfl)
  have yT11 := ovr_cell (W := T) (b := (ovr V v1).heap.size + 1) (o := 1) (v := I b2) (by rw [cell_of_row _ _ _ _ _ _ rowT1]; rfl)
  have RrowT1 := Lib.hid (ovr_row rowT1)
  clear rowT1
  have HBT : Hid (∀ u, Below V.heap.size V (ovr T u)) := fun u => by obtain ⟨x, hx⟩ := reT u; rw [hx]; exact ovr_below _ _
  have HUT : Hid (∀ u, Below w.heap.size w (ovr T u)) := fun u => by obtain ⟨x, hx⟩ := reT u; rw [hx]; exact HUV.out x
  clear reT
  have HT := Lib.hid hT
  clear hT
  rw [← HT.out]
  obtain ⟨v2, hv2⟩ := ovr_self T
  rw [hv2]
  clear hv2
  go_wp2_with fail
  refine (KN.out _).mono ?_
  rintro e w1 ⟨rfl, hb1⟩
  obtain ⟨v3, rfl⟩ := ovr_next hb1
  clear hb1
  go_wp2_with fail
  go_ret
  exact ⟨rfl, HUT.out _⟩
end Go.Proofs.Yteibgenkklpoaaa.Un
