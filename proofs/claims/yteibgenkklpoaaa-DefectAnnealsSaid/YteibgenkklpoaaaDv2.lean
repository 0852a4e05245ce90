/- The reference of chapter 5: Anneal. -/
import Derived.Test.YteibgenkklpoaaaDv1
import Derived.Test.YteibgenkklpoaaaSqf
namespace Go.Proofs.Yteibgenkklpoaaa.Un
open Go.RowKit
theorem hrK_flag (v : Int) (X Y : Nat → Rng) : ∀ k, (hrK v X k).1 = (hrK v Y k).1
  | 0 => rfl
  | k + 1 => by
    unfold hrK
    split
    · exact hrK_flag v X Y k
    · rfl
theorem two_cells0 {X : World} {b1 b2 : Nat} {t1 t2 : TypeId} {x y x' y' : Value} (h1 : X.heap[b1]? = some (.cells #[x, y] t1 (0, 0))) (h2 : X.heap[b2]? = some (.cells #[x', y'] t2 (0, 0))) (hne : b1 ≠ b2) (p q r s : Value) {base : Nat} {a : World} (hb : Below base a X) (hb1 : base ≤ b1) (hb2 : base ≤ b2) :
    ((((X.setCell ⟨b1, 0, none⟩ p).setCell ⟨b1, 1, none⟩ q).setCell ⟨b2, 0, none⟩ r).setCell ⟨b2, 1, none⟩ s).heap[b1]? = some (.cells #[p, q] t1 (0, 0)) ∧ ((((X.setCell ⟨b1, 0, none⟩ p).setCell ⟨b1, 1, none⟩ q).setCell ⟨b2, 0, none⟩ r).setCell ⟨b2, 1, none⟩ s).heap[b2]? = some (.cells #[r, s] t2 (0, 0)) ∧ Below base a ((((X.setCell ⟨b1, 0, none⟩ p).setCell ⟨b1, 1, none⟩ q).setCell ⟨b2, 0, none⟩ r).setCell ⟨b2, 1, none⟩ s) :=
  ⟨ro2 (ro2 (rs (rs h1 0 p) 1 q) hne) hne, rs (rs (ro2 (ro2 h2 hne.symm) hne.symm) 0 r) 1 s, (((hb.setCell hb1 p).setCell hb1 q).setCell hb2 r).setCell hb2 s⟩
theorem an_zero {l : List Hst} {ox : Rng} {v : Int} (h : anE l ox v = 0) : OkAll l ∧ spanB ox 0 1000000 = true ∧ v ≤ 31 ∧ v ≠ 0 ∧ l.length ≤ 30 := by
  unfold anE at h
  split at h
  · cases h
  · rename_i h1
    split at h
    · cases h
    · rename_i h2
      split at h
      · cases h
      · rename_i h3
        rw [Bool.or_eq_true, Bool.or_eq_true, not_or, not_or] at h2
        obtain ⟨h4, h5, h6⟩ := h2
        simp only [Bool.not_eq_true, Bool.not_eq_false', decide_eq_false_iff_not] at h4 h5 h6
        refine ⟨fun i hi => ?_, h5, by omega, h3, by omega⟩
        rw [List.any_eq_false] at h4
        have := h4 (at0 l i) (by rw [at0_get hi]; exact List.getElem_mem hi)
        simpa [notSt] using this
set_option maxRecDepth 100000 in
set_option maxHeartbeats 8000000 in
theorem refAnneal_any (A : Option Addr) (c : Nat) (l : List Hst) (ox : Rng) (v : Int) (w : World) (B : Nat) (hl : l.length ≤ 1000) (hB : B ≤ w.heap.size) (hx : Rd w B 11 A l.length (rH l)) (hv : 0 ≤ v) :
    Calls Try.prog 19 #[.slice A l.length c, ox.val, .int .u8 v] w fun e w' => e = .returned (.tuple #[(anF l ox v).1.val, (anF l ox v).2.1.val, I (anF l ox v).2.2]) ∧ Below w.heap.size w w' := by
  have HX : Hid (∀ V, Below w.heap.size w V → Rd V B 11 A l.length (rH l) ∧ B ≤ V.heap.size) := fun V hV => ⟨hx.below (hV.mono hB), Nat.le_trans hB hV.size⟩
  have hf : Hid (anF l ox v = if anE l ox v = 0 then ((foF huF (anL v (anX l ox) 5)).1, (foF huF (anL v (anY l ox) 5)).1, 0) else (⟨0, 0⟩, ⟨0, 0⟩, anE l ox v)) := rfl
  have HL := Lib.hid hl
  have CH : Hid (∀ V, Below w.heap.size w V → Calls Try.prog 54 #[.slice A l.length c, ox.val, .int .u8 v] V fun e w' => e = .returned (I (anE l ox v)) ∧ Below V.heap.size V w') := fun V hV => heat_any A c l ox v V B hl (HX.out V hV).2 (HX.out V hV).1
  obtain ⟨xl, xh⟩ := ox
  clear hx hB hl
  obtain ⟨W, hW⟩ : ∃ W, W = (((w.alloc (.cells #[I xl, I xh] 23)).alloc (.cells #[I 0, I 0] 23)).alloc (.cells #[I 0, I 0] 23)) := ⟨_, rfl⟩
  have rowW0 : W.heap[w.heap.size]? = some (.cells #[I xl, I xh] 23 (0, 0)) := by rw [hW]; exact heap_before (heap_before (heap_last _ _ _ rfl))
  have yW00 := ovr_cell (W := W) (b := w.heap.size) (o := 0) (v := I xl) (by rw [cell_of_row _ _ _ _ _ _ rowW0]; rfl)
  have yW01 := ovr_cell (W := W) (b := w.heap.size) (o := 1) (v := I xh) (by rw [cell_of_row _ _ _ _ _ _ rowW0]; rfl)
  have RrowW0 := Lib.hid (ovr_row rowW0)
  clear rowW0
  have rowW1 : W.heap[w.heap.size + 1]? = some (.cells #[I 0, I 0] 23 (0, 0)) := by rw [hW]; exact heap_before (heap_last _ _ _ (by simp))
  have yW10 := ovr_cell (W := W) (b := w.heap.size + 1) (o := 0) (v := I 0) (by rw [cell_of_row _ _ _ _ _ _ rowW1]; rfl)
  have yW11 := ovr_cell (W := W) (b := w.heap.size + 1) (o := 1) (v := I 0) (by rw [cell_of_row _ _ _ _ _ _ rowW1]; rfl)
  have RrowW1 := Lib.hid (ovr_row rowW1)
  clear rowW1
  have rowW2 : W.heap[w.heap.size + 1 + 1]? = some (.cells #[I 0, I 0] 23 (0, 0)) := by rw [hW]; exact heap_last _ _ _ (by simp)
  have yW20 := ovr_cell (W := W) (b := w.heap.size + 1 + 1) (o := 0) (v := I 0) (by rw [cell_of_row _ _ _ _ _ _ rowW2]; rfl)
  have yW21 := ovr_cell (W := W) (b := w.heap.size + 1 + 1) (o := 1) (v := I 0) (by rw [cell_of_row _ _ _ _ _ _ rowW2]; rfl)
  have RrowW2 := Lib.hid (ovr_row rowW2)
  clear rowW2
  have HUW : Hid (∀ u, Below w.heap.size w (ovr W u)) := U3 hW
  have HW := Lib.hid hW
  clear hW
  go_enter Try.func19, Try.ntmps19
  go_upto_region 1 with (fail)
  rw [← HW.out]
  obtain ⟨u0, hu0⟩ := ovr_self W
  rw [hu0]
  clear hu0
  by_cases h1 : anE l ⟨xl, xh⟩ v = 0
  case neg =>
    rw [if_neg h1] at hf
    obtain ⟨q, hq⟩ : ∃ q, anE l ⟨xl, xh⟩ v = q := ⟨_, rfl⟩
    rw [hq] at h1 hf CH
    clear hq
    have hq2 : (q != 0) = true := by simpa using h1
    go_wp2_with fail
    refine (CH.out _ (HUW.out u0)).mono ?_
    rintro e w1 ⟨rfl, hb1⟩
    obtain ⟨u1, rfl⟩ := ovr_next hb1
    clear hb1
    have z10 : (ovr W u1).frozen? ⟨w.heap.size + 1, 0, none⟩ = false := frozen_of_row _ _ _ _ _ (RrowW1.out u1)
    have z11 : (ovr W u1).frozen? ⟨w.heap.size + 1, 1, none⟩ = false := frozen_of_row _ _ _ _ _ (RrowW1.out u1)
    have z20 : (ovr W u1).frozen? ⟨w.heap.size + 1 + 1, 0, none⟩ = false := frozen_of_row _ _ _ _ _ (RrowW2.out u1)
    have z21 : (ovr W u1).frozen? ⟨w.heap.size + 1 + 1, 1, none⟩ = false := frozen_of_row _ _ _ _ _ (RrowW2.out u1)
    go_wp2_with fail
    obtain ⟨g1, g2, g3⟩ := two_cells0 (RrowW1.out u1) (RrowW2.out u1) (Nat.ne_of_lt (Nat.lt_succ_self _)) (I 0) (I 0) (I 0) (I 0) (HUW.out u1) (Nat.le_succ _) (Nat.le_trans (Nat.le_succ _) (Nat.le_succ _))
    refine bodyPost_ret (results_two_tmp rfl _ _ (w.heap.size + 1) (w.heap.size + 1 + 1) 23 23 _ _ (0, 0) (0, 0) _ _ rfl g1 rfl g2 Try.underlying23 rfl (by kernel_rfl) Try.underlying23 rfl (by kernel_rfl)) rfl ?_
    exact ⟨by rw [hf.out]; rfl, g3⟩
  have HE := Lib.hid h1
  rw [if_pos h1] at hf
  rw [h1] at CH
  go_wp2_with fail
  refine (CH.out _ (HUW.out u0)).mono ?_
  rintro e w1 ⟨rfl, hb1⟩
  obtain ⟨u1, rfl⟩ := ovr_next hb1
  clear hb1
  go_upto_region 5 with fail
  have RW1 := RrowW1
  have RW2 := RrowW2
  obtain ⟨ba, hba⟩ : ∃ x, x = (ovr W u1).heap.size := ⟨_, rfl⟩
  refine name_w fun V hV => ?_
  have rA : V.heap[ba]? = some (.cells #[I 0, I 0] 23 (0, 0)) := by rw [hV, hba]; exact heap_before (heap_last _ _ _ rfl)
  have rB : V.heap[ba + 1]? = some (.cells #[I 0, I 0] 23 (0, 0)) := by rw [hV, hba]; exact heap_last _ _ _ (by simp)
  have bV : Below W.heap.size W V := by rw [hV]; exact ((ovr_below W u1).alloc (ovr_below W u1).size _).alloc (by have := (ovr_below W u1).size; simp; omega) _
  have sA : W.heap.size ≤ ba := by rw [hba]; exact (ovr_below W u1).size
  rw [← hba]
  have RA := Lib.hid rA
  have RB := Lib.hid rB
  have BV := Lib.hid bV
  have SA := Lib.hid sA
  have HWB : Hid (Below w.heap.size w W) := below_self0 HUW.out
  clear hV hba rA rB bV sA
  have HEK := an_zero HE.out
  have hst := Lib.hid HEK.1
  have hsp := Lib.hid HEK.2.1
  have HVV : Hid (0 < v ∧ v ≤ 31) := ⟨by have := HEK.2.2.2.1; omega, HEK.2.2.1⟩
  clear HEK h1
  go_wp2_with fail
  go_loopw [12, 13] (fun q i wr => ∃ k : Nat, k ≤ 5 ∧ i = .int .i64 k ∧ q = .bool (hrK v (anX l ⟨xl, xh⟩) k).1 ∧ wr.heap[ba]? = some (.cells #[I (hrK v (anX l ⟨xl, xh⟩) k).2.lo, I (hrK v (anX l ⟨xl, xh⟩) k).2.hi] 23 (0, 0)) ∧ wr.heap[ba + 1]? = some (.cells #[I (hrK v (anY l ⟨xl, xh⟩) k).2.lo, I (hrK v (anY l ⟨xl, xh⟩) k).2.hi] 23 (0, 0)) ∧ Below W.heap.size W wr) (fun _ i _ => 5 - (intOf i).toNat)
  case atStart => exact ⟨0, by omega, rfl, rfl, RA.out, RB.out, BV.out⟩
  case round =>
    obtain ⟨k, hk, rfl, rfl, hra, hrb, hb⟩ := hrel
    rename World => Y
    have HRA := Lib.hid hra
    have HRB := Lib.hid hrb
    have HBY := Lib.hid hb
    by_cases hk5 : k < 5
    · have HK5 := Lib.hid hk5
      have hx : Hid (hrK v (anX l ⟨xl, xh⟩) (k + 1) = if unw v k then hrK v (anX l ⟨xl, xh⟩) k else (true, huF (if (hrK v (anX l ⟨xl, xh⟩) k).1 then (hrK v (anX l ⟨xl, xh⟩) k).2 else anX l ⟨xl, xh⟩ k) (anX l ⟨xl, xh⟩ k))) := rfl
      have hy : Hid (hrK v (anY l ⟨xl, xh⟩) (k + 1) = if unw v k then hrK v (anY l ⟨xl, xh⟩) k else (true, huF (if (hrK v (anY l ⟨xl, xh⟩) k).1 then (hrK v (anY l ⟨xl, xh⟩) k).2 else anY l ⟨xl, xh⟩ k) (anY l ⟨xl, xh⟩ k))) := rfl
      by_cases hu : bits .and .u8 (v / 2 ^ k) 1 = 0
      · have hun : unw v k = true := decide_eq_true hu
        rw [if_pos hun] at hx hy
        have hu2 : (bits .and .u8 (v / 2 ^ k) 1 == 0) = true := by simpa using hu
        clear hra hrb hb
        go_wp2_with fail
        exact ⟨⟨k + 1, HK5.out, rfl, by rw [hx.out], by rw [hx.out]; exact HRA.out, by rw [hy.out]; exact HRB.out, HBY.out⟩, by have := HK5.out; simp [intOf]; omega⟩
      · have hun : unw v k = false := decide_eq_false hu
        rw [if_neg (by rw [hun]; decide)] at hx hy
        have hu2 : (bits .and .u8 (v / 2 ^ k) 1 == 0) = false := by simpa using hu
        rw [hrK_flag v (anY l ⟨xl, xh⟩) (anX l ⟨xl, xh⟩) k] at hy
        obtain ⟨⟨p1, p2⟩, hp⟩ : ∃ r, anX l ⟨xl, xh⟩ k = r := ⟨_, rfl⟩
        obtain ⟨⟨q1, q2⟩, hq⟩ : ∃ r, anY l ⟨xl, xh⟩ k = r := ⟨_, rfl⟩
        have hpc := anX_cu l ⟨xl, xh⟩ k
        have hqc := anY_cu l ⟨xl, xh⟩ k
        rw [hp] at hpc
        rw [hq] at hqc
        simp only [Rng.mk.injEq] at hpc hqc
        have hsp2 : 0 ≤ xl ∧ xl ≤ xh ∧ xh ≤ 1000000 := spanB_iff.1 hsp.out
        have CA1 : Hid (∀ V, Below w.heap.size w V → Calls Try.prog 55 #[.slice A l.length c, I xl, I k, .bool true] V fun e w' => e = .returned (I p1) ∧ Below V.heap.size V w') := fun V hV => by rw [hpc.1]; exact moafter A c l xl k V B HL.out (HX.out V hV).2 (HX.out V hV).1 hk5 (by omega) hst.out
        have CA2 : Hid (∀ V, Below w.heap.size w V → Calls Try.prog 55 #[.slice A l.length c, I xh, I k, .bool false] V fun e w' => e = .returned (I p2) ∧ Below V.heap.size V w') := fun V hV => by rw [hpc.2]; exact leafter A c l xh k V B HL.out (HX.out V hV).2 (HX.out V hV).1 hk5 (by omega) hst.out
        have CA3 : Hid (∀ V, Below w.heap.size w V → Calls Try.prog 55 #[.slice A l.length c, I xl, I k, .bool false] V fun e w' => e = .returned (I (xl - q1)) ∧ Below V.heap.size V w') := fun V hV => by rw [hqc.1, Int.sub_sub_self]; exact leafter A c l xl k V B HL.out (HX.out V hV).2 (HX.out V hV).1 hk5 (by omega) hst.out
        have CA4 : Hid (∀ V, Below w.heap.size w V → Calls Try.prog 55 #[.slice A l.length c, I xh, I k, .bool true] V fun e w' => e = .returned (I (xh - q2)) ∧ Below V.heap.size V w') := fun V hV => by rw [hqc.2, Int.sub_sub_self]; exact moafter A c l xh k V B HL.out (HX.out V hV).2 (HX.out V hV).1 hk5 (by omega) hst.out
        have r1 := cu_bd (fun r => le_ok) hst.out hk5 (x := xl) (by omega) l.length (Nat.le_refl _)
        have r2 := cu_bd (fun r => mo_ok) hst.out hk5 (x := xh) (by omega) l.length (Nat.le_refl _)
        have w1 : IntKind.i64.wrap (xl - (xl - q1)) = q1 := by rw [Int.sub_sub_self]; exact IntWalk.i64_in _ (by omega)
        have w2 : IntKind.i64.wrap (xh - (xh - q2)) = q2 := by rw [Int.sub_sub_self]; exact IntWalk.i64_in _ (by omega)
        rw [hp] at hx
        rw [hq] at hy
        obtain ⟨y1, hy1⟩ : ∃ y, xl - q1 = y := ⟨_, rfl⟩
        obtain ⟨y2, hy2⟩ : ∃ y, xh - q2 = y := ⟨_, rfl⟩
        rw [hy1] at CA3 w1
        rw [hy2] at CA4 w2
        have W1 := Lib.hid w1
        have W2 := Lib.hid w2
        obtain ⟨⟨fl, ⟨a1, a2⟩⟩, ha⟩ : ∃ r, hrK v (anX l ⟨xl, xh⟩) k = r := ⟨_, rfl⟩
        obtain ⟨⟨fl', ⟨b1, b2⟩⟩, hbb⟩ : ∃ r, hrK v (anY l ⟨xl, xh⟩) k = r := ⟨_, rfl⟩
        rw [ha] at hx hy hra
        rw [hbb] at hy hrb
        rw [ha]
        clear hp hq hpc hqc r1 r2 hy1 hy2 w1 w2 ha hbb hsp2 HRA HRB hun
        have hrblt : Hid (ba + 1 < Y.heap.size) := (Array.getElem?_eq_some_iff.1 hrb).1
        have reY : ∀ v, ∃ x, ovr Y v = ovr W x := fun v => ovr_reB hb v
        have SW_yW00 := Lib.hid yW00
        replace yW00 := tr_cell reY yW00
        have SW_yW01 := Lib.hid yW01
        replace yW01 := tr_cell reY yW01
        have SW_RrowW0 := Lib.hid RrowW0.out
        replace RrowW0 := Lib.hid (tr_row reY RrowW0.out)
        have SW_yW10 := Lib.hid yW10
        replace yW10 := tr_cell reY yW10
        have SW_yW11 := Lib.hid yW11
        replace yW11 := tr_cell reY yW11
        have SW_RrowW1 := Lib.hid RrowW1.out
        replace RrowW1 := Lib.hid (tr_row reY RrowW1.out)
        have SW_yW20 := Lib.hid yW20
        replace yW20 := tr_cell reY yW20
        have SW_yW21 := Lib.hid yW21
        replace yW21 := tr_cell reY yW21
        have SW_RrowW2 := Lib.hid RrowW2.out
        replace RrowW2 := Lib.hid (tr_row reY RrowW2.out)
        have yY00 := ovr_cell (W := Y) (b := ba) (o := 0) (v := I a1) (by rw [cell_of_row _ _ _ _ _ _ hra]; rfl)
        have yY01 := ovr_cell (W := Y) (b := ba) (o := 1) (v := I a2) (by rw [cell_of_row _ _ _ _ _ _ hra]; rfl)
        have RrowY0 := Lib.hid (ovr_row hra)
        clear hra
        have yY10 := ovr_cell (W := Y) (b := ba + 1) (o := 0) (v := I b1) (by rw [cell_of_row _ _ _ _ _ _ hrb]; rfl)
        have yY11 := ovr_cell (W := Y) (b := ba + 1) (o := 1) (v := I b2) (by rw [cell_of_row _ _ _ _ _ _ hrb]; rfl)
        have RrowY1 := Lib.hid (ovr_row hrb)
        clear hrb
        have HUY : Hid (∀ u, Below w.heap.size w (ovr Y u)) := fun u => by obtain ⟨x, hx⟩ := reY u; rw [hx]; exact HUW.out x
        clear reY hb
        go_upto_region 9 with fail
        have hYw : Hid (∀ V, Below Y.heap.size Y V → Below w.heap.size w V) := fun V hV => (HWB.out.trans (HBY.out.mono HWB.out.size)).trans (hV.mono (Nat.le_trans HWB.out.size HBY.out.size))
        refine wp_region_seq2 12 (fun j => if j = 4 then some (fun u _ => u = I p1) else if j = 9 then some (fun u _ => u = I p2) else if j = 11 then some (NewAt Y #[I 0, I 0] 23) else none) (by kernel_rfl) (by kernel_rfl) (by kernel_rfl) (by kernel_rfl) (by kernel_rfl) ?_
        simp only [List.take_succ_cons, List.take_zero, List.drop_succ_cons, List.drop_zero]
        repeat (refine wpG_one rfl rfl rfl ?_; intro K hK; go_big_quiet_op; go_big_quiet_on)
        refine wpG_make (fun u _ => u = I p1) rfl rfl (fun w' hw' _ => ?_) (fun u hu => ?_)
        · go_simp
          exact call_grow (CA1.out w' (hYw.out w' hw'.le))
        obtain ⟨_, _, rfl⟩ := hu
        simp only [Act.put, List.setIfInBounds_toArray, List.set_cons_zero, List.set_cons_succ]
        repeat (refine wpG_one rfl rfl rfl ?_; intro K hK; go_big_quiet_op; go_big_quiet_on)
        refine wpG_make (fun u _ => u = I p2) rfl rfl (fun w' hw' _ => ?_) (fun u hu => ?_)
        · go_simp
          exact call_grow (CA2.out w' (hYw.out w' hw'.le))
        obtain ⟨_, _, rfl⟩ := hu
        simp only [Act.put, List.setIfInBounds_toArray, List.set_cons_zero, List.set_cons_succ]
        repeat (refine wpG_one rfl rfl rfl ?_; intro K hK; go_big_quiet_op; go_big_quiet_on)
        refine wpG_make (NewAt Y #[I 0, I 0] 23) rfl rfl (fun w' hw' _ => ?_) (fun u hu => ?_)
        · go_simp
          exact new_grow hw'
        obtain ⟨_, _, bn, rfl, _, _⟩ := hu
        simp only [Act.put, List.setIfInBounds_toArray, List.set_cons_zero, List.set_cons_succ]
        refine wpG_nil (fun w5 hw5 hG => ?_)
        have hn := (Box.now hG.2).at
        have h5 := hw5.le
        clear hG hw5
        refine wpTailIn_cons Wd.wide (by intro c h; cases h) ?_
        refine wp_store_row 23 _ _ rfl bn rfl _ _ hn.1 #[I p1, I p2] rfl (one2 rfl rfl) rfl (by kernel_rfl) ?_
        refine wpTailIn_nil ?_
        simp only [Act.put]
        obtain ⟨Z, hZ⟩ : ∃ Z, Z = w5.setRow bn #[I p1, I p2] := ⟨_, rfl⟩
        have rZ : Z.heap[bn]? = some (.cells #[I p1, I p2] 23 (0, 0)) := by rw [hZ]; exact setRow_same hn.1
        have bZ : Below Y.heap.size Y Z := by rw [hZ]; exact below_setRow h5 hn.2 _
        rw [← hZ]
        have hnn := Lib.hid hn.2
        have hbnlt : Hid (bn < Z.heap.size) := (Array.getElem?_eq_some_iff.1 rZ).1
        clear hZ hn h5
        have BYZ := Lib.hid bZ
        have reZ : ∀ v, ∃ x, ovr Z v = ovr Y x := fun v => ovr_reB bZ v
        replace yW00 := tr_cell reZ yW00
        replace yW01 := tr_cell reZ yW01
        replace RrowW0 := Lib.hid (tr_row reZ RrowW0.out)
        replace yW10 := tr_cell reZ yW10
        replace yW11 := tr_cell reZ yW11
        replace RrowW1 := Lib.hid (tr_row reZ RrowW1.out)
        replace yW20 := tr_cell reZ yW20
        replace yW21 := tr_cell reZ yW21
        replace RrowW2 := Lib.hid (tr_row reZ RrowW2.out)
        replace yY00 := tr_cell reZ yY00
        replace yY01 := tr_cell reZ yY01
        replace RrowY0 := Lib.hid (tr_row reZ RrowY0.out)
        replace yY10 := tr_cell reZ yY10
        replace yY11 := tr_cell reZ yY11
        replace RrowY1 := Lib.hid (tr_row reZ RrowY1.out)
        have yZ00 := ovr_cell (W := Z) (b := bn) (o := 0) (v := I p1) (by rw [cell_of_row _ _ _ _ _ _ rZ]; rfl)
        have yZ01 := ovr_cell (W := Z) (b := bn) (o := 1) (v := I p2) (by rw [cell_of_row _ _ _ _ _ _ rZ]; rfl)
        have RrowZ0 := Lib.hid (ovr_row rZ)
        clear rZ
        have HUZ : Hid (∀ u, Below w.heap.size w (ovr Z u)) := fun u => by obtain ⟨x, hx⟩ := reZ u; rw [hx]; exact HUY.out x
        clear reZ bZ
        go_upto_region 10 with fail
        have hZw : Hid (∀ V, Below Z.heap.size Z V → Below w.heap.size w V) := fun V hV => hYw.out V (BYZ.out.trans (hV.mono BYZ.out.size))
        have w1 := W1.out
        have w2 := W2.out
        refine wp_region_seq2 18 (fun j => if j = 6 then some (fun u _ => u = I y1) else if j = 14 then some (fun u _ => u = I y2) else if j = 17 then some (NewAt Z #[I 0, I 0] 23) else none) (by kernel_rfl) (by kernel_rfl) (by kernel_rfl) (by kernel_rfl) (by kernel_rfl) ?_
        simp only [List.take_succ_cons, List.take_zero, List.drop_succ_cons, List.drop_zero]
        repeat (refine wpG_one rfl rfl rfl ?_; intro K hK; go_big_quiet_op; go_big_quiet_on)
        refine wpG_make (fun u _ => u = I y1) rfl rfl (fun w' hw' _ => ?_) (fun u hu => ?_)
        · go_simp
          exact call_grow (CA3.out w' (hZw.out w' hw'.le))
        obtain ⟨_, _, rfl⟩ := hu
        simp only [Act.put, List.setIfInBounds_toArray, List.set_cons_zero, List.set_cons_succ]
        repeat (refine wpG_one rfl rfl rfl ?_; intro K hK; go_big_quiet_op; go_big_quiet_on)
        refine wpG_make (fun u _ => u = I y2) rfl rfl (fun w' hw' _ => ?_) (fun u hu => ?_)
        · go_simp
          exact call_grow (CA4.out w' (hZw.out w' hw'.le))
        obtain ⟨_, _, rfl⟩ := hu
        simp only [Act.put, List.setIfInBounds_toArray, List.set_cons_zero, List.set_cons_succ]
        repeat (refine wpG_one rfl rfl rfl ?_; intro K hK; go_big_quiet_op; go_big_quiet_on)
        refine wpG_make (NewAt Z #[I 0, I 0] 23) rfl rfl (fun w' hw' _ => ?_) (fun u hu => ?_)
        · go_simp
          exact new_grow hw'
        obtain ⟨_, _, bm, rfl, _, _⟩ := hu
        simp only [Act.put, List.setIfInBounds_toArray, List.set_cons_zero, List.set_cons_succ]
        refine wpG_nil (fun w6 hw6 hG => ?_)
        have hn := (Box.now hG.2).at
        have h6 := hw6.le
        clear hG hw6
        refine wpTailIn_cons Wd.wide (by intro c h; cases h) ?_
        refine wp_store_row 23 _ _ rfl bm rfl _ _ hn.1 #[I q1, I q2] rfl (one2 rfl rfl) rfl (by kernel_rfl) ?_
        refine wpTailIn_nil ?_
        simp only [Act.put]
        obtain ⟨T, hT⟩ : ∃ T, T = w6.setRow bm #[I q1, I q2] := ⟨_, rfl⟩
        have rT : T.heap[bm]? = some (.cells #[I q1, I q2] 23 (0, 0)) := by rw [hT]; exact setRow_same hn.1
        have bT : Below Z.heap.size Z T := by rw [hT]; exact below_setRow h6 hn.2 _
        rw [← hT]
        have hmm := Lib.hid hn.2
        clear hT hn h6 w1 w2
        have BZT := Lib.hid bT
        have reT : ∀ v, ∃ x, ovr T v = ovr Z x := fun v => ovr_reB bT v
        replace yW00 := tr_cell reT yW00
        replace yW01 := tr_cell reT yW01
        replace RrowW0 := Lib.hid (tr_row reT RrowW0.out)
        replace yW10 := tr_cell reT yW10
        replace yW11 := tr_cell reT yW11
        replace RrowW1 := Lib.hid (tr_row reT RrowW1.out)
        replace yW20 := tr_cell reT yW20
        replace yW21 := tr_cell reT yW21
        replace RrowW2 := Lib.hid (tr_row reT RrowW2.out)
        replace yY00 := tr_cell reT yY00
        replace yY01 := tr_cell reT yY01
        replace RrowY0 := Lib.hid (tr_row reT RrowY0.out)
        replace yY10 := tr_cell reT yY10
        replace yY11 := tr_cell reT yY11
        replace RrowY1 := Lib.hid (tr_row reT RrowY1.out)
        replace yZ00 := tr_cell reT yZ00
        replace yZ01 := tr_cell reT yZ01
        replace RrowZ0 := Lib.hid (tr_row reT RrowZ0.out)
        have yT00 := ovr_cell (W := T) (b := bm) (o := 0) (v := I q1) (by rw [cell_of_row _ _ _ _ _ _ rT]; rfl)
        have yT01 := ovr_cell (W := T) (b := bm) (o := 1) (v := I q2) (by rw [cell_of_row _ _ _ _ _ _ rT]; rfl)
        have RrowT0 := Lib.hid (ovr_row rT)
        clear rT
        have HUT : Hid (∀ u, Below w.heap.size w (ovr T u)) := fun u => by obtain ⟨x, hx⟩ := reT u; rw [hx]; exact HUZ.out x
        clear reT bT
        obtain ⟨T2, hT2⟩ : ∃ T2, T2 = T := ⟨_, rfl⟩
        obtain ⟨uT, huT⟩ := ovr_self T
        have ra : T2.heap[ba]? = some (.cells #[I a1, I a2] 23 (0, 0)) := by rw [hT2, huT]; exact RrowY0.out uT
        have rb : T2.heap[ba + 1]? = some (.cells #[I b1, I b2] 23 (0, 0)) := by rw [hT2, huT]; exact RrowY1.out uT
        have rn : T2.heap[bn]? = some (.cells #[I p1, I p2] 23 (0, 0)) := by rw [hT2, huT]; exact RrowZ0.out uT
        have rm : T2.heap[bm]? = some (.cells #[I q1, I q2] 23 (0, 0)) := by rw [hT2, huT]; exact RrowT0.out uT
        have bt : Below W.heap.size W T2 := by rw [hT2]; exact HBY.out.trans ((BYZ.out.trans (BZT.out.mono BYZ.out.size)).mono HBY.out.size)
        have hlt1 : Hid (ba + 1 < bn) := Nat.lt_of_lt_of_le hrblt.out hnn.out
        have hlt2 : Hid (ba + 1 < bm) := Nat.lt_trans hlt1.out (Nat.lt_of_lt_of_le hbnlt.out hmm.out)
        rw [← hT2]
        clear hT2 huT
        cases fl
        case true =>
          have x0 : T2.cell? ⟨ba, 0, none⟩ = some (I a1) := by rw [cell_of_row _ _ _ _ _ _ ra]; rfl
          have x1 : T2.cell? ⟨ba, 1, none⟩ = some (I a2) := by rw [cell_of_row _ _ _ _ _ _ ra]; rfl
          have x2 : T2.cell? ⟨ba + 1, 0, none⟩ = some (I b1) := by rw [cell_of_row _ _ _ _ _ _ rb]; rfl
          have x3 : T2.cell? ⟨ba + 1, 1, none⟩ = some (I b2) := by rw [cell_of_row _ _ _ _ _ _ rb]; rfl
          have x4 : T2.cell? ⟨bn, 0, none⟩ = some (I p1) := by rw [cell_of_row _ _ _ _ _ _ rn]; rfl
          have x5 : T2.cell? ⟨bn, 1, none⟩ = some (I p2) := by rw [cell_of_row _ _ _ _ _ _ rn]; rfl
          have x6 : T2.cell? ⟨bm, 0, none⟩ = some (I q1) := by rw [cell_of_row _ _ _ _ _ _ rm]; rfl
          have x7 : T2.cell? ⟨bm, 1, none⟩ = some (I q2) := by rw [cell_of_row _ _ _ _ _ _ rm]; rfl
          have HRa := Lib.hid ra
          have HRb := Lib.hid rb
          have HRm := Lib.hid rm
          have HBT := Lib.hid bt
          clear ra rb rn rm bt
          go_upto_region 14 with (with_reducible show wpList _ _ _ (⟨none, Op.store _ _ _, _, _, _, _⟩ :: _) _ _; refine wpList_store_row rfl 23 _ _ rfl ba rfl _ _ HRa.out #[I (min a1 p1), I (max a2 p2)] rfl (one2 rfl rfl) rfl (by kernel_rfl) ?_)
          refine name_w fun T3 hT3 => ?_
          have s0 : T3.heap[ba]? = some (.cells #[I (min a1 p1), I (max a2 p2)] 23 (0, 0)) := by rw [hT3]; exact setRow_same HRa.out
          have s1 : T3.heap[ba + 1]? = some (.cells #[I b1, I b2] 23 (0, 0)) := by rw [hT3]; exact (setRow_other (by omega)).trans HRb.out
          have s2 : T3.heap[bm]? = some (.cells #[I q1, I q2] 23 (0, 0)) := by rw [hT3]; exact (setRow_other (by have := hlt2.out; omega)).trans HRm.out
          have sb : Below W.heap.size W T3 := by rw [hT3]; exact below_setRow HBT.out SA.out _
          clear hT3 x0 x1 x2 x3 x4 x5 x6 x7
          have x2 : T3.cell? ⟨ba + 1, 0, none⟩ = some (I b1) := by rw [cell_of_row _ _ _ _ _ _ s1]; rfl
          have x3 : T3.cell? ⟨ba + 1, 1, none⟩ = some (I b2) := by rw [cell_of_row _ _ _ _ _ _ s1]; rfl
          have x6 : T3.cell? ⟨bm, 0, none⟩ = some (I q1) := by rw [cell_of_row _ _ _ _ _ _ s2]; rfl
          have x7 : T3.cell? ⟨bm, 1, none⟩ = some (I q2) := by rw [cell_of_row _ _ _ _ _ _ s2]; rfl
          have S0 := Lib.hid s0
          have S1 := Lib.hid s1
          have SBL := Lib.hid sb
          clear s0 s1 s2 sb
          go_wp2_with (with_reducible show wpList _ _ _ (⟨none, Op.store _ _ _, _, _, _, _⟩ :: _) _ _; refine wpList_store_row rfl 23 _ _ rfl (ba + 1) rfl _ _ S1.out #[I (min b1 q1), I (max b2 q2)] rfl (one2 rfl rfl) rfl (by kernel_rfl) ?_)
          exact ⟨⟨k + 1, HK5.out, rfl, by rw [hx.out], by rw [hx.out]; exact (setRow_other (by omega)).trans S0.out, by rw [hy.out]; exact setRow_same S1.out, below_setRow SBL.out (Nat.le_succ_of_le SA.out) _⟩, by have := HK5.out; simp [intOf]; omega⟩
        case false =>
          have x0 : T2.cell? ⟨ba, 0, none⟩ = some (I a1) := by rw [cell_of_row _ _ _ _ _ _ ra]; rfl
          have x1 : T2.cell? ⟨ba, 1, none⟩ = some (I a2) := by rw [cell_of_row _ _ _ _ _ _ ra]; rfl
          have x2 : T2.cell? ⟨ba + 1, 0, none⟩ = some (I b1) := by rw [cell_of_row _ _ _ _ _ _ rb]; rfl
          have x3 : T2.cell? ⟨ba + 1, 1, none⟩ = some (I b2) := by rw [cell_of_row _ _ _ _ _ _ rb]; rfl
          have x4 : T2.cell? ⟨bn, 0, none⟩ = some (I p1) := by rw [cell_of_row _ _ _ _ _ _ rn]; rfl
          have x5 : T2.cell? ⟨bn, 1, none⟩ = some (I p2) := by rw [cell_of_row _ _ _ _ _ _ rn]; rfl
          have x6 : T2.cell? ⟨bm, 0, none⟩ = some (I q1) := by rw [cell_of_row _ _ _ _ _ _ rm]; rfl
          have x7 : T2.cell? ⟨bm, 1, none⟩ = some (I q2) := by rw [cell_of_row _ _ _ _ _ _ rm]; rfl
          have f0 : T2.frozen? ⟨ba, 0, none⟩ = false := frozen_of_row _ _ _ _ _ ra
          have f1 : T2.frozen? ⟨ba, 1, none⟩ = false := frozen_of_row _ _ _ _ _ ra
          have f2 : T2.frozen? ⟨ba + 1, 0, none⟩ = false := frozen_of_row _ _ _ _ _ rb
          have f3 : T2.frozen? ⟨ba + 1, 1, none⟩ = false := frozen_of_row _ _ _ _ _ rb
          have HRa := Lib.hid ra
          have HRb := Lib.hid rb
          have HRn := Lib.hid rn
          have HRm := Lib.hid rm
          have HBT := Lib.hid bt
          clear ra rb rn rm bt
          have n1 : ¬ bm = ba := by have := hlt2.out; omega
          have n2 : ¬ ba = bm := fun e => n1 e.symm
          have n3 : ¬ bn = ba := by have := hlt1.out; omega
          have n4 : ¬ ba = bn := fun e => n3 e.symm
          have n5 : ¬ bm = ba + 1 := by have := hlt2.out; omega
          have n6 : ¬ ba + 1 = bm := fun e => n5 e.symm
          have n7 : ¬ bn = ba + 1 := by have := hlt1.out; omega
          have n8 : ¬ ba + 1 = bn := fun e => n7 e.symm
          go_upto_region 12 with fail
          go_region
          all_goals
            replace hx : Hid (hrK v (anX l ⟨xl, xh⟩) (k + 1) = (true, ⟨p1, p2⟩)) := by
              have := hx.out
              rw [if_neg Bool.false_ne_true, hu_self] at this
              exact this
            replace hy : Hid (hrK v (anY l ⟨xl, xh⟩) (k + 1) = (true, ⟨q1, q2⟩)) := by
              have := hy.out
              rw [if_neg Bool.false_ne_true, hu_self] at this
              exact this
            obtain ⟨g1, g2, g3⟩ := two_cells HRa.out HRb.out (Nat.ne_of_lt (Nat.lt_succ_self _)) (I p1) (I p2) (I q1) (I q2) HBT.out SA.out (Nat.le_succ_of_le SA.out)
            have g4 : (((((T2.setCell ⟨ba, 0, none⟩ (I p1)).setCell ⟨ba, 1, none⟩ (I p2)).setCell ⟨ba + 1, 0, none⟩ (I q1)).setCell ⟨ba + 1, 1, none⟩ (I q2)).drew).heap[bn]? = some (.cells #[I p1, I p2] 23 (0, 0)) := ro2 (ro2 (ro2 (ro2 HRn.out n3) n3) n7) n7
            have g5 : (((((T2.setCell ⟨ba, 0, none⟩ (I p1)).setCell ⟨ba, 1, none⟩ (I p2)).setCell ⟨ba + 1, 0, none⟩ (I q1)).setCell ⟨ba + 1, 1, none⟩ (I q2)).drew).heap[bm]? = some (.cells #[I q1, I q2] 23 (0, 0)) := ro2 (ro2 (ro2 (ro2 HRm.out n1) n1) n5) n5
            clear x0 x1 x2 x3 x4 x5 x6 x7 f0 f1 f2 f3 HRa HRb HRn HRm HBT n1 n2 n3 n4 n5 n6 n7 n8
            generalize (((((T2.setCell ⟨ba, 0, none⟩ (I p1)).setCell ⟨ba, 1, none⟩ (I p2)).setCell ⟨ba + 1, 0, none⟩ (I q1)).setCell ⟨ba + 1, 1, none⟩ (I q2)).drew) = T4 at *
            have ra := g1
            have rb := g2
            have rn := g4
            have rm := g5
            have bt := g3
            clear g1 g2 g3 g4 g5
            have x0 : T4.cell? ⟨ba, 0, none⟩ = some (I p1) := by rw [cell_of_row _ _ _ _ _ _ ra]; rfl
            have x1 : T4.cell? ⟨ba, 1, none⟩ = some (I p2) := by rw [cell_of_row _ _ _ _ _ _ ra]; rfl
            have x2 : T4.cell? ⟨ba + 1, 0, none⟩ = some (I q1) := by rw [cell_of_row _ _ _ _ _ _ rb]; rfl
            have x3 : T4.cell? ⟨ba + 1, 1, none⟩ = some (I q2) := by rw [cell_of_row _ _ _ _ _ _ rb]; rfl
            have x4 : T4.cell? ⟨bn, 0, none⟩ = some (I p1) := by rw [cell_of_row _ _ _ _ _ _ rn]; rfl
            have x5 : T4.cell? ⟨bn, 1, none⟩ = some (I p2) := by rw [cell_of_row _ _ _ _ _ _ rn]; rfl
            have x6 : T4.cell? ⟨bm, 0, none⟩ = some (I q1) := by rw [cell_of_row _ _ _ _ _ _ rm]; rfl
            have x7 : T4.cell? ⟨bm, 1, none⟩ = some (I q2) := by rw [cell_of_row _ _ _ _ _ _ rm]; rfl
            have HRa := Lib.hid ra
            have HRb := Lib.hid rb
            have HRm := Lib.hid rm
            have HBT := Lib.hid bt
            clear ra rb rn rm bt
            go_upto_region 14 with (with_reducible show wpList _ _ _ (⟨none, Op.store _ _ _, _, _, _, _⟩ :: _) _ _; refine wpList_store_row rfl 23 _ _ rfl ba rfl _ _ HRa.out #[I p1, I p2] rfl (one2 rfl rfl) rfl (by kernel_rfl) ?_)
            refine name_w fun T3 hT3 => ?_
            have s0 : T3.heap[ba]? = some (.cells #[I p1, I p2] 23 (0, 0)) := by rw [hT3]; exact setRow_same HRa.out
            have s1 : T3.heap[ba + 1]? = some (.cells #[I q1, I q2] 23 (0, 0)) := by rw [hT3]; exact (setRow_other (by omega)).trans HRb.out
            have s2 : T3.heap[bm]? = some (.cells #[I q1, I q2] 23 (0, 0)) := by rw [hT3]; exact (setRow_other (by have := hlt2.out; omega)).trans HRm.out
            have sb : Below W.heap.size W T3 := by rw [hT3]; exact below_setRow HBT.out SA.out _
            clear hT3 x0 x1 x2 x3 x4 x5 x6 x7
            have x2 : T3.cell? ⟨ba + 1, 0, none⟩ = some (I q1) := by rw [cell_of_row _ _ _ _ _ _ s1]; rfl
            have x3 : T3.cell? ⟨ba + 1, 1, none⟩ = some (I q2) := by rw [cell_of_row _ _ _ _ _ _ s1]; rfl
            have x6 : T3.cell? ⟨bm, 0, none⟩ = some (I q1) := by rw [cell_of_row _ _ _ _ _ _ s2]; rfl
            have x7 : T3.cell? ⟨bm, 1, none⟩ = some (I q2) := by rw [cell_of_row _ _ _ _ _ _ s2]; rfl
            have S0 := Lib.hid s0
            have S1 := Lib.hid s1
            have SBL := Lib.hid sb
            clear s0 s1 s2 sb
            go_wp2_with (with_reducible show wpList _ _ _ (⟨none, Op.store _ _ _, _, _, _, _⟩ :: _) _ _; refine wpList_store_row rfl 23 _ _ rfl (ba + 1) rfl _ _ S1.out #[I q1, I q2] rfl (one2 rfl rfl) rfl (by kernel_rfl) ?_)
            exact ⟨⟨k + 1, HK5.out, rfl, by rw [hx.out], by rw [hx.out]; exact (setRow_other (by omega)).trans S0.out, by rw [hy.out]; exact setRow_same S1.out, below_setRow SBL.out (Nat.le_succ_of_le SA.out) _⟩, by have := HK5.out; simp [intOf]; omega⟩
    · obtain rfl : k = 5 := by omega
      have e1 := (fo_an (X := anX l ⟨xl, xh⟩) HVV.out (fun k hk => (an_ok hst.out hsp.out hk).1)).1
      have e2 := (fo_an (X := anY l ⟨xl, xh⟩) HVV.out (fun k hk => (an_ok hst.out hsp.out hk).2)).1
      rw [e1, e2] at hf
      obtain ⟨⟨fl, ⟨a1, a2⟩⟩, ha⟩ : ∃ r, hrK v (anX l ⟨xl, xh⟩) 5 = r := ⟨_, rfl⟩
      obtain ⟨⟨fl', ⟨b1, b2⟩⟩, hbb⟩ : ∃ r, hrK v (anY l ⟨xl, xh⟩) 5 = r := ⟨_, rfl⟩
      rw [ha] at hra hf
      rw [hbb] at hrb hf
      rw [ha]
      simp only at hra hrb hf
      have s1 : Y.heap[w.heap.size + 1]? = some (.cells #[I 0, I 0] 23 (0, 0)) := by rw [ovr_of HBY.out]; exact RW1.out _
      have s2 : Y.heap[w.heap.size + 1 + 1]? = some (.cells #[I 0, I 0] 23 (0, 0)) := by rw [ovr_of HBY.out]; exact RW2.out _
      have x0 : Y.cell? ⟨ba, 0, none⟩ = some (I a1) := by rw [cell_of_row _ _ _ _ _ _ hra]; rfl
      have x1 : Y.cell? ⟨ba, 1, none⟩ = some (I a2) := by rw [cell_of_row _ _ _ _ _ _ hra]; rfl
      have x2 : Y.cell? ⟨ba + 1, 0, none⟩ = some (I b1) := by rw [cell_of_row _ _ _ _ _ _ hrb]; rfl
      have x3 : Y.cell? ⟨ba + 1, 1, none⟩ = some (I b2) := by rw [cell_of_row _ _ _ _ _ _ hrb]; rfl
      have x4 : Y.cell? ⟨w.heap.size + 1, 0, none⟩ = some (I 0) := by rw [cell_of_row _ _ _ _ _ _ s1]; rfl
      have x5 : Y.cell? ⟨w.heap.size + 1, 1, none⟩ = some (I 0) := by rw [cell_of_row _ _ _ _ _ _ s1]; rfl
      have x6 : Y.cell? ⟨w.heap.size + 1 + 1, 0, none⟩ = some (I 0) := by rw [cell_of_row _ _ _ _ _ _ s2]; rfl
      have x7 : Y.cell? ⟨w.heap.size + 1 + 1, 1, none⟩ = some (I 0) := by rw [cell_of_row _ _ _ _ _ _ s2]; rfl
      have f0 : Y.frozen? ⟨w.heap.size + 1, 0, none⟩ = false := frozen_of_row _ _ _ _ _ s1
      have f1 : Y.frozen? ⟨w.heap.size + 1, 1, none⟩ = false := frozen_of_row _ _ _ _ _ s1
      have f2 : Y.frozen? ⟨w.heap.size + 1 + 1, 0, none⟩ = false := frozen_of_row _ _ _ _ _ s2
      have f3 : Y.frozen? ⟨w.heap.size + 1 + 1, 1, none⟩ = false := frozen_of_row _ _ _ _ _ s2
      have hWs : w.heap.size + 1 + 1 < W.heap.size := by rw [HW.out]; simp
      have n1 : ¬ ba = w.heap.size + 1 := by have := SA.out; omega
      have n2 : ¬ w.heap.size + 1 = ba := fun e => n1 e.symm
      have n3 : ¬ ba + 1 = w.heap.size + 1 := by have := SA.out; omega
      have n4 : ¬ w.heap.size + 1 = ba + 1 := fun e => n3 e.symm
      have n5 : ¬ ba = w.heap.size + 1 + 1 := by have := SA.out; omega
      have n6 : ¬ w.heap.size + 1 + 1 = ba := fun e => n5 e.symm
      have n7 : ¬ ba + 1 = w.heap.size + 1 + 1 := by have := SA.out; omega
      have n8 : ¬ w.heap.size + 1 + 1 = ba + 1 := fun e => n7 e.symm
      have S1 := Lib.hid s1
      have S2 := Lib.hid s2
      clear hra hrb hb s1 s2 ha hbb e1 e2 hWs
      go_upto_region 15 with fail
      go_region
      all_goals
        obtain ⟨g1, g2, g3⟩ := two_cells S1.out S2.out (Nat.ne_of_lt (Nat.lt_succ_self _)) (I a1) (I a2) (I b1) (I b2) (HWB.out.trans (HBY.out.mono HWB.out.size)) (Nat.le_succ _) (Nat.le_trans (Nat.le_succ _) (Nat.le_succ _))
        generalize (((((Y.setCell ⟨w.heap.size + 1, 0, none⟩ (I a1)).setCell ⟨w.heap.size + 1, 1, none⟩ (I a2)).setCell ⟨w.heap.size + 1 + 1, 0, none⟩ (I b1)).setCell ⟨w.heap.size + 1 + 1, 1, none⟩ (I b2)).drew) = ZZ at *
        go_wp2_with fail
        refine bodyPost_ret (results_two_tmp rfl _ _ (w.heap.size + 1) (w.heap.size + 1 + 1) 23 23 _ _ (0, 0) (0, 0) _ _ rfl g1 rfl g2 Try.underlying23 rfl (by kernel_rfl) Try.underlying23 rfl (by kernel_rfl)) rfl ?_
        exact ⟨by rw [hf.out]; rfl, g3⟩
end Go.Proofs.Yteibgenkklpoaaa.Un
