/- The law DefectUsables: its walk. -/
import Derived.Test.YteibgenkklpoaaaGreatDzb
import Derived.Test.YteibgenkklpoaaaGreatDl
import Derived.Test.YteibgenkklpoaaaGreatDn2
namespace Go.Proofs.YteibgenkklpoaaaGreat.Un
open Go.RowKit
/-- The answer of Usable. -/
def UsT (m : Mdl) (g : Gro) (v : Int) (V : Value) (w : World) : Prop := ∃ A c l, V = .tuple #[.slice A l.length c, I (usE m g v)] ∧ (usE m g v = 0 → l = usF m g v) ∧ (¬ usE m g v = 0 → l = []) ∧ Rd w w.heap.size 2 A l.length (rR l)
theorem us_grow {P : Program} {f : FuncId} {args : Array Value} {w : World} {m : Mdl} {g : Gro} {v : Int} (h : Calls P f args w (RetU m g v w)) : Calls P f args w fun e w' => ∃ V, e = .returned V ∧ Le w w' ∧ Box (UsT m g v) V w' :=
  h.mono fun _ _ ⟨V, l, he, h1, h2, ho, hb⟩ => by
    obtain ⟨A, c, rfl, _, hrd⟩ := Rd.of_rc rfl ho
    exact ⟨_, he, hb, fun _ hl => ⟨A, c, l, rfl, h1, h2, (hrd.below hl).more hl.size⟩⟩
theorem UsT.same {m : Mdl} {g : Gro} {v : Int} {A : Option Addr} {n c : Nat} {e : Int} {w : World} (h : UsT m g v (.tuple #[.slice A n c, I e]) w) : ∃ l, n = l.length ∧ e = usE m g v ∧ (usE m g v = 0 → l = usF m g v) ∧ (¬ usE m g v = 0 → l = []) ∧ Rd w w.heap.size 2 A l.length (rR l) := by
  obtain ⟨A', c', l, he, h1, h2, hr⟩ := h
  injection he with he
  simp at he
  obtain ⟨⟨rfl, h3, _⟩, h4⟩ := he
  exact ⟨l, h3, h4, h1, h2, hr⟩
theorem usF_len (m : Mdl) {g : Gro} (v : Int) (h : okGro g = true) : (usF m g v).length ≤ 3001 := by
  have hg := okGro_ok h
  have h1 := usP_len (fineG m g v) (at0 g.r 0).lo (usN g)
  have h2 : usN g ≤ 3001 := by
    unfold usN
    have := hg.lo
    have := hg.hi
    omega
  unfold usF
  omega
set_option maxRecDepth 100000 in
set_option maxHeartbeats 8000000 in
theorem defectUsables_any (m : Mdl) (g : Gro) (A Z F : Option Addr) (a c d : Nat) (v : Int) (w : World) (hg : GroRd w w.heap.size g A Z F) (hv : 0 ≤ v ∧ v ≤ 255) :
    Calls Tryz.prog 5 #[.agg (mdA m), .agg (grA g A Z F a c d), .int .u8 v] w fun e w' => e = .returned (.bool true) ∧ Below w.heap.size w w' := by
  have KN := Lib.hid known_any
  have CWD : Hid (∀ V, Calls Tryz.prog 15 #[.agg (grA g A Z F a c d)] V fun e w' => e = .returned (.bool (wdB g)) ∧ Below V.heap.size V w') := fun V => wide_any g A Z F a c d V
  obtain ⟨W, hW⟩ : ∃ W, W = ((w.alloc (.cells #[I m.sc, I (m.b 0).lo, I (m.b 0).hi, I (m.b 1).lo, I (m.b 1).hi, I (m.b 2).lo, I (m.b 2).hi, I (m.b 3).lo, I (m.b 3).hi] 26)).alloc (.cells #[.slice A g.r.length a, I g.o, .slice Z g.z.length c, .slice F g.f.length d] 48)) := ⟨_, rfl⟩
  have rowW0 : W.heap[w.heap.size]? = some (.cells #[I m.sc, I (m.b 0).lo, I (m.b 0).hi, I (m.b 1).lo, I (m.b 1).hi, I (m.b 2).lo, I (m.b 2).hi, I (m.b 3).lo, I (m.b 3).hi] 26 (0, 0)) := by rw [hW]; exact heap_before (heap_last _ _ _ rfl)
  have yW00 := ovr_cell (W := W) (b := w.heap.size) (o := 0) (v := I m.sc) (by rw [cell_of_row _ _ _ _ _ _ rowW0]; rfl)
  have yW01 := ovr_cell (W := W) (b := w.heap.size) (o := 1) (v := I (m.b 0).lo) (by rw [cell_of_row _ _ _ _ _ _ rowW0]; rfl)
  have yW02 := ovr_cell (W := W) (b := w.heap.size) (o := 2) (v := I (m.b 0).hi) (by rw [cell_of_row _ _ _ _ _ _ rowW0]; rfl)
  have yW03 := ovr_cell (W := W) (b := w.heap.size) (o := 3) (v := I (m.b 1).lo) (by rw [cell_of_row _ _ _ _ _ _ rowW0]; rfl)
  have yW04 := ovr_cell (W := W) (b := w.heap.size) (o := 4) (v := I (m.b 1).hi) (by rw [cell_of_row _ _ _ _ _ _ rowW0]; rfl)
  have yW05 := ovr_cell (W := W) (b := w.heap.size) (o := 5) (v := I (m.b 2).lo) (by rw [cell_of_row _ _ _ _ _ _ rowW0]; rfl)
  have yW06 := ovr_cell (W := W) (b := w.heap.size) (o := 6) (v := I (m.b 2).hi) (by rw [cell_of_row _ _ _ _ _ _ rowW0]; rfl)
  have yW07 := ovr_cell (W := W) (b := w.heap.size) (o := 7) (v := I (m.b 3).lo) (by rw [cell_of_row _ _ _ _ _ _ rowW0]; rfl)
  have yW08 := ovr_cell (W := W) (b := w.heap.size) (o := 8) (v := I (m.b 3).hi) (by rw [cell_of_row _ _ _ _ _ _ rowW0]; rfl)
  have RrowW0 := Lib.hid (ovr_row rowW0)
  clear rowW0
  have rowW1 : W.heap[w.heap.size + 1]? = some (.cells #[.slice A g.r.length a, I g.o, .slice Z g.z.length c, .slice F g.f.length d] 48 (0, 0)) := by rw [hW]; exact heap_last _ _ _ (by simp)
  have yW10 := ovr_cell (W := W) (b := w.heap.size + 1) (o := 0) (v := .slice A g.r.length a) (by rw [cell_of_row _ _ _ _ _ _ rowW1]; rfl)
  have yW11 := ovr_cell (W := W) (b := w.heap.size + 1) (o := 1) (v := I g.o) (by rw [cell_of_row _ _ _ _ _ _ rowW1]; rfl)
  have yW12 := ovr_cell (W := W) (b := w.heap.size + 1) (o := 2) (v := .slice Z g.z.length c) (by rw [cell_of_row _ _ _ _ _ _ rowW1]; rfl)
  have yW13 := ovr_cell (W := W) (b := w.heap.size + 1) (o := 3) (v := .slice F g.f.length d) (by rw [cell_of_row _ _ _ _ _ _ rowW1]; rfl)
  have RrowW1 := Lib.hid (ovr_row rowW1)
  clear rowW1
  have HUW : Hid (∀ u, Below w.heap.size w (ovr W u)) := U2 hW
  have HW := Lib.hid hW
  clear hW
  go_enter Tryz.func5, Tryz.ntmps5
  go_upto_region 1 with (fail)
  rw [← HW.out]
  obtain ⟨u0, hu0⟩ := ovr_self W
  rw [hu0]
  clear hu0
  rcases hwd : wdB g with _ | _ <;> rw [hwd] at CWD
  case true =>
    clear hg
    go_wp2_with fail
    refine (CWD.out _).mono ?_
    rintro e w1 ⟨rfl, hb1⟩
    obtain ⟨u1, rfl⟩ := ovr_next hb1
    clear hb1
    go_wp2_with fail
    refine (KN.out _).mono ?_
    rintro e w1 ⟨rfl, hb1⟩
    obtain ⟨uk, rfl⟩ := ovr_next hb1
    clear hb1
    go_wp2_with fail
    go_ret
    exact ⟨rfl, HUW.out _⟩
  have hl := wd_no hwd
  have HGI : Hid (∀ V, Below w.heap.size w V → GroIn V w.heap.size g A Z F) := fun V hV => (hg.inn hl).below (Nat.le_refl _) hV
  have HBR : Hid (IBd g.r) := hg.br
  have HBF : Hid (IBd g.f) := hg.bf
  have HV := Lib.hid hv
  have COW : Hid (∀ V, Below w.heap.size w V → Calls Tryz.prog 16 #[.agg (grA g A Z F a c d)] V (RetOw g V)) := fun V hV => own_any g A Z F a c d V w.heap.size hV.size (HGI.out V hV) hl
  have CUS : Hid (∀ V A' Z' F' a' c' d', GroIn V V.heap.size g A' Z' F' → Calls Tryz.prog 23 #[.agg (mdA m), .agg (grA g A' Z' F' a' c' d'), .int .u8 v] V (RetU m g v V)) := fun V A' Z' F' a' c' d' h => usable_any m g v A' Z' F' a' c' d' V V.heap.size (Nat.le_refl _) h
  have CRM : Hid (∀ V, Calls Tryz.prog 10 #[.agg (mdA m)] V fun e w' => e = .returned (.bool (okMdl m)) ∧ Below V.heap.size V w') := fun V => refModel_any m V
  have CRG : Hid (∀ V, Below w.heap.size w V → Calls Tryz.prog 19 #[.agg (grA g A Z F a c d)] V fun e w' => e = .returned (.bool (okGro g)) ∧ Below V.heap.size V w') := fun V hV => refGrowth_any g A Z F a c d V w.heap.size hV.size (HGI.out V hV) HBR.out HBF.out
  have hue : Hid (usE m g v = if okMdl m && (okGro g && decide (v ≤ 31)) then 0 else 2) := rfl
  clear hg hv hl
  go_wp2_with fail
  refine (CWD.out _).mono ?_
  rintro e w1 ⟨rfl, hb1⟩
  obtain ⟨u1, rfl⟩ := ovr_next hb1
  clear hb1
  clear CWD hwd
  go_upto_region 3 with fail
  go_cut [7] (fun s wx => s = .bool (okMdl m && (okGro g && decide (v ≤ 31))) ∧ Below W.heap.size W wx)
  case first =>
    rcases h1 : okMdl m with _ | _ <;> rw [h1] at CRM
    · go_wp2_with fail
      refine (CRM.out _).mono ?_
      rintro e w1 ⟨rfl, hb1⟩
      obtain ⟨u2, rfl⟩ := ovr_next hb1
      clear hb1
      go_wp2_with fail
      go_meet
      case rel => exact ⟨by rw [h1]; rfl, ovr_below _ _⟩
    · rcases h2 : okGro g with _ | _ <;> rw [h2] at CRG
      · go_wp2_with fail
        refine (CRM.out _).mono ?_
        rintro e w1 ⟨rfl, hb1⟩
        obtain ⟨u2, rfl⟩ := ovr_next hb1
        clear hb1
        go_wp2_with fail
        refine (CRG.out _ (HUW.out _)).mono ?_
        rintro e w1 ⟨rfl, hb1⟩
        obtain ⟨u3, rfl⟩ := ovr_next hb1
        clear hb1
        go_wp2_with fail
        go_meet
        case rel => exact ⟨by rw [h1, h2]; rfl, ovr_below _ _⟩
      · by_cases h3 : v ≤ 31
        · have d3 := decide_eq_true h3
          go_wp2_with fail
          refine (CRM.out _).mono ?_
          rintro e w1 ⟨rfl, hb1⟩
          obtain ⟨u2, rfl⟩ := ovr_next hb1
          clear hb1
          go_wp2_with fail
          refine (CRG.out _ (HUW.out _)).mono ?_
          rintro e w1 ⟨rfl, hb1⟩
          obtain ⟨u3, rfl⟩ := ovr_next hb1
          clear hb1
          go_wp2_with fail
          go_meet
          case rel => exact ⟨by rw [h1, h2, d3]; rfl, ovr_below _ _⟩
        · have d3 := decide_eq_false h3
          go_wp2_with fail
          refine (CRM.out _).mono ?_
          rintro e w1 ⟨rfl, hb1⟩
          obtain ⟨u2, rfl⟩ := ovr_next hb1
          clear hb1
          go_wp2_with fail
          refine (CRG.out _ (HUW.out _)).mono ?_
          rintro e w1 ⟨rfl, hb1⟩
          obtain ⟨u3, rfl⟩ := ovr_next hb1
          clear hb1
          go_wp2_with fail
          go_meet
          case rel => exact ⟨by rw [h1, h2, d3]; rfl, ovr_below _ _⟩
  case rest =>
    obtain ⟨hs, hbt⟩ := hcut
    obtain ⟨u4, rfl⟩ : ∃ u, wc = ovr W u := ⟨wc, ovr_of hbt⟩
    clear hbt CRM CRG
    rcases hb : (okMdl m && (okGro g && decide (v ≤ 31))) with _ | _
    · rw [hb] at hs hue
      subst hs
      obtain ⟨ue, hue2⟩ : ∃ q, usE m g v = q := ⟨_, rfl⟩
      have HUE := Lib.hid hue2
      have HQ : Hid (ue = 2) := by show _ = _; rw [← hue2, hue.out]; rfl
      clear hb hue2
      go_upto_region 8 with fail
      have hbV8 := ovr_below W u4
      obtain ⟨V8, hV8⟩ : ∃ V8, V8 = ovr W u4 := ⟨_, rfl⟩
      rw [← hV8] at hbV8
      rw [← hV8]
      have hV8' := Lib.hid hV8
      clear hV8
      have hbV8' := Lib.hid hbV8
      have reV8 : ∀ v, ∃ x, ovr V8 v = ovr W x := fun v => ovr_reB hbV8 v
      replace yW00 := tr_cell reV8 yW00
      replace yW01 := tr_cell reV8 yW01
      replace yW02 := tr_cell reV8 yW02
      replace yW03 := tr_cell reV8 yW03
      replace yW04 := tr_cell reV8 yW04
      replace yW05 := tr_cell reV8 yW05
      replace yW06 := tr_cell reV8 yW06
      replace yW07 := tr_cell reV8 yW07
      replace yW08 := tr_cell reV8 yW08
      replace RrowW0 := Lib.hid (tr_row reV8 RrowW0.out)
      replace yW10 := tr_cell reV8 yW10
      replace yW11 := tr_cell reV8 yW11
      replace yW12 := tr_cell reV8 yW12
      replace yW13 := tr_cell reV8 yW13
      replace RrowW1 := Lib.hid (tr_row reV8 RrowW1.out)
      have HUV8 : Hid (∀ u, Below w.heap.size w (ovr V8 u)) := fun u => by obtain ⟨x, hx⟩ := reV8 u; rw [hx]; exact HUW.out x
      clear reV8 hbV8
      refine Dl.wp_region_late 8 [7] (fun j => if j = 2 then some (OwB g) else if j = 4 then some (UsT m g v) else none) (by kernel_rfl) (by kernel_rfl) (by kernel_rfl) (by kernel_rfl) [] (E := 23)
        ⟨by kernel_rfl, alloc_rng, fun j hj => by cases hj⟩ (by kernel_rfl) (fun i hi => by simp only [List.mem_cons, List.not_mem_nil, or_false] at hi; rcases hi with rfl; rfl) (fun c a d v w h => by cases d <;> exact h) ?_
      simp only [List.take_succ_cons, List.take_zero, List.drop_succ_cons, List.drop_zero]
      repeat (refine Dk.wpG_one rfl rfl rfl ?_; intro K hK; go_big_quiet_op; go_big_quiet_on)
      refine Dk.wpG_make (OwB g) rfl rfl (fun w' hw' _ => ?_) (fun u hu => ?_)
      · obtain ⟨x, rfl⟩ := hw'
        go_simp
        exact ow_grow (COW.out _ (HUV8.out x))
      obtain ⟨_, _, A2, Z2, F2, a2, c2, d2, rfl, _⟩ := hu
      simp only [Act.put, List.setIfInBounds_toArray, List.set_cons_zero, List.set_cons_succ]
      repeat (refine Dk.wpG_one rfl rfl rfl ?_; intro K hK; go_big_quiet_op; go_big_quiet_on)
      refine Dk.wpG_make (UsT m g v) rfl rfl (fun w' hw' hk => ?_) (fun u hu => ?_)
      · have hk2 := hk ⟨2, .data⟩ (by simp) rfl _ 39 _ rfl rfl rfl (Nat.lt_of_lt_of_eq (by decide : 39 < 69) rfl) rfl
        have hgi := OwB.at hk2.now
        go_simp
        exact us_grow (CUS.out w' A2 Z2 F2 a2 c2 d2 hgi)
      obtain ⟨_, _, A4, c4, l0, rfl, _, _, _⟩ := hu
      obtain ⟨n4, hn4⟩ : ∃ n, l0.length = n := ⟨_, rfl⟩
      rw [hn4, HUE.out]
      clear hn4
      simp only [Act.put, List.setIfInBounds_toArray, List.set_cons_zero, List.set_cons_succ]
      repeat (refine Dk.wpG_one rfl rfl rfl ?_; intro K hK; go_big_quiet_op; go_big_quiet_on)
      refine Dk.wpG_nil (fun w5 hw5 hG => ?_)
      obtain ⟨l, rfl, _, hl1, hl2, hrd⟩ := (Box.now hG.2).same
      clear hG
      refine Dl.wpTailH_cons (wp_assign _ (.slice A4 l.length c4) rfl rfl ⟨hw5, ?_⟩)
      refine Dl.wpTailH_cons (wp_assign _ (I ue) rfl rfl ⟨hw5, ?_⟩)
      refine Dl.wpTailH_nil ?_
      simp only [Act.put, List.setIfInBounds_toArray, List.set_cons_zero, List.set_cons_succ]
      obtain ⟨x5, rfl⟩ := hw5
      have HL1 := Lib.hid hl1
      have HL2 := Lib.hid hl2
      have HRD := Lib.hid hrd
      clear hl1 hl2 hrd
      have hl0 : l.length = 0 := by rw [HL2.out (by rw [HUE.out, HQ.out]; decide)]; rfl
      have hq := HQ.out
      subst hq
      rw [hl0]
      go_wp2_with fail
      refine (KN.out _).mono ?_
      rintro e w1 ⟨rfl, hb1⟩
      obtain ⟨uk, rfl⟩ := ovr_next hb1
      clear hb1
      go_wp2_with fail
      go_ret
      exact ⟨rfl, HUV8.out _⟩
    · rw [hb] at hs hue
      subst hs
      obtain ⟨hb1, hb2⟩ := Bool.and_eq_true_iff.1 hb
      obtain ⟨hb3, _⟩ := Bool.and_eq_true_iff.1 hb2
      have HGO := Lib.hid (okGro_ok hb3)
      have HLU := Lib.hid (usF_len m v hb3)
      have CE : Hid (∀ V, Below w.heap.size w V → Calls Tryz.prog 22 #[.agg (grA g A Z F a c d)] V fun e w' => e = .returned (.tuple #[I (at0 g.r 0).lo, I (lastX g.r)]) ∧ Below V.heap.size V w') := fun V hV => refEnds_any g A Z F a c d V w.heap.size hV.size (HGI.out V hV) (by have := HGO.out.r.n2; omega)
      have CRU : Hid (∀ V, Below w.heap.size w V → Calls Tryz.prog 24 #[.agg (mdA m), .agg (grA g A Z F a c d), .int .u8 v] V (RetUs m g v V)) := fun V hV => refUsable_any m g v A Z F a c d V w.heap.size hV.size (HGI.out V hV) HBR.out HBF.out hb1 hb3
      obtain ⟨ue, hue2⟩ : ∃ q, usE m g v = q := ⟨_, rfl⟩
      have HUE := Lib.hid hue2
      have hq : ue = 0 := by rw [← hue2, hue.out]; rfl
      have HQ := Lib.hid hq
      have kf : IntKind.i64.wrap (lastX g.r - (at0 g.r 0).lo) = lastX g.r - (at0 g.r 0).lo := IntWalk.i64_in _ (by have := HGO.out.lo; have := HGO.out.hi; have := tab_asc HGO.out.r; omega)
      clear hb hb1 hb2 hb3 hue2 hq
      go_wp2_with fail
      refine (CE.out _ (HUW.out _)).mono ?_
      rintro e w1 ⟨rfl, hb1⟩
      obtain ⟨u5, rfl⟩ := ovr_next hb1
      clear hb1
      by_cases h3 : 300 < lastX g.r - (at0 g.r 0).lo
      · have d1 := decide_eq_true h3
        go_wp2_with fail
        refine (KN.out _).mono ?_
        rintro e w1 ⟨rfl, hb1⟩
        obtain ⟨uk, rfl⟩ := ovr_next hb1
        clear hb1
        go_wp2_with fail
        go_ret
        exact ⟨rfl, HUW.out _⟩
      have d1 := decide_eq_false h3
      go_upto_region 8 with fail
      clear d1 h3 kf
      have hbV8 := ovr_below W u5
      obtain ⟨V8, hV8⟩ : ∃ V8, V8 = ovr W u5 := ⟨_, rfl⟩
      rw [← hV8] at hbV8
      rw [← hV8]
      have hV8' := Lib.hid hV8
      clear hV8
      have hbV8' := Lib.hid hbV8
      have reV8 : ∀ v, ∃ x, ovr V8 v = ovr W x := fun v => ovr_reB hbV8 v
      replace yW00 := tr_cell reV8 yW00
      replace yW01 := tr_cell reV8 yW01
      replace yW02 := tr_cell reV8 yW02
      replace yW03 := tr_cell reV8 yW03
      replace yW04 := tr_cell reV8 yW04
      replace yW05 := tr_cell reV8 yW05
      replace yW06 := tr_cell reV8 yW06
      replace yW07 := tr_cell reV8 yW07
      replace yW08 := tr_cell reV8 yW08
      replace RrowW0 := Lib.hid (tr_row reV8 RrowW0.out)
      replace yW10 := tr_cell reV8 yW10
      replace yW11 := tr_cell reV8 yW11
      replace yW12 := tr_cell reV8 yW12
      replace yW13 := tr_cell reV8 yW13
      replace RrowW1 := Lib.hid (tr_row reV8 RrowW1.out)
      have HUV8 : Hid (∀ u, Below w.heap.size w (ovr V8 u)) := fun u => by obtain ⟨x, hx⟩ := reV8 u; rw [hx]; exact HUW.out x
      clear reV8 hbV8
      refine Dl.wp_region_late 8 [7] (fun j => if j = 2 then some (OwB g) else if j = 4 then some (UsT m g v) else none) (by kernel_rfl) (by kernel_rfl) (by kernel_rfl) (by kernel_rfl) [] (E := 23)
        ⟨by kernel_rfl, alloc_rng, fun j hj => by cases hj⟩ (by kernel_rfl) (fun i hi => by simp only [List.mem_cons, List.not_mem_nil, or_false] at hi; rcases hi with rfl; rfl) (fun c a d v w h => by cases d <;> exact h) ?_
      simp only [List.take_succ_cons, List.take_zero, List.drop_succ_cons, List.drop_zero]
      repeat (refine Dk.wpG_one rfl rfl rfl ?_; intro K hK; go_big_quiet_op; go_big_quiet_on)
      refine Dk.wpG_make (OwB g) rfl rfl (fun w' hw' _ => ?_) (fun u hu => ?_)
      · obtain ⟨x, rfl⟩ := hw'
        go_simp
        exact ow_grow (COW.out _ (HUV8.out x))
      obtain ⟨_, _, A2, Z2, F2, a2, c2, d2, rfl, _⟩ := hu
      simp only [Act.put, List.setIfInBounds_toArray, List.set_cons_zero, List.set_cons_succ]
      repeat (refine Dk.wpG_one rfl rfl rfl ?_; intro K hK; go_big_quiet_op; go_big_quiet_on)
      refine Dk.wpG_make (UsT m g v) rfl rfl (fun w' hw' hk => ?_) (fun u hu => ?_)
      · have hk2 := hk ⟨2, .data⟩ (by simp) rfl _ 39 _ rfl rfl rfl (Nat.lt_of_lt_of_eq (by decide : 39 < 69) rfl) rfl
        have hgi := OwB.at hk2.now
        go_simp
        exact us_grow (CUS.out w' A2 Z2 F2 a2 c2 d2 hgi)
      obtain ⟨_, _, A4, c4, l0, rfl, _, _, _⟩ := hu
      obtain ⟨n4, hn4⟩ : ∃ n, l0.length = n := ⟨_, rfl⟩
      rw [hn4, HUE.out]
      clear hn4
      simp only [Act.put, List.setIfInBounds_toArray, List.set_cons_zero, List.set_cons_succ]
      repeat (refine Dk.wpG_one rfl rfl rfl ?_; intro K hK; go_big_quiet_op; go_big_quiet_on)
      refine Dk.wpG_nil (fun w5 hw5 hG => ?_)
      obtain ⟨l, rfl, _, hl1, hl2, hrd⟩ := (Box.now hG.2).same
      clear hG
      refine Dl.wpTailH_cons (wp_assign _ (.slice A4 l.length c4) rfl rfl ⟨hw5, ?_⟩)
      refine Dl.wpTailH_cons (wp_assign _ (I ue) rfl rfl ⟨hw5, ?_⟩)
      refine Dl.wpTailH_nil ?_
      simp only [Act.put, List.setIfInBounds_toArray, List.set_cons_zero, List.set_cons_succ]
      obtain ⟨x5, rfl⟩ := hw5
      have HL1 := Lib.hid hl1
      have HL2 := Lib.hid hl2
      have HRD := Lib.hid hrd
      clear hl1 hl2 hrd
      have hl1 := HL1.out (by rw [HUE.out]; exact HQ.out)
      have hus := us_fin m g v HGO.out.lo (tab_asc HGO.out.r)
      have HLE : Hid (l = usR (fineG m g v) (at0 g.r 0).lo (usM g)) := hl1.trans hus
      have HLL : Hid (l.length ≤ 3001) := by show _ ≤ _; rw [hl1]; exact HLU.out
      have hq := HQ.out
      subst hq
      clear hl1 hus
      go_wp2_with fail
      refine (CRU.out _ (HUV8.out _)).mono ?_
      rintro e w9 ⟨A9, c9, l9, rfl, hl9, hn9, hr9, hb9⟩
      obtain rfl : l9 = l := hl9.trans HLE.out.symm
      have CSM : Hid (Calls Tryz.prog 12 #[.slice A4 l9.length c4, .slice A9 l9.length c9] w9 fun e w' => e = .returned (.bool true) ∧ Below w9.heap.size w9 w') := by
        have h9 := same_any A4 A9 l9.length l9.length c4 c9 l9 l9 w9 rfl rfl ((HRD.out.below hb9).more hb9.size) hr9 (by omega) (by omega)
        rw [show sameL l9 l9 = true from decide_eq_true rfl] at h9
        exact h9
      obtain ⟨x9, hx9⟩ := ovr_next hb9
      rw [hx9] at CSM ⊢
      clear hx9 hl9 hn9 hr9 hb9
      go_wp2_with fail
      refine CSM.out.mono ?_
      rintro e w1 ⟨rfl, hb1⟩
      obtain ⟨y1, rfl⟩ := ovr_next hb1
      clear hb1
      go_wp2_with fail
      refine (KN.out _).mono ?_
      rintro e w1 ⟨rfl, hb1⟩
      obtain ⟨y2, rfl⟩ := ovr_next hb1
      clear hb1
      go_wp2_with fail
      go_ret
      exact ⟨rfl, HUV8.out _⟩
end Go.Proofs.YteibgenkklpoaaaGreat.Un
