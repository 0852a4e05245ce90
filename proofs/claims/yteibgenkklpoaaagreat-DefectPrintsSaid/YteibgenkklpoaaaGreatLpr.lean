/- The law DefectPrints: its walk. -/
import Derived.Test.YteibgenkklpoaaaGreatDzb
import Derived.Test.YteibgenkklpoaaaGreatDl
import Derived.Test.YteibgenkklpoaaaGreatDn2
namespace Go.Proofs.YteibgenkklpoaaaGreat.Un
open Go.RowKit
/-- Lists of sets, read. -/
def LiU (m : Mdl) (g : Gro) (cuts : List Int) (A : Option Addr) (n : Nat) (w : World) : Prop :=
  ∃ (B : Nat → Nat) (C : Nat → Nat), Rd w w.heap.size 1 A n (fun i _ => .slice (some ⟨B i, 0, none⟩) g.z.length (C i)) ∧ ∀ i, i < n → Rd w w.heap.size 1 (some ⟨B i, 0, none⟩) g.z.length (rU8 (slL m g (cutR cuts i)))
theorem LiU.below {m : Mdl} {g : Gro} {cuts : List Int} {A : Option Addr} {n : Nat} {w w' : World} (h : LiU m g cuts A n w) (hb : Below w.heap.size w w') : LiU m g cuts A n w' := by
  obtain ⟨B, C, h1, h2⟩ := h
  exact ⟨B, C, (h1.below hb).more hb.size, fun i hi => ((h2 i hi).below hb).more hb.size⟩
/-- The answer of Print. -/
def PrT (m : Mdl) (g : Gro) (cuts : List Int) (V : Value) (w : World) : Prop := ∃ A c n, V = .tuple #[.slice A n c, I (prE m g cuts)] ∧ (prE m g cuts = 0 → n = cuts.length - 1) ∧ (¬ prE m g cuts = 0 → n = 0) ∧ LiU m g cuts A n w
theorem pr_grow {P : Program} {f : FuncId} {args : Array Value} {w : World} {m : Mdl} {g : Gro} {cuts : List Int} (h : Calls P f args w (RetPr m g cuts w)) : Calls P f args w fun e w' => ∃ V, e = .returned V ∧ Le w w' ∧ Box (PrT m g cuts) V w' :=
  h.mono fun _ w' ⟨V, bs, n, he, h1, h2, hs, hb⟩ => by
    have ho := hs.own
    rw [map_flat1] at ho
    obtain ⟨A, c, rfl, _, _, hr⟩ := Rd.of_own_max ho
    have hL : LiU m g cuts A n w' := ⟨bs, fun _ => g.z.length, hr, fun i hi => by
      have h9 := sl_rd (hs.row i hi)
      rw [show (slL m g (cutR cuts i)).length = g.z.length by simp [slL]] at h9
      exact h9⟩
    exact ⟨_, he, hb, fun _ hl => ⟨A, c, n, rfl, h1, h2, hL.below hl⟩⟩
theorem PrT.same {m : Mdl} {g : Gro} {cuts : List Int} {A : Option Addr} {n c : Nat} {e : Int} {w : World} (h : PrT m g cuts (.tuple #[.slice A n c, I e]) w) : (prE m g cuts = 0 → n = cuts.length - 1) ∧ (¬ prE m g cuts = 0 → n = 0) ∧ LiU m g cuts A n w := by
  obtain ⟨A', c', n', he, h1, h2, hr⟩ := h
  injection he with he
  simp at he
  obtain ⟨⟨rfl, rfl, _⟩, _⟩ := he
  exact ⟨h1, h2, hr⟩
theorem pp_li {m : Mdl} {g : Gro} {cuts : List Int} {w w' : World} {e : Ending} (h : RetPp m g cuts w e w') : ∃ A c, e = .returned (.slice A (cuts.length - 1) c) ∧ LiU m g cuts A (cuts.length - 1) w' ∧ Below w.heap.size w w' := by
  obtain ⟨A, c, n, S, he, rfl, hr, hs, hb⟩ := h
  refine ⟨A, c, he, ⟨fun i => if hi : i < cuts.length - 1 then (hs i hi).choose else 0, fun i => if hi : i < cuts.length - 1 then (hs i hi).choose_spec.choose else 0, rd_eq hr fun k hk j hj => ?_, fun i hi => ?_⟩, hb⟩
  · simp only [dif_pos hk]
    exact (hs k hk).choose_spec.choose_spec.1
  · simp only [dif_pos hi]
    exact (hs i hi).choose_spec.choose_spec.2
theorem rd_one {w : World} {B b o n k : Nat} {f : Nat → Nat → Value} (h : Rd w B 1 (some ⟨b, o, none⟩) n f) (hk : k < n) : w.cell? ⟨b, o + k, none⟩ = some (f k 0) := by
  obtain ⟨b', o', e, _, hc⟩ := h (by omega)
  injection e with e
  injection e with e1 e2
  subst e1 e2
  have h9 := hc k hk 0 (by omega)
  rw [show o + k * 1 + 0 = o + k by omega] at h9
  exact h9
theorem pr_ok {m : Mdl} {g : Gro} {cuts : List Int} (h : prE m g cuts = 0) : okMdl m = true ∧ okGro g = true ∧ ctE g cuts = 0 := by
  unfold prE at h
  split at h
  · rename_i h1
    obtain ⟨h2, h3⟩ := Bool.and_eq_true_iff.1 h1
    exact ⟨h2, h3, h⟩
  · cases h
set_option maxRecDepth 100000 in
set_option maxHeartbeats 8000000 in
theorem defectPrints_any (m : Mdl) (g : Gro) (A Z F : Option Addr) (a c d : Nat) (C : Option Addr) (q : Nat) (cuts : List Int) (w : World) (hg : GroRd w w.heap.size g A Z F) (hC : Rd w w.heap.size 1 C cuts.length (rI cuts)) :
    Calls Tryz.prog 4 #[.agg (mdA m), .agg (grA g A Z F a c d), .slice C cuts.length q] w fun e w' => e = .returned (.bool true) ∧ Below w.heap.size w w' := by
  have KN := Lib.hid known_any
  have CWD : Hid (∀ V, Calls Tryz.prog 15 #[.agg (grA g A Z F a c d)] V fun e w' => e = .returned (.bool (wdB g)) ∧ Below V.heap.size V w') := fun V => wide_any g A Z F a c d V
  obtain ⟨W, hW⟩ : ∃ W, W = ((w.alloc (.cells #[I m.sc, I (m.b 0).lo, I (m.b 0).hi, I (m.b 1).lo, I (m.b 1).hi, I (m.b 2).lo, I (m.b 2).hi, I (m.b 3).lo, I (m.b 3).hi] 26)).alloc (.cells #[.slice A g.r.length a, I g.o, .slice Z g.z.length c, .slice F g.f.length d] 48)) := ⟨_, rfl⟩
  have rowW0 : W.heap[w.heap.size]? = some (.cells #[I m.sc, I (m.b 0).lo, I (m.b 0).hi, I (m.b 1).lo, I (m.b 1).hi, I (m.b 2).lo, I (m.b 2).hi, I (m.b 3).lo, I (m.b 3).hi] 26 (0, 0)) := by rw [hW]; exact heap_before (heap_last _ _ _ rfl)
  have yW00 := ovr_cell (W := W) (b := w.heap.size) (o := 0) (v := I m.sc) (by rw [cell_of_row _ _ _ _ _ _ rowW0]; rfl)
  have yW01 := ovr_cell (W := W) (b := w.heap.size) (o := 1) (v := I (m.b 0).lo) (by rw [cell_of_row _ _ _ _ _ _ rowW0]; rfl)
  have yW02 := ovr_cell (W := W) (b := w.heap.size) (o := 2) (v := I (m.b 0).hi) (by rw [cell_of_row _ _ _ _ _ _ rowW0]; rfl)
  have yW03 := ovr_cell (W := W) (b := w.heap.size) (o := 3) (v := I (m.b 1).lo) (by rw [cell_of_row _ _ _ _ _ _ rowW0]; rfl)
  have yW04 := ovr_cell (W := W) (b := w.heap.size) (o := 4) (v := I (m.b 1).hi) (by rw [cell_of_row _ _ _ _ _ _ rowW0]; rfl)
  have yW05 := ovr_cell (W := W) (b := w.heap.size) (o := 5) (v := I (m.b 2).lo) (by rw [cell_of_row _ _ _ _ _ _ rowW0]; rfl)
  have yW06 := ovr_cell (W := W) (b := w.heap.size) (o := 6) (v := I (m.b 2).hi) (by rw [cell_of_row _ _ _ _ _ _ rowW0]; rfl)
  have yW07 := ovr_cell (W := W) (b := w.heap.size) (o := 7) (v := I (m.b 3).lo) (by rw [cell_of_row _ _ _ _ _ _ rowW0]; rfl)
  have yW08 := ovr_cell (W := W) (b := w.heap.size) (o := 8) (v := I (m.b 3).hi) (by rw [cell_of_row _ _ _ _ _ _ rowW0]; rfl)
  have RrowW0 := Lib.hid (ovr_row rowW0)
  clear rowW0
  have rowW1 : W.heap[w.heap.size + 1]? = some (.cells #[.slice A g.r.length a, I g.o, .slice Z g.z.length c, .slice F g.f.length d] 48 (0, 0)) := by rw [hW]; exact heap_last _ _ _ (by simp)
  have yW10 := ovr_cell (W := W) (b := w.heap.size + 1) (o := 0) (v := .slice A g.r.length a) (by rw [cell_of_row _ _ _ _ _ _ rowW1]; rfl)
  have yW11 := ovr_cell (W := W) (b := w.heap.size + 1) (o := 1) (v := I g.o) (by rw [cell_of_row _ _ _ _ _ _ rowW1]; rfl)
  have yW12 := ovr_cell (W := W) (b := w.heap.size + 1) (o := 2) (v := .slice Z g.z.length c) (by rw [cell_of_row _ _ _ _ _ _ rowW1]; rfl)
  have yW13 := ovr_cell (W := W) (b := w.heap.size + 1) (o := 3) (v := .slice F g.f.length d) (by rw [cell_of_row _ _ _ _ _ _ rowW1]; rfl)
  have RrowW1 := Lib.hid (ovr_row rowW1)
  clear rowW1
  have HUW : Hid (∀ u, Below w.heap.size w (ovr W u)) := U2 hW
  have HW := Lib.hid hW
  clear hW
  have HWB : Hid (Below w.heap.size w W) := below_self0' HUW.out
  go_enter Tryz.func4, Tryz.ntmps4
  go_upto_region 1 with (fail)
  rw [← HW.out]
  obtain ⟨u0, hu0⟩ := ovr_self W
  rw [hu0]
  clear hu0
  rcases hwd : wdB g with _ | _ <;> rw [hwd] at CWD
  case true =>
    as_aux_lemma =>
      clear hg hC
      go_wp2_with fail
      refine (CWD.out _).mono ?_
      rintro e w1 ⟨rfl, hb1⟩
      obtain ⟨u1, rfl⟩ := ovr_next hb1
      clear hb1
      go_wp2_with fail
      refine (KN.out _).mono ?_
      rintro e w1 ⟨rfl, hb1⟩
      obtain ⟨uk, rfl⟩ := ovr_next hb1
      clear hb1
      go_wp2_with fail
      go_ret
      exact ⟨rfl, HUW.out _⟩
  by_cases hn : 510 < cuts.length
  · have d1 : decide ((510 : Int) < (cuts.length : Int)) = true := decide_eq_true (by omega)
    clear hg hC
    go_wp2_with fail
    refine (CWD.out _).mono ?_
    rintro e w1 ⟨rfl, hb1⟩
    obtain ⟨u1, rfl⟩ := ovr_next hb1
    clear hb1
    go_wp2_with fail
    refine (KN.out _).mono ?_
    rintro e w1 ⟨rfl, hb1⟩
    obtain ⟨uk, rfl⟩ := ovr_next hb1
    clear hb1
    go_wp2_with fail
    go_ret
    exact ⟨rfl, HUW.out _⟩
  have d1 : decide ((510 : Int) < (cuts.length : Int)) = false := decide_eq_false (by omega)
  have hl := wd_no hwd
  have HLC : Hid (cuts.length ≤ 510) := by show _ ≤ _; omega
  have HGI : Hid (∀ V, Below w.heap.size w V → GroIn V w.heap.size g A Z F) := fun V hV => (hg.inn hl).below (Nat.le_refl _) hV
  have HC : Hid (∀ V, Below w.heap.size w V → Rd V w.heap.size 1 C cuts.length (rI cuts)) := fun V hV => hC.below hV
  have HBR : Hid (IBd g.r) := hg.br
  have HBF : Hid (IBd g.f) := hg.bf
  have HLL := Lib.hid hl
  have COW : Hid (∀ V, Below w.heap.size w V → Calls Tryz.prog 16 #[.agg (grA g A Z F a c d)] V (RetOw g V)) := fun V hV => own_any g A Z F a c d V w.heap.size hV.size (HGI.out V hV) hl
  have CRM : Hid (∀ V, Calls Tryz.prog 10 #[.agg (mdA m)] V fun e w' => e = .returned (.bool (okMdl m)) ∧ Below V.heap.size V w') := fun V => refModel_any m V
  have CRG : Hid (∀ V, Below w.heap.size w V → Calls Tryz.prog 19 #[.agg (grA g A Z F a c d)] V fun e w' => e = .returned (.bool (okGro g)) ∧ Below V.heap.size V w') := fun V hV => refGrowth_any g A Z F a c d V w.heap.size hV.size (HGI.out V hV) HBR.out HBF.out
  clear hg hC hl hn
  go_wp2_with fail
  refine (CWD.out _).mono ?_
  rintro e w1 ⟨rfl, hb1⟩
  obtain ⟨u1, rfl⟩ := ovr_next hb1
  clear hb1
  clear CWD hwd
  go_wp2_with fail
  refine (COW.out _ (HUW.out _)).mono ?_
  rintro e w1 ⟨A1, Z1, F1, a1, c1, d1', rfl, hg1, hb1⟩
  clear d1
  go_upto_region 4 with fail
  refine name_w fun X hX => ?_
  obtain ⟨xb, hxb⟩ : ∃ x, x = w1.heap.size := ⟨_, rfl⟩
  have rX : X.heap[xb]? = some (.cells #[.slice A1 g.r.length a1, I g.o, .slice Z1 g.z.length c1, .slice F1 g.f.length d1'] 48 (0, 0)) := by rw [hX]; exact heap_last _ _ _ hxb
  have bX1 : Below w1.heap.size w1 X := by rw [hX]; exact (Below.refl _ _).alloc (Nat.le_refl _) _
  have bX : Below W.heap.size W X := ((ovr_below W u1).trans (hb1.mono (ovr_below W u1).size)).trans (bX1.mono (Nat.le_trans (ovr_below W u1).size hb1.size))
  rw [← hxb]
  have gX : GroIn X X.heap.size g A1 Z1 F1 := ⟨(hg1.r.below bX1).more bX1.size, (hg1.z.below bX1).more bX1.size, (hg1.f.below bX1).more bX1.size, hg1.lr, hg1.lz, hg1.lf⟩
  have HX1 : Hid (∀ V, Below X.heap.size X V → GroIn V X.heap.size g A1 Z1 F1) := fun V hV => gX.below (Nat.le_refl _) hV
  clear hX hxb hg1 hb1 bX1 gX
  have reX : ∀ v, ∃ x, ovr X v = ovr W x := fun v => ovr_reB bX v
  replace yW00 := tr_cell reX yW00
  replace yW01 := tr_cell reX yW01
  replace yW02 := tr_cell reX yW02
  replace yW03 := tr_cell reX yW03
  replace yW04 := tr_cell reX yW04
  replace yW05 := tr_cell reX yW05
  replace yW06 := tr_cell reX yW06
  replace yW07 := tr_cell reX yW07
  replace yW08 := tr_cell reX yW08
  replace RrowW0 := Lib.hid (tr_row reX RrowW0.out)
  replace yW10 := tr_cell reX yW10
  replace yW11 := tr_cell reX yW11
  replace yW12 := tr_cell reX yW12
  replace yW13 := tr_cell reX yW13
  replace RrowW1 := Lib.hid (tr_row reX RrowW1.out)
  have yX00 := ovr_cell (W := X) (b := xb) (o := 0) (v := .slice A1 g.r.length a1) (by rw [cell_of_row _ _ _ _ _ _ rX]; rfl)
  have yX01 := ovr_cell (W := X) (b := xb) (o := 1) (v := I g.o) (by rw [cell_of_row _ _ _ _ _ _ rX]; rfl)
  have yX02 := ovr_cell (W := X) (b := xb) (o := 2) (v := .slice Z1 g.z.length c1) (by rw [cell_of_row _ _ _ _ _ _ rX]; rfl)
  have yX03 := ovr_cell (W := X) (b := xb) (o := 3) (v := .slice F1 g.f.length d1') (by rw [cell_of_row _ _ _ _ _ _ rX]; rfl)
  have RrowX0 := Lib.hid (ovr_row rX)
  clear rX
  have HUX : Hid (∀ u, Below w.heap.size w (ovr X u)) := fun u => by obtain ⟨x, hx⟩ := reX u; rw [hx]; exact HUW.out x
  clear reX bX
  have CCG : Hid (∀ V, Below X.heap.size X V → Calls Tryz.prog 17 #[.agg (grA g A1 Z1 F1 a1 c1 d1')] V fun e w' => e = .returned (I (erA (okGro g))) ∧ Below V.heap.size V w') := fun V hV => checkGrowth_any g A1 Z1 F1 a1 c1 d1' V X.heap.size hV.size (HX1.out V hV)
  have CPR : Hid (∀ V A' c', Below X.heap.size X V → Rd V V.heap.size 1 A' cuts.length (rI cuts) → Calls Tryz.prog 18 #[.agg (mdA m), .agg (grA g A1 Z1 F1 a1 c1 d1'), .slice A' cuts.length c'] V (RetPr m g cuts V)) := fun V A' c' hV h => print_any m g cuts A1 Z1 F1 A' a1 c1 d1' c' V V.heap.size (Nat.le_refl _) ⟨(HX1.out V hV).r.more hV.size, (HX1.out V hV).z.more hV.size, (HX1.out V hV).f.more hV.size, (HX1.out V hV).lr, (HX1.out V hV).lz, (HX1.out V hV).lf⟩ h (by have := HLC.out; omega)
  obtain ⟨x0, hx0⟩ := ovr_self X
  rw [hx0]
  clear hx0
  obtain ⟨i3, hi3, jz0, jz1, jz2⟩ := info_parts intK_info
  obtain ⟨pe, hpe⟩ : ∃ q, prE m g cuts = q := ⟨_, rfl⟩
  have HPE := Lib.hid hpe
  have hpr : Hid (prE m g cuts = if okMdl m && okGro g then ctE g cuts else 2) := rfl
  obtain ⟨ke, hke⟩ : ∃ q, erA (okGro g) = q := ⟨_, rfl⟩
  rw [hke] at CCG
  have HKE := Lib.hid hke
  clear hpe hke
  go_wp2_with fail
  refine (CCG.out _ (ovr_below X _)).mono ?_
  rintro e w1 ⟨rfl, hb1⟩
  obtain ⟨x1, rfl⟩ := ovr_next hb1
  clear hb1
  go_upto_region 5 with fail
  have hbY := ovr_below X x1
  obtain ⟨Y, hY⟩ : ∃ Y, Y = ovr X x1 := ⟨_, rfl⟩
  rw [← hY] at hbY
  rw [← hY]
  have hY' := Lib.hid hY
  clear hY
  have hbY' := Lib.hid hbY
  have reY : ∀ v, ∃ x, ovr Y v = ovr X x := fun v => ovr_reB hbY v
  replace yW00 := tr_cell reY yW00
  replace yW01 := tr_cell reY yW01
  replace yW02 := tr_cell reY yW02
  replace yW03 := tr_cell reY yW03
  replace yW04 := tr_cell reY yW04
  replace yW05 := tr_cell reY yW05
  replace yW06 := tr_cell reY yW06
  replace yW07 := tr_cell reY yW07
  replace yW08 := tr_cell reY yW08
  replace RrowW0 := Lib.hid (tr_row reY RrowW0.out)
  replace yW10 := tr_cell reY yW10
  replace yW11 := tr_cell reY yW11
  replace yW12 := tr_cell reY yW12
  replace yW13 := tr_cell reY yW13
  replace RrowW1 := Lib.hid (tr_row reY RrowW1.out)
  replace yX00 := tr_cell reY yX00
  replace yX01 := tr_cell reY yX01
  replace yX02 := tr_cell reY yX02
  replace yX03 := tr_cell reY yX03
  replace RrowX0 := Lib.hid (tr_row reY RrowX0.out)
  have HUY : Hid (∀ u, Below w.heap.size w (ovr Y u)) := fun u => by obtain ⟨x, hx⟩ := reY u; rw [hx]; exact HUX.out x
  clear reY hbY
  have HYX := Lib.hid hbY'.out
  refine Dl.wp_region_late 9 [8] (fun j => if j = 2 then some Emp else if j = 4 then some (SlAt Y.heap.size 1 cuts.length (rI cuts)) else if j = 5 then some (PrT m g cuts) else none) (by kernel_rfl) (by kernel_rfl) (by kernel_rfl) (by kernel_rfl) [] (E := 23)
    ⟨by kernel_rfl, alloc_rng, fun j hj => by cases hj⟩ (by kernel_rfl) (fun i hi => by simp only [List.mem_cons, List.not_mem_nil, or_false] at hi; rcases hi with rfl; rfl) (fun c a d v w h => by cases d <;> exact h) ?_
  simp only [List.take_succ_cons, List.take_zero, List.drop_succ_cons, List.drop_zero]
  repeat (refine Dk.wpG_one rfl rfl rfl ?_; intro K hK; go_big_quiet_op; go_big_quiet_on)
  refine Dk.wpG_make Emp rfl rfl (fun w' hw' _ => ?_) (fun u hu => ?_)
  · go_simp
    exact emp_grow w'
  obtain ⟨_, _, b0, rfl⟩ := hu
  simp only [Act.put, List.setIfInBounds_toArray, List.set_cons_zero, List.set_cons_succ]
  repeat (refine Dk.wpG_one rfl rfl rfl ?_; intro K hK; go_big_quiet_op; go_big_quiet_on)
  refine Dk.wpG_make (SlAt Y.heap.size 1 cuts.length (rI cuts)) rfl rfl (fun w' hw' _ => ?_) (fun u hu => ?_)
  · obtain ⟨x, rfl⟩ := hw'
    exact app_grow _ _ 49 rfl 3 i3 _ 1 8 Tryz.underlying49 hi3 jz0 jz1 jz2 rfl (by decide) b0 rfl C cuts.length q rfl (rI cuts) ((HC.out _ (HUY.out x)).more (HUY.out x).size) (by have := HLC.out; omega) (by decide) (ovr_below Y x).size
  obtain ⟨_, _, A2, c2, rfl, _, _, _⟩ := hu
  simp only [Act.put, List.setIfInBounds_toArray, List.set_cons_zero, List.set_cons_succ]
  refine Dk.wpG_make (PrT m g cuts) rfl rfl (fun w' hw' hk => ?_) (fun u hu => ?_)
  · have hk2 := hk ⟨4, .data⟩ (by simp) rfl _ 32 _ rfl rfl rfl (Nat.lt_of_lt_of_eq (by decide : 32 < 134) rfl) rfl
    obtain ⟨A3, c3, he, _, hr, _⟩ := hk2.now
    obtain ⟨rfl, rfl⟩ : A2 = A3 ∧ c2 = c3 := by
      injection he with e1 e2 e3
      exact ⟨e1, e3⟩
    obtain ⟨x, rfl⟩ := hw'
    go_simp
    exact pr_grow (CPR.out _ A2 c2 (HYX.out.trans ((ovr_below Y x).mono HYX.out.size)) hr)
  obtain ⟨_, _, A4, c4, n4, rfl, _, _, _⟩ := hu
  rw [HPE.out]
  simp only [Act.put, List.setIfInBounds_toArray, List.set_cons_zero, List.set_cons_succ]
  repeat (refine Dk.wpG_one rfl rfl rfl ?_; intro K hK; go_big_quiet_op; go_big_quiet_on)
  refine Dk.wpG_nil (fun w5 hw5 hG => ?_)
  obtain ⟨hn1, hn2, hli⟩ := (Box.now hG.2).same
  clear hG
  refine Dl.wpTailH_cons (wp_assign _ (.slice A4 n4 c4) rfl rfl ⟨hw5, ?_⟩)
  refine Dl.wpTailH_cons (wp_assign _ (I pe) rfl rfl ⟨hw5, ?_⟩)
  refine Dl.wpTailH_nil ?_
  simp only [Act.put, List.setIfInBounds_toArray, List.set_cons_zero, List.set_cons_succ]
  have HN1 := Lib.hid hn1
  have HN2 := Lib.hid hn2
  have HLI := Lib.hid hli
  obtain ⟨x5, rfl⟩ := hw5
  clear hn1 hn2 hli
  have hbV := ovr_below Y x5
  obtain ⟨V, hV⟩ : ∃ V, V = ovr Y x5 := ⟨_, rfl⟩
  rw [← hV] at hbV
  rw [← hV]
  have hV' := Lib.hid hV
  clear hV
  have hbV' := Lib.hid hbV
  have reV : ∀ v, ∃ x, ovr V v = ovr Y x := fun v => ovr_reB hbV v
  replace yW00 := tr_cell reV yW00
  replace yW01 := tr_cell reV yW01
  replace yW02 := tr_cell reV yW02
  replace yW03 := tr_cell reV yW03
  replace yW04 := tr_cell reV yW04
  replace yW05 := tr_cell reV yW05
  replace yW06 := tr_cell reV yW06
  replace yW07 := tr_cell reV yW07
  replace yW08 := tr_cell reV yW08
  replace RrowW0 := Lib.hid (tr_row reV RrowW0.out)
  replace yW10 := tr_cell reV yW10
  replace yW11 := tr_cell reV yW11
  replace yW12 := tr_cell reV yW12
  replace yW13 := tr_cell reV yW13
  replace RrowW1 := Lib.hid (tr_row reV RrowW1.out)
  replace yX00 := tr_cell reV yX00
  replace yX01 := tr_cell reV yX01
  replace yX02 := tr_cell reV yX02
  replace yX03 := tr_cell reV yX03
  replace RrowX0 := Lib.hid (tr_row reV RrowX0.out)
  have HUV : Hid (∀ u, Below w.heap.size w (ovr V u)) := fun u => by obtain ⟨x, hx⟩ := reV u; rw [hx]; exact HUY.out x
  clear reV hbV
  rw [← hV'.out] at HLI
  have HXV : Hid (Below X.heap.size X V) := HYX.out.trans (hbV'.out.mono HYX.out.size)
  have hpr' := Lib.hid hpr.out
  obtain ⟨v0, hv0⟩ := ovr_self V
  rw [hv0]
  clear hv0 hpr
  have CSM : Hid (∀ V', Below V.heap.size V V' → Calls Tryz.prog 12 #[.slice Z1 g.z.length c1, .slice Z g.z.length c] V' fun e w' => e = .returned (.bool true) ∧ Below V'.heap.size V' w') := fun V' hV => by
    have k1 := HXV.out.trans (hV.mono HXV.out.size)
    have k2 : Below w.heap.size w V' := (below_self0' HUV.out).trans (hV.mono (below_self0' HUV.out).size)
    have h9 := same_any Z1 Z g.z.length g.z.length c1 c g.z g.z V' rfl rfl ((HX1.out V' k1).z.more k1.size) ((HGI.out V' k2).z.more k2.size) (by have := HLL.out; omega) (by have := HLL.out; omega)
    rw [show sameL g.z g.z = true from decide_eq_true rfl] at h9
    exact h9
  go_upto_region 6 with fail
  go_cut [56] (fun s wx => s = .bool false ∧ Below V.heap.size V wx)
  case first =>
    as_aux_lemma =>
      have hke := HKE.out
      rcases h2 : okGro g with _ | _ <;> rw [h2] at CRG hke
      · have hk2 : ke = 2 := hke.symm
        subst hk2
        clear hke h2
        go_wp2_with fail
        refine (CRG.out _ (HUV.out _)).mono ?_
        rintro e w1 ⟨rfl, hb1⟩
        obtain ⟨v1, rfl⟩ := ovr_next hb1
        clear hb1
        go_wp2_with fail
        refine (CSM.out _ (ovr_below V _)).mono ?_
        rintro e w1 ⟨rfl, hb1⟩
        obtain ⟨v2, rfl⟩ := ovr_next hb1
        clear hb1
        go_wp2_with fail
        go_meet
        case rel => exact ⟨rfl, ovr_below _ _⟩
      · have hk2 : ke = 0 := hke.symm
        subst hk2
        clear hke h2
        go_wp2_with fail
        refine (CRG.out _ (HUV.out _)).mono ?_
        rintro e w1 ⟨rfl, hb1⟩
        obtain ⟨v1, rfl⟩ := ovr_next hb1
        clear hb1
        go_wp2_with fail
        refine (CSM.out _ (ovr_below V _)).mono ?_
        rintro e w1 ⟨rfl, hb1⟩
        obtain ⟨v2, rfl⟩ := ovr_next hb1
        clear hb1
        go_wp2_with fail
        go_meet
        case rel => exact ⟨rfl, ovr_below _ _⟩
  case rest =>
    as_aux_lemma =>
      obtain ⟨rfl, hbt⟩ := hcut
      obtain ⟨v3, rfl⟩ : ∃ u, wc = ovr V u := ⟨wc, ovr_of hbt⟩
      clear hbt
      go_upto_region 9 with fail
      go_cut [62] (fun s wx => s = .bool (okMdl m && okGro g) ∧ Below V.heap.size V wx)
      case first =>
        as_aux_lemma =>
          rcases h1 : okMdl m with _ | _ <;> rw [h1] at CRM
          · go_wp2_with fail
            refine (CRM.out _).mono ?_
            rintro e w1 ⟨rfl, hb1⟩
            obtain ⟨v4, rfl⟩ := ovr_next hb1
            clear hb1
            go_wp2_with fail
            go_meet
            case rel => exact ⟨by rw [h1]; rfl, ovr_below _ _⟩
          · rcases h2 : okGro g with _ | _ <;> rw [h2] at CRG
            · go_wp2_with fail
              refine (CRM.out _).mono ?_
              rintro e w1 ⟨rfl, hb1⟩
              obtain ⟨v4, rfl⟩ := ovr_next hb1
              clear hb1
              go_wp2_with fail
              refine (CRG.out _ (HUV.out _)).mono ?_
              rintro e w1 ⟨rfl, hb1⟩
              obtain ⟨v5, rfl⟩ := ovr_next hb1
              clear hb1
              go_wp2_with fail
              go_meet
              case rel => exact ⟨by rw [h1, h2]; rfl, ovr_below _ _⟩
            · go_wp2_with fail
              refine (CRM.out _).mono ?_
              rintro e w1 ⟨rfl, hb1⟩
              obtain ⟨v4, rfl⟩ := ovr_next hb1
              clear hb1
              go_wp2_with fail
              refine (CRG.out _ (HUV.out _)).mono ?_
              rintro e w1 ⟨rfl, hb1⟩
              obtain ⟨v5, rfl⟩ := ovr_next hb1
              clear hb1
              go_wp2_with fail
              go_meet
              case rel => exact ⟨by rw [h1, h2]; rfl, ovr_below _ _⟩
      case rest =>
        as_aux_lemma =>
          obtain ⟨hs, hbt⟩ := hcut
          obtain ⟨v6, rfl⟩ : ∃ u, wc = ovr V u := ⟨wc, ovr_of hbt⟩
          clear hbt CRM CRG CSM
          go_upto_if 62 with fail
          go_cut [11] (fun s wx => s = I pe ∧ Below V.heap.size V wx)
          case first =>
            as_aux_lemma =>
              rcases hb : (okMdl m && okGro g) with _ | _
              · rw [hb] at hs
                subst hs
                have hp2 : Hid (pe = 2) := by show _ = _; rw [← HPE.out, hpr'.out, hb]; rfl
                clear hb
                go_wp2_with fail
                go_meet
                case rel => exact ⟨by rw [hp2.out], ovr_below _ _⟩
              · rw [hb] at hs
                subst hs
                obtain ⟨_, hb2⟩ := Bool.and_eq_true_iff.1 hb
                have hp2 : Hid (ctE g cuts = pe) := by show _ = _; rw [← HPE.out, hpr'.out, hb]; rfl
                have CCU : Hid (∀ V', Below w.heap.size w V' → Calls Tryz.prog 20 #[.agg (grA g A Z F a c d), .slice C cuts.length q] V' fun e w' => e = .returned (I pe) ∧ Below V'.heap.size V' w') := fun V' hV => by
                  have h9 := refCuts_any g cuts A Z F C a c d q V' w.heap.size hV.size (HGI.out V' hV) (HC.out V' hV) (by have := HLC.out; omega) (by have := (okGro_ok hb2).r.n2; omega)
                  rw [hp2.out] at h9
                  exact h9
                clear hb hb2
                go_wp2_with fail
                refine (CCU.out _ (HUV.out _)).mono ?_
                rintro e w1 ⟨rfl, hb1⟩
                obtain ⟨v7, rfl⟩ := ovr_next hb1
                clear hb1
                go_wp2_with fail
                go_meet
                case rel => exact ⟨rfl, ovr_below _ _⟩
          case rest =>
            as_aux_lemma =>
              obtain ⟨rfl, hbt⟩ := hcut
              obtain ⟨v8, rfl⟩ : ∃ u, wc = ovr V u := ⟨wc, ovr_of hbt⟩
              clear hbt hs
              by_cases hp0 : pe = 0
              case neg =>
                have hn0 : n4 = 0 := HN2.out (by rw [HPE.out]; exact hp0)
                subst hn0
                go_wp2_with fail
                refine (KN.out _).mono ?_
                rintro e w1 ⟨rfl, hb1⟩
                obtain ⟨v9, rfl⟩ := ovr_next hb1
                clear hb1
                go_wp2_with fail
                go_ret
                exact ⟨rfl, HUV.out _⟩
              have hpz : prE m g cuts = 0 := HPE.out.trans hp0
              obtain ⟨hk1, hk2, hk3⟩ := pr_ok hpz
              have hn4 : n4 = cuts.length - 1 := HN1.out hpz
              subst hp0
              have CPP : Hid (∀ V', Below w.heap.size w V' → Calls Tryz.prog 21 #[.agg (mdA m), .agg (grA g A Z F a c d), .slice C cuts.length q] V' (RetPp m g cuts V')) := fun V' hV => refPrint_any m g cuts A Z F C a c d q V' w.heap.size hV.size (HGI.out V' hV) HBR.out HBF.out (HC.out V' hV) hk1 hk2 hk3
              obtain ⟨N, hN⟩ : ∃ N, cuts.length - 1 = N := ⟨_, rfl⟩
              rw [hN] at hn4
              subst hn4
              have HNC := Lib.hid hN
              have HN5 : Hid (n4 ≤ 510) := by show _ ≤ _; have := HLC.out; omega
              have HGN : Hid (g.z.length ≤ 70) := HLL.out.2.1
              clear hpz hk1 hk2 hk3 hN
              go_wp2_with fail
              refine (CPP.out _ (HUV.out _)).mono ?_
              intro e P hret
              obtain ⟨A9, c9, he, hli9, hb9⟩ := pp_li hret
              subst he
              rw [HNC.out] at hli9
              rw [HNC.out]
              have hVP : Below V.heap.size V P := (ovr_below V v8).trans (hb9.mono (ovr_below V v8).size)
              have hliP := HLI.out.below hVP
              have HWP : Hid (Below w.heap.size w P) := (below_self0' HUV.out).trans (hVP.mono (below_self0' HUV.out).size)
              obtain ⟨B1, C1, r1, s1⟩ := hliP
              obtain ⟨B2, C2, r2, s2⟩ := hli9
              obtain ⟨p0, hp0⟩ := ovr_self P
              rw [hp0]
              have hwP : Hid (∀ u, Below w.heap.size w (ovr P u)) := fun u => HWP.out.trans ((ovr_below P u).mono HWP.out.size)
              clear hret hb9 hVP hp0
              by_cases hN0 : n4 = 0
              · subst hN0
                clear r1 r2 s1 s2
                go_wp2_with fail
                go_loopw [13] (fun i wr => i = I 0 ∧ ∃ x : World, wr = ovr P x) (fun _ _ => 0)
                case atStart => exact ⟨rfl, p0, rfl⟩
                case round =>
                  obtain ⟨rfl, x, rfl⟩ := hrel
                  go_wp2_with fail
                  refine (KN.out _).mono ?_
                  rintro e w1 ⟨rfl, hb1⟩
                  obtain ⟨vk, rfl⟩ := ovr_next hb1
                  clear hb1
                  go_wp2_with fail
                  go_ret
                  exact ⟨rfl, hwP.out _⟩
              obtain ⟨b4, o4, hA4, _, _⟩ := r1 (by omega)
              obtain ⟨b9, o9, hA9, _, _⟩ := r2 (by omega)
              subst hA4 hA9
              have R1 := Lib.hid r1
              have R2 := Lib.hid r2
              have S1 := Lib.hid s1
              have S2 := Lib.hid s2
              clear r1 r2 s1 s2 hN0
              go_wp2_with fail
              go_loopw [13] (fun i wr => ∃ (n : Nat) (x : World), n ≤ n4 ∧ i = .int .i64 n ∧ wr = ovr P x) (fun i _ => n4 - (intOf i).toNat)
              case atStart => exact ⟨0, p0, by omega, rfl, rfl⟩
              case round =>
                obtain ⟨n, x, hnl, rfl, rfl⟩ := hrel
                have hn510 : n ≤ 510 := by have := HN5.out; omega
                by_cases hlt : n < n4
                · have HLT := Lib.hid hlt
                  go_upto_region 19 with fail
                  obtain ⟨Q, hQ⟩ : ∃ Q, ovr P x = Q := ⟨_, rfl⟩
                  rw [hQ]
                  have HPQ : Hid (Below P.heap.size P Q) := by show Below _ _ _; rw [← hQ]; exact ovr_below _ _
                  clear hQ
                  have e1 := ovr_cell (rd_one (R1.out.below HPQ.out) hlt)
                  have e2 := ovr_cell (rd_one (R2.out.below HPQ.out) hlt)
                  refine wp_region_below_lit (by kernel_rfl) (by kernel_rfl) ?_
                  repeat (go_big_quiet_step (fail))
                  refine wpQuiet_nil ?_
                  intro Y2 hY2
                  have HPY : Hid (Below P.heap.size P Y2) := HPQ.out.trans (hY2.mono HPQ.out.size)
                  obtain ⟨y, rfl⟩ : ∃ u, Y2 = ovr P u := ⟨Y2, ovr_of HPY.out⟩
                  clear hY2 e1 e2
                  go_wp2_with fail
                  go_loopw [14] (fun i wr => ∃ (j : Nat) (x : World), j ≤ g.z.length ∧ i = .int .i64 j ∧ wr = ovr P x) (fun i _ => g.z.length - (intOf i).toNat)
                  case atStart => exact ⟨0, y, by omega, rfl, rfl⟩
                  case round =>
                    obtain ⟨j, x, hjl, rfl, rfl⟩ := hrel
                    have hj70 : j ≤ 70 := by have := HGN.out; omega
                    have e1 := rd_one (R1.out.below (ovr_below P x)) hlt
                    by_cases hj : j < g.z.length
                    · have HJ := Lib.hid hj
                      go_upto_region 24 with fail
                      clear e1
                      obtain ⟨Q2, hQ2⟩ : ∃ Q, ovr P x = Q := ⟨_, rfl⟩
                      rw [hQ2]
                      have HPQ2 : Hid (Below P.heap.size P Q2) := by show Below _ _ _; rw [← hQ2]; exact ovr_below _ _
                      clear hQ2
                      have e1 := ovr_cell (rd_one (R1.out.below HPQ2.out) hlt)
                      have e2 := ovr_cell (rd_one (R2.out.below HPQ2.out) hlt)
                      have f1 := ovr_cell (rd_one ((S1.out n hlt).below HPQ2.out) hj)
                      have f2 := ovr_cell (rd_one ((S2.out n hlt).below HPQ2.out) hj)
                      unfold rU8 at f1 f2
                      simp only [Nat.zero_add] at f1 f2
                      refine wp_region_below_lit (by kernel_rfl) (by kernel_rfl) ?_
                      repeat (go_big_quiet_step (fail))
                      refine wpQuiet_nil ?_
                      intro Y3 hY3
                      have HPY3 : Hid (Below P.heap.size P Y3) := HPQ2.out.trans (hY3.mono HPQ2.out.size)
                      clear hY3 e1 e2 f1 f2
                      go_wp2_with fail
                      exact ⟨⟨j + 1, Y3, HJ.out, rfl, ovr_of HPY3.out⟩, by have := HJ.out; simp [intOf]; omega⟩
                    · go_wp2_with fail
                      exact ⟨⟨n + 1, _, HLT.out, rfl, rfl⟩, by have := HLT.out; simp [intOf]; omega⟩
                · go_wp2_with fail
                  refine (KN.out _).mono ?_
                  rintro e w1 ⟨rfl, hb1⟩
                  obtain ⟨vk, rfl⟩ := ovr_next hb1
                  clear hb1
                  go_wp2_with fail
                  go_ret
                  exact ⟨rfl, hwP.out _⟩
end Go.Proofs.YteibgenkklpoaaaGreat.Un
