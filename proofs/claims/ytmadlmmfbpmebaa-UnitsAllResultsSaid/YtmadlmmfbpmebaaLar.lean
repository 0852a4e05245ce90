/- The walk of the law UnitsAllResults. -/
import Derived.Test.YtmadlmmfbpmebaaU8
import Derived.Test.YtmadlmmfbpmebaaPy
import Derived.Test.YtmadlmmfbpmebaaDk
import Derived.Test.YtmadlmmfbpmebaaJo
namespace Go.Proofs.Ytmadlmmfbpmebaa
open Go.RowKit
theorem leF_ok {A B X : Rng} (h : leF A B = (X, 0)) : rngOk A = true ∧ rngOk B = true := by
  unfold leF at h
  split at h
  · rename_i hk
    obtain ⟨k1, k2⟩ := Bool.and_eq_true_iff.1 hk
    exact ⟨k1, k2⟩
  · injection h with _ h2; cases h2
theorem tmF_ok {A B X : Rng} {c : Int} (h : tmF A B c = (X, 0)) : rngOk A = true ∧ rngOk B = true := by
  unfold tmF at h
  split at h
  · rename_i hk
    obtain ⟨k1, k2⟩ := Bool.and_eq_true_iff.1 hk
    exact ⟨k1, k2⟩
  · injection h with _ h2; cases h2
theorem oeF_ok {A B X : Rng} {c : Int} (h : oeF A B c = (X, 0)) : rngOk A = true ∧ rngOk B = true := by
  unfold oeF at h
  split at h
  · rename_i hk
    obtain ⟨k1, k2⟩ := Bool.and_eq_true_iff.1 hk
    exact ⟨k1, k2⟩
  · injection h with _ h2; cases h2
theorem scF_ok {A X : Rng} {f : Frc} (h : scF A f = (X, 0)) : rngOk A = true := by
  unfold scF at h
  split at h
  · rename_i hk
    obtain ⟨k1, k2⟩ := Bool.and_eq_true_iff.1 hk
    exact k1
  · injection h with _ h2; cases h2
theorem alloc_rng (w : World) : ∃ w', (Instr.alloc 38 true (.tuple #[])).run Try.prog w = .ok (.pointer (some ⟨w.heap.size, 0, none⟩)) w' := ⟨w.alloc (.cells #[I 0, I 0] 38), by kernel_rfl⟩
set_option maxRecDepth 100000 in
set_option maxHeartbeats 8000000 in
theorem unitsAllResults_any (A B : Rng) (c : Int) (f : Frc) (x0 x1 x2 x3 how : Int) (w : World)
    (hx : (0 ≤ x0 ∧ x0 ≤ 65535) ∧ (0 ≤ x1 ∧ x1 ≤ 65535) ∧ (0 ≤ x2 ∧ x2 ≤ 65535) ∧ (0 ≤ x3 ∧ x3 ≤ 65535)) (hh : 0 ≤ how ∧ how ≤ 255) :
    Calls Try.prog 19 #[.agg #[I A.lo, I A.hi, I B.lo, I B.hi, I c, I f.n, I f.d], .agg #[.int .u16 x0, .int .u16 x1, .int .u16 x2, .int .u16 x3], .int .u8 how] w fun e w' => e = .returned (.bool true) ∧ Below w.heap.size w w' := by
  have ck := Lib.hid fun W => known_any W
  have cpa := Lib.hid fun W => part_any A x0 x1 W hx.1 hx.2.1
  have cpb := Lib.hid fun W => part_any B x2 x3 W hx.2.2.1 hx.2.2.2
  have Ha : Hid (rngOk A = true → Sub (paF A x0 x1) A) := fun h => by have := paF_in hx.1.1 hx.2.1.1 (rngOk_iff.1 h).2.2; exact ⟨this.1, this.2.1, this.2.2⟩
  have Hb : Hid (rngOk B = true → Sub (paF B x2 x3) B) := fun h => by have := paF_in hx.2.2.1.1 hx.2.2.2.1 (rngOk_iff.1 h).2.2; exact ⟨this.1, this.2.1, this.2.2⟩
  generalize paF A x0 x1 = a at *
  generalize paF B x2 x3 = b at *
  have c1 := Lib.hid fun W => less_any A B W
  have c2 := Lib.hid fun W => times_any A B c W
  have c3 := Lib.hid fun W => over2_any A B c W
  have c4 := Lib.hid fun W => scale_any A f W
  obtain ⟨⟨⟨X1l, X1h⟩, z1⟩, hq1⟩ : ∃ q, leF A B = q := ⟨_, rfl⟩
  rw [hq1] at c1
  have Hq1 := Lib.hid hq1
  clear hq1
  obtain ⟨⟨⟨X2l, X2h⟩, z2⟩, hq2⟩ : ∃ q, tmF A B c = q := ⟨_, rfl⟩
  rw [hq2] at c2
  have Hq2 := Lib.hid hq2
  clear hq2
  obtain ⟨⟨⟨X3l, X3h⟩, z3⟩, hq3⟩ : ∃ q, oeF A B c = q := ⟨_, rfl⟩
  rw [hq3] at c3
  have Hq3 := Lib.hid hq3
  clear hq3
  obtain ⟨⟨⟨X4l, X4h⟩, z4⟩, hq4⟩ : ∃ q, scF A f = q := ⟨_, rfl⟩
  rw [hq4] at c4
  have Hq4 := Lib.hid hq4
  clear hq4
  have HH := Lib.hid hh
  obtain ⟨g, hg⟩ : ∃ g, how.tmod 3 = g := ⟨_, rfl⟩
  have hgb : 0 ≤ g ∧ g ≤ 2 := by
    rw [← hg]
    have h1 := Int.tmod_nonneg (b := 3) hh.1
    have h2 := Int.tmod_lt_of_pos how (show (0 : Int) < 3 by omega)
    omega
  have w1 : IntKind.u8.wrap (1 + g) = 1 + g := by unfold IntKind.wrap; simp [IntKind.signed, IntKind.bits]; omega
  have Hg := Lib.hid hgb
  clear hx hh hgb
  obtain ⟨W, hW⟩ : ∃ W, W = ((w.alloc (.cells #[I A.lo, I A.hi, I B.lo, I B.hi, I c, I f.n, I f.d] 96)).alloc (.cells #[.int .u16 x0, .int .u16 x1, .int .u16 x2, .int .u16 x3] 98)) := ⟨_, rfl⟩
  have rowW0 : W.heap[w.heap.size]? = some (.cells #[I A.lo, I A.hi, I B.lo, I B.hi, I c, I f.n, I f.d] 96 (0, 0)) := by rw [hW]; exact heap_before (heap_last _ _ _ rfl)
  have yW00 := ovr_cell (W := W) (b := w.heap.size) (o := 0) (v := I A.lo) (by rw [cell_of_row _ _ _ _ _ _ rowW0]; rfl)
  have yW01 := ovr_cell (W := W) (b := w.heap.size) (o := 1) (v := I A.hi) (by rw [cell_of_row _ _ _ _ _ _ rowW0]; rfl)
  have yW02 := ovr_cell (W := W) (b := w.heap.size) (o := 2) (v := I B.lo) (by rw [cell_of_row _ _ _ _ _ _ rowW0]; rfl)
  have yW03 := ovr_cell (W := W) (b := w.heap.size) (o := 3) (v := I B.hi) (by rw [cell_of_row _ _ _ _ _ _ rowW0]; rfl)
  have yW04 := ovr_cell (W := W) (b := w.heap.size) (o := 4) (v := I c) (by rw [cell_of_row _ _ _ _ _ _ rowW0]; rfl)
  have yW05 := ovr_cell (W := W) (b := w.heap.size) (o := 5) (v := I f.n) (by rw [cell_of_row _ _ _ _ _ _ rowW0]; rfl)
  have yW06 := ovr_cell (W := W) (b := w.heap.size) (o := 6) (v := I f.d) (by rw [cell_of_row _ _ _ _ _ _ rowW0]; rfl)
  have RrowW0 := Lib.hid (ovr_row rowW0)
  clear rowW0
  have rowW1 : W.heap[w.heap.size + 1]? = some (.cells #[.int .u16 x0, .int .u16 x1, .int .u16 x2, .int .u16 x3] 98 (0, 0)) := by rw [hW]; exact heap_last _ _ _ (by simp)
  have yW10 := ovr_cell (W := W) (b := w.heap.size + 1) (o := 0) (v := .int .u16 x0) (by rw [cell_of_row _ _ _ _ _ _ rowW1]; rfl)
  have yW11 := ovr_cell (W := W) (b := w.heap.size + 1) (o := 1) (v := .int .u16 x1) (by rw [cell_of_row _ _ _ _ _ _ rowW1]; rfl)
  have yW12 := ovr_cell (W := W) (b := w.heap.size + 1) (o := 2) (v := .int .u16 x2) (by rw [cell_of_row _ _ _ _ _ _ rowW1]; rfl)
  have yW13 := ovr_cell (W := W) (b := w.heap.size + 1) (o := 3) (v := .int .u16 x3) (by rw [cell_of_row _ _ _ _ _ _ rowW1]; rfl)
  have RrowW1 := Lib.hid (ovr_row rowW1)
  clear rowW1
  have HUW : Hid (∀ u, Below w.heap.size w (ovr W u)) := U2 hW
  have HW := Lib.hid hW
  clear hW
  go_enter Try.func19, Try.ntmps19
  go_upto_region 1 with (fail)
  rw [← HW.out]
  obtain ⟨u0, hu0⟩ := ovr_self W
  rw [hu0]
  clear hu0
  have hbY := ovr_below W u0
  obtain ⟨Y, hY⟩ : ∃ Y, Y = ovr W u0 := ⟨_, rfl⟩
  rw [← hY] at hbY
  rw [← hY]
  have hY' := Lib.hid hY
  clear hY
  have hbY' := Lib.hid hbY
  have reY : ∀ v, ∃ x, ovr Y v = ovr W x := fun v => ovr_reB hbY v
  replace yW00 := tr_cell reY yW00
  replace yW01 := tr_cell reY yW01
  replace yW02 := tr_cell reY yW02
  replace yW03 := tr_cell reY yW03
  replace yW04 := tr_cell reY yW04
  replace yW05 := tr_cell reY yW05
  replace yW06 := tr_cell reY yW06
  replace RrowW0 := Lib.hid (tr_row reY RrowW0.out)
  replace yW10 := tr_cell reY yW10
  replace yW11 := tr_cell reY yW11
  replace yW12 := tr_cell reY yW12
  replace yW13 := tr_cell reY yW13
  replace RrowW1 := Lib.hid (tr_row reY RrowW1.out)
  have HUY : Hid (∀ u, Below w.heap.size w (ovr Y u)) := fun u => by obtain ⟨x, hx⟩ := reY u; rw [hx]; exact HUW.out x
  clear reY hbY
  refine Dk.wp_region_seq2 12 (fun j => if j = 4 then some (fun u _ => u = a.val) else if j = 9 then some (fun u _ => u = b.val) else if j = 10 then some (NewAt Y #[I 0, I 0] 38) else if j = 11 then some (NewAt Y #[I 0, I 0] 38) else none) (by kernel_rfl) (by kernel_rfl) (by kernel_rfl) [10, 11] (E := 38)
    ⟨by kernel_rfl, alloc_rng, fun j hj => by simp only [List.mem_cons, List.not_mem_nil, or_false] at hj; rcases hj with rfl | rfl <;> exact ⟨_, _, _, rfl⟩⟩ (by kernel_rfl) (by kernel_rfl) ?_
  simp only [List.take_succ_cons, List.take_zero, List.drop_succ_cons, List.drop_zero]
  repeat (refine Dk.wpG_one rfl rfl rfl ?_; intro K hK; go_big_quiet_op; go_big_quiet_on)
  refine Dk.wpG_make (fun u _ => u = a.val) rfl rfl (fun w' hw' _ => ?_) (fun u hu => ?_)
  · go_simp
    exact call_grow (cpa.out w')
  obtain ⟨_, _, rfl⟩ := hu
  simp only [Act.put, List.setIfInBounds_toArray, List.set_cons_zero, List.set_cons_succ]
  repeat (refine Dk.wpG_one rfl rfl rfl ?_; intro K hK; go_big_quiet_op; go_big_quiet_on)
  refine Dk.wpG_make (fun u _ => u = b.val) rfl rfl (fun w' hw' _ => ?_) (fun u hu => ?_)
  · go_simp
    exact call_grow (cpb.out w')
  obtain ⟨_, _, rfl⟩ := hu
  simp only [Act.put, List.setIfInBounds_toArray, List.set_cons_zero, List.set_cons_succ]
  refine Dk.wpG_make (NewAt Y #[I 0, I 0] 38) rfl rfl (fun w' hw' _ => ?_) (fun u hu => ?_)
  · go_simp
    exact new_grow hw'
  obtain ⟨_, _, pb, rfl, _, _⟩ := hu
  simp only [Act.put, List.setIfInBounds_toArray, List.set_cons_zero, List.set_cons_succ]
  refine Dk.wpG_new (NewAt Y #[I 0, I 0] 38) rfl rfl (by simp) ⟨_, _, rfl, rfl, by simp⟩ (fun w' hw' _ => ?_) (fun u hu hne => ?_)
  · go_simp
    exact new_grow hw'
  obtain ⟨_, _, qb, rfl, _, _⟩ := hu
  have hpq := Dk.ptr_ne (hne 10 _ 7 (by omega) rfl (by simp) rfl (by simp))
  simp only [Act.put, List.setIfInBounds_toArray, List.set_cons_zero, List.set_cons_succ]
  refine Dk.wpG_nil (fun w5 hw5 hG => ?_)
  have hn1 := (Box.now hG.1.2).at
  have hn2 := (Box.now hG.2).at
  clear hG hne
  refine wpTailIn_cons Wd.wide (by intro c h; cases h) ?_
  refine wp_store_row 38 _ _ rfl pb rfl _ _ hn1.1 #[I a.lo, I a.hi] rfl (one2 rfl rfl) rfl (by kernel_rfl) ?_
  refine wpTailIn_cons Wd.wide (by intro c h; cases h) ?_
  refine wp_store_row 38 _ _ rfl qb rfl _ _ ((setRow_other (Ne.symm hpq)).trans hn2.1) #[I b.lo, I b.hi] rfl (one2 rfl rfl) rfl (by kernel_rfl) ?_
  refine wpTailIn_nil ?_
  simp only [Act.put]
  obtain ⟨V, hV⟩ : ∃ V, V = (w5.setRow pb #[I a.lo, I a.hi]).setRow qb #[I b.lo, I b.hi] := ⟨_, rfl⟩
  have rq : V.heap[qb]? = some (.cells #[I b.lo, I b.hi] 38 (0, 0)) := by rw [hV]; exact setRow_same ((setRow_other (Ne.symm hpq)).trans hn2.1)
  have rp : V.heap[pb]? = some (.cells #[I a.lo, I a.hi] 38 (0, 0)) := by rw [hV, setRow_other hpq]; exact setRow_same hn1.1
  have hbV : Below Y.heap.size Y V := by rw [hV]; exact below_setRow (below_setRow hw5.le hn1.2 _) hn2.2 _
  rw [← hV]
  clear hV hn1 hn2 hw5 hpq
  have reV : ∀ v, ∃ x, ovr V v = ovr Y x := fun v => ovr_reB hbV v
  replace yW00 := tr_cell reV yW00
  replace yW01 := tr_cell reV yW01
  replace yW02 := tr_cell reV yW02
  replace yW03 := tr_cell reV yW03
  replace yW04 := tr_cell reV yW04
  replace yW05 := tr_cell reV yW05
  replace yW06 := tr_cell reV yW06
  replace RrowW0 := Lib.hid (tr_row reV RrowW0.out)
  replace yW10 := tr_cell reV yW10
  replace yW11 := tr_cell reV yW11
  replace yW12 := tr_cell reV yW12
  replace yW13 := tr_cell reV yW13
  replace RrowW1 := Lib.hid (tr_row reV RrowW1.out)
  have yV00 := ovr_cell (W := V) (b := pb) (o := 0) (v := I a.lo) (by rw [cell_of_row _ _ _ _ _ _ rp]; rfl)
  have yV01 := ovr_cell (W := V) (b := pb) (o := 1) (v := I a.hi) (by rw [cell_of_row _ _ _ _ _ _ rp]; rfl)
  have RrowV0 := Lib.hid (ovr_row rp)
  clear rp
  have yV10 := ovr_cell (W := V) (b := qb) (o := 0) (v := I b.lo) (by rw [cell_of_row _ _ _ _ _ _ rq]; rfl)
  have yV11 := ovr_cell (W := V) (b := qb) (o := 1) (v := I b.hi) (by rw [cell_of_row _ _ _ _ _ _ rq]; rfl)
  have RrowV1 := Lib.hid (ovr_row rq)
  clear rq
  have HUV : Hid (∀ u, Below w.heap.size w (ovr V u)) := fun u => by obtain ⟨x, hx⟩ := reV u; rw [hx]; exact HUY.out x
  clear reV hbV
  obtain ⟨v0, hv0⟩ := ovr_self V
  rw [hv0]
  clear hv0
  -- block 1
  go_wp2_with fail
  refine (c1.out _).mono ?_
  rintro e w1 ⟨rfl, hb1⟩
  obtain ⟨a1, rfl⟩ := ovr_next hb1
  clear hb1
  go_upto_region 4 with (fail)
  obtain ⟨T1, hT1⟩ : ∃ T1, T1 = ((ovr V a1).alloc (.cells #[I X1l, I X1h] 38)) := ⟨_, rfl⟩
  have reT1 : ∀ v, ∃ x, ovr T1 v = ovr V x := fun v => ovr_re1 hT1
  have SV_yW00 := Lib.hid yW00
  replace yW00 := tr_cell reT1 yW00
  have SV_yW01 := Lib.hid yW01
  replace yW01 := tr_cell reT1 yW01
  have SV_yW02 := Lib.hid yW02
  replace yW02 := tr_cell reT1 yW02
  have SV_yW03 := Lib.hid yW03
  replace yW03 := tr_cell reT1 yW03
  have SV_yW04 := Lib.hid yW04
  replace yW04 := tr_cell reT1 yW04
  have SV_yW05 := Lib.hid yW05
  replace yW05 := tr_cell reT1 yW05
  have SV_yW06 := Lib.hid yW06
  replace yW06 := tr_cell reT1 yW06
  have SV_RrowW0 := Lib.hid RrowW0.out
  replace RrowW0 := Lib.hid (tr_row reT1 RrowW0.out)
  have SV_yW10 := Lib.hid yW10
  replace yW10 := tr_cell reT1 yW10
  have SV_yW11 := Lib.hid yW11
  replace yW11 := tr_cell reT1 yW11
  have SV_yW12 := Lib.hid yW12
  replace yW12 := tr_cell reT1 yW12
  have SV_yW13 := Lib.hid yW13
  replace yW13 := tr_cell reT1 yW13
  have SV_RrowW1 := Lib.hid RrowW1.out
  replace RrowW1 := Lib.hid (tr_row reT1 RrowW1.out)
  have SV_yV00 := Lib.hid yV00
  replace yV00 := tr_cell reT1 yV00
  have SV_yV01 := Lib.hid yV01
  replace yV01 := tr_cell reT1 yV01
  have SV_RrowV0 := Lib.hid RrowV0.out
  replace RrowV0 := Lib.hid (tr_row reT1 RrowV0.out)
  have SV_yV10 := Lib.hid yV10
  replace yV10 := tr_cell reT1 yV10
  have SV_yV11 := Lib.hid yV11
  replace yV11 := tr_cell reT1 yV11
  have SV_RrowV1 := Lib.hid RrowV1.out
  replace RrowV1 := Lib.hid (tr_row reT1 RrowV1.out)
  have rowT10 : T1.heap[(ovr V a1).heap.size]? = some (.cells #[I X1l, I X1h] 38 (0, 0)) := by rw [hT1]; exact heap_last _ _ _ rfl
  have yT100 := ovr_cell (W := T1) (b := (ovr V a1).heap.size) (o := 0) (v := I X1l) (by rw [cell_of_row _ _ _ _ _ _ rowT10]; rfl)
  have yT101 := ovr_cell (W := T1) (b := (ovr V a1).heap.size) (o := 1) (v := I X1h) (by rw [cell_of_row _ _ _ _ _ _ rowT10]; rfl)
  have RrowT10 := Lib.hid (ovr_row rowT10)
  clear rowT10
  have HBT1 : Hid (∀ u, Below V.heap.size V (ovr T1 u)) := fun u => by obtain ⟨x, hx⟩ := reT1 u; rw [hx]; exact ovr_below _ _
  have HUT1 : Hid (∀ u, Below w.heap.size w (ovr T1 u)) := fun u => by obtain ⟨x, hx⟩ := reT1 u; rw [hx]; exact HUV.out x
  clear reT1
  have HT1 := Lib.hid hT1
  clear hT1
  rw [← HT1.out]
  obtain ⟨b1, hb1⟩ := ovr_self T1
  rw [hb1]
  clear hb1
  go_upto_if 57 with (fail)
  go_cut [] (fun wx => ∃ u, wx = ovr V u)
  case first =>
    by_cases hz : z1 = 0
    · as_aux_lemma =>
      subst hz
      have hok := leF_ok Hq1.out
      have ra := rngOk_iff.1 ((Ha.out hok.1).ok hok.1)
      have rb := rngOk_iff.1 ((Hb.out hok.2).ok hok.2)
      have hl := less_part Hq1.out (Ha.out hok.1) (Hb.out hok.2)
      have cl := Lib.hid fun W => less_any a b W
      rw [hl.1] at cl
      have ci := Lib.hid fun W => inside_any ⟨a.lo - b.hi, a.hi - b.lo⟩ ⟨X1l, X1h⟩ W
      rw [hl.2] at ci
      have s1 : IntKind.i64.wrap (a.lo - b.hi) = a.lo - b.hi := IntWalk.i64_in _ (by omega)
      have s2 : IntKind.i64.wrap (a.hi - b.lo) = a.hi - b.lo := IntWalk.i64_in _ (by omega)
      clear hok hl ra rb
      go_wp2_with fail
      refine (cl.out _).mono ?_
      rintro e w1 ⟨rfl, hb1⟩
      obtain ⟨e1, rfl⟩ := ovr_next hb1
      clear hb1
      go_upto_region 6 with (fail)
      obtain ⟨U1, hU1⟩ : ∃ U1, U1 = ((ovr T1 e1).alloc (.cells #[I (a.lo - b.hi), I (a.hi - b.lo)] 38)) := ⟨_, rfl⟩
      have reU1 : ∀ v, ∃ x, ovr U1 v = ovr T1 x := fun v => ovr_re1 hU1
      replace yW00 := tr_cell reU1 yW00
      replace yW01 := tr_cell reU1 yW01
      replace yW02 := tr_cell reU1 yW02
      replace yW03 := tr_cell reU1 yW03
      replace yW04 := tr_cell reU1 yW04
      replace yW05 := tr_cell reU1 yW05
      replace yW06 := tr_cell reU1 yW06
      replace RrowW0 := Lib.hid (tr_row reU1 RrowW0.out)
      replace yW10 := tr_cell reU1 yW10
      replace yW11 := tr_cell reU1 yW11
      replace yW12 := tr_cell reU1 yW12
      replace yW13 := tr_cell reU1 yW13
      replace RrowW1 := Lib.hid (tr_row reU1 RrowW1.out)
      replace yV00 := tr_cell reU1 yV00
      replace yV01 := tr_cell reU1 yV01
      replace RrowV0 := Lib.hid (tr_row reU1 RrowV0.out)
      replace yV10 := tr_cell reU1 yV10
      replace yV11 := tr_cell reU1 yV11
      replace RrowV1 := Lib.hid (tr_row reU1 RrowV1.out)
      replace yT100 := tr_cell reU1 yT100
      replace yT101 := tr_cell reU1 yT101
      replace RrowT10 := Lib.hid (tr_row reU1 RrowT10.out)
      have rowU10 : U1.heap[(ovr T1 e1).heap.size]? = some (.cells #[I (a.lo - b.hi), I (a.hi - b.lo)] 38 (0, 0)) := by rw [hU1]; exact heap_last _ _ _ rfl
      have yU100 := ovr_cell (W := U1) (b := (ovr T1 e1).heap.size) (o := 0) (v := I (a.lo - b.hi)) (by rw [cell_of_row _ _ _ _ _ _ rowU10]; rfl)
      have yU101 := ovr_cell (W := U1) (b := (ovr T1 e1).heap.size) (o := 1) (v := I (a.hi - b.lo)) (by rw [cell_of_row _ _ _ _ _ _ rowU10]; rfl)
      have RrowU10 := Lib.hid (ovr_row rowU10)
      clear rowU10
      have HBU1 : Hid (∀ u, Below T1.heap.size T1 (ovr U1 u)) := fun u => by obtain ⟨x, hx⟩ := reU1 u; rw [hx]; exact ovr_below _ _
      have HUU1 : Hid (∀ u, Below w.heap.size w (ovr U1 u)) := fun u => by obtain ⟨x, hx⟩ := reU1 u; rw [hx]; exact HUT1.out x
      clear reU1
      have HU1 := Lib.hid hU1
      clear hU1
      rw [← HU1.out]
      obtain ⟨e2, he2⟩ := ovr_self U1
      rw [he2]
      clear he2
      go_wp2_with fail
      refine (ci.out _).mono ?_
      rintro e w1 ⟨rfl, hb1⟩
      obtain ⟨e3, rfl⟩ := ovr_next hb1
      clear hb1
      go_wp2_with fail
      go_meet
      case rel => exact ⟨_, ovr_of (below_chain HBT1.out HBU1.out _)⟩
    · have hzb : (z1 == 0) = false := by simpa using hz
      clear hz
      go_wp2_with fail
      go_meet
      case rel => exact ⟨_, ovr_of (HBT1.out _)⟩
  case rest =>
    obtain ⟨d1, rfl⟩ := hcut
    replace yW00 := SV_yW00.out
    replace yW01 := SV_yW01.out
    replace yW02 := SV_yW02.out
    replace yW03 := SV_yW03.out
    replace yW04 := SV_yW04.out
    replace yW05 := SV_yW05.out
    replace yW06 := SV_yW06.out
    replace yW10 := SV_yW10.out
    replace yW11 := SV_yW11.out
    replace yW12 := SV_yW12.out
    replace yW13 := SV_yW13.out
    replace RrowW0 := SV_RrowW0
    replace RrowW1 := SV_RrowW1
    replace yV00 := SV_yV00.out
    replace yV01 := SV_yV01.out
    replace yV10 := SV_yV10.out
    replace yV11 := SV_yV11.out
    replace RrowV0 := SV_RrowV0
    replace RrowV1 := SV_RrowV1
    clear yT100 yT101 RrowT10
    -- block 2
    go_wp2_with fail
    refine (c2.out _).mono ?_
    rintro e w1 ⟨rfl, hb1⟩
    obtain ⟨a2, rfl⟩ := ovr_next hb1
    clear hb1
    go_upto_region 9 with (fail)
    obtain ⟨T2, hT2⟩ : ∃ T2, T2 = ((ovr V a2).alloc (.cells #[I X2l, I X2h] 38)) := ⟨_, rfl⟩
    have reT2 : ∀ v, ∃ x, ovr T2 v = ovr V x := fun v => ovr_re1 hT2
    have SV_yW00 := Lib.hid yW00
    replace yW00 := tr_cell reT2 yW00
    have SV_yW01 := Lib.hid yW01
    replace yW01 := tr_cell reT2 yW01
    have SV_yW02 := Lib.hid yW02
    replace yW02 := tr_cell reT2 yW02
    have SV_yW03 := Lib.hid yW03
    replace yW03 := tr_cell reT2 yW03
    have SV_yW04 := Lib.hid yW04
    replace yW04 := tr_cell reT2 yW04
    have SV_yW05 := Lib.hid yW05
    replace yW05 := tr_cell reT2 yW05
    have SV_yW06 := Lib.hid yW06
    replace yW06 := tr_cell reT2 yW06
    have SV_RrowW0 := Lib.hid RrowW0.out
    replace RrowW0 := Lib.hid (tr_row reT2 RrowW0.out)
    have SV_yW10 := Lib.hid yW10
    replace yW10 := tr_cell reT2 yW10
    have SV_yW11 := Lib.hid yW11
    replace yW11 := tr_cell reT2 yW11
    have SV_yW12 := Lib.hid yW12
    replace yW12 := tr_cell reT2 yW12
    have SV_yW13 := Lib.hid yW13
    replace yW13 := tr_cell reT2 yW13
    have SV_RrowW1 := Lib.hid RrowW1.out
    replace RrowW1 := Lib.hid (tr_row reT2 RrowW1.out)
    have SV_yV00 := Lib.hid yV00
    replace yV00 := tr_cell reT2 yV00
    have SV_yV01 := Lib.hid yV01
    replace yV01 := tr_cell reT2 yV01
    have SV_RrowV0 := Lib.hid RrowV0.out
    replace RrowV0 := Lib.hid (tr_row reT2 RrowV0.out)
    have SV_yV10 := Lib.hid yV10
    replace yV10 := tr_cell reT2 yV10
    have SV_yV11 := Lib.hid yV11
    replace yV11 := tr_cell reT2 yV11
    have SV_RrowV1 := Lib.hid RrowV1.out
    replace RrowV1 := Lib.hid (tr_row reT2 RrowV1.out)
    have rowT20 : T2.heap[(ovr V a2).heap.size]? = some (.cells #[I X2l, I X2h] 38 (0, 0)) := by rw [hT2]; exact heap_last _ _ _ rfl
    have yT200 := ovr_cell (W := T2) (b := (ovr V a2).heap.size) (o := 0) (v := I X2l) (by rw [cell_of_row _ _ _ _ _ _ rowT20]; rfl)
    have yT201 := ovr_cell (W := T2) (b := (ovr V a2).heap.size) (o := 1) (v := I X2h) (by rw [cell_of_row _ _ _ _ _ _ rowT20]; rfl)
    have RrowT20 := Lib.hid (ovr_row rowT20)
    clear rowT20
    have HBT2 : Hid (∀ u, Below V.heap.size V (ovr T2 u)) := fun u => by obtain ⟨x, hx⟩ := reT2 u; rw [hx]; exact ovr_below _ _
    have HUT2 : Hid (∀ u, Below w.heap.size w (ovr T2 u)) := fun u => by obtain ⟨x, hx⟩ := reT2 u; rw [hx]; exact HUV.out x
    clear reT2
    have HT2 := Lib.hid hT2
    clear hT2
    rw [← HT2.out]
    obtain ⟨b2, hb2⟩ := ovr_self T2
    rw [hb2]
    clear hb2
    go_upto_if 103 with (fail)
    go_cut [] (fun wx => ∃ u, wx = ovr V u)
    case first =>
      by_cases hz : z2 = 0
      · as_aux_lemma =>
        subst hz
        have hok := tmF_ok Hq2.out
        have ra := rngOk_iff.1 ((Ha.out hok.1).ok hok.1)
        have rb := rngOk_iff.1 ((Hb.out hok.2).ok hok.2)
        obtain ⟨Y, hY, hin, hcb, hmd⟩ := times_part Hq2.out (Ha.out hok.1) (Hb.out hok.2)
        obtain ⟨n, r, hn, hn1, hn2⟩ := hmd (1 + g) (by have := Hg.out; omega)
        have cm := Lib.hid fun W => muldiv_any a.lo b.hi c (1 + g) W (by omega) (by omega) (by have := Hg.out; omega)
        rw [hn] at cm
        obtain ⟨Yl, Yh⟩ := Y
        have cl := Lib.hid fun W => times_any a b c W
        rw [hY] at cl
        have ci := Lib.hid fun W => inside_any ⟨Yl, Yh⟩ ⟨X2l, X2h⟩ W
        rw [hin] at ci
        have n1 : decide (n < Yl) = false := decide_eq_false (by simp only at hn1; omega)
        have n2 : decide (Yh < n) = false := decide_eq_false (by simp only at hn2; omega)
        clear hok hY hin hcb hmd hn hn1 hn2 ra rb
        go_wp2_with fail
        refine (cl.out _).mono ?_
        rintro e w1 ⟨rfl, hb1⟩
        obtain ⟨e1, rfl⟩ := ovr_next hb1
        clear hb1
        go_upto_region 11 with (fail)
        obtain ⟨U2, hU2⟩ : ∃ U2, U2 = ((ovr T2 e1).alloc (.cells #[I Yl, I Yh] 38)) := ⟨_, rfl⟩
        have reU2 : ∀ v, ∃ x, ovr U2 v = ovr T2 x := fun v => ovr_re1 hU2
        replace yW00 := tr_cell reU2 yW00
        replace yW01 := tr_cell reU2 yW01
        replace yW02 := tr_cell reU2 yW02
        replace yW03 := tr_cell reU2 yW03
        replace yW04 := tr_cell reU2 yW04
        replace yW05 := tr_cell reU2 yW05
        replace yW06 := tr_cell reU2 yW06
        replace RrowW0 := Lib.hid (tr_row reU2 RrowW0.out)
        replace yW10 := tr_cell reU2 yW10
        replace yW11 := tr_cell reU2 yW11
        replace yW12 := tr_cell reU2 yW12
        replace yW13 := tr_cell reU2 yW13
        replace RrowW1 := Lib.hid (tr_row reU2 RrowW1.out)
        replace yV00 := tr_cell reU2 yV00
        replace yV01 := tr_cell reU2 yV01
        replace RrowV0 := Lib.hid (tr_row reU2 RrowV0.out)
        replace yV10 := tr_cell reU2 yV10
        replace yV11 := tr_cell reU2 yV11
        replace RrowV1 := Lib.hid (tr_row reU2 RrowV1.out)
        replace yT200 := tr_cell reU2 yT200
        replace yT201 := tr_cell reU2 yT201
        replace RrowT20 := Lib.hid (tr_row reU2 RrowT20.out)
        have rowU20 : U2.heap[(ovr T2 e1).heap.size]? = some (.cells #[I Yl, I Yh] 38 (0, 0)) := by rw [hU2]; exact heap_last _ _ _ rfl
        have yU200 := ovr_cell (W := U2) (b := (ovr T2 e1).heap.size) (o := 0) (v := I Yl) (by rw [cell_of_row _ _ _ _ _ _ rowU20]; rfl)
        have yU201 := ovr_cell (W := U2) (b := (ovr T2 e1).heap.size) (o := 1) (v := I Yh) (by rw [cell_of_row _ _ _ _ _ _ rowU20]; rfl)
        have RrowU20 := Lib.hid (ovr_row rowU20)
        clear rowU20
        have HBU2 : Hid (∀ u, Below T2.heap.size T2 (ovr U2 u)) := fun u => by obtain ⟨x, hx⟩ := reU2 u; rw [hx]; exact ovr_below _ _
        have HUU2 : Hid (∀ u, Below w.heap.size w (ovr U2 u)) := fun u => by obtain ⟨x, hx⟩ := reU2 u; rw [hx]; exact HUT2.out x
        clear reU2
        have HU2 := Lib.hid hU2
        clear hU2
        rw [← HU2.out]
        obtain ⟨e2, he2⟩ := ovr_self U2
        rw [he2]
        clear he2
        go_wp2_with fail
        refine (cm.out _).mono ?_
        rintro e w1 ⟨rfl, hb1⟩
        obtain ⟨e3, rfl⟩ := ovr_next hb1
        clear hb1
        go_wp2_with fail
        refine (ci.out _).mono ?_
        rintro e w1 ⟨rfl, hb1⟩
        obtain ⟨e4, rfl⟩ := ovr_next hb1
        clear hb1
        go_wp2_with fail
        go_meet
        case rel => exact ⟨_, ovr_of (below_chain HBT2.out HBU2.out _)⟩
      · have hzb : (z2 == 0) = false := by simpa using hz
        clear hz
        go_wp2_with fail
        go_meet
        case rel => exact ⟨_, ovr_of (HBT2.out _)⟩
    case rest =>
      obtain ⟨d2, rfl⟩ := hcut
      replace yW00 := SV_yW00.out
      replace yW01 := SV_yW01.out
      replace yW02 := SV_yW02.out
      replace yW03 := SV_yW03.out
      replace yW04 := SV_yW04.out
      replace yW05 := SV_yW05.out
      replace yW06 := SV_yW06.out
      replace yW10 := SV_yW10.out
      replace yW11 := SV_yW11.out
      replace yW12 := SV_yW12.out
      replace yW13 := SV_yW13.out
      replace RrowW0 := SV_RrowW0
      replace RrowW1 := SV_RrowW1
      replace yV00 := SV_yV00.out
      replace yV01 := SV_yV01.out
      replace yV10 := SV_yV10.out
      replace yV11 := SV_yV11.out
      replace RrowV0 := SV_RrowV0
      replace RrowV1 := SV_RrowV1
      clear yT200 yT201 RrowT20
      -- block 3
      go_wp2_with fail
      refine (c3.out _).mono ?_
      rintro e w1 ⟨rfl, hb1⟩
      obtain ⟨a3, rfl⟩ := ovr_next hb1
      clear hb1
      go_upto_region 15 with (fail)
      obtain ⟨T3, hT3⟩ : ∃ T3, T3 = ((ovr V a3).alloc (.cells #[I X3l, I X3h] 38)) := ⟨_, rfl⟩
      have reT3 : ∀ v, ∃ x, ovr T3 v = ovr V x := fun v => ovr_re1 hT3
      have SV_yW00 := Lib.hid yW00
      replace yW00 := tr_cell reT3 yW00
      have SV_yW01 := Lib.hid yW01
      replace yW01 := tr_cell reT3 yW01
      have SV_yW02 := Lib.hid yW02
      replace yW02 := tr_cell reT3 yW02
      have SV_yW03 := Lib.hid yW03
      replace yW03 := tr_cell reT3 yW03
      have SV_yW04 := Lib.hid yW04
      replace yW04 := tr_cell reT3 yW04
      have SV_yW05 := Lib.hid yW05
      replace yW05 := tr_cell reT3 yW05
      have SV_yW06 := Lib.hid yW06
      replace yW06 := tr_cell reT3 yW06
      have SV_RrowW0 := Lib.hid RrowW0.out
      replace RrowW0 := Lib.hid (tr_row reT3 RrowW0.out)
      have SV_yW10 := Lib.hid yW10
      replace yW10 := tr_cell reT3 yW10
      have SV_yW11 := Lib.hid yW11
      replace yW11 := tr_cell reT3 yW11
      have SV_yW12 := Lib.hid yW12
      replace yW12 := tr_cell reT3 yW12
      have SV_yW13 := Lib.hid yW13
      replace yW13 := tr_cell reT3 yW13
      have SV_RrowW1 := Lib.hid RrowW1.out
      replace RrowW1 := Lib.hid (tr_row reT3 RrowW1.out)
      have SV_yV00 := Lib.hid yV00
      replace yV00 := tr_cell reT3 yV00
      have SV_yV01 := Lib.hid yV01
      replace yV01 := tr_cell reT3 yV01
      have SV_RrowV0 := Lib.hid RrowV0.out
      replace RrowV0 := Lib.hid (tr_row reT3 RrowV0.out)
      have SV_yV10 := Lib.hid yV10
      replace yV10 := tr_cell reT3 yV10
      have SV_yV11 := Lib.hid yV11
      replace yV11 := tr_cell reT3 yV11
      have SV_RrowV1 := Lib.hid RrowV1.out
      replace RrowV1 := Lib.hid (tr_row reT3 RrowV1.out)
      have rowT30 : T3.heap[(ovr V a3).heap.size]? = some (.cells #[I X3l, I X3h] 38 (0, 0)) := by rw [hT3]; exact heap_last _ _ _ rfl
      have yT300 := ovr_cell (W := T3) (b := (ovr V a3).heap.size) (o := 0) (v := I X3l) (by rw [cell_of_row _ _ _ _ _ _ rowT30]; rfl)
      have yT301 := ovr_cell (W := T3) (b := (ovr V a3).heap.size) (o := 1) (v := I X3h) (by rw [cell_of_row _ _ _ _ _ _ rowT30]; rfl)
      have RrowT30 := Lib.hid (ovr_row rowT30)
      clear rowT30
      have HBT3 : Hid (∀ u, Below V.heap.size V (ovr T3 u)) := fun u => by obtain ⟨x, hx⟩ := reT3 u; rw [hx]; exact ovr_below _ _
      have HUT3 : Hid (∀ u, Below w.heap.size w (ovr T3 u)) := fun u => by obtain ⟨x, hx⟩ := reT3 u; rw [hx]; exact HUV.out x
      clear reT3
      have HT3 := Lib.hid hT3
      clear hT3
      rw [← HT3.out]
      obtain ⟨b3, hb3⟩ := ovr_self T3
      rw [hb3]
      clear hb3
      go_upto_if 159 with (fail)
      go_cut [] (fun wx => ∃ u, wx = ovr V u)
      case first =>
        by_cases hz : z3 = 0
        · as_aux_lemma =>
          subst hz
          have hok := oeF_ok Hq3.out
          have ra := rngOk_iff.1 ((Ha.out hok.1).ok hok.1)
          have rb := rngOk_iff.1 ((Hb.out hok.2).ok hok.2)
          obtain ⟨Y, hY, hin, hcb, hmd⟩ := over_part Hq3.out (Ha.out hok.1) (Hb.out hok.2)
          obtain ⟨n, r, hn, hn1, hn2⟩ := hmd (1 + g) (by have := Hg.out; omega)
          have cm := Lib.hid fun W => muldiv_any a.hi c b.hi (1 + g) W (by omega) (by omega) (by have := Hg.out; omega)
          rw [hn] at cm
          obtain ⟨Yl, Yh⟩ := Y
          have cl := Lib.hid fun W => over2_any a b c W
          rw [hY] at cl
          have ci := Lib.hid fun W => inside_any ⟨Yl, Yh⟩ ⟨X3l, X3h⟩ W
          rw [hin] at ci
          have n1 : decide (n < Yl) = false := decide_eq_false (by simp only at hn1; omega)
          have n2 : decide (Yh < n) = false := decide_eq_false (by simp only at hn2; omega)
          clear hok hY hin hcb hmd hn hn1 hn2 ra rb
          go_wp2_with fail
          refine (cl.out _).mono ?_
          rintro e w1 ⟨rfl, hb1⟩
          obtain ⟨e1, rfl⟩ := ovr_next hb1
          clear hb1
          go_upto_region 17 with (fail)
          obtain ⟨U3, hU3⟩ : ∃ U3, U3 = ((ovr T3 e1).alloc (.cells #[I Yl, I Yh] 38)) := ⟨_, rfl⟩
          have reU3 : ∀ v, ∃ x, ovr U3 v = ovr T3 x := fun v => ovr_re1 hU3
          replace yW00 := tr_cell reU3 yW00
          replace yW01 := tr_cell reU3 yW01
          replace yW02 := tr_cell reU3 yW02
          replace yW03 := tr_cell reU3 yW03
          replace yW04 := tr_cell reU3 yW04
          replace yW05 := tr_cell reU3 yW05
          replace yW06 := tr_cell reU3 yW06
          replace RrowW0 := Lib.hid (tr_row reU3 RrowW0.out)
          replace yW10 := tr_cell reU3 yW10
          replace yW11 := tr_cell reU3 yW11
          replace yW12 := tr_cell reU3 yW12
          replace yW13 := tr_cell reU3 yW13
          replace RrowW1 := Lib.hid (tr_row reU3 RrowW1.out)
          replace yV00 := tr_cell reU3 yV00
          replace yV01 := tr_cell reU3 yV01
          replace RrowV0 := Lib.hid (tr_row reU3 RrowV0.out)
          replace yV10 := tr_cell reU3 yV10
          replace yV11 := tr_cell reU3 yV11
          replace RrowV1 := Lib.hid (tr_row reU3 RrowV1.out)
          replace yT300 := tr_cell reU3 yT300
          replace yT301 := tr_cell reU3 yT301
          replace RrowT30 := Lib.hid (tr_row reU3 RrowT30.out)
          have rowU30 : U3.heap[(ovr T3 e1).heap.size]? = some (.cells #[I Yl, I Yh] 38 (0, 0)) := by rw [hU3]; exact heap_last _ _ _ rfl
          have yU300 := ovr_cell (W := U3) (b := (ovr T3 e1).heap.size) (o := 0) (v := I Yl) (by rw [cell_of_row _ _ _ _ _ _ rowU30]; rfl)
          have yU301 := ovr_cell (W := U3) (b := (ovr T3 e1).heap.size) (o := 1) (v := I Yh) (by rw [cell_of_row _ _ _ _ _ _ rowU30]; rfl)
          have RrowU30 := Lib.hid (ovr_row rowU30)
          clear rowU30
          have HBU3 : Hid (∀ u, Below T3.heap.size T3 (ovr U3 u)) := fun u => by obtain ⟨x, hx⟩ := reU3 u; rw [hx]; exact ovr_below _ _
          have HUU3 : Hid (∀ u, Below w.heap.size w (ovr U3 u)) := fun u => by obtain ⟨x, hx⟩ := reU3 u; rw [hx]; exact HUT3.out x
          clear reU3
          have HU3 := Lib.hid hU3
          clear hU3
          rw [← HU3.out]
          obtain ⟨e2, he2⟩ := ovr_self U3
          rw [he2]
          clear he2
          go_wp2_with fail
          refine (cm.out _).mono ?_
          rintro e w1 ⟨rfl, hb1⟩
          obtain ⟨e3, rfl⟩ := ovr_next hb1
          clear hb1
          go_wp2_with fail
          refine (ci.out _).mono ?_
          rintro e w1 ⟨rfl, hb1⟩
          obtain ⟨e4, rfl⟩ := ovr_next hb1
          clear hb1
          go_wp2_with fail
          go_meet
          case rel => exact ⟨_, ovr_of (below_chain HBT3.out HBU3.out _)⟩
        · have hzb : (z3 == 0) = false := by simpa using hz
          clear hz
          go_wp2_with fail
          go_meet
          case rel => exact ⟨_, ovr_of (HBT3.out _)⟩
      case rest =>
        obtain ⟨d3, rfl⟩ := hcut
        replace yW00 := SV_yW00.out
        replace yW01 := SV_yW01.out
        replace yW02 := SV_yW02.out
        replace yW03 := SV_yW03.out
        replace yW04 := SV_yW04.out
        replace yW05 := SV_yW05.out
        replace yW06 := SV_yW06.out
        replace yW10 := SV_yW10.out
        replace yW11 := SV_yW11.out
        replace yW12 := SV_yW12.out
        replace yW13 := SV_yW13.out
        replace RrowW0 := SV_RrowW0
        replace RrowW1 := SV_RrowW1
        replace yV00 := SV_yV00.out
        replace yV01 := SV_yV01.out
        replace yV10 := SV_yV10.out
        replace yV11 := SV_yV11.out
        replace RrowV0 := SV_RrowV0
        replace RrowV1 := SV_RrowV1
        clear yT300 yT301 RrowT30
        -- block 4
        go_wp2_with fail
        refine (c4.out _).mono ?_
        rintro e w1 ⟨rfl, hb1⟩
        obtain ⟨a4, rfl⟩ := ovr_next hb1
        clear hb1
        go_upto_region 21 with (fail)
        obtain ⟨T4, hT4⟩ : ∃ T4, T4 = ((ovr V a4).alloc (.cells #[I X4l, I X4h] 38)) := ⟨_, rfl⟩
        have reT4 : ∀ v, ∃ x, ovr T4 v = ovr V x := fun v => ovr_re1 hT4
        have SV_yW00 := Lib.hid yW00
        replace yW00 := tr_cell reT4 yW00
        have SV_yW01 := Lib.hid yW01
        replace yW01 := tr_cell reT4 yW01
        have SV_yW02 := Lib.hid yW02
        replace yW02 := tr_cell reT4 yW02
        have SV_yW03 := Lib.hid yW03
        replace yW03 := tr_cell reT4 yW03
        have SV_yW04 := Lib.hid yW04
        replace yW04 := tr_cell reT4 yW04
        have SV_yW05 := Lib.hid yW05
        replace yW05 := tr_cell reT4 yW05
        have SV_yW06 := Lib.hid yW06
        replace yW06 := tr_cell reT4 yW06
        have SV_RrowW0 := Lib.hid RrowW0.out
        replace RrowW0 := Lib.hid (tr_row reT4 RrowW0.out)
        have SV_yW10 := Lib.hid yW10
        replace yW10 := tr_cell reT4 yW10
        have SV_yW11 := Lib.hid yW11
        replace yW11 := tr_cell reT4 yW11
        have SV_yW12 := Lib.hid yW12
        replace yW12 := tr_cell reT4 yW12
        have SV_yW13 := Lib.hid yW13
        replace yW13 := tr_cell reT4 yW13
        have SV_RrowW1 := Lib.hid RrowW1.out
        replace RrowW1 := Lib.hid (tr_row reT4 RrowW1.out)
        have SV_yV00 := Lib.hid yV00
        replace yV00 := tr_cell reT4 yV00
        have SV_yV01 := Lib.hid yV01
        replace yV01 := tr_cell reT4 yV01
        have SV_RrowV0 := Lib.hid RrowV0.out
        replace RrowV0 := Lib.hid (tr_row reT4 RrowV0.out)
        have SV_yV10 := Lib.hid yV10
        replace yV10 := tr_cell reT4 yV10
        have SV_yV11 := Lib.hid yV11
        replace yV11 := tr_cell reT4 yV11
        have SV_RrowV1 := Lib.hid RrowV1.out
        replace RrowV1 := Lib.hid (tr_row reT4 RrowV1.out)
        have rowT40 : T4.heap[(ovr V a4).heap.size]? = some (.cells #[I X4l, I X4h] 38 (0, 0)) := by rw [hT4]; exact heap_last _ _ _ rfl
        have yT400 := ovr_cell (W := T4) (b := (ovr V a4).heap.size) (o := 0) (v := I X4l) (by rw [cell_of_row _ _ _ _ _ _ rowT40]; rfl)
        have yT401 := ovr_cell (W := T4) (b := (ovr V a4).heap.size) (o := 1) (v := I X4h) (by rw [cell_of_row _ _ _ _ _ _ rowT40]; rfl)
        have RrowT40 := Lib.hid (ovr_row rowT40)
        clear rowT40
        have HBT4 : Hid (∀ u, Below V.heap.size V (ovr T4 u)) := fun u => by obtain ⟨x, hx⟩ := reT4 u; rw [hx]; exact ovr_below _ _
        have HUT4 : Hid (∀ u, Below w.heap.size w (ovr T4 u)) := fun u => by obtain ⟨x, hx⟩ := reT4 u; rw [hx]; exact HUV.out x
        clear reT4
        have HT4 := Lib.hid hT4
        clear hT4
        rw [← HT4.out]
        obtain ⟨b4, hb4⟩ := ovr_self T4
        rw [hb4]
        clear hb4
        go_upto_if 213 with (fail)
        go_cut [] (fun wx => ∃ u, wx = ovr V u)
        case first =>
          by_cases hz : z4 = 0
          · as_aux_lemma =>
            subst hz
            have hok := scF_ok Hq4.out
            have ra := rngOk_iff.1 ((Ha.out hok).ok hok)
            obtain ⟨Y, hY, hin, hcb, hmd⟩ := scale_part Hq4.out (Ha.out hok)
            have hcb := fok_iff.1 hcb
            obtain ⟨n, r, hn, hn1, hn2⟩ := hmd (1 + g) (by have := Hg.out; omega)
            have cm := Lib.hid fun W => muldiv_any a.lo f.n f.d (1 + g) W (by omega) (by omega) (by have := Hg.out; omega)
            rw [hn] at cm
            obtain ⟨Yl, Yh⟩ := Y
            have cl := Lib.hid fun W => scale_any a f W
            rw [hY] at cl
            have ci := Lib.hid fun W => inside_any ⟨Yl, Yh⟩ ⟨X4l, X4h⟩ W
            rw [hin] at ci
            have n1 : decide (n < Yl) = false := decide_eq_false (by simp only at hn1; omega)
            have n2 : decide (Yh < n) = false := decide_eq_false (by simp only at hn2; omega)
            clear hok hY hin hcb hmd hn hn1 hn2 ra
            go_wp2_with fail
            refine (cl.out _).mono ?_
            rintro e w1 ⟨rfl, hb1⟩
            obtain ⟨e1, rfl⟩ := ovr_next hb1
            clear hb1
            go_upto_region 23 with (fail)
            obtain ⟨U4, hU4⟩ : ∃ U4, U4 = ((ovr T4 e1).alloc (.cells #[I Yl, I Yh] 38)) := ⟨_, rfl⟩
            have reU4 : ∀ v, ∃ x, ovr U4 v = ovr T4 x := fun v => ovr_re1 hU4
            replace yW00 := tr_cell reU4 yW00
            replace yW01 := tr_cell reU4 yW01
            replace yW02 := tr_cell reU4 yW02
            replace yW03 := tr_cell reU4 yW03
            replace yW04 := tr_cell reU4 yW04
            replace yW05 := tr_cell reU4 yW05
            replace yW06 := tr_cell reU4 yW06
            replace RrowW0 := Lib.hid (tr_row reU4 RrowW0.out)
            replace yW10 := tr_cell reU4 yW10
            replace yW11 := tr_cell reU4 yW11
            replace yW12 := tr_cell reU4 yW12
            replace yW13 := tr_cell reU4 yW13
            replace RrowW1 := Lib.hid (tr_row reU4 RrowW1.out)
            replace yV00 := tr_cell reU4 yV00
            replace yV01 := tr_cell reU4 yV01
            replace RrowV0 := Lib.hid (tr_row reU4 RrowV0.out)
            replace yV10 := tr_cell reU4 yV10
            replace yV11 := tr_cell reU4 yV11
            replace RrowV1 := Lib.hid (tr_row reU4 RrowV1.out)
            replace yT400 := tr_cell reU4 yT400
            replace yT401 := tr_cell reU4 yT401
            replace RrowT40 := Lib.hid (tr_row reU4 RrowT40.out)
            have rowU40 : U4.heap[(ovr T4 e1).heap.size]? = some (.cells #[I Yl, I Yh] 38 (0, 0)) := by rw [hU4]; exact heap_last _ _ _ rfl
            have yU400 := ovr_cell (W := U4) (b := (ovr T4 e1).heap.size) (o := 0) (v := I Yl) (by rw [cell_of_row _ _ _ _ _ _ rowU40]; rfl)
            have yU401 := ovr_cell (W := U4) (b := (ovr T4 e1).heap.size) (o := 1) (v := I Yh) (by rw [cell_of_row _ _ _ _ _ _ rowU40]; rfl)
            have RrowU40 := Lib.hid (ovr_row rowU40)
            clear rowU40
            have HBU4 : Hid (∀ u, Below T4.heap.size T4 (ovr U4 u)) := fun u => by obtain ⟨x, hx⟩ := reU4 u; rw [hx]; exact ovr_below _ _
            have HUU4 : Hid (∀ u, Below w.heap.size w (ovr U4 u)) := fun u => by obtain ⟨x, hx⟩ := reU4 u; rw [hx]; exact HUT4.out x
            clear reU4
            have HU4 := Lib.hid hU4
            clear hU4
            rw [← HU4.out]
            obtain ⟨e2, he2⟩ := ovr_self U4
            rw [he2]
            clear he2
            go_wp2_with fail
            refine (cm.out _).mono ?_
            rintro e w1 ⟨rfl, hb1⟩
            obtain ⟨e3, rfl⟩ := ovr_next hb1
            clear hb1
            go_wp2_with fail
            refine (ci.out _).mono ?_
            rintro e w1 ⟨rfl, hb1⟩
            obtain ⟨e4, rfl⟩ := ovr_next hb1
            clear hb1
            go_wp2_with fail
            go_meet
            case rel => exact ⟨_, ovr_of (below_chain HBT4.out HBU4.out _)⟩
          · have hzb : (z4 == 0) = false := by simpa using hz
            clear hz
            go_wp2_with fail
            go_meet
            case rel => exact ⟨_, ovr_of (HBT4.out _)⟩
        case rest =>
          obtain ⟨d4, rfl⟩ := hcut
          replace yW00 := SV_yW00.out
          replace yW01 := SV_yW01.out
          replace yW02 := SV_yW02.out
          replace yW03 := SV_yW03.out
          replace yW04 := SV_yW04.out
          replace yW05 := SV_yW05.out
          replace yW06 := SV_yW06.out
          replace yW10 := SV_yW10.out
          replace yW11 := SV_yW11.out
          replace yW12 := SV_yW12.out
          replace yW13 := SV_yW13.out
          replace RrowW0 := SV_RrowW0
          replace RrowW1 := SV_RrowW1
          replace yV00 := SV_yV00.out
          replace yV01 := SV_yV01.out
          replace yV10 := SV_yV10.out
          replace yV11 := SV_yV11.out
          replace RrowV0 := SV_RrowV0
          replace RrowV1 := SV_RrowV1
          clear yT400 yT401 RrowT40
          go_wp2_with fail
          refine (ck.out _).mono ?_
          rintro e w1 ⟨rfl, hb1⟩
          obtain ⟨v9, rfl⟩ := ovr_next hb1
          clear hb1
          go_wp2_with fail
          go_ret
          exact ⟨rfl, HUV.out _⟩
end Go.Proofs.Ytmadlmmfbpmebaa
