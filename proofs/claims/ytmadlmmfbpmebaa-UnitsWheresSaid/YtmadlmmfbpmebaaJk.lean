/- The contracts of Where and Inverse of the reference of chapter 1. -/
import Derived.Test.YtmadlmmfbpmebaaJj
import Derived.Test.YtmadlmmfbpmebaaJd
namespace Go.Proofs.Ytmadlmmfbpmebaa
open Go.RowKit
/-- The runs after k pieces. -/
def whK (t : List Rng) (y : Rng) (k : Nat) : List Rng := whL t y (pcs t k)
theorem whK_succ {t : List Rng} {y : Rng} {k : Nat} (h : k + 1 < t.length) : whK t y (k + 1) = whStep y (whK t y k) (at0 t k) (at0 t (k + 1)) := by unfold whK; rw [pcs_succ h, whL_snoc]
def FiV (t : List Rng) (y qn a b : Int) (u : Value) (_ : World) : Prop := ∃ h, u = I h ∧ FiSp (fun x => hoF (valF t x) y qn) a b h
theorem fi_grow {P : Program} {f : FuncId} {args : Array Value} {w : World} {t : List Rng} {y qn a b : Int} (h : Calls P f args w fun e w' => ∃ h, e = .returned (I h) ∧ FiSp (fun x => hoF (valF t x) y qn) a b h ∧ Below w.heap.size w w') :
    Calls P f args w fun e w' => ∃ u, e = .returned u ∧ Le w w' ∧ Box (FiV t y qn a b) u w' := h.mono fun _ _ ⟨h, he, hs, hb⟩ => ⟨_, he, hb, fun _ _ => ⟨h, rfl, hs⟩⟩
theorem step_no {y p q : Rng} {l : List Rng} {x : Rng} (hw : whF p q y = x) (h : x.hi < x.lo) : whStep y l p q = l := by unfold whStep; rw [hw, if_pos h]
theorem step_join {y p q : Rng} {l : List Rng} {x : Rng} (hw : whF p q y = x) (h : ¬ x.hi < x.lo) (h2 : l.length ≠ 0) (h3 : x.lo ≤ (at0 l (l.length - 1)).hi + 1) : whStep y l p q = l.take (l.length - 1) ++ [⟨(at0 l (l.length - 1)).lo, x.hi⟩] := by
  unfold whStep; rw [hw, if_neg h, if_pos ⟨h2, h3⟩]
theorem step_new {y p q : Rng} {l : List Rng} {x : Rng} (hw : whF p q y = x) (h : ¬ x.hi < x.lo) (h2 : l.length = 0 ∨ ¬ x.lo ≤ (at0 l (l.length - 1)).hi + 1) : whStep y l p q = l ++ [x] := by
  unfold whStep; rw [hw, if_neg h, if_neg (by omega)]
set_option maxRecDepth 100000 in
set_option maxHeartbeats 8000000 in
theorem refWhere_any (A : Option Addr) (c : Nat) (t : List Rng) (y : Rng) (w : World) (B : Nat) (hm : t.length ≤ maxLen) (hB : B ≤ w.heap.size) (hx : Rd w B 2 A t.length (rR t))
    (hz : ∀ j, j < t.length → (-9223372036854775808 ≤ (at0 t j).lo ∧ (at0 t j).lo ≤ 9223372036854775807) ∧ (-9223372036854775808 ≤ (at0 t j).hi ∧ (at0 t j).hi ≤ 9223372036854775807)) :
    Calls Try.prog 51 #[.slice A t.length c, y.val] w (RetL w (weF t y)) := by
  have hf : Hid (weF t y = if tabB t && rngOk y then (whL t y (pcs t (t.length - 1)), 0) else ([], 2)) := rfl
  have HX : Hid (∀ W', Below w.heap.size w W' → Rd W' B 2 A t.length (rR t) ∧ B ≤ W'.heap.size) := fun W' h => ⟨hx.below (h.mono hB), Nat.le_trans hB h.size⟩
  have ct : Hid (∀ W', Rd W' B 2 A t.length (rR t) ∧ B ≤ W'.heap.size → Calls Try.prog 35 #[.slice A t.length c] W' fun e w' => e = .returned (.bool (tabB t)) ∧ Below W'.heap.size W' w') := fun W' h => refTable_any A c t W' B hm h.2 h.1 hz
  have cr := Lib.hid fun W => refRange_any y W
  obtain ⟨i0, hi0, iz0, iz1, iz2⟩ := info_parts rng_info
  clear hx hB hm hz
  obtain ⟨W, hW⟩ : ∃ W, W = (w.alloc (.cells #[I y.lo, I y.hi] 38)) := ⟨_, rfl⟩
  have rowW0 : W.heap[w.heap.size]? = some (.cells #[I y.lo, I y.hi] 38 (0, 0)) := by rw [hW]; exact heap_last _ _ _ rfl
  have yW00 := ovr_cell (W := W) (b := w.heap.size) (o := 0) (v := I y.lo) (by rw [cell_of_row _ _ _ _ _ _ rowW0]; rfl)
  have yW01 := ovr_cell (W := W) (b := w.heap.size) (o := 1) (v := I y.hi) (by rw [cell_of_row _ _ _ _ _ _ rowW0]; rfl)
  have RrowW0 := Lib.hid (ovr_row rowW0)
  clear rowW0
  have HUW : Hid (∀ u, Below w.heap.size w (ovr W u)) := U1 hW
  have HW := Lib.hid hW
  clear hW
  rcases h1 : tabB t with _ | _ <;> (rw [h1] at hf ct)
  · go_enter Try.func51, Try.ntmps51
    go_upto_region 1 with (fail)
    rw [← HW.out]
    obtain ⟨u0, hu0⟩ := ovr_self W
    rw [hu0]
    clear hu0
    go_wp2_with fail
    refine (ct.out _ (HX.out _ (HUW.out _))).mono ?_
    rintro e w1 ⟨rfl, hb1⟩
    obtain ⟨u1, rfl⟩ := ovr_next hb1
    clear hb1
    go_wp2_with fail
    go_ret2
    exact ⟨none, 0, 0, by rw [hf.out]; rfl, by rw [hf.out]; rfl, Nat.le_refl _, Rd.nil, HUW.out _⟩
  have HT := Lib.hid (tab_iff.1 h1)
  clear h1
  rcases h2 : rngOk y with _ | _ <;> (rw [h2] at hf cr)
  · go_enter Try.func51, Try.ntmps51
    go_upto_region 1 with (fail)
    rw [← HW.out]
    obtain ⟨u0, hu0⟩ := ovr_self W
    rw [hu0]
    clear hu0
    go_wp2_with fail
    refine (ct.out _ (HX.out _ (HUW.out _))).mono ?_
    rintro e w1 ⟨rfl, hb1⟩
    obtain ⟨u1, rfl⟩ := ovr_next hb1
    clear hb1
    go_wp2_with fail
    refine (cr.out _).mono ?_
    rintro e w1 ⟨rfl, hb1⟩
    obtain ⟨u2, rfl⟩ := ovr_next hb1
    clear hb1
    go_wp2_with fail
    go_ret2
    exact ⟨none, 0, 0, by rw [hf.out]; rfl, by rw [hf.out]; rfl, Nat.le_refl _, Rd.nil, HUW.out _⟩
  rw [if_pos (by rfl)] at hf
  have HN := Lib.hid h2
  have t60 := HT.out.n60
  have t2 := HT.out.n2
  clear h2
  go_enter Try.func51, Try.ntmps51
  go_upto_region 1 with (fail)
  rw [← HW.out]
  obtain ⟨u0, hu0⟩ := ovr_self W
  rw [hu0]
  clear hu0
  go_wp2_with fail
  refine (ct.out _ (HX.out _ (HUW.out _))).mono ?_
  rintro e w1 ⟨rfl, hb1⟩
  obtain ⟨u1, rfl⟩ := ovr_next hb1
  clear hb1
  go_wp2_with fail
  refine (cr.out _).mono ?_
  rintro e w1 ⟨rfl, hb1⟩
  obtain ⟨u2, rfl⟩ := ovr_next hb1
  clear hb1
  go_upto_region 4 with (fail)
  obtain ⟨qb, hqb⟩ : ∃ qb, (ovr W u2).heap.size = qb := ⟨_, rfl⟩
  rw [hqb]
  have hal : Below (ovr W u2).heap.size (ovr W u2) ((ovr W u2).alloc (.cells #[] 38)) := (Below.refl _ _).alloc (Nat.le_refl _) _
  obtain ⟨u3, hu3⟩ := ovr_next hal
  rw [hu3]
  clear hal hu3 hqb
  go_wp2_with fail
  go_loopw [6, 7] (fun v i wr => ∃ k : Nat, k + 1 ≤ t.length ∧ i = .int .i64 ((k + 1 : Nat) : Int) ∧ SoC 38 2 W.heap.size (whK t y k).length (rc (whK t y k)) v wr ∧ ∃ u, wr = ovr W u) (fun _ i _ => t.length - (intOf i).toNat)
  case atStart => exact ⟨0, by omega, rfl, .inl ⟨rfl, rfl, qb, rfl⟩, u3, rfl⟩
  case round =>
    obtain ⟨k, hk, rfl, hso, u, rfl⟩ := hrel
    have hfa := whL_facts HT.out HN.out (pcs t k)
    rw [pcs_len (by omega)] at hfa
    by_cases hlt : k + 1 < t.length
    · have hltb : decide (((k + 1 : Nat) : Int) < (t.length : Int)) = true := decide_eq_true (by omega)
      have hwn := Lib.hid (whK_succ (y := y) hlt)
      have hfa2 : RunBd (whK t y k) ∧ (whK t y k).length ≤ k := hfa
      obtain ⟨l, hl⟩ : ∃ l, whK t y k = l := ⟨_, rfl⟩
      rw [hl] at hso hfa2 hwn
      clear hl hfa
      have hso' := hso
      rw [rc_flat] at hso'
      obtain ⟨A', c', rfl, _, _, _⟩ := hso'.rd
      have HSo := Lib.hid hso
      have Hfa := Lib.hid hfa2
      have hlk := hfa2.2
      obtain ⟨b, o, hA, _, e0, e1⟩ := (HX.out _ (HUW.out u)).1.rng (show k < t.length by omega)
      obtain ⟨b', o', hA', _, f0, f1⟩ := (HX.out _ (HUW.out u)).1.rng hlt
      rw [hA] at hA'
      (injection hA' with ea; injection ea with ea1 ea2; subst ea1 ea2)
      subst hA
      have hup := HT.out.asc k (k + 1) (by omega) hlt
      have hb0 := HT.out.x k (by omega)
      have hb1 := HT.out.x (k + 1) hlt
      have hh0 := HT.out.x 0 (by omega)
      have hin0 : (at0 t 0).lo ≤ (at0 t k).lo := by
        rcases Nat.eq_zero_or_pos k with rfl | h
        · exact Int.le_refl _
        · have := HT.out.asc 0 k h (by omega); omega
      have hin1 : (at0 t (k + 1)).lo ≤ (at0 t (t.length - 1)).lo := by
        rcases Nat.lt_or_ge (k + 1) (t.length - 1) with h | h
        · have := HT.out.asc (k + 1) (t.length - 1) h (by omega); omega
        · have e : k + 1 = t.length - 1 := by omega
          rw [e]; exact Int.le_refl _
      have cF : Hid (∀ W' yy qn, (qn = 1 ∨ qn = 2 ∨ qn = 3 ∨ qn = 4) → Below w.heap.size w W' → Calls Try.prog 97 #[.slice (some ⟨b, o, none⟩) t.length c, I (at0 t k).lo, I (at0 t (k + 1)).lo, I yy, I qn] W' fun e w' => ∃ h, e = .returned (I h) ∧ FiSp (fun x => hoF (valF t x) yy qn) (at0 t k).lo (at0 t (k + 1)).lo h ∧ Below W'.heap.size W' w') := fun W' yy qn hq hb =>
        first_any (some ⟨b, o, none⟩) c t (at0 t k).lo (at0 t (k + 1)).lo yy qn W' B HT.out hin0 hin1 (by omega) hq (HX.out W' hb).2 (HX.out W' hb).1
      have hRi : Hid (∀ h1 h2, ¬ (at0 t (k + 1)).hi < (at0 t k).hi → FiSp (fun x => hoF (valF t x) y.lo 1) (at0 t k).lo (at0 t (k + 1)).lo h1 → FiSp (fun x => hoF (valF t x) y.hi 2) (at0 t k).lo (at0 t (k + 1)).lo h2 → whF (at0 t k) (at0 t (k + 1)) y = ⟨h1, h2 - 1⟩) := fun h1 h2 hr s1 s2 => first_rise HT.out hlt hr s1 s2
      have hFa : Hid (∀ h1 h2, (at0 t (k + 1)).hi < (at0 t k).hi → FiSp (fun x => hoF (valF t x) y.hi 3) (at0 t k).lo (at0 t (k + 1)).lo h1 → FiSp (fun x => hoF (valF t x) y.lo 4) (at0 t k).lo (at0 t (k + 1)).lo h2 → whF (at0 t k) (at0 t (k + 1)) y = ⟨h1, h2 - 1⟩) := fun h1 h2 hr s1 s2 => first_fall HT.out hlt hr s1 s2
      have ck1 : IntKind.i64.wrap (((k + 1 : Nat) : Int) - 1) = (k : Int) := by rw [IntWalk.i64_in _ (by omega)]; omega
      have ck2 : k < t.length := by omega
      have hgt : Hid (∀ W', Below w.heap.size w W' → W'.cell? ⟨b, o + k * 2, none⟩ = some (I (at0 t k).lo) ∧ W'.cell? ⟨b, o + k * 2 + 1, none⟩ = some (I (at0 t k).hi) ∧ W'.cell? ⟨b, o + (k + 1) * 2, none⟩ = some (I (at0 t (k + 1)).lo) ∧ W'.cell? ⟨b, o + (k + 1) * 2 + 1, none⟩ = some (I (at0 t (k + 1)).hi)) := fun W' hW => by
        obtain ⟨b1, o1, hA1, _, x0, x1⟩ := (HX.out _ hW).1.rng (show k < t.length by omega)
        obtain ⟨b2, o2, hA2, _, x2, x3⟩ := (HX.out _ hW).1.rng hlt
        (injection hA1 with ea; injection ea with ea1 ea2; subst ea1 ea2)
        (injection hA2 with ea; injection ea with ea1 ea2; subst ea1 ea2)
        exact ⟨x0, x1, x2, x3⟩
      generalize at0 t k = p at *
      generalize at0 t (k + 1) = q at *
      have Hb := Lib.hid (And.intro hb0 hb1)
      clear hso hso' e0 e1 f0 f1 hb0 hb1 hh0 hin0 hin1 hfa2 hup
      obtain ⟨e0, _, f0, _⟩ := hgt.out _ (HUW.out u)
      have e01 := ovr_cell e0
      have f01 := ovr_cell f0
      clear e0 f0
      go_upto_region 7 with (fail)
      refine wp_region_below_lit (by kernel_rfl) (by kernel_rfl) ?_
      repeat (go_big_quiet_step (fail))
      refine wpQuiet_nil ?_
      intro w1 hb1
      have hso1 := HSo.out.over hb1
      obtain ⟨u1, rfl⟩ := ovr_next hb1
      clear hb1 e01 f01 HSo
      go_upto_region 8 with (fail)
      have hbY := ovr_below W u1
      obtain ⟨Y, hY⟩ : ∃ Y, Y = ovr W u1 := ⟨_, rfl⟩
      rw [← hY] at hbY
      rw [← hY]
      have hY' := Lib.hid hY
      clear hY
      have hbY' := Lib.hid hbY
      have reY : ∀ v, ∃ x, ovr Y v = ovr W x := fun v => ovr_reB hbY v
      replace yW00 := tr_cell reY yW00
      replace yW01 := tr_cell reY yW01
      replace RrowW0 := Lib.hid (tr_row reY RrowW0.out)
      have HUY : Hid (∀ u, Below w.heap.size w (ovr Y u)) := fun u => by obtain ⟨x, hx⟩ := reY u; rw [hx]; exact HUW.out x
      clear reY hbY
      rw [← hY'.out] at hso1
      have HSo := Lib.hid hso1
      have hWY := hbY'
      have HYw : Hid (∀ w', Cl Y w' → Below w.heap.size w w') := fun w' hw' => (below_self HUY.out).trans (hw'.le.mono (below_self HUY.out).size)
      clear hso1
      refine wp_region_seq2 15 (fun j => if j = 5 then some (FiV t y.lo 1 p.lo q.lo) else if j = 11 then some (FiV t y.hi 2 p.lo q.lo) else if j = 14 then some (NewAt Y #[I 0, I 0] 38) else none) (by kernel_rfl) (by kernel_rfl) (by kernel_rfl) (by kernel_rfl) (by kernel_rfl) ?_
      simp only [List.take_succ_cons, List.take_zero, List.drop_succ_cons, List.drop_zero]
      repeat (refine wpG_one rfl rfl rfl ?_; intro K hK; go_big_quiet_op; go_big_quiet_on)
      refine wpG_make (FiV t y.lo 1 p.lo q.lo) rfl rfl (fun w' hw' _ => ?_) (fun u hu => ?_)
      · go_simp
        exact fi_grow (cF.out w' y.lo 1 (.inl rfl) (HYw.out w' hw'))
      obtain ⟨_, _, h1, rfl, s1⟩ := hu
      simp only [Act.put, List.setIfInBounds_toArray, List.set_cons_zero, List.set_cons_succ]
      repeat (refine wpG_one rfl rfl rfl ?_; intro K hK; go_big_quiet_op; go_big_quiet_on)
      refine wpG_make (FiV t y.hi 2 p.lo q.lo) rfl rfl (fun w' hw' _ => ?_) (fun u hu => ?_)
      · go_simp
        exact fi_grow (cF.out w' y.hi 2 (.inr (.inl rfl)) (HYw.out w' hw'))
      obtain ⟨_, _, h2, rfl, s2⟩ := hu
      have cw : IntKind.i64.wrap (h2 - 1) = h2 - 1 := IntWalk.i64_in _ (by have := s2.1; have := Hb.out; omega)
      simp only [Act.put, List.setIfInBounds_toArray, List.set_cons_zero, List.set_cons_succ]
      repeat (refine wpG_one rfl rfl rfl ?_; intro K hK; go_big_quiet_op; go_big_quiet_on)
      refine wpG_make (NewAt Y #[I 0, I 0] 38) rfl rfl (fun w' hw' _ => ?_) (fun u hu => ?_)
      · go_simp
        exact new_grow hw'
      obtain ⟨_, _, bn, rfl, _, _⟩ := hu
      simp only [Act.put, List.setIfInBounds_toArray, List.set_cons_zero, List.set_cons_succ]
      refine wpG_nil (fun w5 hw5 hG => ?_)
      have hn := (Box.now hG.2).at
      clear hG
      refine wpTailIn_cons Wd.wide (by intro c h; cases h) ?_
      refine wp_store_row 38 _ _ rfl bn rfl _ _ hn.1 #[I h1, I (h2 - 1)] rfl (one2 rfl rfl) rfl (by kernel_rfl) ?_
      refine wpTailIn_nil ?_
      simp only [Act.put]
      obtain ⟨Z, hZ⟩ : ∃ Z, Z = w5.setRow bn #[I h1, I (h2 - 1)] := ⟨_, rfl⟩
      have rZ : Z.heap[bn]? = some (.cells #[I h1, I (h2 - 1)] 38 (0, 0)) := by rw [hZ]; exact setRow_same hn.1
      have hbZ : Below Y.heap.size Y Z := by rw [hZ]; exact below_setRow hw5.le hn.2 _
      have HbZ := Lib.hid hbZ
      have Hbn := Lib.hid hn.2
      have hsoZ := HSo.out.over hbZ
      have HSoZ := Lib.hid hsoZ
      have hrZ2 := Lib.hid rZ
      rw [← hZ]
      clear hZ hn hw5 hsoZ cw
      have reZ : ∀ v, ∃ x, ovr Z v = ovr Y x := fun v => ovr_reB hbZ v
      have SY_yW00 := Lib.hid yW00
      replace yW00 := tr_cell reZ yW00
      have SY_yW01 := Lib.hid yW01
      replace yW01 := tr_cell reZ yW01
      have SY_RrowW0 := Lib.hid RrowW0.out
      replace RrowW0 := Lib.hid (tr_row reZ RrowW0.out)
      have yZ00 := ovr_cell (W := Z) (b := bn) (o := 0) (v := I h1) (by rw [cell_of_row _ _ _ _ _ _ rZ]; rfl)
      have yZ01 := ovr_cell (W := Z) (b := bn) (o := 1) (v := I (h2 - 1)) (by rw [cell_of_row _ _ _ _ _ _ rZ]; rfl)
      have RrowZ0 := Lib.hid (ovr_row rZ)
      clear rZ
      have HUZ : Hid (∀ u, Below w.heap.size w (ovr Z u)) := fun u => by obtain ⟨x, hx⟩ := reZ u; rw [hx]; exact HUY.out x
      clear reZ hbZ
      obtain ⟨u2, hu2⟩ := ovr_self Z
      rw [hu2]
      clear hu2
      obtain ⟨_, e1, _, f1⟩ := hgt.out _ (HUZ.out u2)
      have e11 := ovr_cell e1
      have f11 := ovr_cell f1
      clear e1 f1
      by_cases hr : q.hi < p.hi
      · have hrb := decide_eq_true hr
        go_upto_region 9 with (fail)
        refine wp_region_below_lit (by kernel_rfl) (by kernel_rfl) ?_
        repeat (go_big_quiet_step (fail))
        refine wpQuiet_nil ?_
        intro w1 hb1
        obtain ⟨u4, rfl⟩ := ovr_next hb1
        clear hb1 e11 f11
        go_upto_region 10 with (fail)
        have hbZ1 := ovr_below Z u4
        obtain ⟨Z1, hZ1⟩ : ∃ Z1, Z1 = ovr Z u4 := ⟨_, rfl⟩
        rw [← hZ1] at hbZ1
        rw [← hZ1]
        have hZ1' := Lib.hid hZ1
        clear hZ1
        have hbZ1' := Lib.hid hbZ1
        have reZ1 : ∀ v, ∃ x, ovr Z1 v = ovr Z x := fun v => ovr_reB hbZ1 v
        replace yW00 := tr_cell reZ1 yW00
        replace yW01 := tr_cell reZ1 yW01
        replace RrowW0 := Lib.hid (tr_row reZ1 RrowW0.out)
        replace yZ00 := tr_cell reZ1 yZ00
        replace yZ01 := tr_cell reZ1 yZ01
        replace RrowZ0 := Lib.hid (tr_row reZ1 RrowZ0.out)
        have HUZ1 : Hid (∀ u, Below w.heap.size w (ovr Z1 u)) := fun u => by obtain ⟨x, hx⟩ := reZ1 u; rw [hx]; exact HUZ.out x
        clear reZ1 hbZ1
        have HZw : Hid (∀ w', Cl Z1 w' → Below w.heap.size w w') := fun w' hw' => (below_self HUZ1.out).trans (hw'.le.mono (below_self HUZ1.out).size)
        refine wp_region_seq2 14 (fun j => if j = 5 then some (FiV t y.hi 3 p.lo q.lo) else if j = 11 then some (FiV t y.lo 4 p.lo q.lo) else none) (by kernel_rfl) (by kernel_rfl) (by kernel_rfl) (by kernel_rfl) (by kernel_rfl) ?_
        simp only [List.take_succ_cons, List.take_zero, List.drop_succ_cons, List.drop_zero]
        repeat (refine wpG_one rfl rfl rfl ?_; intro K hK; go_big_quiet_op; go_big_quiet_on)
        refine wpG_make (FiV t y.hi 3 p.lo q.lo) rfl rfl (fun w' hw' _ => ?_) (fun u hu => ?_)
        · go_simp
          exact fi_grow (cF.out w' y.hi 3 (.inr (.inr (.inl rfl))) (HZw.out w' hw'))
        obtain ⟨_, _, h3, rfl, s3⟩ := hu
        simp only [Act.put, List.setIfInBounds_toArray, List.set_cons_zero, List.set_cons_succ]
        repeat (refine wpG_one rfl rfl rfl ?_; intro K hK; go_big_quiet_op; go_big_quiet_on)
        refine wpG_make (FiV t y.lo 4 p.lo q.lo) rfl rfl (fun w' hw' _ => ?_) (fun u hu => ?_)
        · go_simp
          exact fi_grow (cF.out w' y.lo 4 (.inr (.inr (.inr rfl))) (HZw.out w' hw'))
        obtain ⟨_, _, h4, rfl, s4⟩ := hu
        have cw : IntKind.i64.wrap (h4 - 1) = h4 - 1 := IntWalk.i64_in _ (by have := s4.1; have := Hb.out; omega)
        simp only [Act.put, List.setIfInBounds_toArray, List.set_cons_zero, List.set_cons_succ]
        repeat (refine wpG_one rfl rfl rfl ?_; intro K hK; go_big_quiet_op; go_big_quiet_on)
        refine wpG_nil (fun w5 hw5 hG => ?_)
        clear hG
        obtain ⟨u5, rfl⟩ : ∃ z, w5 = ovr Z1 z := ⟨w5, ovr_of hw5.le⟩
        refine wpTailIn_cons Wd.wide (by intro c h; cases h) ?_
        refine wp_store_row 38 _ _ rfl bn rfl _ _ (RrowZ0.out u5) #[I h3, I (h4 - 1)] rfl (one2 rfl rfl) rfl (by kernel_rfl) ?_
        refine wpTailIn_nil ?_
        simp only [Act.put]
        have hwf := hFa.out h3 h4 hr s3 s4
        obtain ⟨V, hV⟩ : ∃ V, V = (ovr Z1 u5).setRow bn #[I h3, I (h4 - 1)] := ⟨_, rfl⟩
        have rV : V.heap[bn]? = some (.cells #[I h3, I (h4 - 1)] 38 (0, 0)) := by rw [hV]; exact setRow_same (RrowZ0.out u5)
        have hbV : Below Y.heap.size Y V := by
          rw [hV]
          refine below_setRow (HbZ.out.trans ?_) Hbn.out _
          have h5 : Below Z.heap.size Z Z1 := by rw [hZ1'.out]; exact ovr_below _ _
          exact (h5.trans ((ovr_below Z1 u5).mono h5.size)).mono HbZ.out.size
        have hsoV := HSo.out.over hbV
        rw [← hV]
        clear hV hw5 cw HSoZ HZw
        have HSoV := Lib.hid hsoV
        have HbV := Lib.hid hbV
        clear hsoV
        have reV : ∀ v, ∃ x, ovr V v = ovr Y x := fun v => ovr_reB hbV v
        have yW00 := SY_yW00.out
        replace yW00 := tr_cell reV yW00
        have yW01 := SY_yW01.out
        replace yW01 := tr_cell reV yW01
        have RrowW0 := SY_RrowW0
        replace RrowW0 := Lib.hid (tr_row reV RrowW0.out)
        have yV00 := ovr_cell (W := V) (b := bn) (o := 0) (v := I h3) (by rw [cell_of_row _ _ _ _ _ _ rV]; rfl)
        have yV01 := ovr_cell (W := V) (b := bn) (o := 1) (v := I (h4 - 1)) (by rw [cell_of_row _ _ _ _ _ _ rV]; rfl)
        have RrowV0 := Lib.hid (ovr_row rV)
        clear rV
        have HUV : Hid (∀ u, Below w.heap.size w (ovr V u)) := fun u => by obtain ⟨x, hx⟩ := reV u; rw [hx]; exact HUY.out x
        clear reV hbV
        obtain ⟨u6, hu6⟩ := ovr_self V
        rw [hu6]
        clear hu6
        obtain ⟨x, hx⟩ : ∃ x : Rng, x = ⟨h3, h4 - 1⟩ := ⟨_, rfl⟩
        rw [← hx] at hwf
        obtain ⟨ex1, ex2⟩ : h3 = x.lo ∧ h4 - 1 = x.hi := by rw [hx]; exact ⟨rfl, rfl⟩
        rw [ex1, ex2] at RrowV0
        rw [ex1] at yV00
        rw [ex2] at yV01
        have hxb : -3000000000000 ≤ x.lo ∧ x.hi ≤ 3000000000000 := by have := Hb.out; have := s3.1; have := s4.1; omega
        have HWV : Hid (∀ v, Below W.heap.size W (ovr V v)) := fun v => hWY.out.trans (((HbV.out).trans ((ovr_below V v).mono HbV.out.size)).mono hWY.out.size)
        clear hx ex1 ex2
        by_cases hE : x.hi < x.lo
        · have hEb := decide_eq_true hE
          have hst : Hid (whK t y (k + 1) = l) := by show _ = _; rw [hwn.out]; exact step_no hwf hE
          clear hE hxb
          go_wp2_with fail
          go_roundw
          case rel => exact ⟨k + 1, by omega, by go_num, by rw [hst.out]; exact HSoV.out.over (ovr_below V _), _, ovr_of (HWV.out _)⟩
          case measure => simp [intOf]; omega
        have hEb := decide_eq_false hE
        by_cases hn0 : l.length = 0
        · have hst : Hid (rc (whK t y (k + 1)) = rc l ++ [I x.lo, I x.hi] ∧ (whK t y (k + 1)).length = l.length + 1) := by
            show _ ∧ _
            rw [hwn.out, step_new hwf hE (.inl hn0)]; exact ⟨rc_app _ _, by simp⟩
          have n1 : decide ((0 : Int) < (l.length : Int)) = false := decide_eq_false (by omega)
          have g2 := fun v => ovr_cell (yV00 u6) v
          clear hE hxb
          go_upto_region 13 with (fail)
          refine wp_region_below_lit (by kernel_rfl) (by kernel_rfl) ?_
          repeat (go_big_quiet_step (fail))
          refine wpQuiet_nil ?_
          intro w1 hb1
          obtain ⟨u7, rfl⟩ := ovr_next hb1
          have HSo7 := Lib.hid ((HSoV.out.over (ovr_below V u7)).over ((Below.refl _ _).alloc (Nat.le_refl _) (.cells #[I x.lo, I x.hi] 38)))
          have HW7 := Lib.hid (HWV.out u7)
          have hw7s := HW7.out.size
          clear hb1 g2
          go_wp2_with (at_builtin; go_loud (refine wpList_app_soc rfl _ _ 36 rfl 38 i0 _ 2 16 Try.underlying36 hi0 iz0 iz1 iz2 rfl (by decide) W.heap.size l.length (rc l) _ rfl HSo7.out ⟨(ovr V u7).heap.size, 0, none⟩ 1 [I x.lo, I x.hi] rfl rfl (news_lit (cs := #[I x.lo, I x.hi]) (heap_last _ _ _ rfl)) (by simp [Value.oneCell']) ?hB1 ?hl1 (by decide) ?_))
          case hB1 => first | omega | (simp; omega)
          try (case hl1 => omega)
          intro v' w2 hso2 hb2
          have hso3 : Hid (SoC 38 2 W.heap.size (whK t y (k + 1)).length (rc (whK t y (k + 1))) v' w2) := by show SoC _ _ _ _ _ _ _; rw [hst.out.1, hst.out.2]; first | exact hso2 | (rw [show l.length + 1 = 1 by omega]; exact hso2)
          have HB2 : Hid (Below W.heap.size W w2) := (HW7.out.alloc hw7s _).trans hb2
          clear hso2 hb2 hw7s
          go_wp2_with fail
          go_roundw
          case rel => exact ⟨k + 1, by omega, by go_num, hso3.out, w2, ovr_of HB2.out⟩
          case measure => simp [intOf]; omega
        by_cases hJ : x.lo ≤ (at0 l (l.length - 1)).hi + 1
        · have hst : Hid (rc (whK t y (k + 1)) = (rc l).set ((l.length - 1) * 2 + 1) (I x.hi) ∧ (whK t y (k + 1)).length = l.length) := by
            show _ ∧ _
            rw [hwn.out, step_join hwf hE hn0 hJ]; exact ⟨rc_set hn0 _, by simp; omega⟩
          have hown : (ovr V u6).ownsRow W.heap.size 38 2 (.slice A' l.length c') l.length (rc l) := by
            rcases HSoV.out.over (ovr_below V u6) with ⟨h, _⟩ | h
            · exact absurd h hn0
            · exact h
          obtain ⟨g, c2, eg⟩ : ∃ g c2, (.slice A' l.length c' : Value) = .slice (some ⟨g, 0, none⟩) l.length c2 := by
            rcases hown.2 with ⟨h, hnil⟩ | ⟨g, cap, cur, h, hb, hg, _⟩
            · exact absurd hnil hn0
            · exact ⟨g, cap, h⟩
          injection eg with eg1 eg2 eg3
          subst eg1
          obtain ⟨zz, hzz⟩ : ∃ zz, at0 l (l.length - 1) = zz := ⟨_, rfl⟩
          have hzb := Hfa.out.1 (l.length - 1) (by omega)
          rw [hzz] at hzb hJ
          have hcells : ∀ v, (ovr V v).cell? ⟨g, (l.length - 1) * 2 + 1, none⟩ = some (I zz.hi) := fun v => by
            have h := HSoV.out.over (ovr_below V v)
            rw [rc_flat] at h
            obtain ⟨b3, o3, hA3, _, _, x3⟩ := h.at.2.2.2.rng (show l.length - 1 < l.length by omega)
            (injection hA3 with ea; injection ea with ea1 ea2; subst ea1 ea2)
            rw [hzz, Nat.zero_add] at x3
            exact x3
          have s2 : (0 : Int) ≤ (l.length : Int) - 1 := by omega
          have s4 : ((l.length : Int) - 1).toNat = l.length - 1 := by omega
          have s5 : (l.length : Int) - 1 < (l.length : Int) := by omega
          have s7 : IntKind.i64.wrap (zz.hi + 1) = zz.hi + 1 := IntWalk.i64_in _ (by omega)
          have s8 : IntKind.i64.wrap ((l.length : Int) - 1) = ((l.length - 1 : Nat) : Int) := by rw [IntWalk.i64_in _ (by omega)]; omega
          have s9 : l.length - 1 < l.length := by omega
          have n1 : decide ((0 : Int) < (l.length : Int)) = true := decide_eq_true (by omega)
          have n2 : decide (0 < l.length) = true := decide_eq_true (by omega)
          have hJb := decide_eq_true hJ
          have g1 := fun v => ovr_cell (hcells u6) v
          have g2 := fun v => ovr_cell (yV00 u6) v
          clear hE hJ hxb hzb hzz hown
          go_upto_region 13 with (fail)
          refine wp_region_below_lit (by kernel_rfl) (by kernel_rfl) ?_
          repeat (go_big_quiet_step (fail))
          refine wpQuiet_nil ?_
          intro w1 hb1
          obtain ⟨u7, rfl⟩ := ovr_next hb1
          have hown : (ovr V u7).ownsRow W.heap.size 38 2 (.slice (some ⟨g, 0, none⟩) l.length c') l.length (rc l) := by
            rcases HSoV.out.over (ovr_below V u7) with ⟨h, _⟩ | h
            · exact absurd h hn0
            · exact h
          have zf := hown.frozenAt ((l.length - 1) * 2 + 1)
          have hstd := hown.stored ((l.length - 1) * 2 + 1) (I x.hi)
          have hgB : W.heap.size ≤ g := (hown.lt g rfl).1
          have Hstd := Lib.hid hstd
          have HbG : Hid (Below W.heap.size W ((ovr V u7).setCell ⟨g, (l.length - 1) * 2 + 1, none⟩ (I x.hi))) := (HWV.out u7).setCell (p := ⟨g, _, none⟩) hgB _
          have hcc := hcells u7
          clear hb1 g1 g2 hstd hown hcells
          go_wp2_with fail
          go_roundw
          case rel => exact ⟨k + 1, by omega, by go_num, .inr (by rw [hst.out.1, hst.out.2]; exact Hstd.out.1), _, ovr_of HbG.out⟩
          case measure => simp [intOf]; omega
        · have hst : Hid (rc (whK t y (k + 1)) = rc l ++ [I x.lo, I x.hi] ∧ (whK t y (k + 1)).length = l.length + 1) := by
            show _ ∧ _
            rw [hwn.out, step_new hwf hE (.inr hJ)]; exact ⟨rc_app _ _, by simp⟩
          obtain ⟨zz, hzz⟩ : ∃ zz, at0 l (l.length - 1) = zz := ⟨_, rfl⟩
          have hzb := Hfa.out.1 (l.length - 1) (by omega)
          rw [hzz] at hzb hJ
          obtain ⟨g, og, hAg, _⟩ : ∃ g og, A' = some ⟨g, og, none⟩ ∧ True := by
            have h := HSoV.out.over (ovr_below V u6)
            rw [rc_flat] at h
            obtain ⟨b3, o3, hA3, _, _, x3⟩ := h.at.2.2.2.rng (show l.length - 1 < l.length by omega)
            exact ⟨b3, o3, hA3, trivial⟩
          subst hAg
          have hcells : ∀ v, (ovr V v).cell? ⟨g, og + (l.length - 1) * 2 + 1, none⟩ = some (I zz.hi) := fun v => by
            have h := HSoV.out.over (ovr_below V v)
            rw [rc_flat] at h
            obtain ⟨b3, o3, hA3, _, _, x3⟩ := h.at.2.2.2.rng (show l.length - 1 < l.length by omega)
            (injection hA3 with ea; injection ea with ea1 ea2; subst ea1 ea2)
            rw [hzz] at x3
            exact x3
          have s2 : (0 : Int) ≤ (l.length : Int) - 1 := by omega
          have s4 : ((l.length : Int) - 1).toNat = l.length - 1 := by omega
          have s5 : (l.length : Int) - 1 < (l.length : Int) := by omega
          have s7 : IntKind.i64.wrap (zz.hi + 1) = zz.hi + 1 := IntWalk.i64_in _ (by omega)
          have s8 : IntKind.i64.wrap ((l.length : Int) - 1) = ((l.length - 1 : Nat) : Int) := by rw [IntWalk.i64_in _ (by omega)]; omega
          have s9 : l.length - 1 < l.length := by omega
          have n1 : decide ((0 : Int) < (l.length : Int)) = true := decide_eq_true (by omega)
          have n2 : decide (0 < l.length) = true := decide_eq_true (by omega)
          have hJb := decide_eq_false hJ
          have g1 := fun v => ovr_cell (hcells u6) v
          clear hJ hzb hzz
          have g2 := fun v => ovr_cell (yV00 u6) v
          clear hE hxb
          go_upto_region 13 with (fail)
          refine wp_region_below_lit (by kernel_rfl) (by kernel_rfl) ?_
          repeat (go_big_quiet_step (fail))
          refine wpQuiet_nil ?_
          intro w1 hb1
          obtain ⟨u7, rfl⟩ := ovr_next hb1
          have HSo7 := Lib.hid ((HSoV.out.over (ovr_below V u7)).over ((Below.refl _ _).alloc (Nat.le_refl _) (.cells #[I x.lo, I x.hi] 38)))
          have HW7 := Lib.hid (HWV.out u7)
          have hw7s := HW7.out.size
          clear hb1 g2 g1 hcells
          go_wp2_with (at_builtin; go_loud (refine wpList_app_soc rfl _ _ 36 rfl 38 i0 _ 2 16 Try.underlying36 hi0 iz0 iz1 iz2 rfl (by decide) W.heap.size l.length (rc l) _ rfl HSo7.out ⟨(ovr V u7).heap.size, 0, none⟩ 1 [I x.lo, I x.hi] rfl rfl (news_lit (cs := #[I x.lo, I x.hi]) (heap_last _ _ _ rfl)) (by simp [Value.oneCell']) ?hB2 ?hl2 (by decide) ?_))
          case hB2 => first | omega | (simp; omega)
          try (case hl2 => omega)
          intro v' w2 hso2 hb2
          have hso3 : Hid (SoC 38 2 W.heap.size (whK t y (k + 1)).length (rc (whK t y (k + 1))) v' w2) := by show SoC _ _ _ _ _ _ _; rw [hst.out.1, hst.out.2]; first | exact hso2 | (rw [show l.length + 1 = 1 by omega]; exact hso2)
          have HB2 : Hid (Below W.heap.size W w2) := (HW7.out.alloc hw7s _).trans hb2
          clear hso2 hb2 hw7s
          go_wp2_with fail
          go_roundw
          case rel => exact ⟨k + 1, by omega, by go_num, hso3.out, w2, ovr_of HB2.out⟩
          case measure => simp [intOf]; omega
      · have hrb := decide_eq_false hr
        go_upto_region 9 with (fail)
        refine wp_region_below_lit (by kernel_rfl) (by kernel_rfl) ?_
        repeat (go_big_quiet_step (fail))
        refine wpQuiet_nil ?_
        intro w1 hb1
        obtain ⟨u4, rfl⟩ := ovr_next hb1
        clear hb1 e11 f11
        have hwf := hRi.out h1 h2 hr s1 s2
        obtain ⟨V, hV⟩ : ∃ V, V = Z := ⟨_, rfl⟩
        have hbV := HbZ.out
        have rV := hrZ2.out
        have hsoV := HSoZ.out
        rw [← hV] at hbV rV hsoV
        rw [← hV]
        clear hV HSoZ
        have HSoV := Lib.hid hsoV
        have HbV := Lib.hid hbV
        clear hsoV
        have reV : ∀ v, ∃ x, ovr V v = ovr Y x := fun v => ovr_reB hbV v
        have yW00 := SY_yW00.out
        replace yW00 := tr_cell reV yW00
        have yW01 := SY_yW01.out
        replace yW01 := tr_cell reV yW01
        have RrowW0 := SY_RrowW0
        replace RrowW0 := Lib.hid (tr_row reV RrowW0.out)
        have yV00 := ovr_cell (W := V) (b := bn) (o := 0) (v := I h1) (by rw [cell_of_row _ _ _ _ _ _ rV]; rfl)
        have yV01 := ovr_cell (W := V) (b := bn) (o := 1) (v := I (h2 - 1)) (by rw [cell_of_row _ _ _ _ _ _ rV]; rfl)
        have RrowV0 := Lib.hid (ovr_row rV)
        clear rV
        have HUV : Hid (∀ u, Below w.heap.size w (ovr V u)) := fun u => by obtain ⟨x, hx⟩ := reV u; rw [hx]; exact HUY.out x
        clear reV hbV
        obtain ⟨x, hx⟩ : ∃ x : Rng, x = ⟨h1, h2 - 1⟩ := ⟨_, rfl⟩
        rw [← hx] at hwf
        obtain ⟨ex1, ex2⟩ : h1 = x.lo ∧ h2 - 1 = x.hi := by rw [hx]; exact ⟨rfl, rfl⟩
        rw [ex1, ex2] at RrowV0
        rw [ex1] at yV00
        rw [ex2] at yV01
        have hxb : -3000000000000 ≤ x.lo ∧ x.hi ≤ 3000000000000 := by have := Hb.out; have := s1.1; have := s2.1; omega
        have HWV : Hid (∀ v, Below W.heap.size W (ovr V v)) := fun v => hWY.out.trans (((HbV.out).trans ((ovr_below V v).mono HbV.out.size)).mono hWY.out.size)
        clear hx ex1 ex2
        by_cases hE : x.hi < x.lo
        · have hEb := decide_eq_true hE
          have hst : Hid (whK t y (k + 1) = l) := by show _ = _; rw [hwn.out]; exact step_no hwf hE
          clear hE hxb
          go_wp2_with fail
          go_roundw
          case rel => exact ⟨k + 1, by omega, by go_num, by rw [hst.out]; exact HSoV.out.over (ovr_below V _), _, ovr_of (HWV.out _)⟩
          case measure => simp [intOf]; omega
        have hEb := decide_eq_false hE
        by_cases hn0 : l.length = 0
        · have hst : Hid (rc (whK t y (k + 1)) = rc l ++ [I x.lo, I x.hi] ∧ (whK t y (k + 1)).length = l.length + 1) := by
            show _ ∧ _
            rw [hwn.out, step_new hwf hE (.inl hn0)]; exact ⟨rc_app _ _, by simp⟩
          have n1 : decide ((0 : Int) < (l.length : Int)) = false := decide_eq_false (by omega)
          have g2 := fun v => ovr_cell (yV00 u4) v
          clear hE hxb
          go_upto_region 13 with (fail)
          refine wp_region_below_lit (by kernel_rfl) (by kernel_rfl) ?_
          repeat (go_big_quiet_step (fail))
          refine wpQuiet_nil ?_
          intro w1 hb1
          obtain ⟨u7, rfl⟩ := ovr_next hb1
          have HSo7 := Lib.hid ((HSoV.out.over (ovr_below V u7)).over ((Below.refl _ _).alloc (Nat.le_refl _) (.cells #[I x.lo, I x.hi] 38)))
          have HW7 := Lib.hid (HWV.out u7)
          have hw7s := HW7.out.size
          clear hb1 g2
          go_wp2_with (at_builtin; go_loud (refine wpList_app_soc rfl _ _ 36 rfl 38 i0 _ 2 16 Try.underlying36 hi0 iz0 iz1 iz2 rfl (by decide) W.heap.size l.length (rc l) _ rfl HSo7.out ⟨(ovr V u7).heap.size, 0, none⟩ 1 [I x.lo, I x.hi] rfl rfl (news_lit (cs := #[I x.lo, I x.hi]) (heap_last _ _ _ rfl)) (by simp [Value.oneCell']) ?hB3 ?hl3 (by decide) ?_))
          case hB3 => first | omega | (simp; omega)
          try (case hl3 => omega)
          intro v' w2 hso2 hb2
          have hso3 : Hid (SoC 38 2 W.heap.size (whK t y (k + 1)).length (rc (whK t y (k + 1))) v' w2) := by show SoC _ _ _ _ _ _ _; rw [hst.out.1, hst.out.2]; first | exact hso2 | (rw [show l.length + 1 = 1 by omega]; exact hso2)
          have HB2 : Hid (Below W.heap.size W w2) := (HW7.out.alloc hw7s _).trans hb2
          clear hso2 hb2 hw7s
          go_wp2_with fail
          go_roundw
          case rel => exact ⟨k + 1, by omega, by go_num, hso3.out, w2, ovr_of HB2.out⟩
          case measure => simp [intOf]; omega
        by_cases hJ : x.lo ≤ (at0 l (l.length - 1)).hi + 1
        · have hst : Hid (rc (whK t y (k + 1)) = (rc l).set ((l.length - 1) * 2 + 1) (I x.hi) ∧ (whK t y (k + 1)).length = l.length) := by
            show _ ∧ _
            rw [hwn.out, step_join hwf hE hn0 hJ]; exact ⟨rc_set hn0 _, by simp; omega⟩
          have hown : (ovr V u4).ownsRow W.heap.size 38 2 (.slice A' l.length c') l.length (rc l) := by
            rcases HSoV.out.over (ovr_below V u4) with ⟨h, _⟩ | h
            · exact absurd h hn0
            · exact h
          obtain ⟨g, c2, eg⟩ : ∃ g c2, (.slice A' l.length c' : Value) = .slice (some ⟨g, 0, none⟩) l.length c2 := by
            rcases hown.2 with ⟨h, hnil⟩ | ⟨g, cap, cur, h, hb, hg, _⟩
            · exact absurd hnil hn0
            · exact ⟨g, cap, h⟩
          injection eg with eg1 eg2 eg3
          subst eg1
          obtain ⟨zz, hzz⟩ : ∃ zz, at0 l (l.length - 1) = zz := ⟨_, rfl⟩
          have hzb := Hfa.out.1 (l.length - 1) (by omega)
          rw [hzz] at hzb hJ
          have hcells : ∀ v, (ovr V v).cell? ⟨g, (l.length - 1) * 2 + 1, none⟩ = some (I zz.hi) := fun v => by
            have h := HSoV.out.over (ovr_below V v)
            rw [rc_flat] at h
            obtain ⟨b3, o3, hA3, _, _, x3⟩ := h.at.2.2.2.rng (show l.length - 1 < l.length by omega)
            (injection hA3 with ea; injection ea with ea1 ea2; subst ea1 ea2)
            rw [hzz, Nat.zero_add] at x3
            exact x3
          have s2 : (0 : Int) ≤ (l.length : Int) - 1 := by omega
          have s4 : ((l.length : Int) - 1).toNat = l.length - 1 := by omega
          have s5 : (l.length : Int) - 1 < (l.length : Int) := by omega
          have s7 : IntKind.i64.wrap (zz.hi + 1) = zz.hi + 1 := IntWalk.i64_in _ (by omega)
          have s8 : IntKind.i64.wrap ((l.length : Int) - 1) = ((l.length - 1 : Nat) : Int) := by rw [IntWalk.i64_in _ (by omega)]; omega
          have s9 : l.length - 1 < l.length := by omega
          have n1 : decide ((0 : Int) < (l.length : Int)) = true := decide_eq_true (by omega)
          have n2 : decide (0 < l.length) = true := decide_eq_true (by omega)
          have hJb := decide_eq_true hJ
          have g1 := fun v => ovr_cell (hcells u4) v
          have g2 := fun v => ovr_cell (yV00 u4) v
          clear hE hJ hxb hzb hzz hown
          go_upto_region 13 with (fail)
          refine wp_region_below_lit (by kernel_rfl) (by kernel_rfl) ?_
          repeat (go_big_quiet_step (fail))
          refine wpQuiet_nil ?_
          intro w1 hb1
          obtain ⟨u7, rfl⟩ := ovr_next hb1
          have hown : (ovr V u7).ownsRow W.heap.size 38 2 (.slice (some ⟨g, 0, none⟩) l.length c') l.length (rc l) := by
            rcases HSoV.out.over (ovr_below V u7) with ⟨h, _⟩ | h
            · exact absurd h hn0
            · exact h
          have zf := hown.frozenAt ((l.length - 1) * 2 + 1)
          have hstd := hown.stored ((l.length - 1) * 2 + 1) (I x.hi)
          have hgB : W.heap.size ≤ g := (hown.lt g rfl).1
          have Hstd := Lib.hid hstd
          have HbG : Hid (Below W.heap.size W ((ovr V u7).setCell ⟨g, (l.length - 1) * 2 + 1, none⟩ (I x.hi))) := (HWV.out u7).setCell (p := ⟨g, _, none⟩) hgB _
          have hcc := hcells u7
          clear hb1 g1 g2 hstd hown hcells
          go_wp2_with fail
          go_roundw
          case rel => exact ⟨k + 1, by omega, by go_num, .inr (by rw [hst.out.1, hst.out.2]; exact Hstd.out.1), _, ovr_of HbG.out⟩
          case measure => simp [intOf]; omega
        · have hst : Hid (rc (whK t y (k + 1)) = rc l ++ [I x.lo, I x.hi] ∧ (whK t y (k + 1)).length = l.length + 1) := by
            show _ ∧ _
            rw [hwn.out, step_new hwf hE (.inr hJ)]; exact ⟨rc_app _ _, by simp⟩
          obtain ⟨zz, hzz⟩ : ∃ zz, at0 l (l.length - 1) = zz := ⟨_, rfl⟩
          have hzb := Hfa.out.1 (l.length - 1) (by omega)
          rw [hzz] at hzb hJ
          obtain ⟨g, og, hAg, _⟩ : ∃ g og, A' = some ⟨g, og, none⟩ ∧ True := by
            have h := HSoV.out.over (ovr_below V u4)
            rw [rc_flat] at h
            obtain ⟨b3, o3, hA3, _, _, x3⟩ := h.at.2.2.2.rng (show l.length - 1 < l.length by omega)
            exact ⟨b3, o3, hA3, trivial⟩
          subst hAg
          have hcells : ∀ v, (ovr V v).cell? ⟨g, og + (l.length - 1) * 2 + 1, none⟩ = some (I zz.hi) := fun v => by
            have h := HSoV.out.over (ovr_below V v)
            rw [rc_flat] at h
            obtain ⟨b3, o3, hA3, _, _, x3⟩ := h.at.2.2.2.rng (show l.length - 1 < l.length by omega)
            (injection hA3 with ea; injection ea with ea1 ea2; subst ea1 ea2)
            rw [hzz] at x3
            exact x3
          have s2 : (0 : Int) ≤ (l.length : Int) - 1 := by omega
          have s4 : ((l.length : Int) - 1).toNat = l.length - 1 := by omega
          have s5 : (l.length : Int) - 1 < (l.length : Int) := by omega
          have s7 : IntKind.i64.wrap (zz.hi + 1) = zz.hi + 1 := IntWalk.i64_in _ (by omega)
          have s8 : IntKind.i64.wrap ((l.length : Int) - 1) = ((l.length - 1 : Nat) : Int) := by rw [IntWalk.i64_in _ (by omega)]; omega
          have s9 : l.length - 1 < l.length := by omega
          have n1 : decide ((0 : Int) < (l.length : Int)) = true := decide_eq_true (by omega)
          have n2 : decide (0 < l.length) = true := decide_eq_true (by omega)
          have hJb := decide_eq_false hJ
          have g1 := fun v => ovr_cell (hcells u4) v
          clear hJ hzb hzz
          have g2 := fun v => ovr_cell (yV00 u4) v
          clear hE hxb
          go_upto_region 13 with (fail)
          refine wp_region_below_lit (by kernel_rfl) (by kernel_rfl) ?_
          repeat (go_big_quiet_step (fail))
          refine wpQuiet_nil ?_
          intro w1 hb1
          obtain ⟨u7, rfl⟩ := ovr_next hb1
          have HSo7 := Lib.hid ((HSoV.out.over (ovr_below V u7)).over ((Below.refl _ _).alloc (Nat.le_refl _) (.cells #[I x.lo, I x.hi] 38)))
          have HW7 := Lib.hid (HWV.out u7)
          have hw7s := HW7.out.size
          clear hb1 g2 g1 hcells
          go_wp2_with (at_builtin; go_loud (refine wpList_app_soc rfl _ _ 36 rfl 38 i0 _ 2 16 Try.underlying36 hi0 iz0 iz1 iz2 rfl (by decide) W.heap.size l.length (rc l) _ rfl HSo7.out ⟨(ovr V u7).heap.size, 0, none⟩ 1 [I x.lo, I x.hi] rfl rfl (news_lit (cs := #[I x.lo, I x.hi]) (heap_last _ _ _ rfl)) (by simp [Value.oneCell']) ?hB4 ?hl4 (by decide) ?_))
          case hB4 => first | omega | (simp; omega)
          try (case hl4 => omega)
          intro v' w2 hso2 hb2
          have hso3 : Hid (SoC 38 2 W.heap.size (whK t y (k + 1)).length (rc (whK t y (k + 1))) v' w2) := by show SoC _ _ _ _ _ _ _; rw [hst.out.1, hst.out.2]; first | exact hso2 | (rw [show l.length + 1 = 1 by omega]; exact hso2)
          have HB2 : Hid (Below W.heap.size W w2) := (HW7.out.alloc hw7s _).trans hb2
          clear hso2 hb2 hw7s
          go_wp2_with fail
          go_roundw
          case rel => exact ⟨k + 1, by omega, by go_num, hso3.out, w2, ovr_of HB2.out⟩
          case measure => simp [intOf]; omega
    · obtain rfl : k = t.length - 1 := by omega
      have hltb : decide (((t.length - 1 + 1 : Nat) : Int) < (t.length : Int)) = false := decide_eq_false (by omega)
      rw [rc_flat] at hso
      obtain ⟨A', c', rfl, hc1, _, hR⟩ := hso.rd
      have HC := Lib.hid hc1
      have HR := Lib.hid hR
      clear hso hc1 hR hfa
      go_wp2_with fail
      go_ret2
      exact ⟨A', _, c', by rw [hf.out]; rfl, by rw [hf.out]; rfl, HC.out, by rw [hf.out]; exact HR.out, HUW.out u⟩
set_option maxRecDepth 100000 in
set_option maxHeartbeats 4000000 in
theorem refInverse_any (A : Option Addr) (c : Nat) (t : List Rng) (y : Rng) (w : World) (B : Nat) (hm : t.length ≤ maxLen) (hB : B ≤ w.heap.size) (hx : Rd w B 2 A t.length (rR t))
    (hz : ∀ j, j < t.length → (-9223372036854775808 ≤ (at0 t j).lo ∧ (at0 t j).lo ≤ 9223372036854775807) ∧ (-9223372036854775808 ≤ (at0 t j).hi ∧ (at0 t j).hi ≤ 9223372036854775807)) :
    Calls Try.prog 52 #[.slice A t.length c, y.val] w (RetRn w (inF (weF t y))) := by
  have hf : Hid (inF (weF t y) = if (weF t y).2 = 0 then (if (weF t y).1.length = 0 then (⟨0, 0⟩, 7) else (⟨(at0 (weF t y).1 0).lo, (at0 (weF t y).1 ((weF t y).1.length - 1)).hi⟩, 0)) else (⟨0, 0⟩, (weF t y).2)) := rfl
  have hle : (weF t y).1.length ≤ 1000 := by
    unfold weF
    split
    · rename_i h
      obtain ⟨h1, h2⟩ := Bool.and_eq_true_iff.1 h
      have ht := tab_iff.1 h1
      have := (whL_facts ht h2 (pcs t (t.length - 1))).2
      rw [pcs_len (by have := ht.n2; omega)] at this
      have := ht.n60
      show (whL t y (pcs t (t.length - 1))).length ≤ 1000
      omega
    · simp
  have cw : Hid (∀ W', Below w.heap.size w W' → Calls Try.prog 51 #[.slice A t.length c, y.val] W' (RetL W' (weF t y))) := fun W' h => refWhere_any A c t y W' B hm (Nat.le_trans hB h.size) (hx.below (h.mono hB)) hz
  generalize weF t y = q at *
  obtain ⟨l, z⟩ := q
  simp only at hf hle
  clear hx hB hm hz
  obtain ⟨W, hW⟩ : ∃ W, W = ((w.alloc (.cells #[I y.lo, I y.hi] 38)).alloc (.cells #[I 0, I 0] 38)) := ⟨_, rfl⟩
  have rowW0 : W.heap[w.heap.size]? = some (.cells #[I y.lo, I y.hi] 38 (0, 0)) := by rw [hW]; exact heap_before (heap_last _ _ _ rfl)
  have yW00 := ovr_cell (W := W) (b := w.heap.size) (o := 0) (v := I y.lo) (by rw [cell_of_row _ _ _ _ _ _ rowW0]; rfl)
  have yW01 := ovr_cell (W := W) (b := w.heap.size) (o := 1) (v := I y.hi) (by rw [cell_of_row _ _ _ _ _ _ rowW0]; rfl)
  have RrowW0 := Lib.hid (ovr_row rowW0)
  clear rowW0
  have rowW1 : W.heap[w.heap.size + 1]? = some (.cells #[I 0, I 0] 38 (0, 0)) := by rw [hW]; exact heap_last _ _ _ (by simp)
  have yW10 := ovr_cell (W := W) (b := w.heap.size + 1) (o := 0) (v := I 0) (by rw [cell_of_row _ _ _ _ _ _ rowW1]; rfl)
  have yW11 := ovr_cell (W := W) (b := w.heap.size + 1) (o := 1) (v := I 0) (by rw [cell_of_row _ _ _ _ _ _ rowW1]; rfl)
  have RrowW1 := Lib.hid (ovr_row rowW1)
  clear rowW1
  have HUW : Hid (∀ u, Below w.heap.size w (ovr W u)) := U2 hW
  have HW := Lib.hid hW
  clear hW
  go_enter Try.func52, Try.ntmps52
  go_upto_region 1 with (fail)
  rw [← HW.out]
  obtain ⟨u0, hu0⟩ := ovr_self W
  rw [hu0]
  clear hu0
  go_wp2_with fail
  refine (cw.out _ (HUW.out _)).mono ?_
  rintro e w1 ⟨A', n', c', rfl, rfl, _, hr, hb1⟩
  obtain ⟨u1, rfl⟩ := ovr_next hb1
  have HR := Lib.hid hr
  clear hb1 hr
  by_cases h0 : z = 0
  · rw [if_pos h0] at hf
    subst h0
    by_cases h1 : l.length = 0
    · rw [if_pos h1] at hf
      have n1 : ((l.length : Int) == 0) = true := by rw [h1]; rfl
      have H1 := Lib.hid h1
      clear h1
      go_wp2_with (refine wpList_store_row rfl 38 _ _ rfl (w.heap.size + 1) rfl _ _ (RrowW1.out _) _ rfl (one2 rfl rfl) rfl (by kernel_rfl) ?_)
      refine bodyPost_ret (results_cell_tmp rfl _ _ (w.heap.size + 1) 38 _ (0, 0) _ rfl (setRow_same (RrowW1.out _)) Try.underlying38 rfl (by kernel_rfl)) rfl ?_
      exact ⟨by rw [hf.out]; rfl, below_setRow (HUW.out _) (by omega) _⟩
    · rw [if_neg h1] at hf
      have n1 : ((l.length : Int) == 0) = false := by rw [beq_eq_false_iff_ne]; omega
      have n2 : 0 < l.length := by omega
      have n3 : l.length - 1 < l.length := by omega
      have n4 : IntKind.i64.wrap ((l.length : Int) - 1) = ((l.length - 1 : Nat) : Int) := by rw [IntWalk.i64_in _ (by omega)]; omega
      obtain ⟨p, hp⟩ : ∃ p, at0 l 0 = p := ⟨_, rfl⟩
      obtain ⟨q, hq⟩ : ∃ q, at0 l (l.length - 1) = q := ⟨_, rfl⟩
      rw [hp, hq] at hf
      go_upto_region 6 with (fail)
      have hbY := ovr_below W u1
      obtain ⟨Y, hY⟩ : ∃ Y, Y = ovr W u1 := ⟨_, rfl⟩
      rw [← hY] at hbY
      rw [← hY]
      have hY' := Lib.hid hY
      clear hY
      have hbY' := Lib.hid hbY
      have reY : ∀ v, ∃ x, ovr Y v = ovr W x := fun v => ovr_reB hbY v
      replace yW00 := tr_cell reY yW00
      replace yW01 := tr_cell reY yW01
      replace RrowW0 := Lib.hid (tr_row reY RrowW0.out)
      replace yW10 := tr_cell reY yW10
      replace yW11 := tr_cell reY yW11
      replace RrowW1 := Lib.hid (tr_row reY RrowW1.out)
      have HUY : Hid (∀ u, Below w.heap.size w (ovr Y u)) := fun u => by obtain ⟨x, hx⟩ := reY u; rw [hx]; exact HUW.out x
      clear reY hbY
      rw [← hY'.out] at HR
      obtain ⟨b, o, hA, _, e0, _⟩ := HR.out.rng n2
      obtain ⟨b', o', hA', _, _, f1⟩ := HR.out.rng n3
      rw [hA] at hA'
      (injection hA' with ea; injection ea with ea1 ea2; subst ea1 ea2)
      subst hA
      rw [Nat.zero_mul, Nat.add_zero, hp] at e0
      rw [hq] at f1
      have e01 := ovr_cell e0
      have f11 := ovr_cell f1
      clear h1 hp hq e0 f1
      refine wp_region_seq2 12 (fun _ => none) (by kernel_rfl) (by kernel_rfl) (by kernel_rfl) (by kernel_rfl) (by kernel_rfl) ?_
      simp only [List.take_succ_cons, List.take_zero, List.drop_succ_cons, List.drop_zero]
      repeat (refine wpG_one rfl rfl rfl ?_; intro K hK; go_big_quiet_op; go_big_quiet_on)
      refine wpG_nil (fun w5 hw5 hG => ?_)
      clear hG
      obtain ⟨u5, rfl⟩ : ∃ x, w5 = ovr Y x := ⟨w5, ovr_of hw5.le⟩
      refine wpTailIn_cons Wd.wide (by intro c h; cases h) ?_
      refine wp_store_row 38 _ _ rfl (w.heap.size + 1) rfl _ _ (RrowW1.out _) _ rfl (one2 rfl rfl) rfl (by kernel_rfl) ?_
      refine wpTailIn_cons Wd.wide (by intro c h; cases h) ?_
      refine wp_assign _ (I 0) rfl rfl ?_
      refine wpTailIn_nil ?_
      simp only [Act.put, List.setIfInBounds_toArray, List.set_cons_zero, List.set_cons_succ]
      clear hw5 e01 f11
      go_wp2_with fail
      refine bodyPost_ret (results_cell_tmp rfl _ _ (w.heap.size + 1) 38 _ (0, 0) _ rfl (setRow_same (RrowW1.out _)) Try.underlying38 rfl (by kernel_rfl)) rfl ?_
      exact ⟨by rw [hf.out]; rfl, below_setRow (HUY.out _) (by omega) _⟩
  · rw [if_neg h0] at hf
    have n1 : (z == 0) = false := by simpa using h0
    have n2 : (z != 0) = true := by simpa using h0
    clear h0
    go_wp2_with (refine wpList_store_row rfl 38 _ _ rfl (w.heap.size + 1) rfl _ _ (RrowW1.out _) _ rfl (one2 rfl rfl) rfl (by kernel_rfl) ?_)
    refine bodyPost_ret (results_cell_tmp rfl _ _ (w.heap.size + 1) 38 _ (0, 0) _ rfl (setRow_same (RrowW1.out _)) Try.underlying38 rfl (by kernel_rfl)) rfl ?_
    exact ⟨by rw [hf.out]; rfl, below_setRow (HUW.out _) (by omega) _⟩
end Go.Proofs.Ytmadlmmfbpmebaa
