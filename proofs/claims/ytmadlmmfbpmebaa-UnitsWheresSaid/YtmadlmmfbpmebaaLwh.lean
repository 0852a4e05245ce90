/- The walk of the law UnitsWheres. -/
import Derived.Test.YtmadlmmfbpmebaaU8
import Derived.Test.YtmadlmmfbpmebaaJk
namespace Go.Proofs.Ytmadlmmfbpmebaa
open Go.RowKit
def SlK (sz n : Nat) (g : Nat → Nat → Value) (u : Value) (w : World) : Prop := ∃ A c, u = .slice A n c ∧ n ≤ c ∧ c ≤ maxLen ∧ Rd w w.heap.size sz A n g
theorem own_growK {P : Program} {f : FuncId} {args : Array Value} {w : World} {sz n : Nat} {g : Nat → Nat → Value} (h : Calls P f args w (RetLc w sz n g)) : Calls P f args w fun e w' => ∃ u, e = .returned u ∧ Le w w' ∧ Box (SlK sz n g) u w' :=
  h.mono fun _ _ ⟨A, c, he, h1, h2, hr, hb⟩ => ⟨_, he, hb, fun _ hl => ⟨A, c, rfl, h1, h2, (hr.below hl).more hl.size⟩⟩
def SlT (l : List Rng) (er : Int) (u : Value) (w : World) : Prop := ∃ A c, u = .tuple #[.slice A l.length c, I er] ∧ Rd w w.heap.size 2 A l.length (rR l)
theorem retL_growK {P : Program} {f : FuncId} {args : Array Value} {w : World} {l : List Rng} {er : Int} (h : Calls P f args w (RetL w (l, er))) : Calls P f args w fun e w' => ∃ u, e = .returned u ∧ Le w w' ∧ Box (SlT l er) u w' :=
  h.mono fun _ _ ⟨A, n, c, he, hn, _, hr, hb⟩ => ⟨_, he, hb, fun _ hl => ⟨A, c, by subst hn; rfl, by subst hn; exact (hr.below hl).more hl.size⟩⟩
theorem SlT.at {l : List Rng} {er : Int} {A : Option Addr} {c : Nat} {w : World} (h : SlT l er (.tuple #[.slice A l.length c, I er]) w) : Rd w w.heap.size 2 A l.length (rR l) := by
  obtain ⟨A', c', hu, hr⟩ := h
  have e : A = A' := by simp at hu; exact hu.1
  subst e
  exact hr
theorem weF_len (t : List Rng) (y : Rng) : (weF t y).1.length ≤ 1000 := by
  unfold weF
  split
  · rename_i h
    obtain ⟨h1, h2⟩ := Bool.and_eq_true_iff.1 h
    have ht := tab_iff.1 h1
    have := (whL_facts ht h2 (pcs t (t.length - 1))).2
    rw [pcs_len (by have := ht.n2; omega)] at this
    have := ht.n60
    show (whL t y (pcs t (t.length - 1))).length ≤ 1000
    omega
  · simp
set_option maxRecDepth 100000 in
set_option maxHeartbeats 4000000 in
theorem unitsWheres_any (A : Option Addr) (c : Nat) (t : List Rng) (y : Rng) (w : World) (hc : t.length ≤ c) (hm : c ≤ maxLen) (hx : Rd w w.heap.size 2 A t.length (rR t))
    (hz : ∀ j, j < t.length → (-9223372036854775808 ≤ (at0 t j).lo ∧ (at0 t j).lo ≤ 9223372036854775807) ∧ (-9223372036854775808 ≤ (at0 t j).hi ∧ (at0 t j).hi ≤ 9223372036854775807)) :
    Calls Try.prog 15 #[.slice A t.length c, y.val] w fun e w' => e = .returned (.bool true) ∧ Below w.heap.size w w' := by
  have ck := Lib.hid fun W => known_any W
  obtain ⟨W, hW⟩ : ∃ W, W = (w.alloc (.cells #[I y.lo, I y.hi] 38)) := ⟨_, rfl⟩
  have rowW0 : W.heap[w.heap.size]? = some (.cells #[I y.lo, I y.hi] 38 (0, 0)) := by rw [hW]; exact heap_last _ _ _ rfl
  have yW00 := ovr_cell (W := W) (b := w.heap.size) (o := 0) (v := I y.lo) (by rw [cell_of_row _ _ _ _ _ _ rowW0]; rfl)
  have yW01 := ovr_cell (W := W) (b := w.heap.size) (o := 1) (v := I y.hi) (by rw [cell_of_row _ _ _ _ _ _ rowW0]; rfl)
  have RrowW0 := Lib.hid (ovr_row rowW0)
  clear rowW0
  have HUW : Hid (∀ u, Below w.heap.size w (ovr W u)) := U1 hW
  have HW := Lib.hid hW
  clear hW
  by_cases hl : 70 < t.length
  · have hb : decide (70 < (t.length : Int)) = true := decide_eq_true (by omega)
    clear hx hc hm hl hz
    go_enter Try.func15, Try.ntmps15
    go_upto_region 1 with (fail)
    rw [← HW.out]
    obtain ⟨u0, hu0⟩ := ovr_self W
    rw [hu0]
    clear hu0
    go_wp2_with fail
    refine (ck.out _).mono ?_
    rintro e w1 ⟨rfl, hb1⟩
    obtain ⟨u1, rfl⟩ := ovr_next hb1
    clear hb1
    go_wp2_with fail
    go_ret
    exact ⟨rfl, HUW.out _⟩
  have hb : decide (70 < (t.length : Int)) = false := decide_eq_false (by omega)
  have hlm : t.length ≤ maxLen := by omega
  have HX : Hid (∀ W', Below w.heap.size w W' → Rd W' w.heap.size 2 A t.length (rR t) ∧ w.heap.size ≤ W'.heap.size) := fun W' h => ⟨hx.below h, h.size⟩
  have co : Hid (∀ W', Below w.heap.size w W' → Calls Try.prog 31 #[.slice A t.length c] W' (RetLc W' 2 t.length (rR t))) := fun W' h => ownKnots_any A t.length c (rR t) W' w.heap.size (by omega) h.size (hx.below h)
  have hwl := Lib.hid (weF_len t y)
  have c1 : Hid (∀ W' A' c', Rd W' W'.heap.size 2 A' t.length (rR t) → Calls Try.prog 41 #[.slice A' t.length c', y.val] W' (RetL W' (weF t y))) := fun W' A' c' h => where2_any A' t.length c' t y W' W'.heap.size rfl hlm (Nat.le_refl _) h
  have c2 : Hid (∀ W' A' c', Rd W' W'.heap.size 2 A' t.length (rR t) → Calls Try.prog 50 #[.slice A' t.length c', y.val] W' (RetRn W' (inF (weF t y)))) := fun W' A' c' h => inverse_any A' t.length c' t y W' W'.heap.size rfl hlm (Nat.le_refl _) h
  have c3 : Hid (∀ W', Below w.heap.size w W' → Calls Try.prog 51 #[.slice A t.length c, y.val] W' (RetL W' (weF t y))) := fun W' h => refWhere_any A c t y W' w.heap.size hlm h.size (hx.below h) hz
  have c4 : Hid (∀ W', Below w.heap.size w W' → Calls Try.prog 52 #[.slice A t.length c, y.val] W' (RetRn W' (inF (weF t y)))) := fun W' h => refInverse_any A c t y W' w.heap.size hlm h.size (hx.below h) hz
  obtain ⟨⟨⟨x1, x2⟩, z2⟩, hq⟩ : ∃ q, inF (weF t y) = q := ⟨_, rfl⟩
  rw [hq] at c2 c4
  clear hq
  obtain ⟨⟨l, z⟩, hq⟩ : ∃ q, weF t y = q := ⟨_, rfl⟩
  rw [hq] at c1 c3 hwl
  clear hq hx hc hm hl hlm hz
  go_enter Try.func15, Try.ntmps15
  go_upto_region 1 with (fail)
  rw [← HW.out]
  obtain ⟨u0, hu0⟩ := ovr_self W
  rw [hu0]
  clear hu0
  go_upto_region 3 with (fail)
  have hbY0 := ovr_below W u0
  obtain ⟨Y0, hY0⟩ : ∃ Y0, Y0 = ovr W u0 := ⟨_, rfl⟩
  rw [← hY0] at hbY0
  rw [← hY0]
  have hY0' := Lib.hid hY0
  clear hY0
  have hbY0' := Lib.hid hbY0
  have reY0 : ∀ v, ∃ x, ovr Y0 v = ovr W x := fun v => ovr_reB hbY0 v
  replace yW00 := tr_cell reY0 yW00
  replace yW01 := tr_cell reY0 yW01
  replace RrowW0 := Lib.hid (tr_row reY0 RrowW0.out)
  have HUY0 : Hid (∀ u, Below w.heap.size w (ovr Y0 u)) := fun u => by obtain ⟨x, hx⟩ := reY0 u; rw [hx]; exact HUW.out x
  clear reY0 hbY0
  have HY0 : Hid (∀ w', Cl Y0 w' → Below w.heap.size w w') := fun w' hw' => (below_self HUY0.out).trans (hw'.le.mono (below_self HUY0.out).size)
  refine wp_region_make (fun j => if j = 1 then some (SlK 2 t.length (rR t)) else if j = 3 then some (SlT l z) else none) (by kernel_rfl) (by kernel_rfl) (by kernel_rfl) ?_
  repeat (refine wpG_one rfl rfl rfl ?_; intro K hK; go_big_quiet_op; go_big_quiet_on)
  refine wpG_make (SlK 2 t.length (rR t)) rfl rfl (fun w' hw' _ => ?_) (fun u hu => ?_)
  · go_simp
    exact own_growK (co.out w' (HY0.out w' hw'))
  obtain ⟨_, _, A1, d1, rfl, _, _, _⟩ := hu
  simp only [Act.put, List.setIfInBounds_toArray, List.set_cons_zero, List.set_cons_succ]
  repeat (refine wpG_one rfl rfl rfl ?_; intro K hK; go_big_quiet_op; go_big_quiet_on)
  refine wpG_make (SlT l z) rfl rfl (fun w' hw' hk => ?_) (fun u hu => ?_)
  · have hk1 := hk ⟨1, .data⟩ (by simp) rfl _ _ _ rfl rfl rfl (by simp) rfl
    obtain ⟨E, e, he, _, _, hr⟩ := hk1.now
    obtain ⟨rfl, _, rfl⟩ : A1 = E ∧ t.length = t.length ∧ d1 = e := by injection he with h1 h2 h3; exact ⟨h1, rfl, h3⟩
    go_simp
    exact retL_growK (c1.out w' _ _ hr)
  obtain ⟨_, _, A2, d2, rfl, _⟩ := hu
  simp only [Act.put, List.setIfInBounds_toArray, List.set_cons_zero, List.set_cons_succ]
  repeat (refine wpG_one rfl rfl rfl ?_; intro K hK; go_big_quiet_op; go_big_quiet_on)
  refine wpG_nil (fun w5 hw5 hG => ?_)
  have hg2 := hG.2
  obtain ⟨u1, rfl⟩ : ∃ x, w5 = ovr Y0 x := ⟨w5, ovr_of hw5.le⟩
  have HR1 : Hid (∀ W', Below (ovr Y0 u1).heap.size (ovr Y0 u1) W' → Rd W' W'.heap.size 2 A2 l.length (rR l)) := fun W' h => (hg2 W' h).at
  clear hw5 hG hg2
  go_upto_region 4 with (fail)
  have hbY1 := ovr_below Y0 u1
  obtain ⟨Y1, hY1⟩ : ∃ Y1, Y1 = ovr Y0 u1 := ⟨_, rfl⟩
  rw [← hY1] at hbY1
  rw [← hY1]
  have hY1' := Lib.hid hY1
  clear hY1
  have hbY1' := Lib.hid hbY1
  have reY1 : ∀ v, ∃ x, ovr Y1 v = ovr Y0 x := fun v => ovr_reB hbY1 v
  replace yW00 := tr_cell reY1 yW00
  replace yW01 := tr_cell reY1 yW01
  replace RrowW0 := Lib.hid (tr_row reY1 RrowW0.out)
  have HUY1 : Hid (∀ u, Below w.heap.size w (ovr Y1 u)) := fun u => by obtain ⟨x, hx⟩ := reY1 u; rw [hx]; exact HUY0.out x
  clear reY1 hbY1
  rw [← hY1'.out] at HR1
  have HY1 : Hid (∀ w', Cl Y1 w' → Below w.heap.size w w') := fun w' hw' => (below_self HUY1.out).trans (hw'.le.mono (below_self HUY1.out).size)
  refine wp_region_make_two (fun j => if j = 1 then some (SlK 2 t.length (rR t)) else if j = 3 then some (fun u _ => u = .tuple #[.agg #[I x1, I x2], I z2]) else if j = 7 then some (NewAt Y1 #[I 0, I 0] 38) else none) [6] (by kernel_rfl) (by kernel_rfl) (by kernel_rfl) (by kernel_rfl) (by kernel_rfl) (by intro i hi; simp at hi; subst hi; rfl) ⟨rfl, rfl⟩ (fun c a d v w h => by cases d <;> exact h) ?_
  simp only [sleepTwo_cons, sleepTwo_two]
  repeat (refine wpG_one rfl rfl rfl ?_; intro K hK; go_big_quiet_op; go_big_quiet_on)
  refine wpG_make (SlK 2 t.length (rR t)) rfl rfl (fun w' hw' _ => ?_) (fun u hu => ?_)
  · go_simp
    exact own_growK (co.out w' (HY1.out w' hw'))
  obtain ⟨_, _, A3, d3, rfl, _, _, _⟩ := hu
  simp only [Act.put, List.setIfInBounds_toArray, List.set_cons_zero, List.set_cons_succ]
  repeat (refine wpG_one rfl rfl rfl ?_; intro K hK; go_big_quiet_op; go_big_quiet_on)
  refine wpG_make (fun u _ => u = .tuple #[.agg #[I x1, I x2], I z2]) rfl rfl (fun w' hw' hk => ?_) (fun u hu => ?_)
  · have hk1 := hk ⟨1, .data⟩ (by simp) rfl _ _ _ rfl rfl rfl (by simp) rfl
    obtain ⟨E, e, he, _, _, hr⟩ := hk1.now
    obtain ⟨rfl, _, rfl⟩ : A3 = E ∧ t.length = t.length ∧ d3 = e := by injection he with h1 h2 h3; exact ⟨h1, rfl, h3⟩
    go_simp
    exact call_grow (c2.out w' _ _ hr)
  obtain ⟨_, _, rfl⟩ := hu
  simp only [Act.put, List.setIfInBounds_toArray, List.set_cons_zero, List.set_cons_succ]
  repeat (refine wpG_one rfl rfl rfl ?_; intro K hK; go_big_quiet_op; go_big_quiet_on)
  refine wpG_make (NewAt Y1 #[I 0, I 0] 38) rfl rfl (fun w' hw' _ => ?_) (fun u hu => ?_)
  · go_simp
    exact new_grow hw'
  obtain ⟨_, _, bn, rfl, _, _⟩ := hu
  simp only [Act.put, List.setIfInBounds_toArray, List.set_cons_zero, List.set_cons_succ]
  repeat (refine wpG_one rfl rfl rfl ?_; intro K hK; go_big_quiet_op; go_big_quiet_on)
  refine wpG_nil (fun w5 hw5 hG => ?_)
  have hn := (Box.now hG.2).at
  intro s t' hs ht'
  obtain rfl := Option.some.inj hs
  obtain rfl := Option.some.inj ht'
  clear hG hs ht'
  refine wp_store_row 38 _ _ rfl bn rfl _ _ hn.1 #[I x1, I x2] rfl (one2 rfl rfl) rfl (by kernel_rfl) ?_
  refine ⟨hw5.set hn.2 _, ?_⟩
  refine wp_assign _ (I z2) rfl rfl ?_
  refine ⟨hw5.set hn.2 _, ?_⟩
  simp only [Act.put, List.setIfInBounds_toArray, List.set_cons_zero, List.set_cons_succ]
  obtain ⟨Z, hZ⟩ : ∃ Z, Z = w5.setRow bn #[I x1, I x2] := ⟨_, rfl⟩
  have rZ : Z.heap[bn]? = some (.cells #[I x1, I x2] 38 (0, 0)) := by rw [hZ]; exact setRow_same hn.1
  have hbZ : Below Y1.heap.size Y1 Z := by rw [hZ]; exact below_setRow hw5.le hn.2 _
  have HbZ := Lib.hid hbZ
  rw [← hZ]
  clear hZ hn hw5
  have reZ : ∀ v, ∃ x, ovr Z v = ovr Y1 x := fun v => ovr_reB hbZ v
  replace yW00 := tr_cell reZ yW00
  replace yW01 := tr_cell reZ yW01
  replace RrowW0 := Lib.hid (tr_row reZ RrowW0.out)
  have yZ00 := ovr_cell (W := Z) (b := bn) (o := 0) (v := I x1) (by rw [cell_of_row _ _ _ _ _ _ rZ]; rfl)
  have yZ01 := ovr_cell (W := Z) (b := bn) (o := 1) (v := I x2) (by rw [cell_of_row _ _ _ _ _ _ rZ]; rfl)
  have RrowZ0 := Lib.hid (ovr_row rZ)
  clear rZ
  have HUZ : Hid (∀ u, Below w.heap.size w (ovr Z u)) := fun u => by obtain ⟨x, hx⟩ := reZ u; rw [hx]; exact HUY1.out x
  clear reZ hbZ
  have HY1Z : Hid (∀ u, Below Y1.heap.size Y1 (ovr Z u)) := fun u => HbZ.out.trans ((ovr_below Z u).mono HbZ.out.size)
  obtain ⟨u2, hu2⟩ := ovr_self Z
  rw [hu2]
  clear hu2
  go_wp2_with fail
  refine (c3.out _ (HUZ.out _)).mono ?_
  rintro e w1 ⟨A4, n4, d4, rfl, rfl, _, hr4, hb1⟩
  obtain ⟨u3, rfl⟩ := ovr_next hb1
  have HR4 : Hid (∀ W', Below (ovr Z u3).heap.size (ovr Z u3) W' → Rd W' W'.heap.size 2 A4 l.length (rR l)) := fun W' h => (hr4.below h).more h.size
  clear hb1 hr4
  go_wp2_with fail
  refine (c4.out _ (HUZ.out _)).mono ?_
  rintro e w1 ⟨rfl, hb1⟩
  have hbb := hb1
  obtain ⟨u4, rfl⟩ := ovr_next hb1
  go_upto_region 7 with (fail)
  have HB4 := Lib.hid hbb
  clear hb1 hbb
  obtain ⟨X, hX⟩ : ∃ X, X = ((ovr Z u4).alloc (.cells #[I x1, I x2] 38)) := ⟨_, rfl⟩
  have reX : ∀ v, ∃ x, ovr X v = ovr Z x := fun v => ovr_re1 hX
  replace yW00 := tr_cell reX yW00
  replace yW01 := tr_cell reX yW01
  replace RrowW0 := Lib.hid (tr_row reX RrowW0.out)
  replace yZ00 := tr_cell reX yZ00
  replace yZ01 := tr_cell reX yZ01
  replace RrowZ0 := Lib.hid (tr_row reX RrowZ0.out)
  have rowX0 : X.heap[(ovr Z u4).heap.size]? = some (.cells #[I x1, I x2] 38 (0, 0)) := by rw [hX]; exact heap_last _ _ _ rfl
  have yX00 := ovr_cell (W := X) (b := (ovr Z u4).heap.size) (o := 0) (v := I x1) (by rw [cell_of_row _ _ _ _ _ _ rowX0]; rfl)
  have yX01 := ovr_cell (W := X) (b := (ovr Z u4).heap.size) (o := 1) (v := I x2) (by rw [cell_of_row _ _ _ _ _ _ rowX0]; rfl)
  have RrowX0 := Lib.hid (ovr_row rowX0)
  clear rowX0
  have HBX : Hid (∀ u, Below Z.heap.size Z (ovr X u)) := fun u => by obtain ⟨x, hx⟩ := reX u; rw [hx]; exact ovr_below _ _
  have HUX : Hid (∀ u, Below w.heap.size w (ovr X u)) := fun u => by obtain ⟨x, hx⟩ := reX u; rw [hx]; exact HUZ.out x
  clear reX
  have HX := Lib.hid hX
  clear hX
  have HXR : Hid (∀ u, Rd (ovr X u) (ovr X u).heap.size 2 A4 l.length (rR l) ∧ Rd (ovr X u) (ovr X u).heap.size 2 A2 l.length (rR l)) := fun u => by
    have h1 : Below (ovr Z u4).heap.size (ovr Z u4) X := by rw [HX.out]; exact (Below.refl _ _).alloc (Nat.le_refl _) _
    have h2 : Below (ovr Z u4).heap.size (ovr Z u4) (ovr X u) := h1.trans ((ovr_below X u).mono h1.size)
    refine ⟨HR4.out _ (HB4.out.trans (h2.mono HB4.out.size)), HR1.out _ ?_⟩
    exact (HY1Z.out u4).trans (h2.mono (HY1Z.out u4).size)
  have cs : Hid (∀ u, Calls Try.prog 30 #[.slice A2 l.length d2, .slice A4 l.length d4] (ovr X u) fun e w' => e = .returned (.bool true) ∧ Below (ovr X u).heap.size (ovr X u) w') := fun u => sameR_yes A2 A4 l.length d2 d4 l (ovr X u) _ _ rfl (by have : l.length ≤ 1000 := hwl.out; omega) (Nat.le_refl _) (Nat.le_refl _) (HXR.out u).2 (HXR.out u).1
  rw [← HX.out]
  obtain ⟨u5, hu5⟩ := ovr_self X
  rw [hu5]
  clear hu5
  go_wp2_with fail
  refine (cs.out _).mono ?_
  rintro e w1 ⟨rfl, hb1⟩
  obtain ⟨u6, rfl⟩ := ovr_next hb1
  clear hb1
  go_wp2_with fail
  refine (ck.out _).mono ?_
  rintro e w1 ⟨rfl, hb1⟩
  obtain ⟨u7, rfl⟩ := ovr_next hb1
  clear hb1
  go_wp2_with fail
  go_ret
  exact ⟨rfl, HUX.out _⟩
end Go.Proofs.Ytmadlmmfbpmebaa
