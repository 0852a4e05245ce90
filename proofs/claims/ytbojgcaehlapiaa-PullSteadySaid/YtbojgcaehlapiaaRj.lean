/- Seen of package pull. -/
import Derived.Test.YtbojgcaehlapiaaRi
namespace Go.Proofs.Ytbojgcaehlapiaa.Un
open Go.RowKit
attribute [local go_sem] Oper.semAt_some
theorem name_w {P : Program} {c : Code} {Q : Exit → Act → World → Prop} {a : Act} {w : World} (h : ∀ V, V = w → c.wp P Q a V) : c.wp P Q a w := h w rfl
/-- A new list that holds cs. -/
def SlAt (w0 : World) (cs : Array Value) (t : TypeId) (n : Nat) (u : Value) (w : World) : Prop := ∃ b, u = .slice (some ⟨b, 0, none⟩) n n ∧ w.heap[b]? = some (.cells cs t (0, 0)) ∧ w0.heap.size ≤ b
theorem slat_grow {w0 w : World} {cs : Array Value} {t : TypeId} {n : Nat} (h : Cl w0 w) : Le w (w.alloc (.cells cs t)) ∧ Box (SlAt w0 cs t n) (.slice (some ⟨w.heap.size, 0, none⟩) n n) (w.alloc (.cells cs t)) :=
  ⟨(Below.refl _ _).alloc (Nat.le_refl _) _, fun _ h2 => ⟨_, rfl, (h2.block _ (by simp)).trans (heap_alloc_new w _), h.le.size⟩⟩
abbrev five (a b c d e : Rng) : Array Value := #[I a.lo, I a.hi, I b.lo, I b.hi, I c.lo, I c.hi, I d.lo, I d.hi, I e.lo, I e.hi]
theorem five_rd {w : World} {b : Nat} {t : TypeId} {x y z p q : Rng} (h : w.heap[b]? = some (.cells (five x y z p q) t (0, 0))) : Rd w w.heap.size 2 (some ⟨b, 0, none⟩) 5 (rR [x, y, z, p, q]) := fun _ => by
  refine ⟨b, 0, rfl, (Array.getElem?_eq_some_iff.1 h).1, fun k hk j hj => ?_⟩
  rw [cell_of_row _ _ _ _ _ _ h]
  match k, hk with
  | 0, _ => match j, hj with | 0, _ => rfl | 1, _ => rfl
  | 1, _ => match j, hj with | 0, _ => rfl | 1, _ => rfl
  | 2, _ => match j, hj with | 0, _ => rfl | 1, _ => rfl
  | 3, _ => match j, hj with | 0, _ => rfl | 1, _ => rfl
  | 4, _ => match j, hj with | 0, _ => rfl | 1, _ => rfl
abbrev two (a b : Rng) : Array Value := #[I a.lo, I a.hi, I b.lo, I b.hi]
theorem two_rd {w : World} {b : Nat} {t : TypeId} {x y : Rng} (h : w.heap[b]? = some (.cells (two x y) t (0, 0))) : Rd w w.heap.size 2 (some ⟨b, 0, none⟩) 2 (rR [x, y]) := fun _ => by
  refine ⟨b, 0, rfl, (Array.getElem?_eq_some_iff.1 h).1, fun k hk j hj => ?_⟩
  rw [cell_of_row _ _ _ _ _ _ h]
  match k, hk with
  | 0, _ => match j, hj with | 0, _ => rfl | 1, _ => rfl
  | 1, _ => match j, hj with | 0, _ => rfl | 1, _ => rfl
set_option maxRecDepth 100000 in
set_option maxHeartbeats 4000000 in
theorem seen_any (sc ig og a b : Rng) (w : World) : Calls Try.prog 11 #[.agg (opArr sc ig og), .agg (rgArr a b)] w (RetRn w (snF sc ig og a b)) := by
  obtain ⟨W, hW⟩ : ∃ W, W = (((w.alloc (.cells #[I sc.lo, I sc.hi, I ig.lo, I ig.hi, I og.lo, I og.hi] 62)).alloc (.cells #[I a.lo, I a.hi, I b.lo, I b.hi] 64)).alloc (.cells #[I 0, I 0] 23)) := ⟨_, rfl⟩
  have rowW0 : W.heap[w.heap.size]? = some (.cells #[I sc.lo, I sc.hi, I ig.lo, I ig.hi, I og.lo, I og.hi] 62 (0, 0)) := by rw [hW]; exact heap_before (heap_before (heap_last _ _ _ rfl))
  have yW00 := ovr_cell (W := W) (b := w.heap.size) (o := 0) (v := I sc.lo) (by rw [cell_of_row _ _ _ _ _ _ rowW0]; rfl)
  have yW01 := ovr_cell (W := W) (b := w.heap.size) (o := 1) (v := I sc.hi) (by rw [cell_of_row _ _ _ _ _ _ rowW0]; rfl)
  have yW02 := ovr_cell (W := W) (b := w.heap.size) (o := 2) (v := I ig.lo) (by rw [cell_of_row _ _ _ _ _ _ rowW0]; rfl)
  have yW03 := ovr_cell (W := W) (b := w.heap.size) (o := 3) (v := I ig.hi) (by rw [cell_of_row _ _ _ _ _ _ rowW0]; rfl)
  have yW04 := ovr_cell (W := W) (b := w.heap.size) (o := 4) (v := I og.lo) (by rw [cell_of_row _ _ _ _ _ _ rowW0]; rfl)
  have yW05 := ovr_cell (W := W) (b := w.heap.size) (o := 5) (v := I og.hi) (by rw [cell_of_row _ _ _ _ _ _ rowW0]; rfl)
  have RrowW0 := Lib.hid (ovr_row rowW0)
  clear rowW0
  have rowW1 : W.heap[w.heap.size + 1]? = some (.cells #[I a.lo, I a.hi, I b.lo, I b.hi] 64 (0, 0)) := by rw [hW]; exact heap_before (heap_last _ _ _ (by simp))
  have yW10 := ovr_cell (W := W) (b := w.heap.size + 1) (o := 0) (v := I a.lo) (by rw [cell_of_row _ _ _ _ _ _ rowW1]; rfl)
  have yW11 := ovr_cell (W := W) (b := w.heap.size + 1) (o := 1) (v := I a.hi) (by rw [cell_of_row _ _ _ _ _ _ rowW1]; rfl)
  have yW12 := ovr_cell (W := W) (b := w.heap.size + 1) (o := 2) (v := I b.lo) (by rw [cell_of_row _ _ _ _ _ _ rowW1]; rfl)
  have yW13 := ovr_cell (W := W) (b := w.heap.size + 1) (o := 3) (v := I b.hi) (by rw [cell_of_row _ _ _ _ _ _ rowW1]; rfl)
  have RrowW1 := Lib.hid (ovr_row rowW1)
  clear rowW1
  have rowW2 : W.heap[w.heap.size + 1 + 1]? = some (.cells #[I 0, I 0] 23 (0, 0)) := by rw [hW]; exact heap_last _ _ _ (by simp)
  have yW20 := ovr_cell (W := W) (b := w.heap.size + 1 + 1) (o := 0) (v := I 0) (by rw [cell_of_row _ _ _ _ _ _ rowW2]; rfl)
  have yW21 := ovr_cell (W := W) (b := w.heap.size + 1 + 1) (o := 1) (v := I 0) (by rw [cell_of_row _ _ _ _ _ _ rowW2]; rfl)
  have RrowW2 := Lib.hid (ovr_row rowW2)
  clear rowW2
  have HUW : Hid (∀ u, Below w.heap.size w (ovr W u)) := U3 hW
  have HW := Lib.hid hW
  clear hW
  have cr := Lib.hid fun (W : World) (b1 : Nat) (t : TypeId) (h : W.heap[b1]? = some (.cells (five sc ig og a b) t (0, 0))) => isRange_any (some ⟨b1, 0, none⟩) 5 5 [sc, ig, og, a, b] 10000000000 W rfl (by decide) (five_rd h)
  rcases hr : rangeB 10000000000 [sc, ig, og, a, b] with _ | _ <;> (rw [hr] at cr)
  · have hf : Hid (snF sc ig og a b = (⟨0, 0⟩, 2)) := by show _ = _; unfold snF; rw [hr]; rfl
    clear hr
    go_enter Try.func11, Try.ntmps11
    go_upto_region 1 with (fail)
    rw [← HW.out]
    obtain ⟨u0, hu0⟩ := ovr_self W
    rw [hu0]
    clear hu0
    go_wp2_with fail
    refine (cr.out _ _ _ (heap_last _ _ _ rfl)).mono ?_
    rintro e w1 ⟨rfl, hb1⟩
    have hb2 : Below (ovr W u0).heap.size (ovr W u0) w1 := ((Below.refl _ _).alloc (Nat.le_refl _) _).trans (hb1.mono (by simp))
    obtain ⟨u1, rfl⟩ := ovr_next hb2
    clear hb1 hb2
    go_wp2_with (refine wpList_store_row rfl 23 _ _ rfl (w.heap.size + 1 + 1) rfl _ _ (RrowW2.out _) _ rfl (one2 rfl rfl) rfl (by kernel_rfl) ?_)
    refine bodyPost_ret (results_cell_tmp rfl _ _ (w.heap.size + 1 + 1) 23 _ (0, 0) _ rfl (setRow_same (RrowW2.out _)) Try.underlying23 rfl (by kernel_rfl)) rfl ?_
    exact ⟨by rw [hf.out]; rfl, below_setRow (HUW.out _) (by omega) _⟩
  have hf : Hid (snF sc ig og a b = (if (mtF sc ig og a b).2 = 0 then mtF sc ig og a b else (⟨0, 0⟩, 40))) := by show _ = _; unfold snF; rw [hr]; rfl
  clear hr
  have cm := Lib.hid fun (W : World) (b1 : Nat) (t : TypeId) (h : W.heap[b1]? = some (.cells (two (edF sc a ig) (edF sc b og)) t (0, 0))) => meet_any (some ⟨b1, 0, none⟩) 2 2 [edF sc a ig, edF sc b og] W W.heap.size rfl (Nat.le_refl _) (by decide) (Nat.le_refl _) (two_rd h)
  have hm : mtF sc ig og a b = foF cuF [edF sc a ig, edF sc b og] := rfl
  obtain ⟨⟨⟨x1, y1⟩, z1⟩, hq⟩ : ∃ q, foF cuF [edF sc a ig, edF sc b og] = q := ⟨_, rfl⟩
  rw [hq] at cm hm
  rw [hm] at hf
  clear hq hm
  go_enter Try.func11, Try.ntmps11
  go_upto_region 1 with (fail)
  rw [← HW.out]
  obtain ⟨u0, hu0⟩ := ovr_self W
  rw [hu0]
  clear hu0
  go_wp2_with fail
  refine (cr.out _ _ _ (heap_last _ _ _ rfl)).mono ?_
  rintro e w1 ⟨rfl, hb1⟩
  have hb2 : Below (ovr W u0).heap.size (ovr W u0) w1 := ((Below.refl _ _).alloc (Nat.le_refl _) _).trans (hb1.mono (by simp))
  obtain ⟨u1, rfl⟩ := ovr_next hb2
  clear hb1 hb2
  go_upto_region 4 with (fail)
  have hbX := ovr_below W u1
  obtain ⟨X, hX⟩ : ∃ X, X = ovr W u1 := ⟨_, rfl⟩
  rw [← hX] at hbX
  rw [← hX]
  have hX' := Lib.hid hX
  clear hX
  have hbX' := Lib.hid hbX
  have reX : ∀ v, ∃ x, ovr X v = ovr W x := fun v => ovr_reB hbX v
  replace yW00 := tr_cell reX yW00
  replace yW01 := tr_cell reX yW01
  replace yW02 := tr_cell reX yW02
  replace yW03 := tr_cell reX yW03
  replace yW04 := tr_cell reX yW04
  replace yW05 := tr_cell reX yW05
  replace RrowW0 := Lib.hid (tr_row reX RrowW0.out)
  replace yW10 := tr_cell reX yW10
  replace yW11 := tr_cell reX yW11
  replace yW12 := tr_cell reX yW12
  replace yW13 := tr_cell reX yW13
  replace RrowW1 := Lib.hid (tr_row reX RrowW1.out)
  replace yW20 := tr_cell reX yW20
  replace yW21 := tr_cell reX yW21
  replace RrowW2 := Lib.hid (tr_row reX RrowW2.out)
  have HUX : Hid (∀ u, Below w.heap.size w (ovr X u)) := fun u => by obtain ⟨x, hx⟩ := reX u; rw [hx]; exact HUW.out x
  clear reX hbX
  refine wp_region_make_two (fun j => if j = 5 then some (fun u _ => u = (edF sc a ig).val) else if j = 11 then some (fun u _ => u = (edF sc b og).val) else if j = 12 then some (SlAt X (two (edF sc a ig) (edF sc b og)) 23 2) else if j = 13 then some (fun u _ => u = .tuple #[.agg #[I x1, I y1], I z1]) else if j = 17 then some (NewAt X #[I 0, I 0] 23) else none) [16] (by kernel_rfl) (by kernel_rfl) (by kernel_rfl) (by kernel_rfl) (by kernel_rfl) (by intro i hi; simp at hi; subst hi; rfl) ⟨rfl, rfl⟩ (fun c a d v w h => by cases d <;> exact h) ?_
  simp only [sleepTwo_cons, sleepTwo_two]
  repeat (refine wpG_one rfl rfl rfl ?_; intro K hK; go_big_quiet_op; go_big_quiet_on)
  refine wpG_make (fun u _ => u = (edF sc a ig).val) rfl rfl (fun w' hw' _ => ?_) (fun u hu => ?_)
  · obtain ⟨v, rfl⟩ : ∃ u, w' = ovr X u := ⟨w', ovr_of hw'.le⟩
    go_simp
    exact call_grow (edge_any sc a ig ig og w.heap.size _ (RrowW0.out _))
  obtain ⟨_, _, rfl⟩ := hu
  simp only [Act.put, List.setIfInBounds_toArray, List.set_cons_zero, List.set_cons_succ]
  repeat (refine wpG_one rfl rfl rfl ?_; intro K hK; go_big_quiet_op; go_big_quiet_on)
  refine wpG_make (fun u _ => u = (edF sc b og).val) rfl rfl (fun w' hw' _ => ?_) (fun u hu => ?_)
  · obtain ⟨v, rfl⟩ : ∃ u, w' = ovr X u := ⟨w', ovr_of hw'.le⟩
    go_simp
    exact call_grow (edge_any sc b og ig og w.heap.size _ (RrowW0.out _))
  obtain ⟨_, _, rfl⟩ := hu
  simp only [Act.put, List.setIfInBounds_toArray, List.set_cons_zero, List.set_cons_succ]
  refine wpG_make (SlAt X (two (edF sc a ig) (edF sc b og)) 23 2) rfl rfl (fun w' hw' _ => ?_) (fun u hu => ?_)
  · unfold Oper.grows
    go_simp
    exact slat_grow hw'
  obtain ⟨_, _, sb, rfl, _, _⟩ := hu
  simp only [Act.put, List.setIfInBounds_toArray, List.set_cons_zero, List.set_cons_succ]
  refine wpG_make (fun u _ => u = .tuple #[.agg #[I x1, I y1], I z1]) rfl rfl (fun w' hw' hk => ?_) (fun u hu => ?_)
  · obtain ⟨b', he, hr, _⟩ := (hk ⟨12, .data⟩ (by simp) rfl _ _ _ rfl rfl rfl (by simp) rfl).now
    obtain rfl : sb = b' := by simp at he; first | exact he | exact he.1
    go_simp
    exact call_grow (cm.out _ _ _ hr)
  obtain ⟨_, _, rfl⟩ := hu
  simp only [Act.put, List.setIfInBounds_toArray, List.set_cons_zero, List.set_cons_succ]
  repeat (refine wpG_one rfl rfl rfl ?_; intro K hK; go_big_quiet_op; go_big_quiet_on)
  refine wpG_make (NewAt X #[I 0, I 0] 23) rfl rfl (fun w' hw' _ => ?_) (fun u hu => ?_)
  · go_simp
    exact new_grow hw'
  obtain ⟨_, _, xb, rfl, _, hxb⟩ := hu
  simp only [Act.put, List.setIfInBounds_toArray, List.set_cons_zero, List.set_cons_succ]
  repeat (refine wpG_one rfl rfl rfl ?_; intro K hK; go_big_quiet_op; go_big_quiet_on)
  refine wpG_nil (fun w5 hw5 hG5 => ?_)
  have hx5 := (Box.now hG5.2).at.1
  clear hG5
  intro s t hs ht
  obtain rfl := Option.some.inj hs
  obtain rfl := Option.some.inj ht
  clear hs ht
  refine wp_store_row 23 _ _ rfl xb rfl _ _ hx5 #[I x1, I y1] rfl (one2 rfl rfl) rfl (by kernel_rfl) ?_
  refine ⟨Cl.set hw5 hxb _, ?_⟩
  refine wp_assign _ (I z1) rfl rfl ?_
  refine ⟨Cl.set hw5 hxb _, ?_⟩
  simp only [Act.put, List.setIfInBounds_toArray, List.set_cons_zero, List.set_cons_succ]
  obtain ⟨Z, hZ⟩ : ∃ Z, Z = w5.setRow xb #[I x1, I y1] := ⟨_, rfl⟩
  have rZ : Z.heap[xb]? = some (.cells #[I x1, I y1] 23 (0, 0)) := by rw [hZ]; exact setRow_same hx5
  have hbZ : Below X.heap.size X Z := by rw [hZ]; exact below_setRow hw5.le hxb _
  rw [← hZ]
  clear hZ hx5 hw5 hxb
  have reZ : ∀ v, ∃ x, ovr Z v = ovr X x := fun v => ovr_reB hbZ v
  replace yW00 := tr_cell reZ yW00
  replace yW01 := tr_cell reZ yW01
  replace yW02 := tr_cell reZ yW02
  replace yW03 := tr_cell reZ yW03
  replace yW04 := tr_cell reZ yW04
  replace yW05 := tr_cell reZ yW05
  replace RrowW0 := Lib.hid (tr_row reZ RrowW0.out)
  replace yW10 := tr_cell reZ yW10
  replace yW11 := tr_cell reZ yW11
  replace yW12 := tr_cell reZ yW12
  replace yW13 := tr_cell reZ yW13
  replace RrowW1 := Lib.hid (tr_row reZ RrowW1.out)
  replace yW20 := tr_cell reZ yW20
  replace yW21 := tr_cell reZ yW21
  replace RrowW2 := Lib.hid (tr_row reZ RrowW2.out)
  have yZ00 := ovr_cell (W := Z) (b := xb) (o := 0) (v := I x1) (by rw [cell_of_row _ _ _ _ _ _ rZ]; rfl)
  have yZ01 := ovr_cell (W := Z) (b := xb) (o := 1) (v := I y1) (by rw [cell_of_row _ _ _ _ _ _ rZ]; rfl)
  have RrowZ0 := Lib.hid (ovr_row rZ)
  clear rZ
  have HUZ : Hid (∀ u, Below w.heap.size w (ovr Z u)) := fun u => by obtain ⟨x, hx⟩ := reZ u; rw [hx]; exact HUX.out x
  clear reZ hbZ
  obtain ⟨u2, hu2⟩ := ovr_self Z
  rw [hu2]
  clear hu2
  by_cases h0 : z1 = 0
  · have h0b : (z1 != 0) = false := by simpa using h0
    have h0c := Lib.hid h0
    clear h0
    go_wp2_with (refine wpList_store_row rfl 23 _ _ rfl (w.heap.size + 1 + 1) rfl _ _ (RrowW2.out _) _ rfl (one2 rfl rfl) rfl (by kernel_rfl) ?_)
    refine bodyPost_ret (results_cell_tmp rfl _ _ (w.heap.size + 1 + 1) 23 _ (0, 0) _ rfl (setRow_same (RrowW2.out _)) Try.underlying23 rfl (by kernel_rfl)) rfl ?_
    exact ⟨by rw [hf.out, if_pos h0c.out, h0c.out]; rfl, below_setRow (HUZ.out _) (by omega) _⟩
  · have h0b : (z1 != 0) = true := by simpa using h0
    have h0c := Lib.hid h0
    clear h0
    go_wp2_with (refine wpList_store_row rfl 23 _ _ rfl (w.heap.size + 1 + 1) rfl _ _ (RrowW2.out _) _ rfl (one2 rfl rfl) rfl (by kernel_rfl) ?_)
    refine bodyPost_ret (results_cell_tmp rfl _ _ (w.heap.size + 1 + 1) 23 _ (0, 0) _ rfl (setRow_same (RrowW2.out _)) Try.underlying23 rfl (by kernel_rfl)) rfl ?_
    exact ⟨by rw [hf.out, if_neg h0c.out]; rfl, below_setRow (HUZ.out _) (by omega) _⟩
end Go.Proofs.Ytbojgcaehlapiaa.Un
