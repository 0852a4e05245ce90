/- Copies of the law's inputs: ownFlat, ownTreated. -/
import Derived.Test.YtljjpidigckheaaOas
namespace Go.Proofs.Ytljjpidigckheaa.Un
open Go.RowKit
def RetOf (w : World) (q : Frc) (S T : List Int) (e : Ending) (w' : World) : Prop := ∃ A m C n, e = .returned (.agg #[I q.n, I q.d, .slice A S.length m, .slice C T.length n]) ∧ (S.length ≤ m ∧ m ≤ maxLen) ∧ (T.length ≤ n ∧ n ≤ maxLen) ∧ Rd w' w'.heap.size 1 A S.length (rI S) ∧ Rd w' w'.heap.size 1 C T.length (rI T) ∧ Below w.heap.size w w'
set_option maxRecDepth 100000 in
set_option maxHeartbeats 4000000 in
theorem ownFlat_any (q : Frc) (S T : List Int) (A C : Option Addr) (m n : Nat) (w : World) (B : Nat) (hl : S.length ≤ 1000000 ∧ T.length ≤ 1000000) (hB : B ≤ w.heap.size) (hx : Rd w B 1 A S.length (rI S)) (hy : Rd w B 1 C T.length (rI T)) :
 Calls Try.prog 35 #[.agg #[I q.n, I q.d, .slice A S.length m, .slice C T.length n]] w (RetOf w q S T) := by
 have HRD : Hid (∀ V, Below w.heap.size w V → Rd V B 1 A S.length (rI S) ∧ Rd V B 1 C T.length (rI T) ∧ B ≤ V.heap.size) := fun V hV => ⟨hx.below (hV.mono hB), hy.below (hV.mono hB), Nat.le_trans hB hV.size⟩
 have HL := Lib.hid hl
 obtain ⟨i3, hi3, jz0, jz1, jz2⟩ := info_parts int9b_info
 clear hx hy hB hl
 obtain ⟨W, hW⟩ : ∃ W, W = ((w.alloc (.cells #[I q.n, I q.d, .slice A S.length m, .slice C T.length n] 60)).alloc (.cells #[I 0, I 0, .slice none 0 0, .slice none 0 0] 60)) := ⟨_, rfl⟩
 have rowW0 : W.heap[w.heap.size]? = some (.cells #[I q.n, I q.d, .slice A S.length m, .slice C T.length n] 60 (0, 0)) := by rw [hW]; exact heap_before (heap_last _ _ _ rfl)
 have yW00 := ovr_cell (W := W) (b := w.heap.size) (o := 0) (v := I q.n) (by rw [cell_of_row _ _ _ _ _ _ rowW0]; rfl)
 have yW01 := ovr_cell (W := W) (b := w.heap.size) (o := 1) (v := I q.d) (by rw [cell_of_row _ _ _ _ _ _ rowW0]; rfl)
 have yW02 := ovr_cell (W := W) (b := w.heap.size) (o := 2) (v := .slice A S.length m) (by rw [cell_of_row _ _ _ _ _ _ rowW0]; rfl)
 have yW03 := ovr_cell (W := W) (b := w.heap.size) (o := 3) (v := .slice C T.length n) (by rw [cell_of_row _ _ _ _ _ _ rowW0]; rfl)
 have RrowW0 := Lib.hid (ovr_row rowW0)
 clear rowW0
 have rowW1 : W.heap[w.heap.size + 1]? = some (.cells #[I 0, I 0, .slice none 0 0, .slice none 0 0] 60 (0, 0)) := by rw [hW]; exact heap_last _ _ _ (by simp)
 have yW10 := ovr_cell (W := W) (b := w.heap.size + 1) (o := 0) (v := I 0) (by rw [cell_of_row _ _ _ _ _ _ rowW1]; rfl)
 have yW11 := ovr_cell (W := W) (b := w.heap.size + 1) (o := 1) (v := I 0) (by rw [cell_of_row _ _ _ _ _ _ rowW1]; rfl)
 have yW12 := ovr_cell (W := W) (b := w.heap.size + 1) (o := 2) (v := .slice none 0 0) (by rw [cell_of_row _ _ _ _ _ _ rowW1]; rfl)
 have yW13 := ovr_cell (W := W) (b := w.heap.size + 1) (o := 3) (v := .slice none 0 0) (by rw [cell_of_row _ _ _ _ _ _ rowW1]; rfl)
 have RrowW1 := Lib.hid (ovr_row rowW1)
 clear rowW1
 have HUW : Hid (∀ u, Below w.heap.size w (ovr W u)) := U2 hW
 have HW := Lib.hid hW
 clear hW
 go_enter Try.func35, Try.ntmps35
 go_upto_region 1 with (fail)
 rw [← HW.out]
 obtain ⟨u0, hu0⟩ := ovr_self W
 rw [hu0]
 clear hu0
 have HLW : Hid (w.heap.size + 1 < (ovr W u0).heap.size) := Lib.hid (lt_of_row (RrowW1.out u0))
 have hbY := ovr_below W u0
 obtain ⟨Y, hY⟩ : ∃ Y, Y = ovr W u0 := ⟨_, rfl⟩
 rw [← hY] at hbY
 rw [← hY]
 have hY' := Lib.hid hY
 clear hY
 have hbY' := Lib.hid hbY
 have reY : ∀ v, ∃ x, ovr Y v = ovr W x := fun v => ovr_reB hbY v
 replace yW00 := tr_cell reY yW00
 replace yW01 := tr_cell reY yW01
 replace yW02 := tr_cell reY yW02
 replace yW03 := tr_cell reY yW03
 replace RrowW0 := Lib.hid (tr_row reY RrowW0.out)
 replace yW10 := tr_cell reY yW10
 replace yW11 := tr_cell reY yW11
 replace yW12 := tr_cell reY yW12
 replace yW13 := tr_cell reY yW13
 replace RrowW1 := Lib.hid (tr_row reY RrowW1.out)
 have HUY : Hid (∀ u, Below w.heap.size w (ovr Y u)) := fun u => by obtain ⟨x, hx⟩ := reY u; rw [hx]; exact HUW.out x
 clear reY hbY
 refine wp_region_seq2 11 (fun j => if j = 2 then some Emp else if j = 5 then some (SlAm Y.heap.size 1 S.length (rI S)) else if j = 6 then some Emp else if j = 9 then some (SlAm Y.heap.size 1 T.length (rI T)) else none) (by kernel_rfl) (by kernel_rfl) (by kernel_rfl) (by kernel_rfl) (by kernel_rfl) ?_
 simp only [List.take_succ_cons, List.take_zero, List.drop_succ_cons, List.drop_zero]
 repeat (refine wpG_one rfl rfl rfl ?_; intro K hK; go_big_quiet_op; go_big_quiet_on)
 refine wpG_make Emp rfl rfl (fun w' hw' _ => ?_) (fun u hu => ?_)
 · go_simp
   exact emp_grow w'
 obtain ⟨_, _, e1, rfl⟩ := hu
 simp only [Act.put, List.setIfInBounds_toArray, List.set_cons_zero, List.set_cons_succ]
 repeat (refine wpG_one rfl rfl rfl ?_; intro K hK; go_big_quiet_op; go_big_quiet_on)
 refine wpG_make (SlAm Y.heap.size 1 S.length (rI S)) rfl rfl (fun w' hw' _ => ?_) (fun u hu => ?_)
 · obtain ⟨z, rfl⟩ := hw'
   exact app_growM _ _ 30 rfl 3 i3 _ 1 8 Try.underlying30 hi3 jz0 jz1 jz2 rfl (by decide) e1 rfl A S.length m rfl (rI S) ((HRD.out _ (HUY.out z)).1.more (HRD.out _ (HUY.out z)).2.2) HL.out.1 (by decide) (ovr_below Y z).size
 obtain ⟨_, _, A2, c2, rfl, _, _, _⟩ := hu
 simp only [Act.put, List.setIfInBounds_toArray, List.set_cons_zero, List.set_cons_succ]
 refine wpG_make Emp rfl rfl (fun w' hw' _ => ?_) (fun u hu => ?_)
 · go_simp
   exact emp_grow w'
 obtain ⟨_, _, e2, rfl⟩ := hu
 simp only [Act.put, List.setIfInBounds_toArray, List.set_cons_zero, List.set_cons_succ]
 repeat (refine wpG_one rfl rfl rfl ?_; intro K hK; go_big_quiet_op; go_big_quiet_on)
 refine wpG_make (SlAm Y.heap.size 1 T.length (rI T)) rfl rfl (fun w' hw' _ => ?_) (fun u hu => ?_)
 · obtain ⟨z, rfl⟩ := hw'
   exact app_growM _ _ 30 rfl 3 i3 _ 1 8 Try.underlying30 hi3 jz0 jz1 jz2 rfl (by decide) e2 rfl C T.length n rfl (rI T) ((HRD.out _ (HUY.out z)).2.1.more (HRD.out _ (HUY.out z)).2.2) HL.out.2 (by decide) (ovr_below Y z).size
 obtain ⟨_, _, C2, n2, rfl, _, _, _⟩ := hu
 simp only [Act.put, List.setIfInBounds_toArray, List.set_cons_zero, List.set_cons_succ]
 repeat (refine wpG_one rfl rfl rfl ?_; intro K hK; go_big_quiet_op; go_big_quiet_on)
 refine wpG_nil (fun w5 hw5 hG => ?_)
 have hs6 := Box.now hG.2
 have hs5 := Box.now hG.1.1.2
 clear hG
 obtain ⟨x5, rfl⟩ : ∃ x, w5 = ovr Y x := ⟨w5, ovr_of hw5.le⟩
 have hrow := RrowW1.out x5
 have hbw := HUY.out x5
 have hlt : w.heap.size + 1 < Y.heap.size := by rw [hY'.out]; exact HLW.out
 clear hw5
 refine wpTailIn_cons Wd.wide (by intro c h; cases h) ?_
 refine wp_store_row 60 _ _ rfl (w.heap.size + 1) rfl _ _ hrow #[I q.n, I q.d, .slice A2 S.length c2, .slice C2 T.length n2] rfl (by intro u hu; simp at hu; rcases hu with rfl | rfl | rfl | rfl <;> rfl) rfl (by kernel_rfl) ?_
 refine wpTailIn_nil ?_
 simp only [Act.put]
 have g0 := hs5.set hlt #[I q.n, I q.d, .slice A2 S.length c2, .slice C2 T.length n2]
 have g1 := hs6.set hlt #[I q.n, I q.d, .slice A2 S.length c2, .slice C2 T.length n2]
 have hb9 := below_setRow hbw (Nat.le_succ w.heap.size) #[I q.n, I q.d, .slice A2 S.length c2, .slice C2 T.length n2]
 go_wp2_with fail
 refine bodyPost_ret (results_cell_only rfl _ _ (w.heap.size + 1) 60 _ (0, 0) _ rfl (setRow_same (hrow)) Try.underlying60 rfl (by kernel_rfl)) rfl ?_
 exact ⟨A2, c2, C2, n2, rfl, g0.1, g1.1, g0.2, g1.2, hb9⟩
end Go.Proofs.Ytljjpidigckheaa.Un
