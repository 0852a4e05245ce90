/- The walk of the law PullRings. -/
import Derived.Test.YtbojgcaehlapiaaRk
import Derived.Test.YtbojgcaehlapiaaKwa
namespace Go.Proofs.Ytbojgcaehlapiaa.Un
open Go.RowKit
set_option maxRecDepth 100000 in
set_option maxHeartbeats 2000000 in
theorem pullRings_any (sc ig og a b : Rng) (w : World) : Calls Try.prog 4 #[.agg (opArr sc ig og), .agg (rgArr a b)] w fun e w' => e = .returned (.bool true) ∧ Below w.heap.size w w' := by
  have c1 := Lib.hid fun W => seen_any sc ig og a b W
  have c2 := Lib.hid fun W => refSeen_any sc ig og a b W
  have ck := Lib.hid fun W => known_any W
  obtain ⟨⟨⟨x1, y1⟩, z1⟩, hq⟩ : ∃ q, snF sc ig og a b = q := ⟨_, rfl⟩
  rw [hq] at c1 c2
  clear hq
  obtain ⟨W, hW⟩ : ∃ W, W = ((w.alloc (.cells #[I sc.lo, I sc.hi, I ig.lo, I ig.hi, I og.lo, I og.hi] 62)).alloc (.cells #[I a.lo, I a.hi, I b.lo, I b.hi] 64)) := ⟨_, rfl⟩
  have rowW0 : W.heap[w.heap.size]? = some (.cells #[I sc.lo, I sc.hi, I ig.lo, I ig.hi, I og.lo, I og.hi] 62 (0, 0)) := by rw [hW]; exact heap_before (heap_last _ _ _ rfl)
  have yW00 := ovr_cell (W := W) (b := w.heap.size) (o := 0) (v := I sc.lo) (by rw [cell_of_row _ _ _ _ _ _ rowW0]; rfl)
  have yW01 := ovr_cell (W := W) (b := w.heap.size) (o := 1) (v := I sc.hi) (by rw [cell_of_row _ _ _ _ _ _ rowW0]; rfl)
  have yW02 := ovr_cell (W := W) (b := w.heap.size) (o := 2) (v := I ig.lo) (by rw [cell_of_row _ _ _ _ _ _ rowW0]; rfl)
  have yW03 := ovr_cell (W := W) (b := w.heap.size) (o := 3) (v := I ig.hi) (by rw [cell_of_row _ _ _ _ _ _ rowW0]; rfl)
  have yW04 := ovr_cell (W := W) (b := w.heap.size) (o := 4) (v := I og.lo) (by rw [cell_of_row _ _ _ _ _ _ rowW0]; rfl)
  have yW05 := ovr_cell (W := W) (b := w.heap.size) (o := 5) (v := I og.hi) (by rw [cell_of_row _ _ _ _ _ _ rowW0]; rfl)
  have RrowW0 := Lib.hid (ovr_row rowW0)
  clear rowW0
  have rowW1 : W.heap[w.heap.size + 1]? = some (.cells #[I a.lo, I a.hi, I b.lo, I b.hi] 64 (0, 0)) := by rw [hW]; exact heap_last _ _ _ (by simp)
  have yW10 := ovr_cell (W := W) (b := w.heap.size + 1) (o := 0) (v := I a.lo) (by rw [cell_of_row _ _ _ _ _ _ rowW1]; rfl)
  have yW11 := ovr_cell (W := W) (b := w.heap.size + 1) (o := 1) (v := I a.hi) (by rw [cell_of_row _ _ _ _ _ _ rowW1]; rfl)
  have yW12 := ovr_cell (W := W) (b := w.heap.size + 1) (o := 2) (v := I b.lo) (by rw [cell_of_row _ _ _ _ _ _ rowW1]; rfl)
  have yW13 := ovr_cell (W := W) (b := w.heap.size + 1) (o := 3) (v := I b.hi) (by rw [cell_of_row _ _ _ _ _ _ rowW1]; rfl)
  have RrowW1 := Lib.hid (ovr_row rowW1)
  clear rowW1
  have HUW : Hid (∀ u, Below w.heap.size w (ovr W u)) := U2 hW
  have HW := Lib.hid hW
  clear hW
  go_enter Try.func4, Try.ntmps4
  go_upto_region 1 with (fail)
  rw [← HW.out]
  obtain ⟨u0, hu0⟩ := ovr_self W
  rw [hu0]
  clear hu0
  go_wp2_with fail
  refine (c1.out _).mono ?_
  rintro e w1 ⟨rfl, hb1⟩
  obtain ⟨u1, rfl⟩ := ovr_next hb1
  clear hb1
  go_upto_region 2 with (fail)
  obtain ⟨X1, hX1⟩ : ∃ X1, X1 = ((ovr W u1).alloc (.cells #[I x1, I y1] 23)) := ⟨_, rfl⟩
  have reX1 : ∀ v, ∃ x, ovr X1 v = ovr W x := fun v => ovr_re1 hX1
  replace yW00 := tr_cell reX1 yW00
  replace yW01 := tr_cell reX1 yW01
  replace yW02 := tr_cell reX1 yW02
  replace yW03 := tr_cell reX1 yW03
  replace yW04 := tr_cell reX1 yW04
  replace yW05 := tr_cell reX1 yW05
  replace RrowW0 := Lib.hid (tr_row reX1 RrowW0.out)
  replace yW10 := tr_cell reX1 yW10
  replace yW11 := tr_cell reX1 yW11
  replace yW12 := tr_cell reX1 yW12
  replace yW13 := tr_cell reX1 yW13
  replace RrowW1 := Lib.hid (tr_row reX1 RrowW1.out)
  have rowX10 : X1.heap[(ovr W u1).heap.size]? = some (.cells #[I x1, I y1] 23 (0, 0)) := by rw [hX1]; exact heap_last _ _ _ rfl
  have yX100 := ovr_cell (W := X1) (b := (ovr W u1).heap.size) (o := 0) (v := I x1) (by rw [cell_of_row _ _ _ _ _ _ rowX10]; rfl)
  have yX101 := ovr_cell (W := X1) (b := (ovr W u1).heap.size) (o := 1) (v := I y1) (by rw [cell_of_row _ _ _ _ _ _ rowX10]; rfl)
  have RrowX10 := Lib.hid (ovr_row rowX10)
  clear rowX10
  have HBX1 : Hid (∀ u, Below W.heap.size W (ovr X1 u)) := fun u => by obtain ⟨x, hx⟩ := reX1 u; rw [hx]; exact ovr_below _ _
  have HUX1 : Hid (∀ u, Below w.heap.size w (ovr X1 u)) := fun u => by obtain ⟨x, hx⟩ := reX1 u; rw [hx]; exact HUW.out x
  clear reX1
  have HX1 := Lib.hid hX1
  clear hX1
  rw [← HX1.out]
  obtain ⟨v1, hv1⟩ := ovr_self X1
  rw [hv1]
  clear hv1
  go_wp2_with fail
  refine (c2.out _).mono ?_
  rintro e w1 ⟨rfl, hb1⟩
  obtain ⟨u2, rfl⟩ := ovr_next hb1
  clear hb1
  go_upto_region 3 with (fail)
  obtain ⟨X2, hX2⟩ : ∃ X2, X2 = ((ovr X1 u2).alloc (.cells #[I x1, I y1] 23)) := ⟨_, rfl⟩
  have reX2 : ∀ v, ∃ x, ovr X2 v = ovr X1 x := fun v => ovr_re1 hX2
  replace yW00 := tr_cell reX2 yW00
  replace yW01 := tr_cell reX2 yW01
  replace yW02 := tr_cell reX2 yW02
  replace yW03 := tr_cell reX2 yW03
  replace yW04 := tr_cell reX2 yW04
  replace yW05 := tr_cell reX2 yW05
  replace RrowW0 := Lib.hid (tr_row reX2 RrowW0.out)
  replace yW10 := tr_cell reX2 yW10
  replace yW11 := tr_cell reX2 yW11
  replace yW12 := tr_cell reX2 yW12
  replace yW13 := tr_cell reX2 yW13
  replace RrowW1 := Lib.hid (tr_row reX2 RrowW1.out)
  replace yX100 := tr_cell reX2 yX100
  replace yX101 := tr_cell reX2 yX101
  replace RrowX10 := Lib.hid (tr_row reX2 RrowX10.out)
  have rowX20 : X2.heap[(ovr X1 u2).heap.size]? = some (.cells #[I x1, I y1] 23 (0, 0)) := by rw [hX2]; exact heap_last _ _ _ rfl
  have yX200 := ovr_cell (W := X2) (b := (ovr X1 u2).heap.size) (o := 0) (v := I x1) (by rw [cell_of_row _ _ _ _ _ _ rowX20]; rfl)
  have yX201 := ovr_cell (W := X2) (b := (ovr X1 u2).heap.size) (o := 1) (v := I y1) (by rw [cell_of_row _ _ _ _ _ _ rowX20]; rfl)
  have RrowX20 := Lib.hid (ovr_row rowX20)
  clear rowX20
  have HBX2 : Hid (∀ u, Below X1.heap.size X1 (ovr X2 u)) := fun u => by obtain ⟨x, hx⟩ := reX2 u; rw [hx]; exact ovr_below _ _
  have HUX2 : Hid (∀ u, Below w.heap.size w (ovr X2 u)) := fun u => by obtain ⟨x, hx⟩ := reX2 u; rw [hx]; exact HUX1.out x
  clear reX2
  have HX2 := Lib.hid hX2
  clear hX2
  rw [← HX2.out]
  obtain ⟨v2, hv2⟩ := ovr_self X2
  rw [hv2]
  clear hv2
  go_wp2_with fail
  refine (ck.out _).mono ?_
  rintro e w1 ⟨rfl, hb1⟩
  obtain ⟨u3, rfl⟩ := ovr_next hb1
  clear hb1
  go_wp2_with fail
  go_ret
  exact ⟨rfl, HUX2.out _⟩
end Go.Proofs.Ytbojgcaehlapiaa.Un
