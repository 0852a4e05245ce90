/- Seen of package pull: an edge of a ring. (Texts of package units lie in the namespace Un.) -/
import Derived.Test.YtbojgcaehlapiaaIna
import Derived.Test.YtbojgcaehlapiaaJa
import Derived.Test.YtbojgcaehlapiaaJc
namespace Go.Proofs.Ytbojgcaehlapiaa.Un
open Go.RowKit
attribute [local go_sem] Oper.semAt_some
abbrev opArr (sc ig og : Rng) : Array Value := #[I sc.lo, I sc.hi, I ig.lo, I ig.hi, I og.lo, I og.hi]
abbrev rgArr (a b : Rng) : Array Value := #[I a.lo, I a.hi, I b.lo, I b.hi]
/-- What an edge of a ring tells of the diameter. -/
def edF (sc e g : Rng) : Rng := (leF (tmF e sc 1000000).1 g).1
/-- The diameter by a ring. -/
def mtF (sc ig og a b : Rng) : Rng × Int := foF cuF [edF sc a ig, edF sc b og]
def snF (sc ig og a b : Rng) : Rng × Int := if rangeB 10000000000 [sc, ig, og, a, b] then (if (mtF sc ig og a b).2 = 0 then mtF sc ig og a b else (⟨0, 0⟩, 40)) else (⟨0, 0⟩, 2)
set_option maxRecDepth 100000 in
set_option maxHeartbeats 2000000 in
theorem edge_any (sc e g ig og : Rng) (qo : Nat) (w : World) (h : w.heap[qo]? = some (.cells (opArr sc ig og) 62 (0, 0))) :
    Calls Try.prog 32 #[e.val, g.val, .pointer (some ⟨qo, 0, none⟩)] w fun x w' => x = .returned (edF sc e g).val ∧ Below w.heap.size w w' := by
  have c1 := Lib.hid fun W => times_any e sc 1000000 W
  have c2 := Lib.hid fun W => less_any (tmF e sc 1000000).1 g W
  have hd : edF sc e g = (leF (tmF e sc 1000000).1 g).1 := rfl
  obtain ⟨⟨⟨x1, y1⟩, z1⟩, hq⟩ : ∃ q, tmF e sc 1000000 = q := ⟨_, rfl⟩
  rw [hq] at c1 c2 hd
  obtain ⟨⟨⟨x2, y2⟩, z2⟩, hq2⟩ : ∃ q, leF (⟨x1, y1⟩ : Rng) g = q := ⟨_, rfl⟩
  simp only [hq2] at c2 hd
  rw [hd]
  clear hq hq2 hd
  have HUw : Hid (∀ u, Below w.heap.size w (ovr w u)) := fun u => ovr_below _ _
  have yw00 := ovr_cell (W := w) (b := qo) (o := 0) (v := I sc.lo) (by rw [cell_of_row _ _ _ _ _ _ h]; rfl)
  have zw00 : ∀ u, (ovr w u).frozen? ⟨qo, 0, none⟩ = false := fun u => frozen_of_row _ _ _ _ _ (ovr_row h u)
  have yw01 := ovr_cell (W := w) (b := qo) (o := 1) (v := I sc.hi) (by rw [cell_of_row _ _ _ _ _ _ h]; rfl)
  have zw01 : ∀ u, (ovr w u).frozen? ⟨qo, 1, none⟩ = false := fun u => frozen_of_row _ _ _ _ _ (ovr_row h u)
  have yw02 := ovr_cell (W := w) (b := qo) (o := 2) (v := I ig.lo) (by rw [cell_of_row _ _ _ _ _ _ h]; rfl)
  have zw02 : ∀ u, (ovr w u).frozen? ⟨qo, 2, none⟩ = false := fun u => frozen_of_row _ _ _ _ _ (ovr_row h u)
  have yw03 := ovr_cell (W := w) (b := qo) (o := 3) (v := I ig.hi) (by rw [cell_of_row _ _ _ _ _ _ h]; rfl)
  have zw03 : ∀ u, (ovr w u).frozen? ⟨qo, 3, none⟩ = false := fun u => frozen_of_row _ _ _ _ _ (ovr_row h u)
  have yw04 := ovr_cell (W := w) (b := qo) (o := 4) (v := I og.lo) (by rw [cell_of_row _ _ _ _ _ _ h]; rfl)
  have zw04 : ∀ u, (ovr w u).frozen? ⟨qo, 4, none⟩ = false := fun u => frozen_of_row _ _ _ _ _ (ovr_row h u)
  have yw05 := ovr_cell (W := w) (b := qo) (o := 5) (v := I og.hi) (by rw [cell_of_row _ _ _ _ _ _ h]; rfl)
  have zw05 : ∀ u, (ovr w u).frozen? ⟨qo, 5, none⟩ = false := fun u => frozen_of_row _ _ _ _ _ (ovr_row h u)
  have Rroww0 := Lib.hid (ovr_row h)
  clear h
  obtain ⟨W, hW⟩ : ∃ W, W = (((w.alloc (.cells #[I e.lo, I e.hi] 23)).alloc (.cells #[I g.lo, I g.hi] 23)).alloc (.cells #[I 0, I 0] 23)) := ⟨_, rfl⟩
  have reW : ∀ v, ∃ x, ovr W v = ovr w x := fun v => ⟨_, ovr_of (U3 hW v)⟩
  replace yw00 := tr_cell reW yw00
  replace zw00 := tr_froz reW zw00
  replace yw01 := tr_cell reW yw01
  replace zw01 := tr_froz reW zw01
  replace yw02 := tr_cell reW yw02
  replace zw02 := tr_froz reW zw02
  replace yw03 := tr_cell reW yw03
  replace zw03 := tr_froz reW zw03
  replace yw04 := tr_cell reW yw04
  replace zw04 := tr_froz reW zw04
  replace yw05 := tr_cell reW yw05
  replace zw05 := tr_froz reW zw05
  replace Rroww0 := Lib.hid (tr_row reW Rroww0.out)
  have rowW0 : W.heap[w.heap.size]? = some (.cells #[I e.lo, I e.hi] 23 (0, 0)) := by rw [hW]; exact heap_before (heap_before (heap_last _ _ _ rfl))
  have yW00 := ovr_cell (W := W) (b := w.heap.size) (o := 0) (v := I e.lo) (by rw [cell_of_row _ _ _ _ _ _ rowW0]; rfl)
  have yW01 := ovr_cell (W := W) (b := w.heap.size) (o := 1) (v := I e.hi) (by rw [cell_of_row _ _ _ _ _ _ rowW0]; rfl)
  have RrowW0 := Lib.hid (ovr_row rowW0)
  clear rowW0
  have rowW1 : W.heap[w.heap.size + 1]? = some (.cells #[I g.lo, I g.hi] 23 (0, 0)) := by rw [hW]; exact heap_before (heap_last _ _ _ (by simp))
  have yW10 := ovr_cell (W := W) (b := w.heap.size + 1) (o := 0) (v := I g.lo) (by rw [cell_of_row _ _ _ _ _ _ rowW1]; rfl)
  have yW11 := ovr_cell (W := W) (b := w.heap.size + 1) (o := 1) (v := I g.hi) (by rw [cell_of_row _ _ _ _ _ _ rowW1]; rfl)
  have RrowW1 := Lib.hid (ovr_row rowW1)
  clear rowW1
  have rowW2 : W.heap[w.heap.size + 1 + 1]? = some (.cells #[I 0, I 0] 23 (0, 0)) := by rw [hW]; exact heap_last _ _ _ (by simp)
  have yW20 := ovr_cell (W := W) (b := w.heap.size + 1 + 1) (o := 0) (v := I 0) (by rw [cell_of_row _ _ _ _ _ _ rowW2]; rfl)
  have yW21 := ovr_cell (W := W) (b := w.heap.size + 1 + 1) (o := 1) (v := I 0) (by rw [cell_of_row _ _ _ _ _ _ rowW2]; rfl)
  have RrowW2 := Lib.hid (ovr_row rowW2)
  clear rowW2
  have HUW : Hid (∀ u, Below w.heap.size w (ovr W u)) := U3 hW
  have HW := Lib.hid hW
  clear hW
  go_enter Try.func32, Try.ntmps32
  go_upto_region 1 with (fail)
  rw [← HW.out]
  obtain ⟨u0, hu0⟩ := ovr_self W
  rw [hu0]
  clear hu0
  go_wp2_with fail
  refine (c1.out _).mono ?_
  rintro e w1 ⟨rfl, hb1⟩
  obtain ⟨u1, rfl⟩ := ovr_next hb1
  clear hb1
  go_upto_region 2 with (fail)
  obtain ⟨X, hX⟩ : ∃ X, X = ((ovr W u1).alloc (.cells #[I x1, I y1] 23)) := ⟨_, rfl⟩
  have reX : ∀ v, ∃ x, ovr X v = ovr W x := fun v => ovr_re1 hX
  replace yw00 := tr_cell reX yw00
  replace zw00 := tr_froz reX zw00
  replace yw01 := tr_cell reX yw01
  replace zw01 := tr_froz reX zw01
  replace yw02 := tr_cell reX yw02
  replace zw02 := tr_froz reX zw02
  replace yw03 := tr_cell reX yw03
  replace zw03 := tr_froz reX zw03
  replace yw04 := tr_cell reX yw04
  replace zw04 := tr_froz reX zw04
  replace yw05 := tr_cell reX yw05
  replace zw05 := tr_froz reX zw05
  replace Rroww0 := Lib.hid (tr_row reX Rroww0.out)
  replace yW00 := tr_cell reX yW00
  replace yW01 := tr_cell reX yW01
  replace RrowW0 := Lib.hid (tr_row reX RrowW0.out)
  replace yW10 := tr_cell reX yW10
  replace yW11 := tr_cell reX yW11
  replace RrowW1 := Lib.hid (tr_row reX RrowW1.out)
  replace yW20 := tr_cell reX yW20
  replace yW21 := tr_cell reX yW21
  replace RrowW2 := Lib.hid (tr_row reX RrowW2.out)
  have rowX0 : X.heap[(ovr W u1).heap.size]? = some (.cells #[I x1, I y1] 23 (0, 0)) := by rw [hX]; exact heap_last _ _ _ rfl
  have yX00 := ovr_cell (W := X) (b := (ovr W u1).heap.size) (o := 0) (v := I x1) (by rw [cell_of_row _ _ _ _ _ _ rowX0]; rfl)
  have yX01 := ovr_cell (W := X) (b := (ovr W u1).heap.size) (o := 1) (v := I y1) (by rw [cell_of_row _ _ _ _ _ _ rowX0]; rfl)
  have RrowX0 := Lib.hid (ovr_row rowX0)
  clear rowX0
  have HBX : Hid (∀ u, Below W.heap.size W (ovr X u)) := fun u => by obtain ⟨x, hx⟩ := reX u; rw [hx]; exact ovr_below _ _
  have HUX : Hid (∀ u, Below w.heap.size w (ovr X u)) := fun u => by obtain ⟨x, hx⟩ := reX u; rw [hx]; exact HUW.out x
  clear reX
  have HX := Lib.hid hX
  clear hX
  rw [← HX.out]
  obtain ⟨v1, hv1⟩ := ovr_self X
  rw [hv1]
  clear hv1
  go_wp2_with fail
  refine (c2.out _).mono ?_
  rintro e w1 ⟨rfl, hb1⟩
  obtain ⟨u2, rfl⟩ := ovr_next hb1
  clear hb1
  go_upto_region 3 with (refine wpList_store_row rfl 23 _ _ rfl ((ovr W u1).heap.size) rfl _ _ (RrowX0.out _) _ rfl (one2 rfl rfl) rfl (by kernel_rfl) ?_)
  have hws : w.heap.size + 1 + 1 < (ovr W u1).heap.size := by
    have h1 := (ovr_below W u1).size
    have h2 := congrArg (fun w : World => w.heap.size) HW.out
    simp at h2
    omega
  obtain ⟨Z, hZ⟩ : ∃ Z, Z = (ovr X u2).setRow (ovr W u1).heap.size #[I x2, I y2] := ⟨_, rfl⟩
  have r5 : Z.heap[w.heap.size + 1 + 1]? = some (.cells #[I 0, I 0] 23 (0, 0)) := by rw [hZ, setRow_other (by omega)]; exact RrowW2.out _
  have r6 : Z.heap[(ovr W u1).heap.size]? = some (.cells #[I x2, I y2] 23 (0, 0)) := by rw [hZ]; exact setRow_same (RrowX0.out _)
  have e0 : Z.cell? ⟨(ovr W u1).heap.size, 0, none⟩ = some (I x2) := by rw [cell_of_row _ _ _ _ _ _ r6]; rfl
  have e1 : Z.cell? ⟨(ovr W u1).heap.size, 1, none⟩ = some (I y2) := by rw [cell_of_row _ _ _ _ _ _ r6]; rfl
  have hbZ : Below w.heap.size w Z := by rw [hZ]; exact below_setRow (HUX.out _) (by omega) _
  have R5 := Lib.hid r5
  have HbZ := Lib.hid hbZ
  rw [← hZ]
  clear hZ r5 r6 hws hbZ
  go_wp2_with (refine wpList_store_row rfl 23 _ _ rfl (w.heap.size + 1 + 1) rfl _ _ (R5.out) _ rfl (one2 rfl rfl) rfl (by kernel_rfl) ?_)
  refine bodyPost_ret (results_cell_only rfl _ _ (w.heap.size + 1 + 1) 23 _ (0, 0) _ rfl (setRow_same (R5.out)) Try.underlying23 rfl (by kernel_rfl)) rfl ?_
  exact ⟨rfl, below_setRow HbZ.out (by omega) _⟩
end Go.Proofs.Ytbojgcaehlapiaa.Un
