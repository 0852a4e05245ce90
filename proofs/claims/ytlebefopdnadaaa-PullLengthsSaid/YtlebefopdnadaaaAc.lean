/- The contract of accepted of package pull's chart. -/
import Derived.Test.YtlebefopdnadaaaBt
namespace Go.Proofs.Ytlebefopdnadaaa
open Go.RowKit
def accB (p : Vec) (k : Kn) : Bool := k.some && decide (p 112 ≤ k.lo) && decide (k.hi ≤ p 113)
set_option maxRecDepth 100000 in
set_option maxHeartbeats 1000000 in
theorem accepted_any (cb bb fb n : Nat) (p : Vec) (B F : Nat → Kn) (t : Int) (w : World) (h : Chart w cb bb fb p n B F) (ht : 0 ≤ t ∧ t + 1 < n) (hn : n ≤ 1000000) (hp : VPul p) (hB : knBd (B t.toNat)) (hF : knBd (F (t.toNat + 1))) :
    Calls Try.prog 69 #[.pointer (some ⟨cb, 0, none⟩), I t] w fun e w' => e = .returned (.bool (accB p (betK p (B t.toNat) (F (t.toNat + 1))))) ∧ Below w.heap.size w w' := by
  have HC := Lib.hid h
  have Hc := Lib.hid (between_any cb bb fb n p B F t w h ht hn hp hB hF)
  generalize betK p (B t.toNat) (F (t.toNat + 1)) = k at *
  have hfin : Hid (accB p k = (k.some && decide (p 112 ≤ k.lo) && decide (k.hi ≤ p 113))) := rfl
  clear h ht hn hp hB hF
  go_enter Try.func69, Try.ntmps69
  go_wp2_with fail
  refine Hc.out.mono ?_
  rintro e w1 ⟨rfl, hb1⟩
  have H1 := HC.out.below hb1
  have l0 : ∀ x : Obj, (w1.alloc x).cell? ⟨cb, 112, none⟩ = some (I (p 112)) := fun x => by rw [World.cell?_alloc_past _ _ _ (block_lt_of_cell (H1.c 112 (by omega)))]; exact H1.c 112 (by omega)
  have l1 : ∀ x : Obj, (w1.alloc x).cell? ⟨cb, 113, none⟩ = some (I (p 113)) := fun x => by rw [World.cell?_alloc_past _ _ _ (block_lt_of_cell (H1.c 113 (by omega)))]; exact H1.c 113 (by omega)
  clear H1
  go_wp2
  have z0 := ovr_cell (l0 (.cells (knArr k) 147))
  have z1 := ovr_cell (l1 (.cells (knArr k) 147))
  have z2 := ovr_cell (W := w1.alloc (.cells (knArr k) 147)) (b := w1.heap.size) (o := 0) (v := I k.lo) (by simp)
  have z3 := ovr_cell (W := w1.alloc (.cells (knArr k) 147)) (b := w1.heap.size) (o := 1) (v := I k.hi) (by simp)
  have z4 := ovr_cell (W := w1.alloc (.cells (knArr k) 147)) (b := w1.heap.size) (o := 2) (v := .bool k.some) (by simp)
  have fin : Hid (∀ (b : Bool) W, accB p k = b → Below (w1.alloc (.cells (knArr k) 147)).heap.size (w1.alloc (.cells (knArr k) 147)) W → (Ending.returned (.bool b) = .returned (.bool (accB p k)) ∧ Below w.heap.size w W)) := fun b W hb hW => ⟨by rw [hb], hb1.trans ((under2 hW).mono hb1.size)⟩
  clear l0 l1
  generalize (w1.alloc (.cells (knArr k) 147)) = Wk at *
  rcases hs : k.some with _ | _
  · refine wp_region_below_lit (by kernel_rfl) (by kernel_rfl) ?_
    repeat (go_big_quiet_step (fail))
    refine wpQuiet_nil ?_
    intro w2 hb2
    go_wp2
    go_ret
    exact fin.out _ _ (by rw [hfin.out, hs]; rfl) hb2
  · by_cases h1 : p 112 ≤ k.lo
    · by_cases h2 : k.hi ≤ p 113
      · refine wp_region_below_lit (by kernel_rfl) (by kernel_rfl) ?_
        repeat (go_big_quiet_step (fail))
        refine wpQuiet_nil ?_
        intro w2 hb2
        go_wp2
        go_ret
        exact fin.out _ _ (by rw [hfin.out, hs]; simp [h1, h2]) hb2
      · refine wp_region_below_lit (by kernel_rfl) (by kernel_rfl) ?_
        repeat (go_big_quiet_step (fail))
        refine wpQuiet_nil ?_
        intro w2 hb2
        go_wp2
        go_ret
        exact fin.out _ _ (by rw [hfin.out, hs]; simp [h2]) hb2
    · have h1' : decide (p 112 ≤ k.lo) = false := by simpa using h1
      refine wp_region_below_lit (by kernel_rfl) (by kernel_rfl) ?_
      repeat (go_big_quiet_step (fail))
      refine wpQuiet_nil ?_
      intro w2 hb2
      go_wp2
      go_ret
      exact fin.out _ _ (by rw [hfin.out, hs]; simp; omega) hb2
end Go.Proofs.Ytlebefopdnadaaa
