/- The package's variables, as they are laid, and the contract of isStep. -/
import Derived.Test.YtfifdfagikbahaaDoorMa
namespace Go.Proofs.YtfifdfagikbahaaDoor
open Go.RowKit
/-- The variables poor, rich and limits lie as they were laid. -/
structure Glob (W : World) : Prop where
  pr : W.cell? ⟨0, 0, none⟩ = some (.bool false) ∧ W.cell? ⟨0, 1, none⟩ = some (.bool true) ∧ W.cell? ⟨0, 2, none⟩ = some (.bool true)
  rh : W.cell? ⟨1, 0, none⟩ = some (.bool true) ∧ W.cell? ⟨1, 1, none⟩ = some (.bool false) ∧ W.cell? ⟨1, 2, none⟩ = some (.bool false)
  l1 : W.cell? ⟨2, 2, none⟩ = some (I 20000) ∧ W.cell? ⟨2, 3, none⟩ = some (.bool true)
  l2 : W.cell? ⟨2, 4, none⟩ = some (I 1000000000000) ∧ W.cell? ⟨2, 5, none⟩ = some (.bool true)
  l3 : W.cell? ⟨2, 6, none⟩ = some (I 1000000000000) ∧ W.cell? ⟨2, 7, none⟩ = some (.bool false)
  l4 : W.cell? ⟨2, 8, none⟩ = some (I 10000) ∧ W.cell? ⟨2, 9, none⟩ = some (.bool false)
  lt : 3 ≤ W.heap.size
theorem Glob.below {W W' : World} (h : Glob W) (hb : Below W.heap.size W W') : Glob W' := by
  have k : ∀ (b o : Nat) v, b < 3 → W.cell? ⟨b, o, none⟩ = some v → W'.cell? ⟨b, o, none⟩ = some v := fun b o v hlt hc => (hb.cell (p := ⟨b, o, none⟩) (by have := h.lt; show b < _; omega)).trans hc
  exact ⟨⟨k _ _ _ (by omega) h.pr.1, k _ _ _ (by omega) h.pr.2.1, k _ _ _ (by omega) h.pr.2.2⟩, ⟨k _ _ _ (by omega) h.rh.1, k _ _ _ (by omega) h.rh.2.1, k _ _ _ (by omega) h.rh.2.2⟩,
    ⟨k _ _ _ (by omega) h.l1.1, k _ _ _ (by omega) h.l1.2⟩, ⟨k _ _ _ (by omega) h.l2.1, k _ _ _ (by omega) h.l2.2⟩, ⟨k _ _ _ (by omega) h.l3.1, k _ _ _ (by omega) h.l3.2⟩, ⟨k _ _ _ (by omega) h.l4.1, k _ _ _ (by omega) h.l4.2⟩, Nat.le_trans h.lt hb.size⟩
def isS (x : Stp) : Bool :=
  if x.kd = 1 then wiB x.ms 1 1000000000 && bdB x.b 20000 else if x.kd = 2 then wiB x.ms 1 1000000000 && bdB x.b 1000000000000
  else if x.kd = 3 then (x.ms == 0) && bdB x.b 1000000000000 else if x.kd = 4 then (x.ms == 0) && bdB x.b 10000 else false
set_option maxHeartbeats 1000000 in
theorem isStep_1 (x : Stp) (w : World) (hG : Glob w) (hk : x.kd = 1) :
    Calls Tryd.prog 41 #[.agg (stpArr x)] w fun e w' => e = .returned (.bool (wiB x.ms 1 1000000000 && bdB x.b 20000)) ∧ Below w.heap.size w w' := by
  obtain ⟨W, hW⟩ : ∃ W, W = w.alloc (.cells (stpArr x) 58) := ⟨_, rfl⟩
  have hB : Hid (Below w.heap.size w W) := by show Below _ _ _; rw [hW]; exact (Below.refl _ _).alloc (Nat.le_refl _) _
  have hGW := hG.below hB.out
  have r0 : W.heap[w.heap.size]? = some (.cells (stpArr x) 58 (0, 0)) := by rw [hW]; exact heap_last _ _ _ rfl
  have y0 : W.cell? ⟨w.heap.size, 0, none⟩ = some (.int .u8 x.kd) := by rw [cell_of_row _ _ _ _ _ _ r0]; rfl
  have y1 : W.cell? ⟨w.heap.size, 1, none⟩ = some (I (x.ms)) := by rw [cell_of_row _ _ _ _ _ _ r0]; rfl
  have y2 : W.cell? ⟨w.heap.size, 2, none⟩ = some (I (x.b 0)) := by rw [cell_of_row _ _ _ _ _ _ r0]; rfl
  have y3 : W.cell? ⟨w.heap.size, 3, none⟩ = some (I (x.b 1)) := by rw [cell_of_row _ _ _ _ _ _ r0]; rfl
  have y4 : W.cell? ⟨w.heap.size, 4, none⟩ = some (I (x.b 2)) := by rw [cell_of_row _ _ _ _ _ _ r0]; rfl
  have y5 : W.cell? ⟨w.heap.size, 5, none⟩ = some (I (x.b 3)) := by rw [cell_of_row _ _ _ _ _ _ r0]; rfl
  have y6 : W.cell? ⟨w.heap.size, 6, none⟩ = some (I (x.b 4)) := by rw [cell_of_row _ _ _ _ _ _ r0]; rfl
  have y7 : W.cell? ⟨w.heap.size, 7, none⟩ = some (I (x.b 5)) := by rw [cell_of_row _ _ _ _ _ _ r0]; rfl
  have HW := Lib.hid hW
  clear hW
  obtain ⟨l0, l1⟩ := hGW.l1
  rw [hk] at y0
  have ba := fun W' => areBounds_any x.b 20000 W'
  have Hba := Lib.hid ba
  have bw := fun (w : World) => within_any x.ms 1 1000000000 w
  have Hbw := Lib.hid bw
  have dk : wiB 1 1 4 = true := by decide
  obtain ⟨bb, hbb⟩ : ∃ bb, bdB x.b 20000 = bb := ⟨_, rfl⟩
  obtain ⟨wb, hwb⟩ : ∃ wb, wiB x.ms 1 1000000000 = wb := ⟨_, rfl⟩
  obtain ⟨zb, hzb⟩ : ∃ zb, (x.ms == 0) = zb := ⟨_, rfl⟩
  rw [hbb] at Hba ⊢
  rw [hwb] at Hbw ⊢
  skip
  have hk1 := Lib.hid (show (stpArr x) = #[.int .u8 1, I x.ms, I (x.b 0), I (x.b 1), I (x.b 2), I (x.b 3), I (x.b 4), I (x.b 5)] by simp [hk])
  clear r0 ba bw hG hGW hbb hwb hk
  have HBW := hB.out.size
  go_enter Tryd.func41, Tryd.ntmps41
  go_upto_region 1 with (fail)
  rw [← HW.out]
  go_wp2_with fail
  refine (within_any 1 1 4 W).mono ?_
  rintro e w1 ⟨rfl, rfl⟩
  rw [dk]
  go_upto_region 4 with (fail)
  obtain ⟨V, hV⟩ : ∃ V, V = W.alloc (.cells #[.int .i64 20000, .bool true] 136) := ⟨_, rfl⟩
  rw [← hV]
  have hWV : Below W.heap.size W V := by rw [hV]; exact (Below.refl _ _).alloc (Nat.le_refl _) _
  have hlt : w.heap.size < W.heap.size := by rw [HW.out]; simp
  have v0 : V.heap[W.heap.size]? = some (.cells #[.int .i64 20000, .bool true] 136 (0, 0)) := by rw [hV]; exact heap_last _ _ _ rfl
  have u0 : V.cell? ⟨W.heap.size, 0, none⟩ = some (I 20000) := by rw [cell_of_row _ _ _ _ _ _ v0]; rfl
  have u1 : V.cell? ⟨W.heap.size, 1, none⟩ = some (.bool true) := by rw [cell_of_row _ _ _ _ _ _ v0]; rfl
  have y0 := (hWV.cell (p := ⟨w.heap.size, 0, none⟩) hlt).trans y0
  have y1 := (hWV.cell (p := ⟨w.heap.size, 1, none⟩) hlt).trans y1
  have y2 := (hWV.cell (p := ⟨w.heap.size, 2, none⟩) hlt).trans y2
  have y3 := (hWV.cell (p := ⟨w.heap.size, 3, none⟩) hlt).trans y3
  have y4 := (hWV.cell (p := ⟨w.heap.size, 4, none⟩) hlt).trans y4
  have y5 := (hWV.cell (p := ⟨w.heap.size, 5, none⟩) hlt).trans y5
  have y6 := (hWV.cell (p := ⟨w.heap.size, 6, none⟩) hlt).trans y6
  have y7 := (hWV.cell (p := ⟨w.heap.size, 7, none⟩) hlt).trans y7
  have HBV : Hid (Below w.heap.size w V ∧ w.heap.size ≤ V.heap.size) := ⟨hB.out.trans (hWV.mono HBW), Nat.le_trans HBW hWV.size⟩
  have HS : Hid (∀ w1, Below V.heap.size V w1 → Below w.heap.size w w1) := fun w1 hb1 => HBV.out.1.trans (hb1.mono HBV.out.2)
  clear hV hWV hlt v0 l0 l1 hB HBW
  rcases zb with _ | _
  · go_wp2_with fail
    refine (Hbw.out _).mono ?_
    rintro e w1 ⟨rfl, rfl⟩
    rcases wb with _ | _
    · go_wp2_with fail
      go_ret
      exact ⟨by simp, HBV.out.1⟩
    · go_wp2_with fail
      refine (Hba.out _).mono ?_
      rintro e w1 ⟨rfl, hb1⟩
      have hfin := Lib.hid (HS.out _ hb1)
      clear hb1
      go_wp2_with fail
      go_ret
      exact ⟨by simp, hfin.out⟩
  · go_wp2_with fail
    refine (Hbw.out _).mono ?_
    rintro e w1 ⟨rfl, rfl⟩
    rcases wb with _ | _
    · go_wp2_with fail
      go_ret
      exact ⟨by simp, HBV.out.1⟩
    · go_wp2_with fail
      refine (Hba.out _).mono ?_
      rintro e w1 ⟨rfl, hb1⟩
      have hfin := Lib.hid (HS.out _ hb1)
      clear hb1
      go_wp2_with fail
      go_ret
      exact ⟨by simp, hfin.out⟩
set_option maxHeartbeats 1000000 in
theorem isStep_2 (x : Stp) (w : World) (hG : Glob w) (hk : x.kd = 2) :
    Calls Tryd.prog 41 #[.agg (stpArr x)] w fun e w' => e = .returned (.bool (wiB x.ms 1 1000000000 && bdB x.b 1000000000000)) ∧ Below w.heap.size w w' := by
  obtain ⟨W, hW⟩ : ∃ W, W = w.alloc (.cells (stpArr x) 58) := ⟨_, rfl⟩
  have hB : Hid (Below w.heap.size w W) := by show Below _ _ _; rw [hW]; exact (Below.refl _ _).alloc (Nat.le_refl _) _
  have hGW := hG.below hB.out
  have r0 : W.heap[w.heap.size]? = some (.cells (stpArr x) 58 (0, 0)) := by rw [hW]; exact heap_last _ _ _ rfl
  have y0 : W.cell? ⟨w.heap.size, 0, none⟩ = some (.int .u8 x.kd) := by rw [cell_of_row _ _ _ _ _ _ r0]; rfl
  have y1 : W.cell? ⟨w.heap.size, 1, none⟩ = some (I (x.ms)) := by rw [cell_of_row _ _ _ _ _ _ r0]; rfl
  have y2 : W.cell? ⟨w.heap.size, 2, none⟩ = some (I (x.b 0)) := by rw [cell_of_row _ _ _ _ _ _ r0]; rfl
  have y3 : W.cell? ⟨w.heap.size, 3, none⟩ = some (I (x.b 1)) := by rw [cell_of_row _ _ _ _ _ _ r0]; rfl
  have y4 : W.cell? ⟨w.heap.size, 4, none⟩ = some (I (x.b 2)) := by rw [cell_of_row _ _ _ _ _ _ r0]; rfl
  have y5 : W.cell? ⟨w.heap.size, 5, none⟩ = some (I (x.b 3)) := by rw [cell_of_row _ _ _ _ _ _ r0]; rfl
  have y6 : W.cell? ⟨w.heap.size, 6, none⟩ = some (I (x.b 4)) := by rw [cell_of_row _ _ _ _ _ _ r0]; rfl
  have y7 : W.cell? ⟨w.heap.size, 7, none⟩ = some (I (x.b 5)) := by rw [cell_of_row _ _ _ _ _ _ r0]; rfl
  have HW := Lib.hid hW
  clear hW
  obtain ⟨l0, l1⟩ := hGW.l2
  rw [hk] at y0
  have ba := fun W' => areBounds_any x.b 1000000000000 W'
  have Hba := Lib.hid ba
  have bw := fun (w : World) => within_any x.ms 1 1000000000 w
  have Hbw := Lib.hid bw
  have dk : wiB 2 1 4 = true := by decide
  obtain ⟨bb, hbb⟩ : ∃ bb, bdB x.b 1000000000000 = bb := ⟨_, rfl⟩
  obtain ⟨wb, hwb⟩ : ∃ wb, wiB x.ms 1 1000000000 = wb := ⟨_, rfl⟩
  obtain ⟨zb, hzb⟩ : ∃ zb, (x.ms == 0) = zb := ⟨_, rfl⟩
  rw [hbb] at Hba ⊢
  rw [hwb] at Hbw ⊢
  skip
  have hk1 := Lib.hid (show (stpArr x) = #[.int .u8 2, I x.ms, I (x.b 0), I (x.b 1), I (x.b 2), I (x.b 3), I (x.b 4), I (x.b 5)] by simp [hk])
  clear r0 ba bw hG hGW hbb hwb hk
  have HBW := hB.out.size
  go_enter Tryd.func41, Tryd.ntmps41
  go_upto_region 1 with (fail)
  rw [← HW.out]
  go_wp2_with fail
  refine (within_any 2 1 4 W).mono ?_
  rintro e w1 ⟨rfl, rfl⟩
  rw [dk]
  go_upto_region 4 with (fail)
  obtain ⟨V, hV⟩ : ∃ V, V = W.alloc (.cells #[.int .i64 1000000000000, .bool true] 136) := ⟨_, rfl⟩
  rw [← hV]
  have hWV : Below W.heap.size W V := by rw [hV]; exact (Below.refl _ _).alloc (Nat.le_refl _) _
  have hlt : w.heap.size < W.heap.size := by rw [HW.out]; simp
  have v0 : V.heap[W.heap.size]? = some (.cells #[.int .i64 1000000000000, .bool true] 136 (0, 0)) := by rw [hV]; exact heap_last _ _ _ rfl
  have u0 : V.cell? ⟨W.heap.size, 0, none⟩ = some (I 1000000000000) := by rw [cell_of_row _ _ _ _ _ _ v0]; rfl
  have u1 : V.cell? ⟨W.heap.size, 1, none⟩ = some (.bool true) := by rw [cell_of_row _ _ _ _ _ _ v0]; rfl
  have y0 := (hWV.cell (p := ⟨w.heap.size, 0, none⟩) hlt).trans y0
  have y1 := (hWV.cell (p := ⟨w.heap.size, 1, none⟩) hlt).trans y1
  have y2 := (hWV.cell (p := ⟨w.heap.size, 2, none⟩) hlt).trans y2
  have y3 := (hWV.cell (p := ⟨w.heap.size, 3, none⟩) hlt).trans y3
  have y4 := (hWV.cell (p := ⟨w.heap.size, 4, none⟩) hlt).trans y4
  have y5 := (hWV.cell (p := ⟨w.heap.size, 5, none⟩) hlt).trans y5
  have y6 := (hWV.cell (p := ⟨w.heap.size, 6, none⟩) hlt).trans y6
  have y7 := (hWV.cell (p := ⟨w.heap.size, 7, none⟩) hlt).trans y7
  have HBV : Hid (Below w.heap.size w V ∧ w.heap.size ≤ V.heap.size) := ⟨hB.out.trans (hWV.mono HBW), Nat.le_trans HBW hWV.size⟩
  have HS : Hid (∀ w1, Below V.heap.size V w1 → Below w.heap.size w w1) := fun w1 hb1 => HBV.out.1.trans (hb1.mono HBV.out.2)
  clear hV hWV hlt v0 l0 l1 hB HBW
  rcases zb with _ | _
  · go_wp2_with fail
    refine (Hbw.out _).mono ?_
    rintro e w1 ⟨rfl, rfl⟩
    rcases wb with _ | _
    · go_wp2_with fail
      go_ret
      exact ⟨by simp, HBV.out.1⟩
    · go_wp2_with fail
      refine (Hba.out _).mono ?_
      rintro e w1 ⟨rfl, hb1⟩
      have hfin := Lib.hid (HS.out _ hb1)
      clear hb1
      go_wp2_with fail
      go_ret
      exact ⟨by simp, hfin.out⟩
  · go_wp2_with fail
    refine (Hbw.out _).mono ?_
    rintro e w1 ⟨rfl, rfl⟩
    rcases wb with _ | _
    · go_wp2_with fail
      go_ret
      exact ⟨by simp, HBV.out.1⟩
    · go_wp2_with fail
      refine (Hba.out _).mono ?_
      rintro e w1 ⟨rfl, hb1⟩
      have hfin := Lib.hid (HS.out _ hb1)
      clear hb1
      go_wp2_with fail
      go_ret
      exact ⟨by simp, hfin.out⟩
set_option maxHeartbeats 1000000 in
theorem isStep_3 (x : Stp) (w : World) (hG : Glob w) (hk : x.kd = 3) :
    Calls Tryd.prog 41 #[.agg (stpArr x)] w fun e w' => e = .returned (.bool ((x.ms == 0) && bdB x.b 1000000000000)) ∧ Below w.heap.size w w' := by
  obtain ⟨W, hW⟩ : ∃ W, W = w.alloc (.cells (stpArr x) 58) := ⟨_, rfl⟩
  have hB : Hid (Below w.heap.size w W) := by show Below _ _ _; rw [hW]; exact (Below.refl _ _).alloc (Nat.le_refl _) _
  have hGW := hG.below hB.out
  have r0 : W.heap[w.heap.size]? = some (.cells (stpArr x) 58 (0, 0)) := by rw [hW]; exact heap_last _ _ _ rfl
  have y0 : W.cell? ⟨w.heap.size, 0, none⟩ = some (.int .u8 x.kd) := by rw [cell_of_row _ _ _ _ _ _ r0]; rfl
  have y1 : W.cell? ⟨w.heap.size, 1, none⟩ = some (I (x.ms)) := by rw [cell_of_row _ _ _ _ _ _ r0]; rfl
  have y2 : W.cell? ⟨w.heap.size, 2, none⟩ = some (I (x.b 0)) := by rw [cell_of_row _ _ _ _ _ _ r0]; rfl
  have y3 : W.cell? ⟨w.heap.size, 3, none⟩ = some (I (x.b 1)) := by rw [cell_of_row _ _ _ _ _ _ r0]; rfl
  have y4 : W.cell? ⟨w.heap.size, 4, none⟩ = some (I (x.b 2)) := by rw [cell_of_row _ _ _ _ _ _ r0]; rfl
  have y5 : W.cell? ⟨w.heap.size, 5, none⟩ = some (I (x.b 3)) := by rw [cell_of_row _ _ _ _ _ _ r0]; rfl
  have y6 : W.cell? ⟨w.heap.size, 6, none⟩ = some (I (x.b 4)) := by rw [cell_of_row _ _ _ _ _ _ r0]; rfl
  have y7 : W.cell? ⟨w.heap.size, 7, none⟩ = some (I (x.b 5)) := by rw [cell_of_row _ _ _ _ _ _ r0]; rfl
  have HW := Lib.hid hW
  clear hW
  obtain ⟨l0, l1⟩ := hGW.l3
  rw [hk] at y0
  have ba := fun W' => areBounds_any x.b 1000000000000 W'
  have Hba := Lib.hid ba
  have bw := fun (w : World) => within_any x.ms 1 1000000000 w
  have Hbw := Lib.hid bw
  have dk : wiB 3 1 4 = true := by decide
  obtain ⟨bb, hbb⟩ : ∃ bb, bdB x.b 1000000000000 = bb := ⟨_, rfl⟩
  obtain ⟨wb, hwb⟩ : ∃ wb, wiB x.ms 1 1000000000 = wb := ⟨_, rfl⟩
  obtain ⟨zb, hzb⟩ : ∃ zb, (x.ms == 0) = zb := ⟨_, rfl⟩
  rw [hbb] at Hba ⊢
  rw [hwb] at Hbw
  rw [hzb]
  have hk1 := Lib.hid (show (stpArr x) = #[.int .u8 3, I x.ms, I (x.b 0), I (x.b 1), I (x.b 2), I (x.b 3), I (x.b 4), I (x.b 5)] by simp [hk])
  clear r0 ba bw hG hGW hbb hwb hk
  have HBW := hB.out.size
  go_enter Tryd.func41, Tryd.ntmps41
  go_upto_region 1 with (fail)
  rw [← HW.out]
  go_wp2_with fail
  refine (within_any 3 1 4 W).mono ?_
  rintro e w1 ⟨rfl, rfl⟩
  rw [dk]
  go_upto_region 4 with (fail)
  obtain ⟨V, hV⟩ : ∃ V, V = W.alloc (.cells #[.int .i64 1000000000000, .bool false] 136) := ⟨_, rfl⟩
  rw [← hV]
  have hWV : Below W.heap.size W V := by rw [hV]; exact (Below.refl _ _).alloc (Nat.le_refl _) _
  have hlt : w.heap.size < W.heap.size := by rw [HW.out]; simp
  have v0 : V.heap[W.heap.size]? = some (.cells #[.int .i64 1000000000000, .bool false] 136 (0, 0)) := by rw [hV]; exact heap_last _ _ _ rfl
  have u0 : V.cell? ⟨W.heap.size, 0, none⟩ = some (I 1000000000000) := by rw [cell_of_row _ _ _ _ _ _ v0]; rfl
  have u1 : V.cell? ⟨W.heap.size, 1, none⟩ = some (.bool false) := by rw [cell_of_row _ _ _ _ _ _ v0]; rfl
  have y0 := (hWV.cell (p := ⟨w.heap.size, 0, none⟩) hlt).trans y0
  have y1 := (hWV.cell (p := ⟨w.heap.size, 1, none⟩) hlt).trans y1
  have y2 := (hWV.cell (p := ⟨w.heap.size, 2, none⟩) hlt).trans y2
  have y3 := (hWV.cell (p := ⟨w.heap.size, 3, none⟩) hlt).trans y3
  have y4 := (hWV.cell (p := ⟨w.heap.size, 4, none⟩) hlt).trans y4
  have y5 := (hWV.cell (p := ⟨w.heap.size, 5, none⟩) hlt).trans y5
  have y6 := (hWV.cell (p := ⟨w.heap.size, 6, none⟩) hlt).trans y6
  have y7 := (hWV.cell (p := ⟨w.heap.size, 7, none⟩) hlt).trans y7
  have HBV : Hid (Below w.heap.size w V ∧ w.heap.size ≤ V.heap.size) := ⟨hB.out.trans (hWV.mono HBW), Nat.le_trans HBW hWV.size⟩
  have HS : Hid (∀ w1, Below V.heap.size V w1 → Below w.heap.size w w1) := fun w1 hb1 => HBV.out.1.trans (hb1.mono HBV.out.2)
  clear hV hWV hlt v0 l0 l1 hB HBW
  rcases zb with _ | _
  · go_wp2_with fail
    go_ret
    exact ⟨by simp, HBV.out.1⟩
  · go_wp2_with fail
    refine (Hbw.out _).mono ?_
    rintro e w1 ⟨rfl, rfl⟩
    rcases wb with _ | _
    · go_wp2_with fail
      refine (Hba.out _).mono ?_
      rintro e w1 ⟨rfl, hb1⟩
      have hfin := Lib.hid (HS.out _ hb1)
      clear hb1
      go_wp2_with fail
      go_ret
      exact ⟨by simp, hfin.out⟩
    · go_wp2_with fail
      refine (Hba.out _).mono ?_
      rintro e w1 ⟨rfl, hb1⟩
      have hfin := Lib.hid (HS.out _ hb1)
      clear hb1
      go_wp2_with fail
      go_ret
      exact ⟨by simp, hfin.out⟩
set_option maxHeartbeats 1000000 in
theorem isStep_4 (x : Stp) (w : World) (hG : Glob w) (hk : x.kd = 4) :
    Calls Tryd.prog 41 #[.agg (stpArr x)] w fun e w' => e = .returned (.bool ((x.ms == 0) && bdB x.b 10000)) ∧ Below w.heap.size w w' := by
  obtain ⟨W, hW⟩ : ∃ W, W = w.alloc (.cells (stpArr x) 58) := ⟨_, rfl⟩
  have hB : Hid (Below w.heap.size w W) := by show Below _ _ _; rw [hW]; exact (Below.refl _ _).alloc (Nat.le_refl _) _
  have hGW := hG.below hB.out
  have r0 : W.heap[w.heap.size]? = some (.cells (stpArr x) 58 (0, 0)) := by rw [hW]; exact heap_last _ _ _ rfl
  have y0 : W.cell? ⟨w.heap.size, 0, none⟩ = some (.int .u8 x.kd) := by rw [cell_of_row _ _ _ _ _ _ r0]; rfl
  have y1 : W.cell? ⟨w.heap.size, 1, none⟩ = some (I (x.ms)) := by rw [cell_of_row _ _ _ _ _ _ r0]; rfl
  have y2 : W.cell? ⟨w.heap.size, 2, none⟩ = some (I (x.b 0)) := by rw [cell_of_row _ _ _ _ _ _ r0]; rfl
  have y3 : W.cell? ⟨w.heap.size, 3, none⟩ = some (I (x.b 1)) := by rw [cell_of_row _ _ _ _ _ _ r0]; rfl
  have y4 : W.cell? ⟨w.heap.size, 4, none⟩ = some (I (x.b 2)) := by rw [cell_of_row _ _ _ _ _ _ r0]; rfl
  have y5 : W.cell? ⟨w.heap.size, 5, none⟩ = some (I (x.b 3)) := by rw [cell_of_row _ _ _ _ _ _ r0]; rfl
  have y6 : W.cell? ⟨w.heap.size, 6, none⟩ = some (I (x.b 4)) := by rw [cell_of_row _ _ _ _ _ _ r0]; rfl
  have y7 : W.cell? ⟨w.heap.size, 7, none⟩ = some (I (x.b 5)) := by rw [cell_of_row _ _ _ _ _ _ r0]; rfl
  have HW := Lib.hid hW
  clear hW
  obtain ⟨l0, l1⟩ := hGW.l4
  rw [hk] at y0
  have ba := fun W' => areBounds_any x.b 10000 W'
  have Hba := Lib.hid ba
  have bw := fun (w : World) => within_any x.ms 1 1000000000 w
  have Hbw := Lib.hid bw
  have dk : wiB 4 1 4 = true := by decide
  obtain ⟨bb, hbb⟩ : ∃ bb, bdB x.b 10000 = bb := ⟨_, rfl⟩
  obtain ⟨wb, hwb⟩ : ∃ wb, wiB x.ms 1 1000000000 = wb := ⟨_, rfl⟩
  obtain ⟨zb, hzb⟩ : ∃ zb, (x.ms == 0) = zb := ⟨_, rfl⟩
  rw [hbb] at Hba ⊢
  rw [hwb] at Hbw
  rw [hzb]
  have hk1 := Lib.hid (show (stpArr x) = #[.int .u8 4, I x.ms, I (x.b 0), I (x.b 1), I (x.b 2), I (x.b 3), I (x.b 4), I (x.b 5)] by simp [hk])
  clear r0 ba bw hG hGW hbb hwb hk
  have HBW := hB.out.size
  go_enter Tryd.func41, Tryd.ntmps41
  go_upto_region 1 with (fail)
  rw [← HW.out]
  go_wp2_with fail
  refine (within_any 4 1 4 W).mono ?_
  rintro e w1 ⟨rfl, rfl⟩
  rw [dk]
  go_upto_region 4 with (fail)
  obtain ⟨V, hV⟩ : ∃ V, V = W.alloc (.cells #[.int .i64 10000, .bool false] 136) := ⟨_, rfl⟩
  rw [← hV]
  have hWV : Below W.heap.size W V := by rw [hV]; exact (Below.refl _ _).alloc (Nat.le_refl _) _
  have hlt : w.heap.size < W.heap.size := by rw [HW.out]; simp
  have v0 : V.heap[W.heap.size]? = some (.cells #[.int .i64 10000, .bool false] 136 (0, 0)) := by rw [hV]; exact heap_last _ _ _ rfl
  have u0 : V.cell? ⟨W.heap.size, 0, none⟩ = some (I 10000) := by rw [cell_of_row _ _ _ _ _ _ v0]; rfl
  have u1 : V.cell? ⟨W.heap.size, 1, none⟩ = some (.bool false) := by rw [cell_of_row _ _ _ _ _ _ v0]; rfl
  have y0 := (hWV.cell (p := ⟨w.heap.size, 0, none⟩) hlt).trans y0
  have y1 := (hWV.cell (p := ⟨w.heap.size, 1, none⟩) hlt).trans y1
  have y2 := (hWV.cell (p := ⟨w.heap.size, 2, none⟩) hlt).trans y2
  have y3 := (hWV.cell (p := ⟨w.heap.size, 3, none⟩) hlt).trans y3
  have y4 := (hWV.cell (p := ⟨w.heap.size, 4, none⟩) hlt).trans y4
  have y5 := (hWV.cell (p := ⟨w.heap.size, 5, none⟩) hlt).trans y5
  have y6 := (hWV.cell (p := ⟨w.heap.size, 6, none⟩) hlt).trans y6
  have y7 := (hWV.cell (p := ⟨w.heap.size, 7, none⟩) hlt).trans y7
  have HBV : Hid (Below w.heap.size w V ∧ w.heap.size ≤ V.heap.size) := ⟨hB.out.trans (hWV.mono HBW), Nat.le_trans HBW hWV.size⟩
  have HS : Hid (∀ w1, Below V.heap.size V w1 → Below w.heap.size w w1) := fun w1 hb1 => HBV.out.1.trans (hb1.mono HBV.out.2)
  clear hV hWV hlt v0 l0 l1 hB HBW
  rcases zb with _ | _
  · go_wp2_with fail
    go_ret
    exact ⟨by simp, HBV.out.1⟩
  · go_wp2_with fail
    refine (Hbw.out _).mono ?_
    rintro e w1 ⟨rfl, rfl⟩
    rcases wb with _ | _
    · go_wp2_with fail
      refine (Hba.out _).mono ?_
      rintro e w1 ⟨rfl, hb1⟩
      have hfin := Lib.hid (HS.out _ hb1)
      clear hb1
      go_wp2_with fail
      go_ret
      exact ⟨by simp, hfin.out⟩
    · go_wp2_with fail
      refine (Hba.out _).mono ?_
      rintro e w1 ⟨rfl, hb1⟩
      have hfin := Lib.hid (HS.out _ hb1)
      clear hb1
      go_wp2_with fail
      go_ret
      exact ⟨by simp, hfin.out⟩
set_option maxHeartbeats 1000000 in
theorem isStep_any (x : Stp) (w : World) (hG : Glob w) (hk : 0 ≤ x.kd ∧ x.kd ≤ 255) : Calls Tryd.prog 41 #[.agg (stpArr x)] w fun e w' => e = .returned (.bool (isS x)) ∧ Below w.heap.size w w' := by
  unfold isS
  by_cases h1 : x.kd = 1
  · rw [if_pos h1]; exact isStep_1 x w hG h1
  rw [if_neg h1]
  by_cases h2 : x.kd = 2
  · rw [if_pos h2]; exact isStep_2 x w hG h2
  rw [if_neg h2]
  by_cases h3 : x.kd = 3
  · rw [if_pos h3]; exact isStep_3 x w hG h3
  rw [if_neg h3]
  by_cases h4 : x.kd = 4
  · rw [if_pos h4]; exact isStep_4 x w hG h4
  rw [if_neg h4]
  have dk : wiB x.kd 1 4 = false := by
    unfold wiB
    rw [Bool.and_eq_false_iff, decide_eq_false_iff_not, decide_eq_false_iff_not]
    omega
  have wk : IntKind.i64.wrap x.kd = x.kd := IntWalk.i64_in _ (by omega)
  obtain ⟨W, hW⟩ : ∃ W, W = w.alloc (.cells (stpArr x) 58) := ⟨_, rfl⟩
  have hB : Hid (Below w.heap.size w W) := by show Below _ _ _; rw [hW]; exact (Below.refl _ _).alloc (Nat.le_refl _) _
  have r0 : W.heap[w.heap.size]? = some (.cells (stpArr x) 58 (0, 0)) := by rw [hW]; exact heap_last _ _ _ rfl
  have y0 : W.cell? ⟨w.heap.size, 0, none⟩ = some (.int .u8 x.kd) := by rw [cell_of_row _ _ _ _ _ _ r0]; rfl
  have HW := Lib.hid hW
  clear hW r0 h1 h2 h3 h4 hG
  go_enter Tryd.func41, Tryd.ntmps41
  go_upto_region 1 with (fail)
  rw [← HW.out]
  go_wp2_with fail
  refine (within_any x.kd 1 4 W).mono ?_
  rintro e w1 ⟨rfl, rfl⟩
  rw [dk]
  go_wp2_with fail
  go_ret
  exact ⟨rfl, hB.out⟩
end Go.Proofs.YtfifdfagikbahaaDoor
