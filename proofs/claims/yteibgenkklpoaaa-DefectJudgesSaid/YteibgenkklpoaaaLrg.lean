/- The laws DefectRegions and DefectJudges: their walks. -/
import Derived.Test.YteibgenkklpoaaaDn2
import Derived.Test.YteibgenkklpoaaaDb
namespace Go.Proofs.Yteibgenkklpoaaa.Un
open Go.RowKit
set_option maxRecDepth 100000 in
set_option maxHeartbeats 4000000 in
theorem defectRegions_any (m : Mdl) (r g : Rng) (w : World) : Calls Try.prog 3 #[.agg (mdA m), r.val, g.val] w fun e w' => e = .returned (.bool true) ∧ Below w.heap.size w w' := by
  have KN := Lib.hid known_any
  have C1 := Lib.hid fun V => checkModel_any m V
  have C2 := Lib.hid fun V => regionsX_any m r g V
  have C3 := Lib.hid fun V => refModel_any m V
  have C4 := Lib.hid fun V => refRate_any r V
  have C5 := Lib.hid fun V => refGrad_any g V
  have C6 : Hid (okMdl m = true → spanB r 0 1000000 = true → spanB g 1 1000000 = true → ∀ V, Calls Try.prog 17 #[.agg (mdA m), r.val, g.val] V fun e w' => e = .returned (.int .u8 (regK (posB m r g) 5)) ∧ Below V.heap.size V w') := fun h1 h2 h3 V => refRegions_any m r g ⟨h1, h2, h3⟩ V
  have hf : Hid (rgsF m r g = if okMdl m && (spanB r 0 1000000 && spanB g 1 1000000) then (regK (posB m r g) 5, 0) else (0, 2)) := rfl
  obtain ⟨rl, rh⟩ := r
  obtain ⟨gl, gh⟩ := g
  obtain ⟨W, hW⟩ : ∃ W, W = (((w.alloc (.cells #[I m.sc, I (m.b 0).lo, I (m.b 0).hi, I (m.b 1).lo, I (m.b 1).hi, I (m.b 2).lo, I (m.b 2).hi, I (m.b 3).lo, I (m.b 3).hi] 26)).alloc (.cells #[I rl, I rh] 23)).alloc (.cells #[I gl, I gh] 23)) := ⟨_, rfl⟩
  have rowW0 : W.heap[w.heap.size]? = some (.cells #[I m.sc, I (m.b 0).lo, I (m.b 0).hi, I (m.b 1).lo, I (m.b 1).hi, I (m.b 2).lo, I (m.b 2).hi, I (m.b 3).lo, I (m.b 3).hi] 26 (0, 0)) := by rw [hW]; exact heap_before (heap_before (heap_last _ _ _ rfl))
  have yW00 := ovr_cell (W := W) (b := w.heap.size) (o := 0) (v := I m.sc) (by rw [cell_of_row _ _ _ _ _ _ rowW0]; rfl)
  have yW01 := ovr_cell (W := W) (b := w.heap.size) (o := 1) (v := I (m.b 0).lo) (by rw [cell_of_row _ _ _ _ _ _ rowW0]; rfl)
  have yW02 := ovr_cell (W := W) (b := w.heap.size) (o := 2) (v := I (m.b 0).hi) (by rw [cell_of_row _ _ _ _ _ _ rowW0]; rfl)
  have yW03 := ovr_cell (W := W) (b := w.heap.size) (o := 3) (v := I (m.b 1).lo) (by rw [cell_of_row _ _ _ _ _ _ rowW0]; rfl)
  have yW04 := ovr_cell (W := W) (b := w.heap.size) (o := 4) (v := I (m.b 1).hi) (by rw [cell_of_row _ _ _ _ _ _ rowW0]; rfl)
  have yW05 := ovr_cell (W := W) (b := w.heap.size) (o := 5) (v := I (m.b 2).lo) (by rw [cell_of_row _ _ _ _ _ _ rowW0]; rfl)
  have yW06 := ovr_cell (W := W) (b := w.heap.size) (o := 6) (v := I (m.b 2).hi) (by rw [cell_of_row _ _ _ _ _ _ rowW0]; rfl)
  have yW07 := ovr_cell (W := W) (b := w.heap.size) (o := 7) (v := I (m.b 3).lo) (by rw [cell_of_row _ _ _ _ _ _ rowW0]; rfl)
  have yW08 := ovr_cell (W := W) (b := w.heap.size) (o := 8) (v := I (m.b 3).hi) (by rw [cell_of_row _ _ _ _ _ _ rowW0]; rfl)
  have RrowW0 := Lib.hid (ovr_row rowW0)
  clear rowW0
  have rowW1 : W.heap[w.heap.size + 1]? = some (.cells #[I rl, I rh] 23 (0, 0)) := by rw [hW]; exact heap_before (heap_last _ _ _ (by simp))
  have yW10 := ovr_cell (W := W) (b := w.heap.size + 1) (o := 0) (v := I rl) (by rw [cell_of_row _ _ _ _ _ _ rowW1]; rfl)
  have yW11 := ovr_cell (W := W) (b := w.heap.size + 1) (o := 1) (v := I rh) (by rw [cell_of_row _ _ _ _ _ _ rowW1]; rfl)
  have RrowW1 := Lib.hid (ovr_row rowW1)
  clear rowW1
  have rowW2 : W.heap[w.heap.size + 1 + 1]? = some (.cells #[I gl, I gh] 23 (0, 0)) := by rw [hW]; exact heap_last _ _ _ (by simp)
  have yW20 := ovr_cell (W := W) (b := w.heap.size + 1 + 1) (o := 0) (v := I gl) (by rw [cell_of_row _ _ _ _ _ _ rowW2]; rfl)
  have yW21 := ovr_cell (W := W) (b := w.heap.size + 1 + 1) (o := 1) (v := I gh) (by rw [cell_of_row _ _ _ _ _ _ rowW2]; rfl)
  have RrowW2 := Lib.hid (ovr_row rowW2)
  clear rowW2
  have HUW : Hid (∀ u, Below w.heap.size w (ovr W u)) := U3 hW
  have HW := Lib.hid hW
  clear hW
  go_enter Try.func3, Try.ntmps3
  go_upto_region 1 with (fail)
  rw [← HW.out]
  obtain ⟨u0, hu0⟩ := ovr_self W
  rw [hu0]
  clear hu0
  rcases h1 : okMdl m with _ | _ <;> rw [h1] at C1 C3 C6 hf
  · rw [erA_f] at C1
    have C2' : Hid (∀ V, Calls Try.prog 12 #[.agg (mdA m), .agg #[I rl, I rh], .agg #[I gl, I gh]] V fun e w' => e = .returned (.tuple #[.int .u8 0, I 2]) ∧ Below V.heap.size V w') := fun V => by have := C2.out V; rw [hf.out] at this; exact this
    clear C2
    go_wp2_with fail
    refine (C1.out _).mono ?_
    rintro e w1 ⟨rfl, hb1⟩
    obtain ⟨u1, rfl⟩ := ovr_next hb1
    clear hb1
    go_wp2_with fail
    refine (C2'.out _).mono ?_
    rintro e w1 ⟨rfl, hb1⟩
    obtain ⟨u2, rfl⟩ := ovr_next hb1
    clear hb1
    go_wp2_with fail
    refine (C3.out _).mono ?_
    rintro e w1 ⟨rfl, hb1⟩
    obtain ⟨u3, rfl⟩ := ovr_next hb1
    clear hb1
    go_wp2_with fail
    refine (C3.out _).mono ?_
    rintro e w1 ⟨rfl, hb1⟩
    obtain ⟨u4, rfl⟩ := ovr_next hb1
    clear hb1
    go_wp2_with fail
    refine (KN.out _).mono ?_
    rintro e w1 ⟨rfl, hb1⟩
    obtain ⟨uk, rfl⟩ := ovr_next hb1
    clear hb1
    go_wp2_with fail
    go_ret
    exact ⟨rfl, HUW.out _⟩
  rw [erA_t] at C1
  rcases h2 : spanB ⟨rl, rh⟩ 0 1000000 with _ | _ <;> rw [h2] at C4 C6 hf
  · have C2' : Hid (∀ V, Calls Try.prog 12 #[.agg (mdA m), .agg #[I rl, I rh], .agg #[I gl, I gh]] V fun e w' => e = .returned (.tuple #[.int .u8 0, I 2]) ∧ Below V.heap.size V w') := fun V => by have := C2.out V; rw [hf.out] at this; exact this
    clear C2
    go_wp2_with fail
    refine (C1.out _).mono ?_
    rintro e w1 ⟨rfl, hb1⟩
    obtain ⟨u1, rfl⟩ := ovr_next hb1
    clear hb1
    go_wp2_with fail
    refine (C2'.out _).mono ?_
    rintro e w1 ⟨rfl, hb1⟩
    obtain ⟨u2, rfl⟩ := ovr_next hb1
    clear hb1
    go_wp2_with fail
    refine (C3.out _).mono ?_
    rintro e w1 ⟨rfl, hb1⟩
    obtain ⟨u3, rfl⟩ := ovr_next hb1
    clear hb1
    go_wp2_with fail
    refine (C3.out _).mono ?_
    rintro e w1 ⟨rfl, hb1⟩
    obtain ⟨u4, rfl⟩ := ovr_next hb1
    clear hb1
    go_wp2_with fail
    refine (C4.out _).mono ?_
    rintro e w1 ⟨rfl, hb1⟩
    obtain ⟨u5, rfl⟩ := ovr_next hb1
    clear hb1
    go_wp2_with fail
    refine (KN.out _).mono ?_
    rintro e w1 ⟨rfl, hb1⟩
    obtain ⟨uk, rfl⟩ := ovr_next hb1
    clear hb1
    go_wp2_with fail
    go_ret
    exact ⟨rfl, HUW.out _⟩
  rcases h3 : spanB ⟨gl, gh⟩ 1 1000000 with _ | _ <;> rw [h3] at C5 C6 hf
  · have C2' : Hid (∀ V, Calls Try.prog 12 #[.agg (mdA m), .agg #[I rl, I rh], .agg #[I gl, I gh]] V fun e w' => e = .returned (.tuple #[.int .u8 0, I 2]) ∧ Below V.heap.size V w') := fun V => by have := C2.out V; rw [hf.out] at this; exact this
    clear C2
    go_wp2_with fail
    refine (C1.out _).mono ?_
    rintro e w1 ⟨rfl, hb1⟩
    obtain ⟨u1, rfl⟩ := ovr_next hb1
    clear hb1
    go_wp2_with fail
    refine (C2'.out _).mono ?_
    rintro e w1 ⟨rfl, hb1⟩
    obtain ⟨u2, rfl⟩ := ovr_next hb1
    clear hb1
    go_wp2_with fail
    refine (C3.out _).mono ?_
    rintro e w1 ⟨rfl, hb1⟩
    obtain ⟨u3, rfl⟩ := ovr_next hb1
    clear hb1
    go_wp2_with fail
    refine (C3.out _).mono ?_
    rintro e w1 ⟨rfl, hb1⟩
    obtain ⟨u4, rfl⟩ := ovr_next hb1
    clear hb1
    go_wp2_with fail
    refine (C4.out _).mono ?_
    rintro e w1 ⟨rfl, hb1⟩
    obtain ⟨u5, rfl⟩ := ovr_next hb1
    clear hb1
    go_wp2_with fail
    refine (C5.out _).mono ?_
    rintro e w1 ⟨rfl, hb1⟩
    obtain ⟨u6, rfl⟩ := ovr_next hb1
    clear hb1
    go_wp2_with fail
    refine (KN.out _).mono ?_
    rintro e w1 ⟨rfl, hb1⟩
    obtain ⟨uk, rfl⟩ := ovr_next hb1
    clear hb1
    go_wp2_with fail
    go_ret
    exact ⟨rfl, HUW.out _⟩
  obtain ⟨q, hq⟩ : ∃ q, regK (posB m ⟨rl, rh⟩ ⟨gl, gh⟩) 5 = q := ⟨_, rfl⟩
  rw [hq] at C6 hf
  have C2' : Hid (∀ V, Calls Try.prog 12 #[.agg (mdA m), .agg #[I rl, I rh], .agg #[I gl, I gh]] V fun e w' => e = .returned (.tuple #[.int .u8 q, I 0]) ∧ Below V.heap.size V w') := fun V => by have := C2.out V; rw [hf.out] at this; exact this
  have C6' := Lib.hid (C6.out rfl rfl rfl)
  clear C2 C6 hq
  go_wp2_with fail
  refine (C1.out _).mono ?_
  rintro e w1 ⟨rfl, hb1⟩
  obtain ⟨u1, rfl⟩ := ovr_next hb1
  clear hb1
  go_wp2_with fail
  refine (C2'.out _).mono ?_
  rintro e w1 ⟨rfl, hb1⟩
  obtain ⟨u2, rfl⟩ := ovr_next hb1
  clear hb1
  go_wp2_with fail
  refine (C3.out _).mono ?_
  rintro e w1 ⟨rfl, hb1⟩
  obtain ⟨u3, rfl⟩ := ovr_next hb1
  clear hb1
  go_wp2_with fail
  refine (C3.out _).mono ?_
  rintro e w1 ⟨rfl, hb1⟩
  obtain ⟨u4, rfl⟩ := ovr_next hb1
  clear hb1
  go_wp2_with fail
  refine (C4.out _).mono ?_
  rintro e w1 ⟨rfl, hb1⟩
  obtain ⟨u5, rfl⟩ := ovr_next hb1
  clear hb1
  go_wp2_with fail
  refine (C5.out _).mono ?_
  rintro e w1 ⟨rfl, hb1⟩
  obtain ⟨u6, rfl⟩ := ovr_next hb1
  clear hb1
  go_wp2_with fail
  refine (C6'.out _).mono ?_
  rintro e w1 ⟨rfl, hb1⟩
  obtain ⟨u7, rfl⟩ := ovr_next hb1
  clear hb1
  go_wp2_with fail
  refine (KN.out _).mono ?_
  rintro e w1 ⟨rfl, hb1⟩
  obtain ⟨uk, rfl⟩ := ovr_next hb1
  clear hb1
  go_wp2_with fail
  go_ret
  exact ⟨rfl, HUW.out _⟩
set_option maxRecDepth 100000 in
set_option maxHeartbeats 4000000 in
theorem defectJudges_any (c v : Int) (w : World) (hc : 0 ≤ c ∧ c ≤ 255) (hv : 0 ≤ v ∧ v ≤ 255) : Calls Try.prog 7 #[.int .u8 c, .int .u8 v] w fun e w' => e = .returned (.bool true) ∧ Below w.heap.size w w' := by
  have KN := Lib.hid known_any
  have C1 := Lib.hid fun V => judge_any c v V
  have C2 := Lib.hid fun V => refJudge_any c v V
  rw [jr_eq hc.1 hv.1] at C2
  obtain ⟨⟨p, q⟩, hpq⟩ : ∃ x, jdF c v = x := ⟨_, rfl⟩
  rw [hpq] at C1 C2
  clear hpq hc hv
  go_enter Try.func7, Try.ntmps7
  go_wp2_with fail
  refine (C1.out _).mono ?_
  rintro e w1 ⟨rfl, hb⟩
  have B1 := Lib.hid hb
  clear hb
  go_wp2_with fail
  refine (C2.out _).mono ?_
  rintro e w2 ⟨rfl, hb⟩
  have B2 := Lib.hid (B1.out.trans (hb.mono B1.out.size))
  clear hb
  go_wp2_with fail
  refine (KN.out _).mono ?_
  rintro e w3 ⟨rfl, hb⟩
  have B3 := Lib.hid (B2.out.trans (hb.mono B2.out.size))
  clear hb
  go_wp2_with fail
  go_ret
  exact ⟨rfl, B3.out⟩
end Go.Proofs.Yteibgenkklpoaaa.Un
