/- The law's helpers place and region. -/
import Derived.Test.YteibgenkklpoaaaDt1
import Derived.Test.YteibgenkklpoaaaU3
namespace Go.Proofs.Yteibgenkklpoaaa.Un
open Go.RowKit
theorem below_self0' {w Y : World} (h : ∀ u, Below w.heap.size w (ovr Y u)) : Below w.heap.size w Y := by
  obtain ⟨v, hv⟩ := ovr_self Y
  have := h v
  rwa [← hv] at this
set_option maxRecDepth 100000 in
set_option maxHeartbeats 2000000 in
theorem place_any (r : Rng) (b : Int) (hb : 0 ≤ b ∧ b ≤ 65535) (w : World) : Calls Try.prog 22 #[r.val, .int .u16 b] w fun e w' => e = .returned (I (plF r b)) ∧ Below w.heap.size w w' := by
  obtain ⟨lo, hi⟩ := r
  have hf : Hid (plF ⟨lo, hi⟩ b = if hi ≤ lo ∨ lo < 0 ∨ 1000000000000000 < hi then lo else lo + b.tmod (hi - lo + 1)) := rfl
  obtain ⟨W, hW⟩ : ∃ W, W = (w.alloc (.cells #[I lo, I hi] 23)) := ⟨_, rfl⟩
  have rowW0 : W.heap[w.heap.size]? = some (.cells #[I lo, I hi] 23 (0, 0)) := by rw [hW]; exact heap_last _ _ _ rfl
  have yW00 := ovr_cell (W := W) (b := w.heap.size) (o := 0) (v := I lo) (by rw [cell_of_row _ _ _ _ _ _ rowW0]; rfl)
  have yW01 := ovr_cell (W := W) (b := w.heap.size) (o := 1) (v := I hi) (by rw [cell_of_row _ _ _ _ _ _ rowW0]; rfl)
  have RrowW0 := Lib.hid (ovr_row rowW0)
  clear rowW0
  have HUW : Hid (∀ u, Below w.heap.size w (ovr W u)) := U1 hW
  have HW := Lib.hid hW
  clear hW
  by_cases h1 : hi ≤ lo
  · rw [if_pos (.inl h1)] at hf
    go_enter Try.func22, Try.ntmps22
    go_upto_region 1 with (fail)
    rw [← HW.out]
    obtain ⟨u0, hu0⟩ := ovr_self W
    rw [hu0]
    clear hu0
    go_wp2_with fail
    go_ret
    exact ⟨by rw [hf.out]; rfl, HUW.out _⟩
  by_cases h2 : lo < 0
  · rw [if_pos (.inr (.inl h2))] at hf
    go_enter Try.func22, Try.ntmps22
    go_upto_region 1 with (fail)
    rw [← HW.out]
    obtain ⟨u0, hu0⟩ := ovr_self W
    rw [hu0]
    clear hu0
    go_wp2_with fail
    go_ret
    exact ⟨by rw [hf.out]; rfl, HUW.out _⟩
  by_cases h3 : 1000000000000000 < hi
  · rw [if_pos (.inr (.inr h3))] at hf
    go_enter Try.func22, Try.ntmps22
    go_upto_region 1 with (fail)
    rw [← HW.out]
    obtain ⟨u0, hu0⟩ := ovr_self W
    rw [hu0]
    clear hu0
    go_wp2_with fail
    go_ret
    exact ⟨by rw [hf.out]; rfl, HUW.out _⟩
  rw [if_neg (by omega)] at hf
  have k1 : IntKind.i64.wrap (hi - lo) = hi - lo := IntWalk.i64_in _ (by omega)
  have k2 : IntKind.i64.wrap (hi - lo + 1) = hi - lo + 1 := IntWalk.i64_in _ (by omega)
  have nz : ¬ hi - lo + 1 = 0 := by omega
  have hm1 := Int.emod_nonneg b (show hi - lo + 1 ≠ 0 by omega)
  have hm2 := Int.emod_lt_of_pos b (show 0 < hi - lo + 1 by omega)
  have hm3 : b.tmod (hi - lo + 1) = b % (hi - lo + 1) := Int.tmod_eq_emod_of_nonneg hb.1
  rw [hm3] at hf
  have k4 : IntKind.i64.wrap (lo + b % (hi - lo + 1)) = lo + b % (hi - lo + 1) := IntWalk.i64_in _ (by omega)
  clear hm1 hm2 hm3
  go_enter Try.func22, Try.ntmps22
  go_upto_region 1 with (fail)
  rw [← HW.out]
  obtain ⟨uw, hw0⟩ := ovr_self W
  have x0 := yW00 uw
  have x1 := yW01 uw
  rw [← hw0] at x0 x1
  clear hw0
  go_upto_region 3 with fail
  refine wp_region_below_lit (by kernel_rfl) (by kernel_rfl) ?_
  repeat (go_big_quiet_step (fail))
  refine wpQuiet_nil ?_
  intro V2 hb2
  have HB2 : Hid (Below w.heap.size w V2) := (below_self0' HUW.out).trans (hb2.mono (below_self0' HUW.out).size)
  clear hb2
  go_wp2_with fail
  go_ret
  exact ⟨by rw [hf.out]; rfl, HB2.out⟩
/-- A truth: four borders, a rate, a gradient, each by a number. -/
abbrev ttA (t : Nat → Int) (r g : Int) : Array Value := #[.int .u16 (t 0), .int .u16 (t 1), .int .u16 (t 2), .int .u16 (t 3), .int .u16 r, .int .u16 g]
structure TtOk (t : Nat → Int) (r g : Int) : Prop where
  t : ∀ i, 0 ≤ t i ∧ t i ≤ 65535
  r : 0 ≤ r ∧ r ≤ 65535
  g : 0 ≤ g ∧ g ≤ 65535
theorem rgK_bd {m : Mdl} (hm : okMdl m = true) {t : Nat → Int} (ht : ∀ i, 0 ≤ t i) (v g : Int) : ∀ i, i ≤ 4 → 0 ≤ (rgK m t v g i).1 ∧ (rgK m t v g i).1 ≤ i ∧ 0 ≤ (rgK m t v g i).2 ∧ (rgK m t v g i).2 ≤ 1000000
  | 0, _ => ⟨Int.le_refl _, Int.le_refl _, Int.le_refl _, by show (0 : Int) ≤ _; omega⟩
  | i + 1, hi => by
    obtain ⟨h1, h2, h3, h4⟩ := rgK_bd hm ht v g i (by omega)
    have hb := bdM_bd hm (show i < 4 by omega)
    have hp := plF_in (ht i) hb.2.1
    unfold rgK
    simp only
    refine ⟨?_, ?_, by omega, by omega⟩
    · split <;> omega
    · split <;> omega
set_option maxRecDepth 100000 in
set_option maxHeartbeats 4000000 in
theorem region_any (m : Mdl) (hm : okMdl m = true) (t : Nat → Int) (tr tg : Int) (ht : TtOk t tr tg) (v g : Int) (hv : 0 ≤ v ∧ v ≤ 1000000) (hg : 1 ≤ g ∧ g ≤ 1000000) (w : World) : Calls Try.prog 25 #[.agg (mdA m), .agg (ttA t tr tg), I v, I g] w fun e w' => e = .returned (I (rgK m t v g 4).1) ∧ Below w.heap.size w w' := by
  have CP : Hid (∀ i, ∀ V, Calls Try.prog 22 #[.agg #[I (m.b i).lo, I (m.b i).hi], .int .u16 (t i)] V fun e w' => e = .returned (I (plF (m.b i) (t i))) ∧ Below V.heap.size V w') := fun i V => place_any (m.b i) (t i) (ht.t i) V
  have BD : Hid (∀ i, i ≤ 4 → 0 ≤ (rgK m t v g i).1 ∧ (rgK m t v g i).1 ≤ i ∧ 0 ≤ (rgK m t v g i).2 ∧ (rgK m t v g i).2 ≤ 1000000) := rgK_bd hm (fun i => (ht.t i).1) v g
  have hs := okMdl_iff.1 hm
  have m1 := mul_bd (a := v) (b := m.sc) (A := 1000000) (B := 1000000) hv ⟨by omega, hs.2.1⟩
  have kv : IntKind.i64.wrap (v * m.sc) = v * m.sc := IntWalk.i64_in _ (by omega)
  have HG := Lib.hid hg
  clear hm ht hs m1 hv hg
  obtain ⟨W, hW⟩ : ∃ W, W = ((w.alloc (.cells #[I m.sc, I (m.b 0).lo, I (m.b 0).hi, I (m.b 1).lo, I (m.b 1).hi, I (m.b 2).lo, I (m.b 2).hi, I (m.b 3).lo, I (m.b 3).hi] 26)).alloc (.cells #[.int .u16 (t 0), .int .u16 (t 1), .int .u16 (t 2), .int .u16 (t 3), .int .u16 tr, .int .u16 tg] 47)) := ⟨_, rfl⟩
  have rowW0 : W.heap[w.heap.size]? = some (.cells #[I m.sc, I (m.b 0).lo, I (m.b 0).hi, I (m.b 1).lo, I (m.b 1).hi, I (m.b 2).lo, I (m.b 2).hi, I (m.b 3).lo, I (m.b 3).hi] 26 (0, 0)) := by rw [hW]; exact heap_before (heap_last _ _ _ rfl)
  have yW00 := ovr_cell (W := W) (b := w.heap.size) (o := 0) (v := I m.sc) (by rw [cell_of_row _ _ _ _ _ _ rowW0]; rfl)
  have yW01 := ovr_cell (W := W) (b := w.heap.size) (o := 1) (v := I (m.b 0).lo) (by rw [cell_of_row _ _ _ _ _ _ rowW0]; rfl)
  have yW02 := ovr_cell (W := W) (b := w.heap.size) (o := 2) (v := I (m.b 0).hi) (by rw [cell_of_row _ _ _ _ _ _ rowW0]; rfl)
  have yW03 := ovr_cell (W := W) (b := w.heap.size) (o := 3) (v := I (m.b 1).lo) (by rw [cell_of_row _ _ _ _ _ _ rowW0]; rfl)
  have yW04 := ovr_cell (W := W) (b := w.heap.size) (o := 4) (v := I (m.b 1).hi) (by rw [cell_of_row _ _ _ _ _ _ rowW0]; rfl)
  have yW05 := ovr_cell (W := W) (b := w.heap.size) (o := 5) (v := I (m.b 2).lo) (by rw [cell_of_row _ _ _ _ _ _ rowW0]; rfl)
  have yW06 := ovr_cell (W := W) (b := w.heap.size) (o := 6) (v := I (m.b 2).hi) (by rw [cell_of_row _ _ _ _ _ _ rowW0]; rfl)
  have yW07 := ovr_cell (W := W) (b := w.heap.size) (o := 7) (v := I (m.b 3).lo) (by rw [cell_of_row _ _ _ _ _ _ rowW0]; rfl)
  have yW08 := ovr_cell (W := W) (b := w.heap.size) (o := 8) (v := I (m.b 3).hi) (by rw [cell_of_row _ _ _ _ _ _ rowW0]; rfl)
  have RrowW0 := Lib.hid (ovr_row rowW0)
  clear rowW0
  have rowW1 : W.heap[w.heap.size + 1]? = some (.cells #[.int .u16 (t 0), .int .u16 (t 1), .int .u16 (t 2), .int .u16 (t 3), .int .u16 tr, .int .u16 tg] 47 (0, 0)) := by rw [hW]; exact heap_last _ _ _ (by simp)
  have yW10 := ovr_cell (W := W) (b := w.heap.size + 1) (o := 0) (v := .int .u16 (t 0)) (by rw [cell_of_row _ _ _ _ _ _ rowW1]; rfl)
  have yW11 := ovr_cell (W := W) (b := w.heap.size + 1) (o := 1) (v := .int .u16 (t 1)) (by rw [cell_of_row _ _ _ _ _ _ rowW1]; rfl)
  have yW12 := ovr_cell (W := W) (b := w.heap.size + 1) (o := 2) (v := .int .u16 (t 2)) (by rw [cell_of_row _ _ _ _ _ _ rowW1]; rfl)
  have yW13 := ovr_cell (W := W) (b := w.heap.size + 1) (o := 3) (v := .int .u16 (t 3)) (by rw [cell_of_row _ _ _ _ _ _ rowW1]; rfl)
  have yW14 := ovr_cell (W := W) (b := w.heap.size + 1) (o := 4) (v := .int .u16 tr) (by rw [cell_of_row _ _ _ _ _ _ rowW1]; rfl)
  have yW15 := ovr_cell (W := W) (b := w.heap.size + 1) (o := 5) (v := .int .u16 tg) (by rw [cell_of_row _ _ _ _ _ _ rowW1]; rfl)
  have RrowW1 := Lib.hid (ovr_row rowW1)
  clear rowW1
  have HUW : Hid (∀ u, Below w.heap.size w (ovr W u)) := U2 hW
  have HW := Lib.hid hW
  clear hW
  have HWB : Hid (Below w.heap.size w W) := below_self0' HUW.out
  go_enter Try.func25, Try.ntmps25
  go_upto_region 1 with (fail)
  rw [← HW.out]
  go_wp2_with fail
  go_loopw [9, 10, 11] (fun k l i wr => ∃ n : Nat, n ≤ 4 ∧ i = .int .i64 n ∧ k = I (rgK m t v g n).1 ∧ l = I (rgK m t v g n).2 ∧ Below W.heap.size W wr) (fun _ _ i _ => 4 - (intOf i).toNat)
  case atStart => exact ⟨0, by omega, rfl, rfl, rfl, Below.refl _ _⟩
  case round =>
    obtain ⟨n, hn, rfl, rfl, rfl, hb⟩ := hrel
    rename World => Y
    have HBY := Lib.hid hb
    rcases n with _ | _ | _ | _ | _ | n
    · skip
      have hst : Hid (rgK m t v g (0 + 1) = (if max (rgK m t v g 0).2 (plF (m.b 0) (t 0)) * g < v * m.sc then (rgK m t v g 0).1 + 1 else (rgK m t v g 0).1, max (rgK m t v g 0).2 (plF (m.b 0) (t 0)))) := rfl
      have b0 := BD.out 0 (by decide)
      have b1 := (BD.out (0 + 1) (by decide)).2.2
      have CPN := Lib.hid (CP.out 0)
      rw [hst.out] at b1
      obtain ⟨⟨kk, la⟩, hkl⟩ : ∃ q, rgK m t v g 0 = q := ⟨_, rfl⟩
      obtain ⟨pl, hpl⟩ : ∃ q, plF (m.b 0) (t 0) = q := ⟨_, rfl⟩
      rw [hkl, hpl] at hst
      rw [hkl] at b0
      rw [hkl, hpl] at b1
      rw [hpl] at CPN
      rw [hkl]
      simp only at b0 b1 hst
      have hg2 := HG.out
      have m2 := mul_bd (a := max la pl) (b := g) (A := 1000000) (B := 1000000) b1 ⟨by omega, hg2.2⟩
      have kx : IntKind.i64.wrap (max la pl * g) = max la pl * g := IntWalk.i64_in _ (by omega)
      have k1 : IntKind.i64.wrap (kk + 1) = kk + 1 := IntWalk.i64_in _ (by omega)
      clear hkl hpl m2 b0 b1 hg2
      have reY : ∀ v, ∃ x, ovr Y v = ovr W x := fun v => ovr_reB hb v
      have SW_yW00 := Lib.hid yW00
      replace yW00 := tr_cell reY yW00
      have SW_yW01 := Lib.hid yW01
      replace yW01 := tr_cell reY yW01
      have SW_yW02 := Lib.hid yW02
      replace yW02 := tr_cell reY yW02
      have SW_yW03 := Lib.hid yW03
      replace yW03 := tr_cell reY yW03
      have SW_yW04 := Lib.hid yW04
      replace yW04 := tr_cell reY yW04
      have SW_yW05 := Lib.hid yW05
      replace yW05 := tr_cell reY yW05
      have SW_yW06 := Lib.hid yW06
      replace yW06 := tr_cell reY yW06
      have SW_yW07 := Lib.hid yW07
      replace yW07 := tr_cell reY yW07
      have SW_yW08 := Lib.hid yW08
      replace yW08 := tr_cell reY yW08
      have SW_RrowW0 := Lib.hid RrowW0.out
      replace RrowW0 := Lib.hid (tr_row reY RrowW0.out)
      have SW_yW10 := Lib.hid yW10
      replace yW10 := tr_cell reY yW10
      have SW_yW11 := Lib.hid yW11
      replace yW11 := tr_cell reY yW11
      have SW_yW12 := Lib.hid yW12
      replace yW12 := tr_cell reY yW12
      have SW_yW13 := Lib.hid yW13
      replace yW13 := tr_cell reY yW13
      have SW_yW14 := Lib.hid yW14
      replace yW14 := tr_cell reY yW14
      have SW_yW15 := Lib.hid yW15
      replace yW15 := tr_cell reY yW15
      have SW_RrowW1 := Lib.hid RrowW1.out
      replace RrowW1 := Lib.hid (tr_row reY RrowW1.out)
      have HUY : Hid (∀ u, Below w.heap.size w (ovr Y u)) := fun u => by obtain ⟨x, hx⟩ := reY u; rw [hx]; exact HUW.out x
      clear reY hb
      go_upto_region 5 with fail
      refine wp_region_below_lit (by kernel_rfl) (by kernel_rfl) ?_
      repeat (go_big_quiet_step (fail))
      go_big_quiet_step ((go_at_call 22; exact call_below (CPN.out _)))
      repeat (go_big_quiet_step (fail))
      refine wpQuiet_nil ?_
      intro V2 hb2
      obtain ⟨u2, rfl⟩ : ∃ u, V2 = ovr Y u := ⟨V2, ovr_of hb2⟩
      clear hb2
      have HB2 : Hid (Below W.heap.size W (ovr Y u2)) := HBY.out.trans ((ovr_below Y u2).mono HBY.out.size)
      by_cases hc : max la pl * g < v * m.sc
      · rw [if_pos hc] at hst
        go_wp2_with fail
        exact ⟨⟨0 + 1, by decide, rfl, by rw [hst.out], by rw [hst.out], HB2.out⟩, by simp [intOf]⟩
      · rw [if_neg hc] at hst
        go_wp2_with fail
        exact ⟨⟨0 + 1, by decide, rfl, by rw [hst.out], by rw [hst.out], HB2.out⟩, by simp [intOf]⟩
    · skip
      have hst : Hid (rgK m t v g (1 + 1) = (if max (rgK m t v g 1).2 (plF (m.b 1) (t 1)) * g < v * m.sc then (rgK m t v g 1).1 + 1 else (rgK m t v g 1).1, max (rgK m t v g 1).2 (plF (m.b 1) (t 1)))) := rfl
      have b0 := BD.out 1 (by decide)
      have b1 := (BD.out (1 + 1) (by decide)).2.2
      have CPN := Lib.hid (CP.out 1)
      rw [hst.out] at b1
      obtain ⟨⟨kk, la⟩, hkl⟩ : ∃ q, rgK m t v g 1 = q := ⟨_, rfl⟩
      obtain ⟨pl, hpl⟩ : ∃ q, plF (m.b 1) (t 1) = q := ⟨_, rfl⟩
      rw [hkl, hpl] at hst
      rw [hkl] at b0
      rw [hkl, hpl] at b1
      rw [hpl] at CPN
      rw [hkl]
      simp only at b0 b1 hst
      have hg2 := HG.out
      have m2 := mul_bd (a := max la pl) (b := g) (A := 1000000) (B := 1000000) b1 ⟨by omega, hg2.2⟩
      have kx : IntKind.i64.wrap (max la pl * g) = max la pl * g := IntWalk.i64_in _ (by omega)
      have k1 : IntKind.i64.wrap (kk + 1) = kk + 1 := IntWalk.i64_in _ (by omega)
      clear hkl hpl m2 b0 b1 hg2
      have reY : ∀ v, ∃ x, ovr Y v = ovr W x := fun v => ovr_reB hb v
      have SW_yW00 := Lib.hid yW00
      replace yW00 := tr_cell reY yW00
      have SW_yW01 := Lib.hid yW01
      replace yW01 := tr_cell reY yW01
      have SW_yW02 := Lib.hid yW02
      replace yW02 := tr_cell reY yW02
      have SW_yW03 := Lib.hid yW03
      replace yW03 := tr_cell reY yW03
      have SW_yW04 := Lib.hid yW04
      replace yW04 := tr_cell reY yW04
      have SW_yW05 := Lib.hid yW05
      replace yW05 := tr_cell reY yW05
      have SW_yW06 := Lib.hid yW06
      replace yW06 := tr_cell reY yW06
      have SW_yW07 := Lib.hid yW07
      replace yW07 := tr_cell reY yW07
      have SW_yW08 := Lib.hid yW08
      replace yW08 := tr_cell reY yW08
      have SW_RrowW0 := Lib.hid RrowW0.out
      replace RrowW0 := Lib.hid (tr_row reY RrowW0.out)
      have SW_yW10 := Lib.hid yW10
      replace yW10 := tr_cell reY yW10
      have SW_yW11 := Lib.hid yW11
      replace yW11 := tr_cell reY yW11
      have SW_yW12 := Lib.hid yW12
      replace yW12 := tr_cell reY yW12
      have SW_yW13 := Lib.hid yW13
      replace yW13 := tr_cell reY yW13
      have SW_yW14 := Lib.hid yW14
      replace yW14 := tr_cell reY yW14
      have SW_yW15 := Lib.hid yW15
      replace yW15 := tr_cell reY yW15
      have SW_RrowW1 := Lib.hid RrowW1.out
      replace RrowW1 := Lib.hid (tr_row reY RrowW1.out)
      have HUY : Hid (∀ u, Below w.heap.size w (ovr Y u)) := fun u => by obtain ⟨x, hx⟩ := reY u; rw [hx]; exact HUW.out x
      clear reY hb
      go_upto_region 5 with fail
      refine wp_region_below_lit (by kernel_rfl) (by kernel_rfl) ?_
      repeat (go_big_quiet_step (fail))
      go_big_quiet_step ((go_at_call 22; exact call_below (CPN.out _)))
      repeat (go_big_quiet_step (fail))
      refine wpQuiet_nil ?_
      intro V2 hb2
      obtain ⟨u2, rfl⟩ : ∃ u, V2 = ovr Y u := ⟨V2, ovr_of hb2⟩
      clear hb2
      have HB2 : Hid (Below W.heap.size W (ovr Y u2)) := HBY.out.trans ((ovr_below Y u2).mono HBY.out.size)
      by_cases hc : max la pl * g < v * m.sc
      · rw [if_pos hc] at hst
        go_wp2_with fail
        exact ⟨⟨1 + 1, by decide, rfl, by rw [hst.out], by rw [hst.out], HB2.out⟩, by simp [intOf]⟩
      · rw [if_neg hc] at hst
        go_wp2_with fail
        exact ⟨⟨1 + 1, by decide, rfl, by rw [hst.out], by rw [hst.out], HB2.out⟩, by simp [intOf]⟩
    · skip
      have hst : Hid (rgK m t v g (2 + 1) = (if max (rgK m t v g 2).2 (plF (m.b 2) (t 2)) * g < v * m.sc then (rgK m t v g 2).1 + 1 else (rgK m t v g 2).1, max (rgK m t v g 2).2 (plF (m.b 2) (t 2)))) := rfl
      have b0 := BD.out 2 (by decide)
      have b1 := (BD.out (2 + 1) (by decide)).2.2
      have CPN := Lib.hid (CP.out 2)
      rw [hst.out] at b1
      obtain ⟨⟨kk, la⟩, hkl⟩ : ∃ q, rgK m t v g 2 = q := ⟨_, rfl⟩
      obtain ⟨pl, hpl⟩ : ∃ q, plF (m.b 2) (t 2) = q := ⟨_, rfl⟩
      rw [hkl, hpl] at hst
      rw [hkl] at b0
      rw [hkl, hpl] at b1
      rw [hpl] at CPN
      rw [hkl]
      simp only at b0 b1 hst
      have hg2 := HG.out
      have m2 := mul_bd (a := max la pl) (b := g) (A := 1000000) (B := 1000000) b1 ⟨by omega, hg2.2⟩
      have kx : IntKind.i64.wrap (max la pl * g) = max la pl * g := IntWalk.i64_in _ (by omega)
      have k1 : IntKind.i64.wrap (kk + 1) = kk + 1 := IntWalk.i64_in _ (by omega)
      clear hkl hpl m2 b0 b1 hg2
      have reY : ∀ v, ∃ x, ovr Y v = ovr W x := fun v => ovr_reB hb v
      have SW_yW00 := Lib.hid yW00
      replace yW00 := tr_cell reY yW00
      have SW_yW01 := Lib.hid yW01
      replace yW01 := tr_cell reY yW01
      have SW_yW02 := Lib.hid yW02
      replace yW02 := tr_cell reY yW02
      have SW_yW03 := Lib.hid yW03
      replace yW03 := tr_cell reY yW03
      have SW_yW04 := Lib.hid yW04
      replace yW04 := tr_cell reY yW04
      have SW_yW05 := Lib.hid yW05
      replace yW05 := tr_cell reY yW05
      have SW_yW06 := Lib.hid yW06
      replace yW06 := tr_cell reY yW06
      have SW_yW07 := Lib.hid yW07
      replace yW07 := tr_cell reY yW07
      have SW_yW08 := Lib.hid yW08
      replace yW08 := tr_cell reY yW08
      have SW_RrowW0 := Lib.hid RrowW0.out
      replace RrowW0 := Lib.hid (tr_row reY RrowW0.out)
      have SW_yW10 := Lib.hid yW10
      replace yW10 := tr_cell reY yW10
      have SW_yW11 := Lib.hid yW11
      replace yW11 := tr_cell reY yW11
      have SW_yW12 := Lib.hid yW12
      replace yW12 := tr_cell reY yW12
      have SW_yW13 := Lib.hid yW13
      replace yW13 := tr_cell reY yW13
      have SW_yW14 := Lib.hid yW14
      replace yW14 := tr_cell reY yW14
      have SW_yW15 := Lib.hid yW15
      replace yW15 := tr_cell reY yW15
      have SW_RrowW1 := Lib.hid RrowW1.out
      replace RrowW1 := Lib.hid (tr_row reY RrowW1.out)
      have HUY : Hid (∀ u, Below w.heap.size w (ovr Y u)) := fun u => by obtain ⟨x, hx⟩ := reY u; rw [hx]; exact HUW.out x
      clear reY hb
      go_upto_region 5 with fail
      refine wp_region_below_lit (by kernel_rfl) (by kernel_rfl) ?_
      repeat (go_big_quiet_step (fail))
      go_big_quiet_step ((go_at_call 22; exact call_below (CPN.out _)))
      repeat (go_big_quiet_step (fail))
      refine wpQuiet_nil ?_
      intro V2 hb2
      obtain ⟨u2, rfl⟩ : ∃ u, V2 = ovr Y u := ⟨V2, ovr_of hb2⟩
      clear hb2
      have HB2 : Hid (Below W.heap.size W (ovr Y u2)) := HBY.out.trans ((ovr_below Y u2).mono HBY.out.size)
      by_cases hc : max la pl * g < v * m.sc
      · rw [if_pos hc] at hst
        go_wp2_with fail
        exact ⟨⟨2 + 1, by decide, rfl, by rw [hst.out], by rw [hst.out], HB2.out⟩, by simp [intOf]⟩
      · rw [if_neg hc] at hst
        go_wp2_with fail
        exact ⟨⟨2 + 1, by decide, rfl, by rw [hst.out], by rw [hst.out], HB2.out⟩, by simp [intOf]⟩
    · skip
      have hst : Hid (rgK m t v g (3 + 1) = (if max (rgK m t v g 3).2 (plF (m.b 3) (t 3)) * g < v * m.sc then (rgK m t v g 3).1 + 1 else (rgK m t v g 3).1, max (rgK m t v g 3).2 (plF (m.b 3) (t 3)))) := rfl
      have b0 := BD.out 3 (by decide)
      have b1 := (BD.out (3 + 1) (by decide)).2.2
      have CPN := Lib.hid (CP.out 3)
      rw [hst.out] at b1
      obtain ⟨⟨kk, la⟩, hkl⟩ : ∃ q, rgK m t v g 3 = q := ⟨_, rfl⟩
      obtain ⟨pl, hpl⟩ : ∃ q, plF (m.b 3) (t 3) = q := ⟨_, rfl⟩
      rw [hkl, hpl] at hst
      rw [hkl] at b0
      rw [hkl, hpl] at b1
      rw [hpl] at CPN
      rw [hkl]
      simp only at b0 b1 hst
      have hg2 := HG.out
      have m2 := mul_bd (a := max la pl) (b := g) (A := 1000000) (B := 1000000) b1 ⟨by omega, hg2.2⟩
      have kx : IntKind.i64.wrap (max la pl * g) = max la pl * g := IntWalk.i64_in _ (by omega)
      have k1 : IntKind.i64.wrap (kk + 1) = kk + 1 := IntWalk.i64_in _ (by omega)
      clear hkl hpl m2 b0 b1 hg2
      have reY : ∀ v, ∃ x, ovr Y v = ovr W x := fun v => ovr_reB hb v
      have SW_yW00 := Lib.hid yW00
      replace yW00 := tr_cell reY yW00
      have SW_yW01 := Lib.hid yW01
      replace yW01 := tr_cell reY yW01
      have SW_yW02 := Lib.hid yW02
      replace yW02 := tr_cell reY yW02
      have SW_yW03 := Lib.hid yW03
      replace yW03 := tr_cell reY yW03
      have SW_yW04 := Lib.hid yW04
      replace yW04 := tr_cell reY yW04
      have SW_yW05 := Lib.hid yW05
      replace yW05 := tr_cell reY yW05
      have SW_yW06 := Lib.hid yW06
      replace yW06 := tr_cell reY yW06
      have SW_yW07 := Lib.hid yW07
      replace yW07 := tr_cell reY yW07
      have SW_yW08 := Lib.hid yW08
      replace yW08 := tr_cell reY yW08
      have SW_RrowW0 := Lib.hid RrowW0.out
      replace RrowW0 := Lib.hid (tr_row reY RrowW0.out)
      have SW_yW10 := Lib.hid yW10
      replace yW10 := tr_cell reY yW10
      have SW_yW11 := Lib.hid yW11
      replace yW11 := tr_cell reY yW11
      have SW_yW12 := Lib.hid yW12
      replace yW12 := tr_cell reY yW12
      have SW_yW13 := Lib.hid yW13
      replace yW13 := tr_cell reY yW13
      have SW_yW14 := Lib.hid yW14
      replace yW14 := tr_cell reY yW14
      have SW_yW15 := Lib.hid yW15
      replace yW15 := tr_cell reY yW15
      have SW_RrowW1 := Lib.hid RrowW1.out
      replace RrowW1 := Lib.hid (tr_row reY RrowW1.out)
      have HUY : Hid (∀ u, Below w.heap.size w (ovr Y u)) := fun u => by obtain ⟨x, hx⟩ := reY u; rw [hx]; exact HUW.out x
      clear reY hb
      go_upto_region 5 with fail
      refine wp_region_below_lit (by kernel_rfl) (by kernel_rfl) ?_
      repeat (go_big_quiet_step (fail))
      go_big_quiet_step ((go_at_call 22; exact call_below (CPN.out _)))
      repeat (go_big_quiet_step (fail))
      refine wpQuiet_nil ?_
      intro V2 hb2
      obtain ⟨u2, rfl⟩ : ∃ u, V2 = ovr Y u := ⟨V2, ovr_of hb2⟩
      clear hb2
      have HB2 : Hid (Below W.heap.size W (ovr Y u2)) := HBY.out.trans ((ovr_below Y u2).mono HBY.out.size)
      by_cases hc : max la pl * g < v * m.sc
      · rw [if_pos hc] at hst
        go_wp2_with fail
        exact ⟨⟨3 + 1, by decide, rfl, by rw [hst.out], by rw [hst.out], HB2.out⟩, by simp [intOf]⟩
      · rw [if_neg hc] at hst
        go_wp2_with fail
        exact ⟨⟨3 + 1, by decide, rfl, by rw [hst.out], by rw [hst.out], HB2.out⟩, by simp [intOf]⟩
    · have hbf := Lib.hid (HWB.out.trans (HBY.out.mono HWB.out.size))
      clear hb
      go_wp2_with fail
      go_ret
      exact ⟨rfl, hbf.out⟩
    · omega
end Go.Proofs.Yteibgenkklpoaaa.Un
