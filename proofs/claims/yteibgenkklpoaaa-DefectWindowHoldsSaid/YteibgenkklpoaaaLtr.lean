/- The law DefectTrue: its walk. -/
import Derived.Test.YteibgenkklpoaaaDn2
import Derived.Test.YteibgenkklpoaaaDt2
import Derived.Test.YteibgenkklpoaaaDb
namespace Go.Proofs.Yteibgenkklpoaaa.Un
open Go.RowKit
abbrev stA (m : Mdl) (x y : Rng) : Array Value := #[I m.sc, I (m.b 0).lo, I (m.b 0).hi, I (m.b 1).lo, I (m.b 1).hi, I (m.b 2).lo, I (m.b 2).hi, I (m.b 3).lo, I (m.b 3).hi, I x.lo, I x.hi, I y.lo, I y.hi]
theorem rgs_ok {m : Mdl} {r g : Rng} (h : (rgsF m r g).2 = 0) : PlOk m r g ∧ rgsF m r g = (regK (posB m r g) 5, 0) := by
  unfold rgsF at h ⊢
  split at h
  · rename_i hc
    rw [Bool.and_eq_true, Bool.and_eq_true] at hc
    exact ⟨⟨hc.1, hc.2.1, hc.2.2⟩, if_pos (by rw [hc.1, hc.2.1, hc.2.2]; rfl)⟩
  · cases h
theorem rgs_no {m : Mdl} {r g : Rng} (h : ¬ (rgsF m r g).2 = 0) : rgsF m r g = (0, 2) := by
  unfold rgsF at h ⊢
  split at h
  · exact absurd rfl h
  · rename_i hc
    exact if_neg hc
theorem rgs_pl {m : Mdl} {r g : Rng} (h : PlOk m r g) : rgsF m r g = (regK (posB m r g) 5, 0) := if_pos (by rw [h.m, h.r, h.g]; rfl)
set_option maxRecDepth 100000 in
set_option maxHeartbeats 8000000 in
theorem defectTrue_any (m : Mdl) (x y : Rng) (t : Nat → Int) (tr tg : Int) (v : Int) (w : World) (ht : TtOk t tr tg) (hv : 0 ≤ v ∧ v ≤ 255) :
    Calls Try.prog 8 #[.agg (stA m x y), .agg (ttA t tr tg), .int .u8 v] w fun e w' => e = .returned (.bool true) ∧ Below w.heap.size w w' := by
  have KN := Lib.hid known_any
  have C1 := Lib.hid fun V => regionsX_any m x y V
  obtain ⟨xl, xh⟩ := x
  obtain ⟨yl, yh⟩ := y
  obtain ⟨W, hW⟩ : ∃ W, W = ((w.alloc (.cells #[I m.sc, I (m.b 0).lo, I (m.b 0).hi, I (m.b 1).lo, I (m.b 1).hi, I (m.b 2).lo, I (m.b 2).hi, I (m.b 3).lo, I (m.b 3).hi, I xl, I xh, I yl, I yh] 73)).alloc (.cells #[.int .u16 (t 0), .int .u16 (t 1), .int .u16 (t 2), .int .u16 (t 3), .int .u16 tr, .int .u16 tg] 47)) := ⟨_, rfl⟩
  have rowW0 : W.heap[w.heap.size]? = some (.cells #[I m.sc, I (m.b 0).lo, I (m.b 0).hi, I (m.b 1).lo, I (m.b 1).hi, I (m.b 2).lo, I (m.b 2).hi, I (m.b 3).lo, I (m.b 3).hi, I xl, I xh, I yl, I yh] 73 (0, 0)) := by rw [hW]; exact heap_before (heap_last _ _ _ rfl)
  have yW00 := ovr_cell (W := W) (b := w.heap.size) (o := 0) (v := I m.sc) (by rw [cell_of_row _ _ _ _ _ _ rowW0]; rfl)
  have yW01 := ovr_cell (W := W) (b := w.heap.size) (o := 1) (v := I (m.b 0).lo) (by rw [cell_of_row _ _ _ _ _ _ rowW0]; rfl)
  have yW02 := ovr_cell (W := W) (b := w.heap.size) (o := 2) (v := I (m.b 0).hi) (by rw [cell_of_row _ _ _ _ _ _ rowW0]; rfl)
  have yW03 := ovr_cell (W := W) (b := w.heap.size) (o := 3) (v := I (m.b 1).lo) (by rw [cell_of_row _ _ _ _ _ _ rowW0]; rfl)
  have yW04 := ovr_cell (W := W) (b := w.heap.size) (o := 4) (v := I (m.b 1).hi) (by rw [cell_of_row _ _ _ _ _ _ rowW0]; rfl)
  have yW05 := ovr_cell (W := W) (b := w.heap.size) (o := 5) (v := I (m.b 2).lo) (by rw [cell_of_row _ _ _ _ _ _ rowW0]; rfl)
  have yW06 := ovr_cell (W := W) (b := w.heap.size) (o := 6) (v := I (m.b 2).hi) (by rw [cell_of_row _ _ _ _ _ _ rowW0]; rfl)
  have yW07 := ovr_cell (W := W) (b := w.heap.size) (o := 7) (v := I (m.b 3).lo) (by rw [cell_of_row _ _ _ _ _ _ rowW0]; rfl)
  have yW08 := ovr_cell (W := W) (b := w.heap.size) (o := 8) (v := I (m.b 3).hi) (by rw [cell_of_row _ _ _ _ _ _ rowW0]; rfl)
  have yW09 := ovr_cell (W := W) (b := w.heap.size) (o := 9) (v := I xl) (by rw [cell_of_row _ _ _ _ _ _ rowW0]; rfl)
  have yW010 := ovr_cell (W := W) (b := w.heap.size) (o := 10) (v := I xh) (by rw [cell_of_row _ _ _ _ _ _ rowW0]; rfl)
  have yW011 := ovr_cell (W := W) (b := w.heap.size) (o := 11) (v := I yl) (by rw [cell_of_row _ _ _ _ _ _ rowW0]; rfl)
  have yW012 := ovr_cell (W := W) (b := w.heap.size) (o := 12) (v := I yh) (by rw [cell_of_row _ _ _ _ _ _ rowW0]; rfl)
  have RrowW0 := Lib.hid (ovr_row rowW0)
  clear rowW0
  have rowW1 : W.heap[w.heap.size + 1]? = some (.cells #[.int .u16 (t 0), .int .u16 (t 1), .int .u16 (t 2), .int .u16 (t 3), .int .u16 tr, .int .u16 tg] 47 (0, 0)) := by rw [hW]; exact heap_last _ _ _ (by simp)
  have yW10 := ovr_cell (W := W) (b := w.heap.size + 1) (o := 0) (v := .int .u16 (t 0)) (by rw [cell_of_row _ _ _ _ _ _ rowW1]; rfl)
  have yW11 := ovr_cell (W := W) (b := w.heap.size + 1) (o := 1) (v := .int .u16 (t 1)) (by rw [cell_of_row _ _ _ _ _ _ rowW1]; rfl)
  have yW12 := ovr_cell (W := W) (b := w.heap.size + 1) (o := 2) (v := .int .u16 (t 2)) (by rw [cell_of_row _ _ _ _ _ _ rowW1]; rfl)
  have yW13 := ovr_cell (W := W) (b := w.heap.size + 1) (o := 3) (v := .int .u16 (t 3)) (by rw [cell_of_row _ _ _ _ _ _ rowW1]; rfl)
  have yW14 := ovr_cell (W := W) (b := w.heap.size + 1) (o := 4) (v := .int .u16 tr) (by rw [cell_of_row _ _ _ _ _ _ rowW1]; rfl)
  have yW15 := ovr_cell (W := W) (b := w.heap.size + 1) (o := 5) (v := .int .u16 tg) (by rw [cell_of_row _ _ _ _ _ _ rowW1]; rfl)
  have RrowW1 := Lib.hid (ovr_row rowW1)
  clear rowW1
  have HUW : Hid (∀ u, Below w.heap.size w (ovr W u)) := U2 hW
  have HW := Lib.hid hW
  clear hW
  have HWB : Hid (Below w.heap.size w W) := below_self0' HUW.out
  by_cases h1 : (rgsF m ⟨xl, xh⟩ ⟨yl, yh⟩).2 = 0
  case neg =>
    rw [rgs_no h1] at C1
    clear h1 ht hv
    go_enter Try.func8, Try.ntmps8
    go_upto_region 1 with (fail)
    rw [← HW.out]
    obtain ⟨u0, hu0⟩ := ovr_self W
    rw [hu0]
    clear hu0
    go_wp2_with fail
    refine (C1.out _).mono ?_
    rintro e w1 ⟨rfl, hb1⟩
    obtain ⟨u1, rfl⟩ := ovr_next hb1
    clear hb1
    go_wp2_with fail
    refine (KN.out _).mono ?_
    rintro e w1 ⟨rfl, hb1⟩
    obtain ⟨uk, rfl⟩ := ovr_next hb1
    clear hb1
    go_wp2_with fail
    go_ret
    exact ⟨rfl, HUW.out _⟩
  obtain ⟨hpl, hrg⟩ := rgs_ok h1
  rw [hrg] at C1
  have hx := spanB_iff.1 hpl.r
  have hy := spanB_iff.1 hpl.g
  simp only at hx hy
  have CX := Lib.hid fun V => place_any ⟨xl, xh⟩ tr ht.r V
  have CY := Lib.hid fun V => place_any ⟨yl, yh⟩ tg ht.g V
  have px := plF_in (r := ⟨xl, xh⟩) ht.r.1 hx.2.1
  have py := plF_in (r := ⟨yl, yh⟩) ht.g.1 hy.2.1
  obtain ⟨a, ha⟩ : ∃ a, plF ⟨xl, xh⟩ tr = a := ⟨_, rfl⟩
  obtain ⟨b, hb⟩ : ∃ b, plF ⟨yl, yh⟩ tg = b := ⟨_, rfl⟩
  rw [ha] at CX px
  rw [hb] at CY py
  simp only at px py
  have CR := Lib.hid fun V => region_any m hpl.m t tr tg ht a b (by omega) (by omega) V
  obtain ⟨k, hk, hkr, hkp⟩ := rg_pos hpl.m (fun i => (ht.t i).1) (t := t) (v := a) (g := b) (by omega) (by omega)
  rw [hkr] at CR
  have hpl2 : PlOk m ⟨a, a⟩ ⟨b, b⟩ := ⟨hpl.m, spanB_iff.2 ⟨by show 0 ≤ a; omega, Int.le_refl _, by show a ≤ 1000000; omega⟩, spanB_iff.2 ⟨by show 1 ≤ b; omega, Int.le_refl _, by show b ≤ 1000000; omega⟩⟩
  have C2 := Lib.hid fun V => regionsX_any m ⟨a, a⟩ ⟨b, b⟩ V
  rw [rgs_pl hpl2] at C2
  have hsub : ∀ j, j < 5 → posB m ⟨a, a⟩ ⟨b, b⟩ j = true → posB m ⟨xl, xh⟩ ⟨yl, yh⟩ j = true := fun j hj h => posB_mono hpl.m hj ⟨hx.1, px.1, px.2, by show 0 ≤ xh; omega⟩ ⟨hy.1, py.1, py.2⟩ h
  have q1 := bit_reg (posB m ⟨xl, xh⟩ ⟨yl, yh⟩) hk
  rw [hsub k hk hkp, if_pos rfl] at q1
  have q2 := bit_reg (posB m ⟨a, a⟩ ⟨b, b⟩) hk
  rw [hkp, if_pos rfl] at q2
  have q3 := not_reg hsub
  have hw2 : 0 ≤ bits .and .u8 v 31 ∧ bits .and .u8 v 31 ≤ 31 := by
    have := and31 ⟨v.toNat, by omega⟩
    simp only [show ((v.toNat : Nat) : Int) = v by omega] at this
    exact this
  have q4 := and_reg (p := posB m ⟨a, a⟩ ⟨b, b⟩) hw2 hk hkp
  have s1 := regK_bd (posB m ⟨xl, xh⟩ ⟨yl, yh⟩) 5
  have s2 := regK_bd (posB m ⟨a, a⟩ ⟨b, b⟩) 5
  obtain ⟨S, hS⟩ : ∃ S, regK (posB m ⟨xl, xh⟩ ⟨yl, yh⟩) 5 = S := ⟨_, rfl⟩
  obtain ⟨O, hO⟩ : ∃ S, regK (posB m ⟨a, a⟩ ⟨b, b⟩) 5 = S := ⟨_, rfl⟩
  obtain ⟨V, hV⟩ : ∃ V, bits .and .u8 v 31 = V := ⟨_, rfl⟩
  rw [hS] at C1 q1 q3 s1
  rw [hO] at C2 q2 q3 q4 s2
  rw [hV] at hw2 q4
  have CJ := Lib.hid fun W => judge_any O V W
  have hS31 : ¬ 31 < S := by have := s1.2; omega
  have hO31 : ¬ 31 < O := by have := s2.2; omega
  have hV31 : ¬ 31 < V := by omega
  have hJ : Hid (jdF O V = if bits .and .u8 O V = O then (1, 0) else if bits .and .u8 O V = 0 then (3, 0) else (2, 0)) := if_neg (by omega)
  have hkm : k < 9223372036854775807 := by omega
  clear hpl hpl2 hrg h1 hx hy px py ha hb hkr hkp hsub hw2 s1 s2 hS hO ht hv
  go_enter Try.func8, Try.ntmps8
  go_upto_region 1 with (fail)
  rw [← HW.out]
  obtain ⟨u0, hu0⟩ := ovr_self W
  rw [hu0]
  clear hu0
  go_wp2_with fail
  refine (C1.out _).mono ?_
  rintro e w1 ⟨rfl, hb1⟩
  obtain ⟨u1, rfl⟩ := ovr_next hb1
  clear hb1
  go_upto_region 4 with fail
  obtain ⟨Y, hY⟩ : ∃ Y, Y = ovr W u1 := ⟨_, rfl⟩
  have bY : Below W.heap.size W Y := by rw [hY]; exact ovr_below W u1
  rw [← hY]
  clear hY
  have reY : ∀ v, ∃ x, ovr Y v = ovr W x := fun v => ovr_reB bY v
  replace yW00 := tr_cell reY yW00
  replace yW01 := tr_cell reY yW01
  replace yW02 := tr_cell reY yW02
  replace yW03 := tr_cell reY yW03
  replace yW04 := tr_cell reY yW04
  replace yW05 := tr_cell reY yW05
  replace yW06 := tr_cell reY yW06
  replace yW07 := tr_cell reY yW07
  replace yW08 := tr_cell reY yW08
  replace yW09 := tr_cell reY yW09
  replace yW010 := tr_cell reY yW010
  replace yW011 := tr_cell reY yW011
  replace yW012 := tr_cell reY yW012
  replace RrowW0 := Lib.hid (tr_row reY RrowW0.out)
  replace yW10 := tr_cell reY yW10
  replace yW11 := tr_cell reY yW11
  replace yW12 := tr_cell reY yW12
  replace yW13 := tr_cell reY yW13
  replace yW14 := tr_cell reY yW14
  replace yW15 := tr_cell reY yW15
  replace RrowW1 := Lib.hid (tr_row reY RrowW1.out)
  have HUY : Hid (∀ u, Below w.heap.size w (ovr Y u)) := fun u => by obtain ⟨x, hx⟩ := reY u; rw [hx]; exact HUW.out x
  clear reY bY
  refine wp_region_below_lit (by kernel_rfl) (by kernel_rfl) ?_
  repeat (go_big_quiet_step (fail))
  go_big_quiet_step ((go_at_call 22; exact call_below (CX.out _)))
  repeat (go_big_quiet_step (fail))
  go_big_quiet_step ((go_at_call 22; exact call_below (CY.out _)))
  repeat (go_big_quiet_step (fail))
  refine wpQuiet_nil ?_
  intro Z hZ
  obtain ⟨u2, rfl⟩ : ∃ u, Z = ovr Y u := ⟨Z, ovr_of hZ⟩
  clear hZ
  go_wp2_with fail
  refine (CR.out _).mono ?_
  rintro e w1 ⟨rfl, hb1⟩
  obtain ⟨u3, rfl⟩ := ovr_next hb1
  clear hb1
  go_wp2_with fail
  refine (C2.out _).mono ?_
  rintro e w1 ⟨rfl, hb1⟩
  obtain ⟨u4, rfl⟩ := ovr_next hb1
  clear hb1
  by_cases c1 : bits .and .u8 O V = O
  · have q5 := q4.1 c1
    rw [if_pos c1] at hJ
    rw [hJ.out] at CJ
    clear q4 c1
    go_wp2_with fail
    refine (CJ.out _).mono ?_
    rintro e w1 ⟨rfl, hb1⟩
    obtain ⟨u5, rfl⟩ := ovr_next hb1
    clear hb1
    go_wp2_with fail
    refine (KN.out _).mono ?_
    rintro e w1 ⟨rfl, hb1⟩
    obtain ⟨uk, rfl⟩ := ovr_next hb1
    clear hb1
    go_wp2_with fail
    go_ret
    exact ⟨rfl, HUY.out _⟩
  rw [if_neg c1] at hJ
  by_cases c2 : bits .and .u8 O V = 0
  · have q5 := q4.2 c2
    rw [if_pos c2] at hJ
    rw [hJ.out] at CJ
    clear q4 c1 c2
    go_wp2_with fail
    refine (CJ.out _).mono ?_
    rintro e w1 ⟨rfl, hb1⟩
    obtain ⟨u5, rfl⟩ := ovr_next hb1
    clear hb1
    go_wp2_with fail
    refine (KN.out _).mono ?_
    rintro e w1 ⟨rfl, hb1⟩
    obtain ⟨uk, rfl⟩ := ovr_next hb1
    clear hb1
    go_wp2_with fail
    go_ret
    exact ⟨rfl, HUY.out _⟩
  rw [if_neg c2] at hJ
  rw [hJ.out] at CJ
  clear q4 c1 c2
  go_wp2_with fail
  refine (CJ.out _).mono ?_
  rintro e w1 ⟨rfl, hb1⟩
  obtain ⟨u5, rfl⟩ := ovr_next hb1
  clear hb1
  go_wp2_with fail
  refine (KN.out _).mono ?_
  rintro e w1 ⟨rfl, hb1⟩
  obtain ⟨uk, rfl⟩ := ovr_next hb1
  clear hb1
  go_wp2_with fail
  go_ret
  exact ⟨rfl, HUY.out _⟩
end Go.Proofs.Yteibgenkklpoaaa.Un
