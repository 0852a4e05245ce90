/- The law DefectReached: its walk. -/
import Derived.Test.YteibgenkklpoaaaDn2
import Derived.Test.YteibgenkklpoaaaDr1
import Derived.Test.YteibgenkklpoaaaLtr
namespace Go.Proofs.Yteibgenkklpoaaa.Un
open Go.RowKit
set_option maxRecDepth 100000 in
set_option maxHeartbeats 8000000 in
theorem defectReached_any (m : Mdl) (x y : Rng) (w : World) :
    Calls Try.prog 10 #[.agg (stA m x y)] w fun e w' => e = .returned (.bool true) ∧ Below w.heap.size w w' := by
  have KN := Lib.hid known_any
  have C1 := Lib.hid fun V => regionsX_any m x y V
  obtain ⟨xl, xh⟩ := x
  obtain ⟨yl, yh⟩ := y
  obtain ⟨W, hW⟩ : ∃ W, W = (w.alloc (.cells #[I m.sc, I (m.b 0).lo, I (m.b 0).hi, I (m.b 1).lo, I (m.b 1).hi, I (m.b 2).lo, I (m.b 2).hi, I (m.b 3).lo, I (m.b 3).hi, I xl, I xh, I yl, I yh] 73)) := ⟨_, rfl⟩
  have rowW0 : W.heap[w.heap.size]? = some (.cells #[I m.sc, I (m.b 0).lo, I (m.b 0).hi, I (m.b 1).lo, I (m.b 1).hi, I (m.b 2).lo, I (m.b 2).hi, I (m.b 3).lo, I (m.b 3).hi, I xl, I xh, I yl, I yh] 73 (0, 0)) := by rw [hW]; exact heap_last _ _ _ rfl
  have yW00 := ovr_cell (W := W) (b := w.heap.size) (o := 0) (v := I m.sc) (by rw [cell_of_row _ _ _ _ _ _ rowW0]; rfl)
  have yW01 := ovr_cell (W := W) (b := w.heap.size) (o := 1) (v := I (m.b 0).lo) (by rw [cell_of_row _ _ _ _ _ _ rowW0]; rfl)
  have yW02 := ovr_cell (W := W) (b := w.heap.size) (o := 2) (v := I (m.b 0).hi) (by rw [cell_of_row _ _ _ _ _ _ rowW0]; rfl)
  have yW03 := ovr_cell (W := W) (b := w.heap.size) (o := 3) (v := I (m.b 1).lo) (by rw [cell_of_row _ _ _ _ _ _ rowW0]; rfl)
  have yW04 := ovr_cell (W := W) (b := w.heap.size) (o := 4) (v := I (m.b 1).hi) (by rw [cell_of_row _ _ _ _ _ _ rowW0]; rfl)
  have yW05 := ovr_cell (W := W) (b := w.heap.size) (o := 5) (v := I (m.b 2).lo) (by rw [cell_of_row _ _ _ _ _ _ rowW0]; rfl)
  have yW06 := ovr_cell (W := W) (b := w.heap.size) (o := 6) (v := I (m.b 2).hi) (by rw [cell_of_row _ _ _ _ _ _ rowW0]; rfl)
  have yW07 := ovr_cell (W := W) (b := w.heap.size) (o := 7) (v := I (m.b 3).lo) (by rw [cell_of_row _ _ _ _ _ _ rowW0]; rfl)
  have yW08 := ovr_cell (W := W) (b := w.heap.size) (o := 8) (v := I (m.b 3).hi) (by rw [cell_of_row _ _ _ _ _ _ rowW0]; rfl)
  have yW09 := ovr_cell (W := W) (b := w.heap.size) (o := 9) (v := I xl) (by rw [cell_of_row _ _ _ _ _ _ rowW0]; rfl)
  have yW010 := ovr_cell (W := W) (b := w.heap.size) (o := 10) (v := I xh) (by rw [cell_of_row _ _ _ _ _ _ rowW0]; rfl)
  have yW011 := ovr_cell (W := W) (b := w.heap.size) (o := 11) (v := I yl) (by rw [cell_of_row _ _ _ _ _ _ rowW0]; rfl)
  have yW012 := ovr_cell (W := W) (b := w.heap.size) (o := 12) (v := I yh) (by rw [cell_of_row _ _ _ _ _ _ rowW0]; rfl)
  have RrowW0 := Lib.hid (ovr_row rowW0)
  clear rowW0
  have HUW : Hid (∀ u, Below w.heap.size w (ovr W u)) := U1 hW
  have HW := Lib.hid hW
  clear hW
  by_cases h1 : (rgsF m ⟨xl, xh⟩ ⟨yl, yh⟩).2 = 0
  case neg =>
    rw [rgs_no h1] at C1
    clear h1
    go_enter Try.func10, Try.ntmps10
    go_upto_region 1 with (fail)
    rw [← HW.out]
    obtain ⟨u0, hu0⟩ := ovr_self W
    rw [hu0]
    clear hu0
    go_wp2_with fail
    refine (C1.out _).mono ?_
    rintro e w1 ⟨rfl, hb1⟩
    obtain ⟨u1, rfl⟩ := ovr_next hb1
    clear hb1
    go_wp2_with fail
    refine (KN.out _).mono ?_
    rintro e w1 ⟨rfl, hb1⟩
    obtain ⟨uk, rfl⟩ := ovr_next hb1
    clear hb1
    go_wp2_with fail
    go_ret
    exact ⟨rfl, HUW.out _⟩
  obtain ⟨hpl, hrg⟩ := rgs_ok h1
  rw [hrg] at C1
  have hx := spanB_iff.1 hpl.r
  have hy := spanB_iff.1 hpl.g
  have hs := okMdl_iff.1 hpl.m
  simp only at hx hy
  have m2 := mul_bd (a := xl) (b := m.sc) (A := 1000000) (B := 1000000) ⟨hx.1, by omega⟩ ⟨by omega, hs.2.1⟩
  have m3 := mul_bd (a := xh) (b := m.sc) (A := 1000000) (B := 1000000) ⟨by omega, by omega⟩ ⟨by omega, hs.2.1⟩
  have k1 : IntKind.i64.wrap (xl * m.sc) = xl * m.sc := IntWalk.i64_in _ (by omega)
  have k2 : IntKind.i64.wrap (xh * m.sc) = xh * m.sc := IntWalk.i64_in _ (by omega)
  have HPL := Lib.hid hpl
  obtain ⟨S, hS⟩ : ∃ S, regK (posB m ⟨xl, xh⟩ ⟨yl, yh⟩) 5 = S := ⟨_, rfl⟩
  have HBIT : Hid (∀ k, k < 5 → bits .and .u8 (S / 2 ^ k) 1 = if posB m ⟨xl, xh⟩ ⟨yl, yh⟩ k then 1 else 0) := fun k hk => by rw [← hS]; exact bit_reg _ hk
  rw [hS] at C1
  clear hS hpl hrg h1 hx hy hs m2 m3
  go_enter Try.func10, Try.ntmps10
  go_upto_region 1 with (fail)
  rw [← HW.out]
  obtain ⟨u0, hu0⟩ := ovr_self W
  rw [hu0]
  clear hu0
  go_wp2_with fail
  refine (C1.out _).mono ?_
  rintro e w1 ⟨rfl, hb1⟩
  obtain ⟨u1, rfl⟩ := ovr_next hb1
  clear hb1
  go_upto_region 5 with fail
  obtain ⟨X, hX⟩ : ∃ X, X = ((ovr W u1).alloc (.cells #[I m.sc, I (m.b 0).lo, I (m.b 0).hi, I (m.b 1).lo, I (m.b 1).hi, I (m.b 2).lo, I (m.b 2).hi, I (m.b 3).lo, I (m.b 3).hi] 26)) := ⟨_, rfl⟩
  have reX : ∀ v, ∃ x, ovr X v = ovr W x := fun v => ovr_re1 hX
  have SW_yW00 := Lib.hid yW00
  replace yW00 := tr_cell reX yW00
  have SW_yW01 := Lib.hid yW01
  replace yW01 := tr_cell reX yW01
  have SW_yW02 := Lib.hid yW02
  replace yW02 := tr_cell reX yW02
  have SW_yW03 := Lib.hid yW03
  replace yW03 := tr_cell reX yW03
  have SW_yW04 := Lib.hid yW04
  replace yW04 := tr_cell reX yW04
  have SW_yW05 := Lib.hid yW05
  replace yW05 := tr_cell reX yW05
  have SW_yW06 := Lib.hid yW06
  replace yW06 := tr_cell reX yW06
  have SW_yW07 := Lib.hid yW07
  replace yW07 := tr_cell reX yW07
  have SW_yW08 := Lib.hid yW08
  replace yW08 := tr_cell reX yW08
  have SW_yW09 := Lib.hid yW09
  replace yW09 := tr_cell reX yW09
  have SW_yW010 := Lib.hid yW010
  replace yW010 := tr_cell reX yW010
  have SW_yW011 := Lib.hid yW011
  replace yW011 := tr_cell reX yW011
  have SW_yW012 := Lib.hid yW012
  replace yW012 := tr_cell reX yW012
  have SW_RrowW0 := Lib.hid RrowW0.out
  replace RrowW0 := Lib.hid (tr_row reX RrowW0.out)
  have rowX0 : X.heap[(ovr W u1).heap.size]? = some (.cells #[I m.sc, I (m.b 0).lo, I (m.b 0).hi, I (m.b 1).lo, I (m.b 1).hi, I (m.b 2).lo, I (m.b 2).hi, I (m.b 3).lo, I (m.b 3).hi] 26 (0, 0)) := by rw [hX]; exact heap_last _ _ _ rfl
  have yX00 := ovr_cell (W := X) (b := (ovr W u1).heap.size) (o := 0) (v := I m.sc) (by rw [cell_of_row _ _ _ _ _ _ rowX0]; rfl)
  have yX01 := ovr_cell (W := X) (b := (ovr W u1).heap.size) (o := 1) (v := I (m.b 0).lo) (by rw [cell_of_row _ _ _ _ _ _ rowX0]; rfl)
  have yX02 := ovr_cell (W := X) (b := (ovr W u1).heap.size) (o := 2) (v := I (m.b 0).hi) (by rw [cell_of_row _ _ _ _ _ _ rowX0]; rfl)
  have yX03 := ovr_cell (W := X) (b := (ovr W u1).heap.size) (o := 3) (v := I (m.b 1).lo) (by rw [cell_of_row _ _ _ _ _ _ rowX0]; rfl)
  have yX04 := ovr_cell (W := X) (b := (ovr W u1).heap.size) (o := 4) (v := I (m.b 1).hi) (by rw [cell_of_row _ _ _ _ _ _ rowX0]; rfl)
  have yX05 := ovr_cell (W := X) (b := (ovr W u1).heap.size) (o := 5) (v := I (m.b 2).lo) (by rw [cell_of_row _ _ _ _ _ _ rowX0]; rfl)
  have yX06 := ovr_cell (W := X) (b := (ovr W u1).heap.size) (o := 6) (v := I (m.b 2).hi) (by rw [cell_of_row _ _ _ _ _ _ rowX0]; rfl)
  have yX07 := ovr_cell (W := X) (b := (ovr W u1).heap.size) (o := 7) (v := I (m.b 3).lo) (by rw [cell_of_row _ _ _ _ _ _ rowX0]; rfl)
  have yX08 := ovr_cell (W := X) (b := (ovr W u1).heap.size) (o := 8) (v := I (m.b 3).hi) (by rw [cell_of_row _ _ _ _ _ _ rowX0]; rfl)
  have RrowX0 := Lib.hid (ovr_row rowX0)
  clear rowX0
  have HBX : Hid (∀ u, Below W.heap.size W (ovr X u)) := fun u => by obtain ⟨x, hx⟩ := reX u; rw [hx]; exact ovr_below _ _
  have HUX : Hid (∀ u, Below w.heap.size w (ovr X u)) := fun u => by obtain ⟨x, hx⟩ := reX u; rw [hx]; exact HUW.out x
  clear reX
  have HX := Lib.hid hX
  clear hX
  rw [← HX.out]
  obtain ⟨ux, hux⟩ := ovr_self X
  have x0 := yW00 ux
  have x1 := yW09 ux
  have x2 := yW010 ux
  have x3 := yW011 ux
  have x4 := yW012 ux
  have x5 := yX00 ux
  rw [← hux] at x0 x1 x2 x3 x4 x5
  clear hux
  go_cut [6, 7] (fun s6 s7 wx => ∃ p q : Nat, s6 = .pointer (some ⟨p, 0, none⟩) ∧ s7 = .pointer (some ⟨q, 0, none⟩) ∧ wx.heap[p]? = some (.cells #[I (xl * m.sc), I yh] 99 (0, 0)) ∧ wx.heap[q]? = some (.cells #[I (xh * m.sc), I yl] 99 (0, 0)) ∧ Below X.heap.size X wx)
  case first =>
    go_region_held3 (fun w' => w'.cell? ⟨w.heap.size, 9, none⟩ = some (I xl) ∧ w'.cell? ⟨w.heap.size, 10, none⟩ = some (I xh) ∧ w'.cell? ⟨w.heap.size, 11, none⟩ = some (I yl) ∧ w'.cell? ⟨w.heap.size, 12, none⟩ = some (I yh) ∧ w'.cell? ⟨(ovr W u1).heap.size, 0, none⟩ = some (I m.sc)) (go_keep) (fail)
    all_goals
      go_wp2_with fail
      go_meet
      case rel =>
        first
        | exact ⟨_, _, rfl, rfl, (by rw [heap_drew]; exact heap_before (heap_last _ _ _ rfl)), (by rw [heap_drew]; exact heap_last _ _ _ (by simp)), (((Below.refl _ _).alloc (Nat.le_refl _) _).alloc (by simp) _).drew⟩
        | exact ⟨_, _, rfl, rfl, (by rw [heap_drew]; exact heap_last _ _ _ (by simp)), (by rw [heap_drew]; exact heap_before (heap_last _ _ _ rfl)), (((Below.refl _ _).alloc (Nat.le_refl _) _).alloc (by simp) _).drew⟩
  case rest =>
    obtain ⟨p, q, rfl, rfl, rp, rq, hb⟩ := hcut
    rename World => V
    clear x0 x1 x2 x3 x4 x5 k1 k2
    have hbw : Hid (Below w.heap.size w V) := (below_self0' HUX.out).trans (hb.mono (below_self0' HUX.out).size)
    have reV : ∀ v, ∃ x, ovr V v = ovr X x := fun v => ovr_reB hb v
    replace yW00 := tr_cell reV yW00
    replace yW01 := tr_cell reV yW01
    replace yW02 := tr_cell reV yW02
    replace yW03 := tr_cell reV yW03
    replace yW04 := tr_cell reV yW04
    replace yW05 := tr_cell reV yW05
    replace yW06 := tr_cell reV yW06
    replace yW07 := tr_cell reV yW07
    replace yW08 := tr_cell reV yW08
    replace yW09 := tr_cell reV yW09
    replace yW010 := tr_cell reV yW010
    replace yW011 := tr_cell reV yW011
    replace yW012 := tr_cell reV yW012
    replace RrowW0 := Lib.hid (tr_row reV RrowW0.out)
    replace yX00 := tr_cell reV yX00
    replace yX01 := tr_cell reV yX01
    replace yX02 := tr_cell reV yX02
    replace yX03 := tr_cell reV yX03
    replace yX04 := tr_cell reV yX04
    replace yX05 := tr_cell reV yX05
    replace yX06 := tr_cell reV yX06
    replace yX07 := tr_cell reV yX07
    replace yX08 := tr_cell reV yX08
    replace RrowX0 := Lib.hid (tr_row reV RrowX0.out)
    have yV00 := ovr_cell (W := V) (b := p) (o := 0) (v := I (xl * m.sc)) (by rw [cell_of_row _ _ _ _ _ _ rp]; rfl)
    have yV01 := ovr_cell (W := V) (b := p) (o := 1) (v := I yh) (by rw [cell_of_row _ _ _ _ _ _ rp]; rfl)
    have RrowV0 := Lib.hid (ovr_row rp)
    clear rp
    have yV10 := ovr_cell (W := V) (b := q) (o := 0) (v := I (xh * m.sc)) (by rw [cell_of_row _ _ _ _ _ _ rq]; rfl)
    have yV11 := ovr_cell (W := V) (b := q) (o := 1) (v := I yl) (by rw [cell_of_row _ _ _ _ _ _ rq]; rfl)
    have RrowV1 := Lib.hid (ovr_row rq)
    clear rq
    have HUV : Hid (∀ u, Below w.heap.size w (ovr V u)) := fun u => by obtain ⟨x, hx⟩ := reV u; rw [hx]; exact HUX.out x
    clear reV hb
    obtain ⟨uv, huv⟩ := ovr_self V
    rw [huv]
    have hbv : Hid (Below V.heap.size V (ovr V uv)) := ovr_below V uv
    clear huv
    go_wp2_with fail
    go_loopw [8] (fun i wr => ∃ n : Nat, n ≤ 5 ∧ i = .int .i64 n ∧ Below V.heap.size V wr) (fun i _ => 5 - (intOf i).toNat)
    case atStart => exact ⟨0, by omega, rfl, hbv.out⟩
    case round =>
      obtain ⟨n, hn, rfl, hby⟩ := hrel
      rename World => Y
      have HBY := Lib.hid hby
      rcases n with _ | _ | _ | _ | _ | _ | n
      · skip
        obtain ⟨uy, huy⟩ : ∃ u, Y = ovr V u := ⟨Y, ovr_of hby⟩
        have c6 : Y.cell? ⟨q, 0, none⟩ = some (I (xh * m.sc)) := by rw [huy]; exact yV10 uy
        have c7 : Y.cell? ⟨q, 1, none⟩ = some (I yl) := by rw [huy]; exact yV11 uy
        clear huy hby
        go_upto_region 9 with fail
        go_cut [9, 10] (fun s9 s10 wx => ∃ a b : Nat, s9 = .pointer (some ⟨a, 0, none⟩) ∧ s10 = .pointer (some ⟨b, 0, none⟩) ∧ a ≠ b ∧ Y.heap.size ≤ a ∧ Y.heap.size ≤ b ∧ wx.heap[a]? = some (.cells #[I (-1), I 1] 99 (0, 0)) ∧ wx.heap[b]? = some (.cells #[I (xh * m.sc), I yl] 99 (0, 0)) ∧ Below Y.heap.size Y wx)
        case first =>
          go_region_held3 (fun w' => w'.cell? ⟨q, 0, none⟩ = some (I (xh * m.sc)) ∧ w'.cell? ⟨q, 1, none⟩ = some (I yl)) (go_keep) (fail)
          all_goals
            go_wp2_with fail
            go_meet
            case rel =>
              first
              | exact ⟨_, _, rfl, rfl, Nat.ne_of_lt (Nat.lt_succ_self _), Nat.le_refl _, Nat.le_succ _, (by rw [heap_drew]; exact heap_before (heap_last _ _ _ rfl)), (by rw [heap_drew]; exact heap_last _ _ _ (by simp)), (((Below.refl _ _).alloc (Nat.le_refl _) _).alloc (by simp) _).drew⟩
              | exact ⟨_, _, rfl, rfl, (Nat.ne_of_lt (Nat.lt_succ_self _)).symm, Nat.le_succ _, Nat.le_refl _, (by rw [heap_drew]; exact heap_last _ _ _ (by simp)), (by rw [heap_drew]; exact heap_before (heap_last _ _ _ rfl)), (((Below.refl _ _).alloc (Nat.le_refl _) _).alloc (by simp) _).drew⟩
        case rest =>
          obtain ⟨a, b, rfl, rfl, hab, hya, hyb, ra, rb, hb⟩ := hcut
          rename World => Y2
          have hb2 : Below V.heap.size V Y2 := HBY.out.trans (hb.mono HBY.out.size)
          have HAB := Lib.hid hab
          have HYA : Hid (V.heap.size ≤ a) := Nat.le_trans HBY.out.size hya
          have HYB : Hid (V.heap.size ≤ b) := Nat.le_trans HBY.out.size hyb
          have HB2 := Lib.hid hb2
          clear hb hab hya hyb c6 c7
          have reY2 : ∀ v, ∃ x, ovr Y2 v = ovr V x := fun v => ovr_reB hb2 v
          have SV_yW00 := Lib.hid yW00
          replace yW00 := tr_cell reY2 yW00
          have SV_yW01 := Lib.hid yW01
          replace yW01 := tr_cell reY2 yW01
          have SV_yW02 := Lib.hid yW02
          replace yW02 := tr_cell reY2 yW02
          have SV_yW03 := Lib.hid yW03
          replace yW03 := tr_cell reY2 yW03
          have SV_yW04 := Lib.hid yW04
          replace yW04 := tr_cell reY2 yW04
          have SV_yW05 := Lib.hid yW05
          replace yW05 := tr_cell reY2 yW05
          have SV_yW06 := Lib.hid yW06
          replace yW06 := tr_cell reY2 yW06
          have SV_yW07 := Lib.hid yW07
          replace yW07 := tr_cell reY2 yW07
          have SV_yW08 := Lib.hid yW08
          replace yW08 := tr_cell reY2 yW08
          have SV_yW09 := Lib.hid yW09
          replace yW09 := tr_cell reY2 yW09
          have SV_yW010 := Lib.hid yW010
          replace yW010 := tr_cell reY2 yW010
          have SV_yW011 := Lib.hid yW011
          replace yW011 := tr_cell reY2 yW011
          have SV_yW012 := Lib.hid yW012
          replace yW012 := tr_cell reY2 yW012
          have SV_RrowW0 := Lib.hid RrowW0.out
          replace RrowW0 := Lib.hid (tr_row reY2 RrowW0.out)
          have SV_yX00 := Lib.hid yX00
          replace yX00 := tr_cell reY2 yX00
          have SV_yX01 := Lib.hid yX01
          replace yX01 := tr_cell reY2 yX01
          have SV_yX02 := Lib.hid yX02
          replace yX02 := tr_cell reY2 yX02
          have SV_yX03 := Lib.hid yX03
          replace yX03 := tr_cell reY2 yX03
          have SV_yX04 := Lib.hid yX04
          replace yX04 := tr_cell reY2 yX04
          have SV_yX05 := Lib.hid yX05
          replace yX05 := tr_cell reY2 yX05
          have SV_yX06 := Lib.hid yX06
          replace yX06 := tr_cell reY2 yX06
          have SV_yX07 := Lib.hid yX07
          replace yX07 := tr_cell reY2 yX07
          have SV_yX08 := Lib.hid yX08
          replace yX08 := tr_cell reY2 yX08
          have SV_RrowX0 := Lib.hid RrowX0.out
          replace RrowX0 := Lib.hid (tr_row reY2 RrowX0.out)
          have SV_yV00 := Lib.hid yV00
          replace yV00 := tr_cell reY2 yV00
          have SV_yV01 := Lib.hid yV01
          replace yV01 := tr_cell reY2 yV01
          have SV_RrowV0 := Lib.hid RrowV0.out
          replace RrowV0 := Lib.hid (tr_row reY2 RrowV0.out)
          have SV_yV10 := Lib.hid yV10
          replace yV10 := tr_cell reY2 yV10
          have SV_yV11 := Lib.hid yV11
          replace yV11 := tr_cell reY2 yV11
          have SV_RrowV1 := Lib.hid RrowV1.out
          replace RrowV1 := Lib.hid (tr_row reY2 RrowV1.out)
          have yY200 := ovr_cell (W := Y2) (b := a) (o := 0) (v := I (-1)) (by rw [cell_of_row _ _ _ _ _ _ ra]; rfl)
          have yY201 := ovr_cell (W := Y2) (b := a) (o := 1) (v := I 1) (by rw [cell_of_row _ _ _ _ _ _ ra]; rfl)
          have RrowY20 := Lib.hid (ovr_row ra)
          clear ra
          have yY210 := ovr_cell (W := Y2) (b := b) (o := 0) (v := I (xh * m.sc)) (by rw [cell_of_row _ _ _ _ _ _ rb]; rfl)
          have yY211 := ovr_cell (W := Y2) (b := b) (o := 1) (v := I yl) (by rw [cell_of_row _ _ _ _ _ _ rb]; rfl)
          have RrowY21 := Lib.hid (ovr_row rb)
          clear rb
          have HUY2 : Hid (∀ u, Below w.heap.size w (ovr Y2 u)) := fun u => by obtain ⟨x, hx⟩ := reY2 u; rw [hx]; exact HUV.out x
          clear reY2 hb2
          obtain ⟨uy2, huy2⟩ := ovr_self Y2
          rw [huy2]
          have HB3 : Hid (Below V.heap.size V (ovr Y2 uy2)) := by rw [← huy2]; exact HB2.out
          clear huy2
          go_upto_region 14 with (with_reducible show wpList _ _ _ (⟨none, Op.store _ _ _, _, _, _, _⟩ :: _) _ _; refine wpList_store_row rfl 99 _ _ rfl b rfl _ _ (RrowY21.out uy2) #[I (m.b 0).hi, I 1] rfl (one2 rfl rfl) rfl (by kernel_rfl) ?_)
          refine name_w fun T hT => ?_
          have ra2 : T.heap[a]? = some (.cells #[I (-1), I 1] 99 (0, 0)) := by rw [hT]; exact (setRow_other HAB.out).trans (RrowY20.out uy2)
          have rb2 : T.heap[b]? = some (.cells #[I (m.b 0).hi, I 1] 99 (0, 0)) := by rw [hT]; exact setRow_same (RrowY21.out uy2)
          have bT : Below V.heap.size V T := by rw [hT]; exact below_setRow HB3.out HYB.out _
          clear hT
          have HT := Lib.hid bT
          have reT : ∀ v, ∃ x, ovr T v = ovr V x := fun v => ovr_reB bT v
          have yW00 := SV_yW00.out
          replace yW00 := tr_cell reT yW00
          have yW01 := SV_yW01.out
          replace yW01 := tr_cell reT yW01
          have yW02 := SV_yW02.out
          replace yW02 := tr_cell reT yW02
          have yW03 := SV_yW03.out
          replace yW03 := tr_cell reT yW03
          have yW04 := SV_yW04.out
          replace yW04 := tr_cell reT yW04
          have yW05 := SV_yW05.out
          replace yW05 := tr_cell reT yW05
          have yW06 := SV_yW06.out
          replace yW06 := tr_cell reT yW06
          have yW07 := SV_yW07.out
          replace yW07 := tr_cell reT yW07
          have yW08 := SV_yW08.out
          replace yW08 := tr_cell reT yW08
          have yW09 := SV_yW09.out
          replace yW09 := tr_cell reT yW09
          have yW010 := SV_yW010.out
          replace yW010 := tr_cell reT yW010
          have yW011 := SV_yW011.out
          replace yW011 := tr_cell reT yW011
          have yW012 := SV_yW012.out
          replace yW012 := tr_cell reT yW012
          have RrowW0 := SV_RrowW0
          replace RrowW0 := Lib.hid (tr_row reT RrowW0.out)
          have yX00 := SV_yX00.out
          replace yX00 := tr_cell reT yX00
          have yX01 := SV_yX01.out
          replace yX01 := tr_cell reT yX01
          have yX02 := SV_yX02.out
          replace yX02 := tr_cell reT yX02
          have yX03 := SV_yX03.out
          replace yX03 := tr_cell reT yX03
          have yX04 := SV_yX04.out
          replace yX04 := tr_cell reT yX04
          have yX05 := SV_yX05.out
          replace yX05 := tr_cell reT yX05
          have yX06 := SV_yX06.out
          replace yX06 := tr_cell reT yX06
          have yX07 := SV_yX07.out
          replace yX07 := tr_cell reT yX07
          have yX08 := SV_yX08.out
          replace yX08 := tr_cell reT yX08
          have RrowX0 := SV_RrowX0
          replace RrowX0 := Lib.hid (tr_row reT RrowX0.out)
          have yV00 := SV_yV00.out
          replace yV00 := tr_cell reT yV00
          have yV01 := SV_yV01.out
          replace yV01 := tr_cell reT yV01
          have RrowV0 := SV_RrowV0
          replace RrowV0 := Lib.hid (tr_row reT RrowV0.out)
          have yV10 := SV_yV10.out
          replace yV10 := tr_cell reT yV10
          have yV11 := SV_yV11.out
          replace yV11 := tr_cell reT yV11
          have RrowV1 := SV_RrowV1
          replace RrowV1 := Lib.hid (tr_row reT RrowV1.out)
          have yT00 := ovr_cell (W := T) (b := a) (o := 0) (v := I (-1)) (by rw [cell_of_row _ _ _ _ _ _ ra2]; rfl)
          have yT01 := ovr_cell (W := T) (b := a) (o := 1) (v := I 1) (by rw [cell_of_row _ _ _ _ _ _ ra2]; rfl)
          have RrowT0 := Lib.hid (ovr_row ra2)
          clear ra2
          have yT10 := ovr_cell (W := T) (b := b) (o := 0) (v := I (m.b 0).hi) (by rw [cell_of_row _ _ _ _ _ _ rb2]; rfl)
          have yT11 := ovr_cell (W := T) (b := b) (o := 1) (v := I 1) (by rw [cell_of_row _ _ _ _ _ _ rb2]; rfl)
          have RrowT1 := Lib.hid (ovr_row rb2)
          clear rb2
          have HUT : Hid (∀ u, Below w.heap.size w (ovr T u)) := fun u => by obtain ⟨x, hx⟩ := reT u; rw [hx]; exact HUV.out x
          clear reT bT
          obtain ⟨ut, hut⟩ := ovr_self T
          rw [hut]
          clear hut
          have ok := fracs_ok HPL.out (k := 0) (by decide)
          have CA := Lib.hid fun V => compare_any ⟨(m.b 0).hi, 1⟩ ⟨xh * m.sc, yl⟩ V
          have HOTP : Hid (fok ⟨(m.b 0).hi, 1⟩ = true) := ok.2.2.2 (by decide)
          have HOKF : Hid (fok ⟨xh * m.sc, yl⟩ = true) := ok.2.1
          have hhi : highF m ⟨xl, xh⟩ ⟨yl, yh⟩ 0 = if 0 < fcm ⟨(m.b 0).hi, 1⟩ ⟨xh * m.sc, yl⟩ then ⟨xh * m.sc, yl⟩ else ⟨(m.b 0).hi, 1⟩ := rfl
          rw [co_ok HOTP.out HOKF.out] at CA
          obtain ⟨s0, hs0⟩ : ∃ s, fcm ⟨(m.b 0).hi, 1⟩ ⟨xh * m.sc, yl⟩ = s := ⟨_, rfl⟩
          rw [hs0] at CA hhi
          clear hs0 ok
          go_wp2_with fail
          refine (CA.out _).mono ?_
          rintro e w1 ⟨rfl, hb1⟩
          obtain ⟨ut1, rfl⟩ := ovr_next hb1
          clear hb1
          by_cases hc : 0 < s0
          · rw [if_pos hc] at hhi
            have HIGH := Lib.hid hhi
            clear hhi
            go_upto_region 17 with (with_reducible show wpList _ _ _ (⟨none, Op.store _ _ _, _, _, _, _⟩ :: _) _ _; refine wpList_store_row rfl 99 _ _ rfl b rfl _ _ (RrowT1.out ut1) #[I (xh * m.sc), I yl] rfl (one2 rfl rfl) rfl (by kernel_rfl) ?_)
            refine name_w fun T2 hT2 => ?_
            have ra3 : T2.heap[a]? = some (.cells #[I (-1), I 1] 99 (0, 0)) := by rw [hT2]; exact (setRow_other HAB.out).trans (RrowT0.out ut1)
            have rb3 : T2.heap[b]? = some (.cells #[I (xh * m.sc), I yl] 99 (0, 0)) := by rw [hT2]; exact setRow_same (RrowT1.out ut1)
            have bT2 : Below V.heap.size V T2 := by rw [hT2]; exact below_setRow (HT.out.trans ((ovr_below T ut1).mono HT.out.size)) HYB.out _
            clear hT2
            have HT2 := Lib.hid bT2
            have reT2 : ∀ v, ∃ x, ovr T2 v = ovr V x := fun v => ovr_reB bT2 v
            have yW00 := SV_yW00.out
            replace yW00 := tr_cell reT2 yW00
            have yW01 := SV_yW01.out
            replace yW01 := tr_cell reT2 yW01
            have yW02 := SV_yW02.out
            replace yW02 := tr_cell reT2 yW02
            have yW03 := SV_yW03.out
            replace yW03 := tr_cell reT2 yW03
            have yW04 := SV_yW04.out
            replace yW04 := tr_cell reT2 yW04
            have yW05 := SV_yW05.out
            replace yW05 := tr_cell reT2 yW05
            have yW06 := SV_yW06.out
            replace yW06 := tr_cell reT2 yW06
            have yW07 := SV_yW07.out
            replace yW07 := tr_cell reT2 yW07
            have yW08 := SV_yW08.out
            replace yW08 := tr_cell reT2 yW08
            have yW09 := SV_yW09.out
            replace yW09 := tr_cell reT2 yW09
            have yW010 := SV_yW010.out
            replace yW010 := tr_cell reT2 yW010
            have yW011 := SV_yW011.out
            replace yW011 := tr_cell reT2 yW011
            have yW012 := SV_yW012.out
            replace yW012 := tr_cell reT2 yW012
            have RrowW0 := SV_RrowW0
            replace RrowW0 := Lib.hid (tr_row reT2 RrowW0.out)
            have yX00 := SV_yX00.out
            replace yX00 := tr_cell reT2 yX00
            have yX01 := SV_yX01.out
            replace yX01 := tr_cell reT2 yX01
            have yX02 := SV_yX02.out
            replace yX02 := tr_cell reT2 yX02
            have yX03 := SV_yX03.out
            replace yX03 := tr_cell reT2 yX03
            have yX04 := SV_yX04.out
            replace yX04 := tr_cell reT2 yX04
            have yX05 := SV_yX05.out
            replace yX05 := tr_cell reT2 yX05
            have yX06 := SV_yX06.out
            replace yX06 := tr_cell reT2 yX06
            have yX07 := SV_yX07.out
            replace yX07 := tr_cell reT2 yX07
            have yX08 := SV_yX08.out
            replace yX08 := tr_cell reT2 yX08
            have RrowX0 := SV_RrowX0
            replace RrowX0 := Lib.hid (tr_row reT2 RrowX0.out)
            have yV00 := SV_yV00.out
            replace yV00 := tr_cell reT2 yV00
            have yV01 := SV_yV01.out
            replace yV01 := tr_cell reT2 yV01
            have RrowV0 := SV_RrowV0
            replace RrowV0 := Lib.hid (tr_row reT2 RrowV0.out)
            have yV10 := SV_yV10.out
            replace yV10 := tr_cell reT2 yV10
            have yV11 := SV_yV11.out
            replace yV11 := tr_cell reT2 yV11
            have RrowV1 := SV_RrowV1
            replace RrowV1 := Lib.hid (tr_row reT2 RrowV1.out)
            have yT200 := ovr_cell (W := T2) (b := a) (o := 0) (v := I (-1)) (by rw [cell_of_row _ _ _ _ _ _ ra3]; rfl)
            have yT201 := ovr_cell (W := T2) (b := a) (o := 1) (v := I 1) (by rw [cell_of_row _ _ _ _ _ _ ra3]; rfl)
            have RrowT20 := Lib.hid (ovr_row ra3)
            clear ra3
            have yT210 := ovr_cell (W := T2) (b := b) (o := 0) (v := I (xh * m.sc)) (by rw [cell_of_row _ _ _ _ _ _ rb3]; rfl)
            have yT211 := ovr_cell (W := T2) (b := b) (o := 1) (v := I yl) (by rw [cell_of_row _ _ _ _ _ _ rb3]; rfl)
            have RrowT21 := Lib.hid (ovr_row rb3)
            clear rb3
            have HUT2 : Hid (∀ u, Below w.heap.size w (ovr T2 u)) := fun u => by obtain ⟨x, hx⟩ := reT2 u; rw [hx]; exact HUV.out x
            clear reT2 bT2
            obtain ⟨ut2, hut2⟩ := ovr_self T2
            rw [hut2]
            clear hut2
            have HTW := HT2
            have HOKQ := HOKF
            have ok := fracs_ok HPL.out (k := 0) (by decide)
            have CB := Lib.hid fun V => compare_any ⟨(xh * m.sc), yl⟩ ⟨xl * m.sc, yh⟩ V
            have CC := Lib.hid fun V => compare_any ⟨(xh * m.sc), yl⟩ ⟨(-1), 1⟩ V
            have hlaw := reach_law HPL.out (k := 0) (by decide)
            rw [show highF m ⟨xl, xh⟩ ⟨yl, yh⟩ 0 = ⟨(xh * m.sc), yl⟩ from HIGH.out] at hlaw
            rw [co_ok HOKQ.out (show fok ⟨xl * m.sc, yh⟩ = true from ok.1)] at CB
            rw [co_ok HOKQ.out (show fok ⟨(-1), 1⟩ = true from ok.2.2.1)] at CC
            obtain ⟨s1, hs1⟩ : ∃ s, fcm ⟨(xh * m.sc), yl⟩ ⟨xl * m.sc, yh⟩ = s := ⟨_, rfl⟩
            obtain ⟨s2, hs2⟩ : ∃ s, fcm ⟨(xh * m.sc), yl⟩ ⟨(-1), 1⟩ = s := ⟨_, rfl⟩
            replace hlaw : (0 ≤ s1 ∧ 0 < s2) ↔ posB m ⟨xl, xh⟩ ⟨yl, yh⟩ 0 = true := by rw [← hs1, ← hs2]; exact hlaw
            rw [hs1] at CB
            rw [hs2] at CC
            have HLAW := Lib.hid hlaw
            clear ok hs1 hs2 hlaw
            go_wp2_with fail
            refine (CB.out _).mono ?_
            rintro e w1 ⟨rfl, hb1⟩
            obtain ⟨v1, rfl⟩ := ovr_next hb1
            clear hb1
            go_wp2_with fail
            refine (CC.out _).mono ?_
            rintro e w2 ⟨rfl, hb1⟩
            obtain ⟨v2, rfl⟩ := ovr_next hb1
            clear hb1
            have HEND : Hid (Below V.heap.size V (ovr T2 v2)) := HT2.out.trans ((ovr_below T2 v2).mono HT2.out.size)
            have q1 := HBIT.out 0 (by decide)
            rw [show S / 2 ^ 0 = S from Int.ediv_one S] at q1
            rcases hp : posB m ⟨xl, xh⟩ ⟨yl, yh⟩ 0 with _ | _
            · rw [hp] at q1
              have hn : ¬ (0 ≤ s1 ∧ 0 < s2) := fun h => by have := HLAW.out.1 h; rw [hp] at this; cases this
              rw [if_neg Bool.false_ne_true] at q1
              clear hp
              by_cases g1 : 0 ≤ s1
              · have g2 : ¬ 0 < s2 := fun h => hn ⟨g1, h⟩
                clear hn
                go_wp2_with fail
                exact ⟨⟨0 + 1, by decide, rfl, HEND.out⟩, by simp [intOf]⟩
              · clear hn
                go_wp2_with fail
                exact ⟨⟨0 + 1, by decide, rfl, HEND.out⟩, by simp [intOf]⟩
            · rw [hp, if_pos rfl] at q1
              obtain ⟨g1, g2⟩ := HLAW.out.2 hp
              clear hp
              go_wp2_with fail
              exact ⟨⟨0 + 1, by decide, rfl, HEND.out⟩, by simp [intOf]⟩
          · rw [if_neg hc] at hhi
            have HIGH := Lib.hid hhi
            clear hhi
            have HTW := HT
            have HOKQ := HOTP
            have ok := fracs_ok HPL.out (k := 0) (by decide)
            have CB := Lib.hid fun V => compare_any ⟨(m.b 0).hi, 1⟩ ⟨xl * m.sc, yh⟩ V
            have CC := Lib.hid fun V => compare_any ⟨(m.b 0).hi, 1⟩ ⟨(-1), 1⟩ V
            have hlaw := reach_law HPL.out (k := 0) (by decide)
            rw [show highF m ⟨xl, xh⟩ ⟨yl, yh⟩ 0 = ⟨(m.b 0).hi, 1⟩ from HIGH.out] at hlaw
            rw [co_ok HOKQ.out (show fok ⟨xl * m.sc, yh⟩ = true from ok.1)] at CB
            rw [co_ok HOKQ.out (show fok ⟨(-1), 1⟩ = true from ok.2.2.1)] at CC
            obtain ⟨s1, hs1⟩ : ∃ s, fcm ⟨(m.b 0).hi, 1⟩ ⟨xl * m.sc, yh⟩ = s := ⟨_, rfl⟩
            obtain ⟨s2, hs2⟩ : ∃ s, fcm ⟨(m.b 0).hi, 1⟩ ⟨(-1), 1⟩ = s := ⟨_, rfl⟩
            replace hlaw : (0 ≤ s1 ∧ 0 < s2) ↔ posB m ⟨xl, xh⟩ ⟨yl, yh⟩ 0 = true := by rw [← hs1, ← hs2]; exact hlaw
            rw [hs1] at CB
            rw [hs2] at CC
            have HLAW := Lib.hid hlaw
            clear ok hs1 hs2 hlaw
            go_wp2_with fail
            refine (CB.out _).mono ?_
            rintro e w1 ⟨rfl, hb1⟩
            obtain ⟨v1, rfl⟩ := ovr_next hb1
            clear hb1
            go_wp2_with fail
            refine (CC.out _).mono ?_
            rintro e w2 ⟨rfl, hb1⟩
            obtain ⟨v2, rfl⟩ := ovr_next hb1
            clear hb1
            have HEND : Hid (Below V.heap.size V (ovr T v2)) := HT.out.trans ((ovr_below T v2).mono HT.out.size)
            have q1 := HBIT.out 0 (by decide)
            rw [show S / 2 ^ 0 = S from Int.ediv_one S] at q1
            rcases hp : posB m ⟨xl, xh⟩ ⟨yl, yh⟩ 0 with _ | _
            · rw [hp] at q1
              have hn : ¬ (0 ≤ s1 ∧ 0 < s2) := fun h => by have := HLAW.out.1 h; rw [hp] at this; cases this
              rw [if_neg Bool.false_ne_true] at q1
              clear hp
              by_cases g1 : 0 ≤ s1
              · have g2 : ¬ 0 < s2 := fun h => hn ⟨g1, h⟩
                clear hn
                go_wp2_with fail
                exact ⟨⟨0 + 1, by decide, rfl, HEND.out⟩, by simp [intOf]⟩
              · clear hn
                go_wp2_with fail
                exact ⟨⟨0 + 1, by decide, rfl, HEND.out⟩, by simp [intOf]⟩
            · rw [hp, if_pos rfl] at q1
              obtain ⟨g1, g2⟩ := HLAW.out.2 hp
              clear hp
              go_wp2_with fail
              exact ⟨⟨0 + 1, by decide, rfl, HEND.out⟩, by simp [intOf]⟩
      · skip
        obtain ⟨uy, huy⟩ : ∃ u, Y = ovr V u := ⟨Y, ovr_of hby⟩
        have c6 : Y.cell? ⟨q, 0, none⟩ = some (I (xh * m.sc)) := by rw [huy]; exact yV10 uy
        have c7 : Y.cell? ⟨q, 1, none⟩ = some (I yl) := by rw [huy]; exact yV11 uy
        clear huy hby
        go_upto_region 9 with fail
        go_cut [9, 10] (fun s9 s10 wx => ∃ a b : Nat, s9 = .pointer (some ⟨a, 0, none⟩) ∧ s10 = .pointer (some ⟨b, 0, none⟩) ∧ a ≠ b ∧ Y.heap.size ≤ a ∧ Y.heap.size ≤ b ∧ wx.heap[a]? = some (.cells #[I (-1), I 1] 99 (0, 0)) ∧ wx.heap[b]? = some (.cells #[I (xh * m.sc), I yl] 99 (0, 0)) ∧ Below Y.heap.size Y wx)
        case first =>
          go_region_held3 (fun w' => w'.cell? ⟨q, 0, none⟩ = some (I (xh * m.sc)) ∧ w'.cell? ⟨q, 1, none⟩ = some (I yl)) (go_keep) (fail)
          all_goals
            go_wp2_with fail
            go_meet
            case rel =>
              first
              | exact ⟨_, _, rfl, rfl, Nat.ne_of_lt (Nat.lt_succ_self _), Nat.le_refl _, Nat.le_succ _, (by rw [heap_drew]; exact heap_before (heap_last _ _ _ rfl)), (by rw [heap_drew]; exact heap_last _ _ _ (by simp)), (((Below.refl _ _).alloc (Nat.le_refl _) _).alloc (by simp) _).drew⟩
              | exact ⟨_, _, rfl, rfl, (Nat.ne_of_lt (Nat.lt_succ_self _)).symm, Nat.le_succ _, Nat.le_refl _, (by rw [heap_drew]; exact heap_last _ _ _ (by simp)), (by rw [heap_drew]; exact heap_before (heap_last _ _ _ rfl)), (((Below.refl _ _).alloc (Nat.le_refl _) _).alloc (by simp) _).drew⟩
        case rest =>
          obtain ⟨a, b, rfl, rfl, hab, hya, hyb, ra, rb, hb⟩ := hcut
          rename World => Y2
          have hb2 : Below V.heap.size V Y2 := HBY.out.trans (hb.mono HBY.out.size)
          have HAB := Lib.hid hab
          have HYA : Hid (V.heap.size ≤ a) := Nat.le_trans HBY.out.size hya
          have HYB : Hid (V.heap.size ≤ b) := Nat.le_trans HBY.out.size hyb
          have HB2 := Lib.hid hb2
          clear hb hab hya hyb c6 c7
          have reY2 : ∀ v, ∃ x, ovr Y2 v = ovr V x := fun v => ovr_reB hb2 v
          have SV_yW00 := Lib.hid yW00
          replace yW00 := tr_cell reY2 yW00
          have SV_yW01 := Lib.hid yW01
          replace yW01 := tr_cell reY2 yW01
          have SV_yW02 := Lib.hid yW02
          replace yW02 := tr_cell reY2 yW02
          have SV_yW03 := Lib.hid yW03
          replace yW03 := tr_cell reY2 yW03
          have SV_yW04 := Lib.hid yW04
          replace yW04 := tr_cell reY2 yW04
          have SV_yW05 := Lib.hid yW05
          replace yW05 := tr_cell reY2 yW05
          have SV_yW06 := Lib.hid yW06
          replace yW06 := tr_cell reY2 yW06
          have SV_yW07 := Lib.hid yW07
          replace yW07 := tr_cell reY2 yW07
          have SV_yW08 := Lib.hid yW08
          replace yW08 := tr_cell reY2 yW08
          have SV_yW09 := Lib.hid yW09
          replace yW09 := tr_cell reY2 yW09
          have SV_yW010 := Lib.hid yW010
          replace yW010 := tr_cell reY2 yW010
          have SV_yW011 := Lib.hid yW011
          replace yW011 := tr_cell reY2 yW011
          have SV_yW012 := Lib.hid yW012
          replace yW012 := tr_cell reY2 yW012
          have SV_RrowW0 := Lib.hid RrowW0.out
          replace RrowW0 := Lib.hid (tr_row reY2 RrowW0.out)
          have SV_yX00 := Lib.hid yX00
          replace yX00 := tr_cell reY2 yX00
          have SV_yX01 := Lib.hid yX01
          replace yX01 := tr_cell reY2 yX01
          have SV_yX02 := Lib.hid yX02
          replace yX02 := tr_cell reY2 yX02
          have SV_yX03 := Lib.hid yX03
          replace yX03 := tr_cell reY2 yX03
          have SV_yX04 := Lib.hid yX04
          replace yX04 := tr_cell reY2 yX04
          have SV_yX05 := Lib.hid yX05
          replace yX05 := tr_cell reY2 yX05
          have SV_yX06 := Lib.hid yX06
          replace yX06 := tr_cell reY2 yX06
          have SV_yX07 := Lib.hid yX07
          replace yX07 := tr_cell reY2 yX07
          have SV_yX08 := Lib.hid yX08
          replace yX08 := tr_cell reY2 yX08
          have SV_RrowX0 := Lib.hid RrowX0.out
          replace RrowX0 := Lib.hid (tr_row reY2 RrowX0.out)
          have SV_yV00 := Lib.hid yV00
          replace yV00 := tr_cell reY2 yV00
          have SV_yV01 := Lib.hid yV01
          replace yV01 := tr_cell reY2 yV01
          have SV_RrowV0 := Lib.hid RrowV0.out
          replace RrowV0 := Lib.hid (tr_row reY2 RrowV0.out)
          have SV_yV10 := Lib.hid yV10
          replace yV10 := tr_cell reY2 yV10
          have SV_yV11 := Lib.hid yV11
          replace yV11 := tr_cell reY2 yV11
          have SV_RrowV1 := Lib.hid RrowV1.out
          replace RrowV1 := Lib.hid (tr_row reY2 RrowV1.out)
          have yY200 := ovr_cell (W := Y2) (b := a) (o := 0) (v := I (-1)) (by rw [cell_of_row _ _ _ _ _ _ ra]; rfl)
          have yY201 := ovr_cell (W := Y2) (b := a) (o := 1) (v := I 1) (by rw [cell_of_row _ _ _ _ _ _ ra]; rfl)
          have RrowY20 := Lib.hid (ovr_row ra)
          clear ra
          have yY210 := ovr_cell (W := Y2) (b := b) (o := 0) (v := I (xh * m.sc)) (by rw [cell_of_row _ _ _ _ _ _ rb]; rfl)
          have yY211 := ovr_cell (W := Y2) (b := b) (o := 1) (v := I yl) (by rw [cell_of_row _ _ _ _ _ _ rb]; rfl)
          have RrowY21 := Lib.hid (ovr_row rb)
          clear rb
          have HUY2 : Hid (∀ u, Below w.heap.size w (ovr Y2 u)) := fun u => by obtain ⟨x, hx⟩ := reY2 u; rw [hx]; exact HUV.out x
          clear reY2 hb2
          obtain ⟨uy2, huy2⟩ := ovr_self Y2
          rw [huy2]
          have HB3 : Hid (Below V.heap.size V (ovr Y2 uy2)) := by rw [← huy2]; exact HB2.out
          clear huy2
          go_upto_region 12 with (with_reducible show wpList _ _ _ (⟨none, Op.store _ _ _, _, _, _, _⟩ :: _) _ _; refine wpList_store_row rfl 99 _ _ rfl a rfl _ _ (RrowY20.out uy2) #[I (m.b 0).lo, I 1] rfl (one2 rfl rfl) rfl (by kernel_rfl) ?_)
          refine name_w fun T1 hT1 => ?_
          have ra1 : T1.heap[a]? = some (.cells #[I (m.b 0).lo, I 1] 99 (0, 0)) := by rw [hT1]; exact setRow_same (RrowY20.out uy2)
          have rb1 : T1.heap[b]? = some (.cells #[I (xh * m.sc), I yl] 99 (0, 0)) := by rw [hT1]; exact (setRow_other HAB.out.symm).trans (RrowY21.out uy2)
          have bT1 : Below V.heap.size V T1 := by rw [hT1]; exact below_setRow HB3.out HYA.out _
          clear hT1
          have HT1 := Lib.hid bT1
          have reT1 : ∀ v, ∃ x, ovr T1 v = ovr V x := fun v => ovr_reB bT1 v
          have yW00 := SV_yW00.out
          replace yW00 := tr_cell reT1 yW00
          have yW01 := SV_yW01.out
          replace yW01 := tr_cell reT1 yW01
          have yW02 := SV_yW02.out
          replace yW02 := tr_cell reT1 yW02
          have yW03 := SV_yW03.out
          replace yW03 := tr_cell reT1 yW03
          have yW04 := SV_yW04.out
          replace yW04 := tr_cell reT1 yW04
          have yW05 := SV_yW05.out
          replace yW05 := tr_cell reT1 yW05
          have yW06 := SV_yW06.out
          replace yW06 := tr_cell reT1 yW06
          have yW07 := SV_yW07.out
          replace yW07 := tr_cell reT1 yW07
          have yW08 := SV_yW08.out
          replace yW08 := tr_cell reT1 yW08
          have yW09 := SV_yW09.out
          replace yW09 := tr_cell reT1 yW09
          have yW010 := SV_yW010.out
          replace yW010 := tr_cell reT1 yW010
          have yW011 := SV_yW011.out
          replace yW011 := tr_cell reT1 yW011
          have yW012 := SV_yW012.out
          replace yW012 := tr_cell reT1 yW012
          have RrowW0 := SV_RrowW0
          replace RrowW0 := Lib.hid (tr_row reT1 RrowW0.out)
          have yX00 := SV_yX00.out
          replace yX00 := tr_cell reT1 yX00
          have yX01 := SV_yX01.out
          replace yX01 := tr_cell reT1 yX01
          have yX02 := SV_yX02.out
          replace yX02 := tr_cell reT1 yX02
          have yX03 := SV_yX03.out
          replace yX03 := tr_cell reT1 yX03
          have yX04 := SV_yX04.out
          replace yX04 := tr_cell reT1 yX04
          have yX05 := SV_yX05.out
          replace yX05 := tr_cell reT1 yX05
          have yX06 := SV_yX06.out
          replace yX06 := tr_cell reT1 yX06
          have yX07 := SV_yX07.out
          replace yX07 := tr_cell reT1 yX07
          have yX08 := SV_yX08.out
          replace yX08 := tr_cell reT1 yX08
          have RrowX0 := SV_RrowX0
          replace RrowX0 := Lib.hid (tr_row reT1 RrowX0.out)
          have yV00 := SV_yV00.out
          replace yV00 := tr_cell reT1 yV00
          have yV01 := SV_yV01.out
          replace yV01 := tr_cell reT1 yV01
          have RrowV0 := SV_RrowV0
          replace RrowV0 := Lib.hid (tr_row reT1 RrowV0.out)
          have yV10 := SV_yV10.out
          replace yV10 := tr_cell reT1 yV10
          have yV11 := SV_yV11.out
          replace yV11 := tr_cell reT1 yV11
          have RrowV1 := SV_RrowV1
          replace RrowV1 := Lib.hid (tr_row reT1 RrowV1.out)
          have yT100 := ovr_cell (W := T1) (b := a) (o := 0) (v := I (m.b 0).lo) (by rw [cell_of_row _ _ _ _ _ _ ra1]; rfl)
          have yT101 := ovr_cell (W := T1) (b := a) (o := 1) (v := I 1) (by rw [cell_of_row _ _ _ _ _ _ ra1]; rfl)
          have RrowT10 := Lib.hid (ovr_row ra1)
          clear ra1
          have yT110 := ovr_cell (W := T1) (b := b) (o := 0) (v := I (xh * m.sc)) (by rw [cell_of_row _ _ _ _ _ _ rb1]; rfl)
          have yT111 := ovr_cell (W := T1) (b := b) (o := 1) (v := I yl) (by rw [cell_of_row _ _ _ _ _ _ rb1]; rfl)
          have RrowT11 := Lib.hid (ovr_row rb1)
          clear rb1
          have HUT1 : Hid (∀ u, Below w.heap.size w (ovr T1 u)) := fun u => by obtain ⟨x, hx⟩ := reT1 u; rw [hx]; exact HUV.out x
          clear reT1 bT1
          obtain ⟨ut0, hut0⟩ := ovr_self T1
          rw [hut0]
          have HT1b : Hid (Below V.heap.size V (ovr T1 ut0)) := by rw [← hut0]; exact HT1.out
          clear hut0
          go_upto_region 14 with (with_reducible show wpList _ _ _ (⟨none, Op.store _ _ _, _, _, _, _⟩ :: _) _ _; refine wpList_store_row rfl 99 _ _ rfl b rfl _ _ (RrowT11.out ut0) #[I (m.b 1).hi, I 1] rfl (one2 rfl rfl) rfl (by kernel_rfl) ?_)
          refine name_w fun T hT => ?_
          have ra2 : T.heap[a]? = some (.cells #[I (m.b 0).lo, I 1] 99 (0, 0)) := by rw [hT]; exact (setRow_other HAB.out).trans (RrowT10.out ut0)
          have rb2 : T.heap[b]? = some (.cells #[I (m.b 1).hi, I 1] 99 (0, 0)) := by rw [hT]; exact setRow_same (RrowT11.out ut0)
          have bT : Below V.heap.size V T := by rw [hT]; exact below_setRow HT1b.out HYB.out _
          clear hT
          have HT := Lib.hid bT
          have reT : ∀ v, ∃ x, ovr T v = ovr V x := fun v => ovr_reB bT v
          have yW00 := SV_yW00.out
          replace yW00 := tr_cell reT yW00
          have yW01 := SV_yW01.out
          replace yW01 := tr_cell reT yW01
          have yW02 := SV_yW02.out
          replace yW02 := tr_cell reT yW02
          have yW03 := SV_yW03.out
          replace yW03 := tr_cell reT yW03
          have yW04 := SV_yW04.out
          replace yW04 := tr_cell reT yW04
          have yW05 := SV_yW05.out
          replace yW05 := tr_cell reT yW05
          have yW06 := SV_yW06.out
          replace yW06 := tr_cell reT yW06
          have yW07 := SV_yW07.out
          replace yW07 := tr_cell reT yW07
          have yW08 := SV_yW08.out
          replace yW08 := tr_cell reT yW08
          have yW09 := SV_yW09.out
          replace yW09 := tr_cell reT yW09
          have yW010 := SV_yW010.out
          replace yW010 := tr_cell reT yW010
          have yW011 := SV_yW011.out
          replace yW011 := tr_cell reT yW011
          have yW012 := SV_yW012.out
          replace yW012 := tr_cell reT yW012
          have RrowW0 := SV_RrowW0
          replace RrowW0 := Lib.hid (tr_row reT RrowW0.out)
          have yX00 := SV_yX00.out
          replace yX00 := tr_cell reT yX00
          have yX01 := SV_yX01.out
          replace yX01 := tr_cell reT yX01
          have yX02 := SV_yX02.out
          replace yX02 := tr_cell reT yX02
          have yX03 := SV_yX03.out
          replace yX03 := tr_cell reT yX03
          have yX04 := SV_yX04.out
          replace yX04 := tr_cell reT yX04
          have yX05 := SV_yX05.out
          replace yX05 := tr_cell reT yX05
          have yX06 := SV_yX06.out
          replace yX06 := tr_cell reT yX06
          have yX07 := SV_yX07.out
          replace yX07 := tr_cell reT yX07
          have yX08 := SV_yX08.out
          replace yX08 := tr_cell reT yX08
          have RrowX0 := SV_RrowX0
          replace RrowX0 := Lib.hid (tr_row reT RrowX0.out)
          have yV00 := SV_yV00.out
          replace yV00 := tr_cell reT yV00
          have yV01 := SV_yV01.out
          replace yV01 := tr_cell reT yV01
          have RrowV0 := SV_RrowV0
          replace RrowV0 := Lib.hid (tr_row reT RrowV0.out)
          have yV10 := SV_yV10.out
          replace yV10 := tr_cell reT yV10
          have yV11 := SV_yV11.out
          replace yV11 := tr_cell reT yV11
          have RrowV1 := SV_RrowV1
          replace RrowV1 := Lib.hid (tr_row reT RrowV1.out)
          have yT00 := ovr_cell (W := T) (b := a) (o := 0) (v := I (m.b 0).lo) (by rw [cell_of_row _ _ _ _ _ _ ra2]; rfl)
          have yT01 := ovr_cell (W := T) (b := a) (o := 1) (v := I 1) (by rw [cell_of_row _ _ _ _ _ _ ra2]; rfl)
          have RrowT0 := Lib.hid (ovr_row ra2)
          clear ra2
          have yT10 := ovr_cell (W := T) (b := b) (o := 0) (v := I (m.b 1).hi) (by rw [cell_of_row _ _ _ _ _ _ rb2]; rfl)
          have yT11 := ovr_cell (W := T) (b := b) (o := 1) (v := I 1) (by rw [cell_of_row _ _ _ _ _ _ rb2]; rfl)
          have RrowT1 := Lib.hid (ovr_row rb2)
          clear rb2
          have HUT : Hid (∀ u, Below w.heap.size w (ovr T u)) := fun u => by obtain ⟨x, hx⟩ := reT u; rw [hx]; exact HUV.out x
          clear reT bT
          obtain ⟨ut, hut⟩ := ovr_self T
          rw [hut]
          clear hut
          have ok := fracs_ok HPL.out (k := 1) (by decide)
          have CA := Lib.hid fun V => compare_any ⟨(m.b 1).hi, 1⟩ ⟨xh * m.sc, yl⟩ V
          have HOTP : Hid (fok ⟨(m.b 1).hi, 1⟩ = true) := ok.2.2.2 (by decide)
          have HOKF : Hid (fok ⟨xh * m.sc, yl⟩ = true) := ok.2.1
          have hhi : highF m ⟨xl, xh⟩ ⟨yl, yh⟩ 1 = if 0 < fcm ⟨(m.b 1).hi, 1⟩ ⟨xh * m.sc, yl⟩ then ⟨xh * m.sc, yl⟩ else ⟨(m.b 1).hi, 1⟩ := rfl
          rw [co_ok HOTP.out HOKF.out] at CA
          obtain ⟨s0, hs0⟩ : ∃ s, fcm ⟨(m.b 1).hi, 1⟩ ⟨xh * m.sc, yl⟩ = s := ⟨_, rfl⟩
          rw [hs0] at CA hhi
          clear hs0 ok
          go_wp2_with fail
          refine (CA.out _).mono ?_
          rintro e w1 ⟨rfl, hb1⟩
          obtain ⟨ut1, rfl⟩ := ovr_next hb1
          clear hb1
          by_cases hc : 0 < s0
          · rw [if_pos hc] at hhi
            have HIGH := Lib.hid hhi
            clear hhi
            go_upto_region 17 with (with_reducible show wpList _ _ _ (⟨none, Op.store _ _ _, _, _, _, _⟩ :: _) _ _; refine wpList_store_row rfl 99 _ _ rfl b rfl _ _ (RrowT1.out ut1) #[I (xh * m.sc), I yl] rfl (one2 rfl rfl) rfl (by kernel_rfl) ?_)
            refine name_w fun T2 hT2 => ?_
            have ra3 : T2.heap[a]? = some (.cells #[I (m.b 0).lo, I 1] 99 (0, 0)) := by rw [hT2]; exact (setRow_other HAB.out).trans (RrowT0.out ut1)
            have rb3 : T2.heap[b]? = some (.cells #[I (xh * m.sc), I yl] 99 (0, 0)) := by rw [hT2]; exact setRow_same (RrowT1.out ut1)
            have bT2 : Below V.heap.size V T2 := by rw [hT2]; exact below_setRow (HT.out.trans ((ovr_below T ut1).mono HT.out.size)) HYB.out _
            clear hT2
            have HT2 := Lib.hid bT2
            have reT2 : ∀ v, ∃ x, ovr T2 v = ovr V x := fun v => ovr_reB bT2 v
            have yW00 := SV_yW00.out
            replace yW00 := tr_cell reT2 yW00
            have yW01 := SV_yW01.out
            replace yW01 := tr_cell reT2 yW01
            have yW02 := SV_yW02.out
            replace yW02 := tr_cell reT2 yW02
            have yW03 := SV_yW03.out
            replace yW03 := tr_cell reT2 yW03
            have yW04 := SV_yW04.out
            replace yW04 := tr_cell reT2 yW04
            have yW05 := SV_yW05.out
            replace yW05 := tr_cell reT2 yW05
            have yW06 := SV_yW06.out
            replace yW06 := tr_cell reT2 yW06
            have yW07 := SV_yW07.out
            replace yW07 := tr_cell reT2 yW07
            have yW08 := SV_yW08.out
            replace yW08 := tr_cell reT2 yW08
            have yW09 := SV_yW09.out
            replace yW09 := tr_cell reT2 yW09
            have yW010 := SV_yW010.out
            replace yW010 := tr_cell reT2 yW010
            have yW011 := SV_yW011.out
            replace yW011 := tr_cell reT2 yW011
            have yW012 := SV_yW012.out
            replace yW012 := tr_cell reT2 yW012
            have RrowW0 := SV_RrowW0
            replace RrowW0 := Lib.hid (tr_row reT2 RrowW0.out)
            have yX00 := SV_yX00.out
            replace yX00 := tr_cell reT2 yX00
            have yX01 := SV_yX01.out
            replace yX01 := tr_cell reT2 yX01
            have yX02 := SV_yX02.out
            replace yX02 := tr_cell reT2 yX02
            have yX03 := SV_yX03.out
            replace yX03 := tr_cell reT2 yX03
            have yX04 := SV_yX04.out
            replace yX04 := tr_cell reT2 yX04
            have yX05 := SV_yX05.out
            replace yX05 := tr_cell reT2 yX05
            have yX06 := SV_yX06.out
            replace yX06 := tr_cell reT2 yX06
            have yX07 := SV_yX07.out
            replace yX07 := tr_cell reT2 yX07
            have yX08 := SV_yX08.out
            replace yX08 := tr_cell reT2 yX08
            have RrowX0 := SV_RrowX0
            replace RrowX0 := Lib.hid (tr_row reT2 RrowX0.out)
            have yV00 := SV_yV00.out
            replace yV00 := tr_cell reT2 yV00
            have yV01 := SV_yV01.out
            replace yV01 := tr_cell reT2 yV01
            have RrowV0 := SV_RrowV0
            replace RrowV0 := Lib.hid (tr_row reT2 RrowV0.out)
            have yV10 := SV_yV10.out
            replace yV10 := tr_cell reT2 yV10
            have yV11 := SV_yV11.out
            replace yV11 := tr_cell reT2 yV11
            have RrowV1 := SV_RrowV1
            replace RrowV1 := Lib.hid (tr_row reT2 RrowV1.out)
            have yT200 := ovr_cell (W := T2) (b := a) (o := 0) (v := I (m.b 0).lo) (by rw [cell_of_row _ _ _ _ _ _ ra3]; rfl)
            have yT201 := ovr_cell (W := T2) (b := a) (o := 1) (v := I 1) (by rw [cell_of_row _ _ _ _ _ _ ra3]; rfl)
            have RrowT20 := Lib.hid (ovr_row ra3)
            clear ra3
            have yT210 := ovr_cell (W := T2) (b := b) (o := 0) (v := I (xh * m.sc)) (by rw [cell_of_row _ _ _ _ _ _ rb3]; rfl)
            have yT211 := ovr_cell (W := T2) (b := b) (o := 1) (v := I yl) (by rw [cell_of_row _ _ _ _ _ _ rb3]; rfl)
            have RrowT21 := Lib.hid (ovr_row rb3)
            clear rb3
            have HUT2 : Hid (∀ u, Below w.heap.size w (ovr T2 u)) := fun u => by obtain ⟨x, hx⟩ := reT2 u; rw [hx]; exact HUV.out x
            clear reT2 bT2
            obtain ⟨ut2, hut2⟩ := ovr_self T2
            rw [hut2]
            clear hut2
            have HTW := HT2
            have HOKQ := HOKF
            have ok := fracs_ok HPL.out (k := 1) (by decide)
            have CB := Lib.hid fun V => compare_any ⟨(xh * m.sc), yl⟩ ⟨xl * m.sc, yh⟩ V
            have CC := Lib.hid fun V => compare_any ⟨(xh * m.sc), yl⟩ ⟨(m.b 0).lo, 1⟩ V
            have hlaw := reach_law HPL.out (k := 1) (by decide)
            rw [show highF m ⟨xl, xh⟩ ⟨yl, yh⟩ 1 = ⟨(xh * m.sc), yl⟩ from HIGH.out] at hlaw
            rw [co_ok HOKQ.out (show fok ⟨xl * m.sc, yh⟩ = true from ok.1)] at CB
            rw [co_ok HOKQ.out (show fok ⟨(m.b 0).lo, 1⟩ = true from ok.2.2.1)] at CC
            obtain ⟨s1, hs1⟩ : ∃ s, fcm ⟨(xh * m.sc), yl⟩ ⟨xl * m.sc, yh⟩ = s := ⟨_, rfl⟩
            obtain ⟨s2, hs2⟩ : ∃ s, fcm ⟨(xh * m.sc), yl⟩ ⟨(m.b 0).lo, 1⟩ = s := ⟨_, rfl⟩
            replace hlaw : (0 ≤ s1 ∧ 0 < s2) ↔ posB m ⟨xl, xh⟩ ⟨yl, yh⟩ 1 = true := by rw [← hs1, ← hs2]; exact hlaw
            rw [hs1] at CB
            rw [hs2] at CC
            have HLAW := Lib.hid hlaw
            clear ok hs1 hs2 hlaw
            go_wp2_with fail
            refine (CB.out _).mono ?_
            rintro e w1 ⟨rfl, hb1⟩
            obtain ⟨v1, rfl⟩ := ovr_next hb1
            clear hb1
            go_wp2_with fail
            refine (CC.out _).mono ?_
            rintro e w2 ⟨rfl, hb1⟩
            obtain ⟨v2, rfl⟩ := ovr_next hb1
            clear hb1
            have HEND : Hid (Below V.heap.size V (ovr T2 v2)) := HT2.out.trans ((ovr_below T2 v2).mono HT2.out.size)
            have q1 := HBIT.out 1 (by decide)
            rw [show S / 2 ^ 1 = S / 2 from rfl] at q1
            rcases hp : posB m ⟨xl, xh⟩ ⟨yl, yh⟩ 1 with _ | _
            · rw [hp] at q1
              have hn : ¬ (0 ≤ s1 ∧ 0 < s2) := fun h => by have := HLAW.out.1 h; rw [hp] at this; cases this
              rw [if_neg Bool.false_ne_true] at q1
              clear hp
              by_cases g1 : 0 ≤ s1
              · have g2 : ¬ 0 < s2 := fun h => hn ⟨g1, h⟩
                clear hn
                go_wp2_with fail
                exact ⟨⟨1 + 1, by decide, rfl, HEND.out⟩, by simp [intOf]⟩
              · clear hn
                go_wp2_with fail
                exact ⟨⟨1 + 1, by decide, rfl, HEND.out⟩, by simp [intOf]⟩
            · rw [hp, if_pos rfl] at q1
              obtain ⟨g1, g2⟩ := HLAW.out.2 hp
              clear hp
              go_wp2_with fail
              exact ⟨⟨1 + 1, by decide, rfl, HEND.out⟩, by simp [intOf]⟩
          · rw [if_neg hc] at hhi
            have HIGH := Lib.hid hhi
            clear hhi
            have HTW := HT
            have HOKQ := HOTP
            have ok := fracs_ok HPL.out (k := 1) (by decide)
            have CB := Lib.hid fun V => compare_any ⟨(m.b 1).hi, 1⟩ ⟨xl * m.sc, yh⟩ V
            have CC := Lib.hid fun V => compare_any ⟨(m.b 1).hi, 1⟩ ⟨(m.b 0).lo, 1⟩ V
            have hlaw := reach_law HPL.out (k := 1) (by decide)
            rw [show highF m ⟨xl, xh⟩ ⟨yl, yh⟩ 1 = ⟨(m.b 1).hi, 1⟩ from HIGH.out] at hlaw
            rw [co_ok HOKQ.out (show fok ⟨xl * m.sc, yh⟩ = true from ok.1)] at CB
            rw [co_ok HOKQ.out (show fok ⟨(m.b 0).lo, 1⟩ = true from ok.2.2.1)] at CC
            obtain ⟨s1, hs1⟩ : ∃ s, fcm ⟨(m.b 1).hi, 1⟩ ⟨xl * m.sc, yh⟩ = s := ⟨_, rfl⟩
            obtain ⟨s2, hs2⟩ : ∃ s, fcm ⟨(m.b 1).hi, 1⟩ ⟨(m.b 0).lo, 1⟩ = s := ⟨_, rfl⟩
            replace hlaw : (0 ≤ s1 ∧ 0 < s2) ↔ posB m ⟨xl, xh⟩ ⟨yl, yh⟩ 1 = true := by rw [← hs1, ← hs2]; exact hlaw
            rw [hs1] at CB
            rw [hs2] at CC
            have HLAW := Lib.hid hlaw
            clear ok hs1 hs2 hlaw
            go_wp2_with fail
            refine (CB.out _).mono ?_
            rintro e w1 ⟨rfl, hb1⟩
            obtain ⟨v1, rfl⟩ := ovr_next hb1
            clear hb1
            go_wp2_with fail
            refine (CC.out _).mono ?_
            rintro e w2 ⟨rfl, hb1⟩
            obtain ⟨v2, rfl⟩ := ovr_next hb1
            clear hb1
            have HEND : Hid (Below V.heap.size V (ovr T v2)) := HT.out.trans ((ovr_below T v2).mono HT.out.size)
            have q1 := HBIT.out 1 (by decide)
            rw [show S / 2 ^ 1 = S / 2 from rfl] at q1
            rcases hp : posB m ⟨xl, xh⟩ ⟨yl, yh⟩ 1 with _ | _
            · rw [hp] at q1
              have hn : ¬ (0 ≤ s1 ∧ 0 < s2) := fun h => by have := HLAW.out.1 h; rw [hp] at this; cases this
              rw [if_neg Bool.false_ne_true] at q1
              clear hp
              by_cases g1 : 0 ≤ s1
              · have g2 : ¬ 0 < s2 := fun h => hn ⟨g1, h⟩
                clear hn
                go_wp2_with fail
                exact ⟨⟨1 + 1, by decide, rfl, HEND.out⟩, by simp [intOf]⟩
              · clear hn
                go_wp2_with fail
                exact ⟨⟨1 + 1, by decide, rfl, HEND.out⟩, by simp [intOf]⟩
            · rw [hp, if_pos rfl] at q1
              obtain ⟨g1, g2⟩ := HLAW.out.2 hp
              clear hp
              go_wp2_with fail
              exact ⟨⟨1 + 1, by decide, rfl, HEND.out⟩, by simp [intOf]⟩
      · skip
        obtain ⟨uy, huy⟩ : ∃ u, Y = ovr V u := ⟨Y, ovr_of hby⟩
        have c6 : Y.cell? ⟨q, 0, none⟩ = some (I (xh * m.sc)) := by rw [huy]; exact yV10 uy
        have c7 : Y.cell? ⟨q, 1, none⟩ = some (I yl) := by rw [huy]; exact yV11 uy
        clear huy hby
        go_upto_region 9 with fail
        go_cut [9, 10] (fun s9 s10 wx => ∃ a b : Nat, s9 = .pointer (some ⟨a, 0, none⟩) ∧ s10 = .pointer (some ⟨b, 0, none⟩) ∧ a ≠ b ∧ Y.heap.size ≤ a ∧ Y.heap.size ≤ b ∧ wx.heap[a]? = some (.cells #[I (-1), I 1] 99 (0, 0)) ∧ wx.heap[b]? = some (.cells #[I (xh * m.sc), I yl] 99 (0, 0)) ∧ Below Y.heap.size Y wx)
        case first =>
          go_region_held3 (fun w' => w'.cell? ⟨q, 0, none⟩ = some (I (xh * m.sc)) ∧ w'.cell? ⟨q, 1, none⟩ = some (I yl)) (go_keep) (fail)
          all_goals
            go_wp2_with fail
            go_meet
            case rel =>
              first
              | exact ⟨_, _, rfl, rfl, Nat.ne_of_lt (Nat.lt_succ_self _), Nat.le_refl _, Nat.le_succ _, (by rw [heap_drew]; exact heap_before (heap_last _ _ _ rfl)), (by rw [heap_drew]; exact heap_last _ _ _ (by simp)), (((Below.refl _ _).alloc (Nat.le_refl _) _).alloc (by simp) _).drew⟩
              | exact ⟨_, _, rfl, rfl, (Nat.ne_of_lt (Nat.lt_succ_self _)).symm, Nat.le_succ _, Nat.le_refl _, (by rw [heap_drew]; exact heap_last _ _ _ (by simp)), (by rw [heap_drew]; exact heap_before (heap_last _ _ _ rfl)), (((Below.refl _ _).alloc (Nat.le_refl _) _).alloc (by simp) _).drew⟩
        case rest =>
          obtain ⟨a, b, rfl, rfl, hab, hya, hyb, ra, rb, hb⟩ := hcut
          rename World => Y2
          have hb2 : Below V.heap.size V Y2 := HBY.out.trans (hb.mono HBY.out.size)
          have HAB := Lib.hid hab
          have HYA : Hid (V.heap.size ≤ a) := Nat.le_trans HBY.out.size hya
          have HYB : Hid (V.heap.size ≤ b) := Nat.le_trans HBY.out.size hyb
          have HB2 := Lib.hid hb2
          clear hb hab hya hyb c6 c7
          have reY2 : ∀ v, ∃ x, ovr Y2 v = ovr V x := fun v => ovr_reB hb2 v
          have SV_yW00 := Lib.hid yW00
          replace yW00 := tr_cell reY2 yW00
          have SV_yW01 := Lib.hid yW01
          replace yW01 := tr_cell reY2 yW01
          have SV_yW02 := Lib.hid yW02
          replace yW02 := tr_cell reY2 yW02
          have SV_yW03 := Lib.hid yW03
          replace yW03 := tr_cell reY2 yW03
          have SV_yW04 := Lib.hid yW04
          replace yW04 := tr_cell reY2 yW04
          have SV_yW05 := Lib.hid yW05
          replace yW05 := tr_cell reY2 yW05
          have SV_yW06 := Lib.hid yW06
          replace yW06 := tr_cell reY2 yW06
          have SV_yW07 := Lib.hid yW07
          replace yW07 := tr_cell reY2 yW07
          have SV_yW08 := Lib.hid yW08
          replace yW08 := tr_cell reY2 yW08
          have SV_yW09 := Lib.hid yW09
          replace yW09 := tr_cell reY2 yW09
          have SV_yW010 := Lib.hid yW010
          replace yW010 := tr_cell reY2 yW010
          have SV_yW011 := Lib.hid yW011
          replace yW011 := tr_cell reY2 yW011
          have SV_yW012 := Lib.hid yW012
          replace yW012 := tr_cell reY2 yW012
          have SV_RrowW0 := Lib.hid RrowW0.out
          replace RrowW0 := Lib.hid (tr_row reY2 RrowW0.out)
          have SV_yX00 := Lib.hid yX00
          replace yX00 := tr_cell reY2 yX00
          have SV_yX01 := Lib.hid yX01
          replace yX01 := tr_cell reY2 yX01
          have SV_yX02 := Lib.hid yX02
          replace yX02 := tr_cell reY2 yX02
          have SV_yX03 := Lib.hid yX03
          replace yX03 := tr_cell reY2 yX03
          have SV_yX04 := Lib.hid yX04
          replace yX04 := tr_cell reY2 yX04
          have SV_yX05 := Lib.hid yX05
          replace yX05 := tr_cell reY2 yX05
          have SV_yX06 := Lib.hid yX06
          replace yX06 := tr_cell reY2 yX06
          have SV_yX07 := Lib.hid yX07
          replace yX07 := tr_cell reY2 yX07
          have SV_yX08 := Lib.hid yX08
          replace yX08 := tr_cell reY2 yX08
          have SV_RrowX0 := Lib.hid RrowX0.out
          replace RrowX0 := Lib.hid (tr_row reY2 RrowX0.out)
          have SV_yV00 := Lib.hid yV00
          replace yV00 := tr_cell reY2 yV00
          have SV_yV01 := Lib.hid yV01
          replace yV01 := tr_cell reY2 yV01
          have SV_RrowV0 := Lib.hid RrowV0.out
          replace RrowV0 := Lib.hid (tr_row reY2 RrowV0.out)
          have SV_yV10 := Lib.hid yV10
          replace yV10 := tr_cell reY2 yV10
          have SV_yV11 := Lib.hid yV11
          replace yV11 := tr_cell reY2 yV11
          have SV_RrowV1 := Lib.hid RrowV1.out
          replace RrowV1 := Lib.hid (tr_row reY2 RrowV1.out)
          have yY200 := ovr_cell (W := Y2) (b := a) (o := 0) (v := I (-1)) (by rw [cell_of_row _ _ _ _ _ _ ra]; rfl)
          have yY201 := ovr_cell (W := Y2) (b := a) (o := 1) (v := I 1) (by rw [cell_of_row _ _ _ _ _ _ ra]; rfl)
          have RrowY20 := Lib.hid (ovr_row ra)
          clear ra
          have yY210 := ovr_cell (W := Y2) (b := b) (o := 0) (v := I (xh * m.sc)) (by rw [cell_of_row _ _ _ _ _ _ rb]; rfl)
          have yY211 := ovr_cell (W := Y2) (b := b) (o := 1) (v := I yl) (by rw [cell_of_row _ _ _ _ _ _ rb]; rfl)
          have RrowY21 := Lib.hid (ovr_row rb)
          clear rb
          have HUY2 : Hid (∀ u, Below w.heap.size w (ovr Y2 u)) := fun u => by obtain ⟨x, hx⟩ := reY2 u; rw [hx]; exact HUV.out x
          clear reY2 hb2
          obtain ⟨uy2, huy2⟩ := ovr_self Y2
          rw [huy2]
          have HB3 : Hid (Below V.heap.size V (ovr Y2 uy2)) := by rw [← huy2]; exact HB2.out
          clear huy2
          go_upto_region 12 with (with_reducible show wpList _ _ _ (⟨none, Op.store _ _ _, _, _, _, _⟩ :: _) _ _; refine wpList_store_row rfl 99 _ _ rfl a rfl _ _ (RrowY20.out uy2) #[I (m.b 1).lo, I 1] rfl (one2 rfl rfl) rfl (by kernel_rfl) ?_)
          refine name_w fun T1 hT1 => ?_
          have ra1 : T1.heap[a]? = some (.cells #[I (m.b 1).lo, I 1] 99 (0, 0)) := by rw [hT1]; exact setRow_same (RrowY20.out uy2)
          have rb1 : T1.heap[b]? = some (.cells #[I (xh * m.sc), I yl] 99 (0, 0)) := by rw [hT1]; exact (setRow_other HAB.out.symm).trans (RrowY21.out uy2)
          have bT1 : Below V.heap.size V T1 := by rw [hT1]; exact below_setRow HB3.out HYA.out _
          clear hT1
          have HT1 := Lib.hid bT1
          have reT1 : ∀ v, ∃ x, ovr T1 v = ovr V x := fun v => ovr_reB bT1 v
          have yW00 := SV_yW00.out
          replace yW00 := tr_cell reT1 yW00
          have yW01 := SV_yW01.out
          replace yW01 := tr_cell reT1 yW01
          have yW02 := SV_yW02.out
          replace yW02 := tr_cell reT1 yW02
          have yW03 := SV_yW03.out
          replace yW03 := tr_cell reT1 yW03
          have yW04 := SV_yW04.out
          replace yW04 := tr_cell reT1 yW04
          have yW05 := SV_yW05.out
          replace yW05 := tr_cell reT1 yW05
          have yW06 := SV_yW06.out
          replace yW06 := tr_cell reT1 yW06
          have yW07 := SV_yW07.out
          replace yW07 := tr_cell reT1 yW07
          have yW08 := SV_yW08.out
          replace yW08 := tr_cell reT1 yW08
          have yW09 := SV_yW09.out
          replace yW09 := tr_cell reT1 yW09
          have yW010 := SV_yW010.out
          replace yW010 := tr_cell reT1 yW010
          have yW011 := SV_yW011.out
          replace yW011 := tr_cell reT1 yW011
          have yW012 := SV_yW012.out
          replace yW012 := tr_cell reT1 yW012
          have RrowW0 := SV_RrowW0
          replace RrowW0 := Lib.hid (tr_row reT1 RrowW0.out)
          have yX00 := SV_yX00.out
          replace yX00 := tr_cell reT1 yX00
          have yX01 := SV_yX01.out
          replace yX01 := tr_cell reT1 yX01
          have yX02 := SV_yX02.out
          replace yX02 := tr_cell reT1 yX02
          have yX03 := SV_yX03.out
          replace yX03 := tr_cell reT1 yX03
          have yX04 := SV_yX04.out
          replace yX04 := tr_cell reT1 yX04
          have yX05 := SV_yX05.out
          replace yX05 := tr_cell reT1 yX05
          have yX06 := SV_yX06.out
          replace yX06 := tr_cell reT1 yX06
          have yX07 := SV_yX07.out
          replace yX07 := tr_cell reT1 yX07
          have yX08 := SV_yX08.out
          replace yX08 := tr_cell reT1 yX08
          have RrowX0 := SV_RrowX0
          replace RrowX0 := Lib.hid (tr_row reT1 RrowX0.out)
          have yV00 := SV_yV00.out
          replace yV00 := tr_cell reT1 yV00
          have yV01 := SV_yV01.out
          replace yV01 := tr_cell reT1 yV01
          have RrowV0 := SV_RrowV0
          replace RrowV0 := Lib.hid (tr_row reT1 RrowV0.out)
          have yV10 := SV_yV10.out
          replace yV10 := tr_cell reT1 yV10
          have yV11 := SV_yV11.out
          replace yV11 := tr_cell reT1 yV11
          have RrowV1 := SV_RrowV1
          replace RrowV1 := Lib.hid (tr_row reT1 RrowV1.out)
          have yT100 := ovr_cell (W := T1) (b := a) (o := 0) (v := I (m.b 1).lo) (by rw [cell_of_row _ _ _ _ _ _ ra1]; rfl)
          have yT101 := ovr_cell (W := T1) (b := a) (o := 1) (v := I 1) (by rw [cell_of_row _ _ _ _ _ _ ra1]; rfl)
          have RrowT10 := Lib.hid (ovr_row ra1)
          clear ra1
          have yT110 := ovr_cell (W := T1) (b := b) (o := 0) (v := I (xh * m.sc)) (by rw [cell_of_row _ _ _ _ _ _ rb1]; rfl)
          have yT111 := ovr_cell (W := T1) (b := b) (o := 1) (v := I yl) (by rw [cell_of_row _ _ _ _ _ _ rb1]; rfl)
          have RrowT11 := Lib.hid (ovr_row rb1)
          clear rb1
          have HUT1 : Hid (∀ u, Below w.heap.size w (ovr T1 u)) := fun u => by obtain ⟨x, hx⟩ := reT1 u; rw [hx]; exact HUV.out x
          clear reT1 bT1
          obtain ⟨ut0, hut0⟩ := ovr_self T1
          rw [hut0]
          have HT1b : Hid (Below V.heap.size V (ovr T1 ut0)) := by rw [← hut0]; exact HT1.out
          clear hut0
          go_upto_region 14 with (with_reducible show wpList _ _ _ (⟨none, Op.store _ _ _, _, _, _, _⟩ :: _) _ _; refine wpList_store_row rfl 99 _ _ rfl b rfl _ _ (RrowT11.out ut0) #[I (m.b 2).hi, I 1] rfl (one2 rfl rfl) rfl (by kernel_rfl) ?_)
          refine name_w fun T hT => ?_
          have ra2 : T.heap[a]? = some (.cells #[I (m.b 1).lo, I 1] 99 (0, 0)) := by rw [hT]; exact (setRow_other HAB.out).trans (RrowT10.out ut0)
          have rb2 : T.heap[b]? = some (.cells #[I (m.b 2).hi, I 1] 99 (0, 0)) := by rw [hT]; exact setRow_same (RrowT11.out ut0)
          have bT : Below V.heap.size V T := by rw [hT]; exact below_setRow HT1b.out HYB.out _
          clear hT
          have HT := Lib.hid bT
          have reT : ∀ v, ∃ x, ovr T v = ovr V x := fun v => ovr_reB bT v
          have yW00 := SV_yW00.out
          replace yW00 := tr_cell reT yW00
          have yW01 := SV_yW01.out
          replace yW01 := tr_cell reT yW01
          have yW02 := SV_yW02.out
          replace yW02 := tr_cell reT yW02
          have yW03 := SV_yW03.out
          replace yW03 := tr_cell reT yW03
          have yW04 := SV_yW04.out
          replace yW04 := tr_cell reT yW04
          have yW05 := SV_yW05.out
          replace yW05 := tr_cell reT yW05
          have yW06 := SV_yW06.out
          replace yW06 := tr_cell reT yW06
          have yW07 := SV_yW07.out
          replace yW07 := tr_cell reT yW07
          have yW08 := SV_yW08.out
          replace yW08 := tr_cell reT yW08
          have yW09 := SV_yW09.out
          replace yW09 := tr_cell reT yW09
          have yW010 := SV_yW010.out
          replace yW010 := tr_cell reT yW010
          have yW011 := SV_yW011.out
          replace yW011 := tr_cell reT yW011
          have yW012 := SV_yW012.out
          replace yW012 := tr_cell reT yW012
          have RrowW0 := SV_RrowW0
          replace RrowW0 := Lib.hid (tr_row reT RrowW0.out)
          have yX00 := SV_yX00.out
          replace yX00 := tr_cell reT yX00
          have yX01 := SV_yX01.out
          replace yX01 := tr_cell reT yX01
          have yX02 := SV_yX02.out
          replace yX02 := tr_cell reT yX02
          have yX03 := SV_yX03.out
          replace yX03 := tr_cell reT yX03
          have yX04 := SV_yX04.out
          replace yX04 := tr_cell reT yX04
          have yX05 := SV_yX05.out
          replace yX05 := tr_cell reT yX05
          have yX06 := SV_yX06.out
          replace yX06 := tr_cell reT yX06
          have yX07 := SV_yX07.out
          replace yX07 := tr_cell reT yX07
          have yX08 := SV_yX08.out
          replace yX08 := tr_cell reT yX08
          have RrowX0 := SV_RrowX0
          replace RrowX0 := Lib.hid (tr_row reT RrowX0.out)
          have yV00 := SV_yV00.out
          replace yV00 := tr_cell reT yV00
          have yV01 := SV_yV01.out
          replace yV01 := tr_cell reT yV01
          have RrowV0 := SV_RrowV0
          replace RrowV0 := Lib.hid (tr_row reT RrowV0.out)
          have yV10 := SV_yV10.out
          replace yV10 := tr_cell reT yV10
          have yV11 := SV_yV11.out
          replace yV11 := tr_cell reT yV11
          have RrowV1 := SV_RrowV1
          replace RrowV1 := Lib.hid (tr_row reT RrowV1.out)
          have yT00 := ovr_cell (W := T) (b := a) (o := 0) (v := I (m.b 1).lo) (by rw [cell_of_row _ _ _ _ _ _ ra2]; rfl)
          have yT01 := ovr_cell (W := T) (b := a) (o := 1) (v := I 1) (by rw [cell_of_row _ _ _ _ _ _ ra2]; rfl)
          have RrowT0 := Lib.hid (ovr_row ra2)
          clear ra2
          have yT10 := ovr_cell (W := T) (b := b) (o := 0) (v := I (m.b 2).hi) (by rw [cell_of_row _ _ _ _ _ _ rb2]; rfl)
          have yT11 := ovr_cell (W := T) (b := b) (o := 1) (v := I 1) (by rw [cell_of_row _ _ _ _ _ _ rb2]; rfl)
          have RrowT1 := Lib.hid (ovr_row rb2)
          clear rb2
          have HUT : Hid (∀ u, Below w.heap.size w (ovr T u)) := fun u => by obtain ⟨x, hx⟩ := reT u; rw [hx]; exact HUV.out x
          clear reT bT
          obtain ⟨ut, hut⟩ := ovr_self T
          rw [hut]
          clear hut
          have ok := fracs_ok HPL.out (k := 2) (by decide)
          have CA := Lib.hid fun V => compare_any ⟨(m.b 2).hi, 1⟩ ⟨xh * m.sc, yl⟩ V
          have HOTP : Hid (fok ⟨(m.b 2).hi, 1⟩ = true) := ok.2.2.2 (by decide)
          have HOKF : Hid (fok ⟨xh * m.sc, yl⟩ = true) := ok.2.1
          have hhi : highF m ⟨xl, xh⟩ ⟨yl, yh⟩ 2 = if 0 < fcm ⟨(m.b 2).hi, 1⟩ ⟨xh * m.sc, yl⟩ then ⟨xh * m.sc, yl⟩ else ⟨(m.b 2).hi, 1⟩ := rfl
          rw [co_ok HOTP.out HOKF.out] at CA
          obtain ⟨s0, hs0⟩ : ∃ s, fcm ⟨(m.b 2).hi, 1⟩ ⟨xh * m.sc, yl⟩ = s := ⟨_, rfl⟩
          rw [hs0] at CA hhi
          clear hs0 ok
          go_wp2_with fail
          refine (CA.out _).mono ?_
          rintro e w1 ⟨rfl, hb1⟩
          obtain ⟨ut1, rfl⟩ := ovr_next hb1
          clear hb1
          by_cases hc : 0 < s0
          · rw [if_pos hc] at hhi
            have HIGH := Lib.hid hhi
            clear hhi
            go_upto_region 17 with (with_reducible show wpList _ _ _ (⟨none, Op.store _ _ _, _, _, _, _⟩ :: _) _ _; refine wpList_store_row rfl 99 _ _ rfl b rfl _ _ (RrowT1.out ut1) #[I (xh * m.sc), I yl] rfl (one2 rfl rfl) rfl (by kernel_rfl) ?_)
            refine name_w fun T2 hT2 => ?_
            have ra3 : T2.heap[a]? = some (.cells #[I (m.b 1).lo, I 1] 99 (0, 0)) := by rw [hT2]; exact (setRow_other HAB.out).trans (RrowT0.out ut1)
            have rb3 : T2.heap[b]? = some (.cells #[I (xh * m.sc), I yl] 99 (0, 0)) := by rw [hT2]; exact setRow_same (RrowT1.out ut1)
            have bT2 : Below V.heap.size V T2 := by rw [hT2]; exact below_setRow (HT.out.trans ((ovr_below T ut1).mono HT.out.size)) HYB.out _
            clear hT2
            have HT2 := Lib.hid bT2
            have reT2 : ∀ v, ∃ x, ovr T2 v = ovr V x := fun v => ovr_reB bT2 v
            have yW00 := SV_yW00.out
            replace yW00 := tr_cell reT2 yW00
            have yW01 := SV_yW01.out
            replace yW01 := tr_cell reT2 yW01
            have yW02 := SV_yW02.out
            replace yW02 := tr_cell reT2 yW02
            have yW03 := SV_yW03.out
            replace yW03 := tr_cell reT2 yW03
            have yW04 := SV_yW04.out
            replace yW04 := tr_cell reT2 yW04
            have yW05 := SV_yW05.out
            replace yW05 := tr_cell reT2 yW05
            have yW06 := SV_yW06.out
            replace yW06 := tr_cell reT2 yW06
            have yW07 := SV_yW07.out
            replace yW07 := tr_cell reT2 yW07
            have yW08 := SV_yW08.out
            replace yW08 := tr_cell reT2 yW08
            have yW09 := SV_yW09.out
            replace yW09 := tr_cell reT2 yW09
            have yW010 := SV_yW010.out
            replace yW010 := tr_cell reT2 yW010
            have yW011 := SV_yW011.out
            replace yW011 := tr_cell reT2 yW011
            have yW012 := SV_yW012.out
            replace yW012 := tr_cell reT2 yW012
            have RrowW0 := SV_RrowW0
            replace RrowW0 := Lib.hid (tr_row reT2 RrowW0.out)
            have yX00 := SV_yX00.out
            replace yX00 := tr_cell reT2 yX00
            have yX01 := SV_yX01.out
            replace yX01 := tr_cell reT2 yX01
            have yX02 := SV_yX02.out
            replace yX02 := tr_cell reT2 yX02
            have yX03 := SV_yX03.out
            replace yX03 := tr_cell reT2 yX03
            have yX04 := SV_yX04.out
            replace yX04 := tr_cell reT2 yX04
            have yX05 := SV_yX05.out
            replace yX05 := tr_cell reT2 yX05
            have yX06 := SV_yX06.out
            replace yX06 := tr_cell reT2 yX06
            have yX07 := SV_yX07.out
            replace yX07 := tr_cell reT2 yX07
            have yX08 := SV_yX08.out
            replace yX08 := tr_cell reT2 yX08
            have RrowX0 := SV_RrowX0
            replace RrowX0 := Lib.hid (tr_row reT2 RrowX0.out)
            have yV00 := SV_yV00.out
            replace yV00 := tr_cell reT2 yV00
            have yV01 := SV_yV01.out
            replace yV01 := tr_cell reT2 yV01
            have RrowV0 := SV_RrowV0
            replace RrowV0 := Lib.hid (tr_row reT2 RrowV0.out)
            have yV10 := SV_yV10.out
            replace yV10 := tr_cell reT2 yV10
            have yV11 := SV_yV11.out
            replace yV11 := tr_cell reT2 yV11
            have RrowV1 := SV_RrowV1
            replace RrowV1 := Lib.hid (tr_row reT2 RrowV1.out)
            have yT200 := ovr_cell (W := T2) (b := a) (o := 0) (v := I (m.b 1).lo) (by rw [cell_of_row _ _ _ _ _ _ ra3]; rfl)
            have yT201 := ovr_cell (W := T2) (b := a) (o := 1) (v := I 1) (by rw [cell_of_row _ _ _ _ _ _ ra3]; rfl)
            have RrowT20 := Lib.hid (ovr_row ra3)
            clear ra3
            have yT210 := ovr_cell (W := T2) (b := b) (o := 0) (v := I (xh * m.sc)) (by rw [cell_of_row _ _ _ _ _ _ rb3]; rfl)
            have yT211 := ovr_cell (W := T2) (b := b) (o := 1) (v := I yl) (by rw [cell_of_row _ _ _ _ _ _ rb3]; rfl)
            have RrowT21 := Lib.hid (ovr_row rb3)
            clear rb3
            have HUT2 : Hid (∀ u, Below w.heap.size w (ovr T2 u)) := fun u => by obtain ⟨x, hx⟩ := reT2 u; rw [hx]; exact HUV.out x
            clear reT2 bT2
            obtain ⟨ut2, hut2⟩ := ovr_self T2
            rw [hut2]
            clear hut2
            have HTW := HT2
            have HOKQ := HOKF
            have ok := fracs_ok HPL.out (k := 2) (by decide)
            have CB := Lib.hid fun V => compare_any ⟨(xh * m.sc), yl⟩ ⟨xl * m.sc, yh⟩ V
            have CC := Lib.hid fun V => compare_any ⟨(xh * m.sc), yl⟩ ⟨(m.b 1).lo, 1⟩ V
            have hlaw := reach_law HPL.out (k := 2) (by decide)
            rw [show highF m ⟨xl, xh⟩ ⟨yl, yh⟩ 2 = ⟨(xh * m.sc), yl⟩ from HIGH.out] at hlaw
            rw [co_ok HOKQ.out (show fok ⟨xl * m.sc, yh⟩ = true from ok.1)] at CB
            rw [co_ok HOKQ.out (show fok ⟨(m.b 1).lo, 1⟩ = true from ok.2.2.1)] at CC
            obtain ⟨s1, hs1⟩ : ∃ s, fcm ⟨(xh * m.sc), yl⟩ ⟨xl * m.sc, yh⟩ = s := ⟨_, rfl⟩
            obtain ⟨s2, hs2⟩ : ∃ s, fcm ⟨(xh * m.sc), yl⟩ ⟨(m.b 1).lo, 1⟩ = s := ⟨_, rfl⟩
            replace hlaw : (0 ≤ s1 ∧ 0 < s2) ↔ posB m ⟨xl, xh⟩ ⟨yl, yh⟩ 2 = true := by rw [← hs1, ← hs2]; exact hlaw
            rw [hs1] at CB
            rw [hs2] at CC
            have HLAW := Lib.hid hlaw
            clear ok hs1 hs2 hlaw
            go_wp2_with fail
            refine (CB.out _).mono ?_
            rintro e w1 ⟨rfl, hb1⟩
            obtain ⟨v1, rfl⟩ := ovr_next hb1
            clear hb1
            go_wp2_with fail
            refine (CC.out _).mono ?_
            rintro e w2 ⟨rfl, hb1⟩
            obtain ⟨v2, rfl⟩ := ovr_next hb1
            clear hb1
            have HEND : Hid (Below V.heap.size V (ovr T2 v2)) := HT2.out.trans ((ovr_below T2 v2).mono HT2.out.size)
            have q1 := HBIT.out 2 (by decide)
            rw [show S / 2 ^ 2 = S / 4 from rfl] at q1
            rcases hp : posB m ⟨xl, xh⟩ ⟨yl, yh⟩ 2 with _ | _
            · rw [hp] at q1
              have hn : ¬ (0 ≤ s1 ∧ 0 < s2) := fun h => by have := HLAW.out.1 h; rw [hp] at this; cases this
              rw [if_neg Bool.false_ne_true] at q1
              clear hp
              by_cases g1 : 0 ≤ s1
              · have g2 : ¬ 0 < s2 := fun h => hn ⟨g1, h⟩
                clear hn
                go_wp2_with fail
                exact ⟨⟨2 + 1, by decide, rfl, HEND.out⟩, by simp [intOf]⟩
              · clear hn
                go_wp2_with fail
                exact ⟨⟨2 + 1, by decide, rfl, HEND.out⟩, by simp [intOf]⟩
            · rw [hp, if_pos rfl] at q1
              obtain ⟨g1, g2⟩ := HLAW.out.2 hp
              clear hp
              go_wp2_with fail
              exact ⟨⟨2 + 1, by decide, rfl, HEND.out⟩, by simp [intOf]⟩
          · rw [if_neg hc] at hhi
            have HIGH := Lib.hid hhi
            clear hhi
            have HTW := HT
            have HOKQ := HOTP
            have ok := fracs_ok HPL.out (k := 2) (by decide)
            have CB := Lib.hid fun V => compare_any ⟨(m.b 2).hi, 1⟩ ⟨xl * m.sc, yh⟩ V
            have CC := Lib.hid fun V => compare_any ⟨(m.b 2).hi, 1⟩ ⟨(m.b 1).lo, 1⟩ V
            have hlaw := reach_law HPL.out (k := 2) (by decide)
            rw [show highF m ⟨xl, xh⟩ ⟨yl, yh⟩ 2 = ⟨(m.b 2).hi, 1⟩ from HIGH.out] at hlaw
            rw [co_ok HOKQ.out (show fok ⟨xl * m.sc, yh⟩ = true from ok.1)] at CB
            rw [co_ok HOKQ.out (show fok ⟨(m.b 1).lo, 1⟩ = true from ok.2.2.1)] at CC
            obtain ⟨s1, hs1⟩ : ∃ s, fcm ⟨(m.b 2).hi, 1⟩ ⟨xl * m.sc, yh⟩ = s := ⟨_, rfl⟩
            obtain ⟨s2, hs2⟩ : ∃ s, fcm ⟨(m.b 2).hi, 1⟩ ⟨(m.b 1).lo, 1⟩ = s := ⟨_, rfl⟩
            replace hlaw : (0 ≤ s1 ∧ 0 < s2) ↔ posB m ⟨xl, xh⟩ ⟨yl, yh⟩ 2 = true := by rw [← hs1, ← hs2]; exact hlaw
            rw [hs1] at CB
            rw [hs2] at CC
            have HLAW := Lib.hid hlaw
            clear ok hs1 hs2 hlaw
            go_wp2_with fail
            refine (CB.out _).mono ?_
            rintro e w1 ⟨rfl, hb1⟩
            obtain ⟨v1, rfl⟩ := ovr_next hb1
            clear hb1
            go_wp2_with fail
            refine (CC.out _).mono ?_
            rintro e w2 ⟨rfl, hb1⟩
            obtain ⟨v2, rfl⟩ := ovr_next hb1
            clear hb1
            have HEND : Hid (Below V.heap.size V (ovr T v2)) := HT.out.trans ((ovr_below T v2).mono HT.out.size)
            have q1 := HBIT.out 2 (by decide)
            rw [show S / 2 ^ 2 = S / 4 from rfl] at q1
            rcases hp : posB m ⟨xl, xh⟩ ⟨yl, yh⟩ 2 with _ | _
            · rw [hp] at q1
              have hn : ¬ (0 ≤ s1 ∧ 0 < s2) := fun h => by have := HLAW.out.1 h; rw [hp] at this; cases this
              rw [if_neg Bool.false_ne_true] at q1
              clear hp
              by_cases g1 : 0 ≤ s1
              · have g2 : ¬ 0 < s2 := fun h => hn ⟨g1, h⟩
                clear hn
                go_wp2_with fail
                exact ⟨⟨2 + 1, by decide, rfl, HEND.out⟩, by simp [intOf]⟩
              · clear hn
                go_wp2_with fail
                exact ⟨⟨2 + 1, by decide, rfl, HEND.out⟩, by simp [intOf]⟩
            · rw [hp, if_pos rfl] at q1
              obtain ⟨g1, g2⟩ := HLAW.out.2 hp
              clear hp
              go_wp2_with fail
              exact ⟨⟨2 + 1, by decide, rfl, HEND.out⟩, by simp [intOf]⟩
      · skip
        obtain ⟨uy, huy⟩ : ∃ u, Y = ovr V u := ⟨Y, ovr_of hby⟩
        have c6 : Y.cell? ⟨q, 0, none⟩ = some (I (xh * m.sc)) := by rw [huy]; exact yV10 uy
        have c7 : Y.cell? ⟨q, 1, none⟩ = some (I yl) := by rw [huy]; exact yV11 uy
        clear huy hby
        go_upto_region 9 with fail
        go_cut [9, 10] (fun s9 s10 wx => ∃ a b : Nat, s9 = .pointer (some ⟨a, 0, none⟩) ∧ s10 = .pointer (some ⟨b, 0, none⟩) ∧ a ≠ b ∧ Y.heap.size ≤ a ∧ Y.heap.size ≤ b ∧ wx.heap[a]? = some (.cells #[I (-1), I 1] 99 (0, 0)) ∧ wx.heap[b]? = some (.cells #[I (xh * m.sc), I yl] 99 (0, 0)) ∧ Below Y.heap.size Y wx)
        case first =>
          go_region_held3 (fun w' => w'.cell? ⟨q, 0, none⟩ = some (I (xh * m.sc)) ∧ w'.cell? ⟨q, 1, none⟩ = some (I yl)) (go_keep) (fail)
          all_goals
            go_wp2_with fail
            go_meet
            case rel =>
              first
              | exact ⟨_, _, rfl, rfl, Nat.ne_of_lt (Nat.lt_succ_self _), Nat.le_refl _, Nat.le_succ _, (by rw [heap_drew]; exact heap_before (heap_last _ _ _ rfl)), (by rw [heap_drew]; exact heap_last _ _ _ (by simp)), (((Below.refl _ _).alloc (Nat.le_refl _) _).alloc (by simp) _).drew⟩
              | exact ⟨_, _, rfl, rfl, (Nat.ne_of_lt (Nat.lt_succ_self _)).symm, Nat.le_succ _, Nat.le_refl _, (by rw [heap_drew]; exact heap_last _ _ _ (by simp)), (by rw [heap_drew]; exact heap_before (heap_last _ _ _ rfl)), (((Below.refl _ _).alloc (Nat.le_refl _) _).alloc (by simp) _).drew⟩
        case rest =>
          obtain ⟨a, b, rfl, rfl, hab, hya, hyb, ra, rb, hb⟩ := hcut
          rename World => Y2
          have hb2 : Below V.heap.size V Y2 := HBY.out.trans (hb.mono HBY.out.size)
          have HAB := Lib.hid hab
          have HYA : Hid (V.heap.size ≤ a) := Nat.le_trans HBY.out.size hya
          have HYB : Hid (V.heap.size ≤ b) := Nat.le_trans HBY.out.size hyb
          have HB2 := Lib.hid hb2
          clear hb hab hya hyb c6 c7
          have reY2 : ∀ v, ∃ x, ovr Y2 v = ovr V x := fun v => ovr_reB hb2 v
          have SV_yW00 := Lib.hid yW00
          replace yW00 := tr_cell reY2 yW00
          have SV_yW01 := Lib.hid yW01
          replace yW01 := tr_cell reY2 yW01
          have SV_yW02 := Lib.hid yW02
          replace yW02 := tr_cell reY2 yW02
          have SV_yW03 := Lib.hid yW03
          replace yW03 := tr_cell reY2 yW03
          have SV_yW04 := Lib.hid yW04
          replace yW04 := tr_cell reY2 yW04
          have SV_yW05 := Lib.hid yW05
          replace yW05 := tr_cell reY2 yW05
          have SV_yW06 := Lib.hid yW06
          replace yW06 := tr_cell reY2 yW06
          have SV_yW07 := Lib.hid yW07
          replace yW07 := tr_cell reY2 yW07
          have SV_yW08 := Lib.hid yW08
          replace yW08 := tr_cell reY2 yW08
          have SV_yW09 := Lib.hid yW09
          replace yW09 := tr_cell reY2 yW09
          have SV_yW010 := Lib.hid yW010
          replace yW010 := tr_cell reY2 yW010
          have SV_yW011 := Lib.hid yW011
          replace yW011 := tr_cell reY2 yW011
          have SV_yW012 := Lib.hid yW012
          replace yW012 := tr_cell reY2 yW012
          have SV_RrowW0 := Lib.hid RrowW0.out
          replace RrowW0 := Lib.hid (tr_row reY2 RrowW0.out)
          have SV_yX00 := Lib.hid yX00
          replace yX00 := tr_cell reY2 yX00
          have SV_yX01 := Lib.hid yX01
          replace yX01 := tr_cell reY2 yX01
          have SV_yX02 := Lib.hid yX02
          replace yX02 := tr_cell reY2 yX02
          have SV_yX03 := Lib.hid yX03
          replace yX03 := tr_cell reY2 yX03
          have SV_yX04 := Lib.hid yX04
          replace yX04 := tr_cell reY2 yX04
          have SV_yX05 := Lib.hid yX05
          replace yX05 := tr_cell reY2 yX05
          have SV_yX06 := Lib.hid yX06
          replace yX06 := tr_cell reY2 yX06
          have SV_yX07 := Lib.hid yX07
          replace yX07 := tr_cell reY2 yX07
          have SV_yX08 := Lib.hid yX08
          replace yX08 := tr_cell reY2 yX08
          have SV_RrowX0 := Lib.hid RrowX0.out
          replace RrowX0 := Lib.hid (tr_row reY2 RrowX0.out)
          have SV_yV00 := Lib.hid yV00
          replace yV00 := tr_cell reY2 yV00
          have SV_yV01 := Lib.hid yV01
          replace yV01 := tr_cell reY2 yV01
          have SV_RrowV0 := Lib.hid RrowV0.out
          replace RrowV0 := Lib.hid (tr_row reY2 RrowV0.out)
          have SV_yV10 := Lib.hid yV10
          replace yV10 := tr_cell reY2 yV10
          have SV_yV11 := Lib.hid yV11
          replace yV11 := tr_cell reY2 yV11
          have SV_RrowV1 := Lib.hid RrowV1.out
          replace RrowV1 := Lib.hid (tr_row reY2 RrowV1.out)
          have yY200 := ovr_cell (W := Y2) (b := a) (o := 0) (v := I (-1)) (by rw [cell_of_row _ _ _ _ _ _ ra]; rfl)
          have yY201 := ovr_cell (W := Y2) (b := a) (o := 1) (v := I 1) (by rw [cell_of_row _ _ _ _ _ _ ra]; rfl)
          have RrowY20 := Lib.hid (ovr_row ra)
          clear ra
          have yY210 := ovr_cell (W := Y2) (b := b) (o := 0) (v := I (xh * m.sc)) (by rw [cell_of_row _ _ _ _ _ _ rb]; rfl)
          have yY211 := ovr_cell (W := Y2) (b := b) (o := 1) (v := I yl) (by rw [cell_of_row _ _ _ _ _ _ rb]; rfl)
          have RrowY21 := Lib.hid (ovr_row rb)
          clear rb
          have HUY2 : Hid (∀ u, Below w.heap.size w (ovr Y2 u)) := fun u => by obtain ⟨x, hx⟩ := reY2 u; rw [hx]; exact HUV.out x
          clear reY2 hb2
          obtain ⟨uy2, huy2⟩ := ovr_self Y2
          rw [huy2]
          have HB3 : Hid (Below V.heap.size V (ovr Y2 uy2)) := by rw [← huy2]; exact HB2.out
          clear huy2
          go_upto_region 12 with (with_reducible show wpList _ _ _ (⟨none, Op.store _ _ _, _, _, _, _⟩ :: _) _ _; refine wpList_store_row rfl 99 _ _ rfl a rfl _ _ (RrowY20.out uy2) #[I (m.b 2).lo, I 1] rfl (one2 rfl rfl) rfl (by kernel_rfl) ?_)
          refine name_w fun T1 hT1 => ?_
          have ra1 : T1.heap[a]? = some (.cells #[I (m.b 2).lo, I 1] 99 (0, 0)) := by rw [hT1]; exact setRow_same (RrowY20.out uy2)
          have rb1 : T1.heap[b]? = some (.cells #[I (xh * m.sc), I yl] 99 (0, 0)) := by rw [hT1]; exact (setRow_other HAB.out.symm).trans (RrowY21.out uy2)
          have bT1 : Below V.heap.size V T1 := by rw [hT1]; exact below_setRow HB3.out HYA.out _
          clear hT1
          have HT1 := Lib.hid bT1
          have reT1 : ∀ v, ∃ x, ovr T1 v = ovr V x := fun v => ovr_reB bT1 v
          have yW00 := SV_yW00.out
          replace yW00 := tr_cell reT1 yW00
          have yW01 := SV_yW01.out
          replace yW01 := tr_cell reT1 yW01
          have yW02 := SV_yW02.out
          replace yW02 := tr_cell reT1 yW02
          have yW03 := SV_yW03.out
          replace yW03 := tr_cell reT1 yW03
          have yW04 := SV_yW04.out
          replace yW04 := tr_cell reT1 yW04
          have yW05 := SV_yW05.out
          replace yW05 := tr_cell reT1 yW05
          have yW06 := SV_yW06.out
          replace yW06 := tr_cell reT1 yW06
          have yW07 := SV_yW07.out
          replace yW07 := tr_cell reT1 yW07
          have yW08 := SV_yW08.out
          replace yW08 := tr_cell reT1 yW08
          have yW09 := SV_yW09.out
          replace yW09 := tr_cell reT1 yW09
          have yW010 := SV_yW010.out
          replace yW010 := tr_cell reT1 yW010
          have yW011 := SV_yW011.out
          replace yW011 := tr_cell reT1 yW011
          have yW012 := SV_yW012.out
          replace yW012 := tr_cell reT1 yW012
          have RrowW0 := SV_RrowW0
          replace RrowW0 := Lib.hid (tr_row reT1 RrowW0.out)
          have yX00 := SV_yX00.out
          replace yX00 := tr_cell reT1 yX00
          have yX01 := SV_yX01.out
          replace yX01 := tr_cell reT1 yX01
          have yX02 := SV_yX02.out
          replace yX02 := tr_cell reT1 yX02
          have yX03 := SV_yX03.out
          replace yX03 := tr_cell reT1 yX03
          have yX04 := SV_yX04.out
          replace yX04 := tr_cell reT1 yX04
          have yX05 := SV_yX05.out
          replace yX05 := tr_cell reT1 yX05
          have yX06 := SV_yX06.out
          replace yX06 := tr_cell reT1 yX06
          have yX07 := SV_yX07.out
          replace yX07 := tr_cell reT1 yX07
          have yX08 := SV_yX08.out
          replace yX08 := tr_cell reT1 yX08
          have RrowX0 := SV_RrowX0
          replace RrowX0 := Lib.hid (tr_row reT1 RrowX0.out)
          have yV00 := SV_yV00.out
          replace yV00 := tr_cell reT1 yV00
          have yV01 := SV_yV01.out
          replace yV01 := tr_cell reT1 yV01
          have RrowV0 := SV_RrowV0
          replace RrowV0 := Lib.hid (tr_row reT1 RrowV0.out)
          have yV10 := SV_yV10.out
          replace yV10 := tr_cell reT1 yV10
          have yV11 := SV_yV11.out
          replace yV11 := tr_cell reT1 yV11
          have RrowV1 := SV_RrowV1
          replace RrowV1 := Lib.hid (tr_row reT1 RrowV1.out)
          have yT100 := ovr_cell (W := T1) (b := a) (o := 0) (v := I (m.b 2).lo) (by rw [cell_of_row _ _ _ _ _ _ ra1]; rfl)
          have yT101 := ovr_cell (W := T1) (b := a) (o := 1) (v := I 1) (by rw [cell_of_row _ _ _ _ _ _ ra1]; rfl)
          have RrowT10 := Lib.hid (ovr_row ra1)
          clear ra1
          have yT110 := ovr_cell (W := T1) (b := b) (o := 0) (v := I (xh * m.sc)) (by rw [cell_of_row _ _ _ _ _ _ rb1]; rfl)
          have yT111 := ovr_cell (W := T1) (b := b) (o := 1) (v := I yl) (by rw [cell_of_row _ _ _ _ _ _ rb1]; rfl)
          have RrowT11 := Lib.hid (ovr_row rb1)
          clear rb1
          have HUT1 : Hid (∀ u, Below w.heap.size w (ovr T1 u)) := fun u => by obtain ⟨x, hx⟩ := reT1 u; rw [hx]; exact HUV.out x
          clear reT1 bT1
          obtain ⟨ut0, hut0⟩ := ovr_self T1
          rw [hut0]
          have HT1b : Hid (Below V.heap.size V (ovr T1 ut0)) := by rw [← hut0]; exact HT1.out
          clear hut0
          go_upto_region 14 with (with_reducible show wpList _ _ _ (⟨none, Op.store _ _ _, _, _, _, _⟩ :: _) _ _; refine wpList_store_row rfl 99 _ _ rfl b rfl _ _ (RrowT11.out ut0) #[I (m.b 3).hi, I 1] rfl (one2 rfl rfl) rfl (by kernel_rfl) ?_)
          refine name_w fun T hT => ?_
          have ra2 : T.heap[a]? = some (.cells #[I (m.b 2).lo, I 1] 99 (0, 0)) := by rw [hT]; exact (setRow_other HAB.out).trans (RrowT10.out ut0)
          have rb2 : T.heap[b]? = some (.cells #[I (m.b 3).hi, I 1] 99 (0, 0)) := by rw [hT]; exact setRow_same (RrowT11.out ut0)
          have bT : Below V.heap.size V T := by rw [hT]; exact below_setRow HT1b.out HYB.out _
          clear hT
          have HT := Lib.hid bT
          have reT : ∀ v, ∃ x, ovr T v = ovr V x := fun v => ovr_reB bT v
          have yW00 := SV_yW00.out
          replace yW00 := tr_cell reT yW00
          have yW01 := SV_yW01.out
          replace yW01 := tr_cell reT yW01
          have yW02 := SV_yW02.out
          replace yW02 := tr_cell reT yW02
          have yW03 := SV_yW03.out
          replace yW03 := tr_cell reT yW03
          have yW04 := SV_yW04.out
          replace yW04 := tr_cell reT yW04
          have yW05 := SV_yW05.out
          replace yW05 := tr_cell reT yW05
          have yW06 := SV_yW06.out
          replace yW06 := tr_cell reT yW06
          have yW07 := SV_yW07.out
          replace yW07 := tr_cell reT yW07
          have yW08 := SV_yW08.out
          replace yW08 := tr_cell reT yW08
          have yW09 := SV_yW09.out
          replace yW09 := tr_cell reT yW09
          have yW010 := SV_yW010.out
          replace yW010 := tr_cell reT yW010
          have yW011 := SV_yW011.out
          replace yW011 := tr_cell reT yW011
          have yW012 := SV_yW012.out
          replace yW012 := tr_cell reT yW012
          have RrowW0 := SV_RrowW0
          replace RrowW0 := Lib.hid (tr_row reT RrowW0.out)
          have yX00 := SV_yX00.out
          replace yX00 := tr_cell reT yX00
          have yX01 := SV_yX01.out
          replace yX01 := tr_cell reT yX01
          have yX02 := SV_yX02.out
          replace yX02 := tr_cell reT yX02
          have yX03 := SV_yX03.out
          replace yX03 := tr_cell reT yX03
          have yX04 := SV_yX04.out
          replace yX04 := tr_cell reT yX04
          have yX05 := SV_yX05.out
          replace yX05 := tr_cell reT yX05
          have yX06 := SV_yX06.out
          replace yX06 := tr_cell reT yX06
          have yX07 := SV_yX07.out
          replace yX07 := tr_cell reT yX07
          have yX08 := SV_yX08.out
          replace yX08 := tr_cell reT yX08
          have RrowX0 := SV_RrowX0
          replace RrowX0 := Lib.hid (tr_row reT RrowX0.out)
          have yV00 := SV_yV00.out
          replace yV00 := tr_cell reT yV00
          have yV01 := SV_yV01.out
          replace yV01 := tr_cell reT yV01
          have RrowV0 := SV_RrowV0
          replace RrowV0 := Lib.hid (tr_row reT RrowV0.out)
          have yV10 := SV_yV10.out
          replace yV10 := tr_cell reT yV10
          have yV11 := SV_yV11.out
          replace yV11 := tr_cell reT yV11
          have RrowV1 := SV_RrowV1
          replace RrowV1 := Lib.hid (tr_row reT RrowV1.out)
          have yT00 := ovr_cell (W := T) (b := a) (o := 0) (v := I (m.b 2).lo) (by rw [cell_of_row _ _ _ _ _ _ ra2]; rfl)
          have yT01 := ovr_cell (W := T) (b := a) (o := 1) (v := I 1) (by rw [cell_of_row _ _ _ _ _ _ ra2]; rfl)
          have RrowT0 := Lib.hid (ovr_row ra2)
          clear ra2
          have yT10 := ovr_cell (W := T) (b := b) (o := 0) (v := I (m.b 3).hi) (by rw [cell_of_row _ _ _ _ _ _ rb2]; rfl)
          have yT11 := ovr_cell (W := T) (b := b) (o := 1) (v := I 1) (by rw [cell_of_row _ _ _ _ _ _ rb2]; rfl)
          have RrowT1 := Lib.hid (ovr_row rb2)
          clear rb2
          have HUT : Hid (∀ u, Below w.heap.size w (ovr T u)) := fun u => by obtain ⟨x, hx⟩ := reT u; rw [hx]; exact HUV.out x
          clear reT bT
          obtain ⟨ut, hut⟩ := ovr_self T
          rw [hut]
          clear hut
          have ok := fracs_ok HPL.out (k := 3) (by decide)
          have CA := Lib.hid fun V => compare_any ⟨(m.b 3).hi, 1⟩ ⟨xh * m.sc, yl⟩ V
          have HOTP : Hid (fok ⟨(m.b 3).hi, 1⟩ = true) := ok.2.2.2 (by decide)
          have HOKF : Hid (fok ⟨xh * m.sc, yl⟩ = true) := ok.2.1
          have hhi : highF m ⟨xl, xh⟩ ⟨yl, yh⟩ 3 = if 0 < fcm ⟨(m.b 3).hi, 1⟩ ⟨xh * m.sc, yl⟩ then ⟨xh * m.sc, yl⟩ else ⟨(m.b 3).hi, 1⟩ := rfl
          rw [co_ok HOTP.out HOKF.out] at CA
          obtain ⟨s0, hs0⟩ : ∃ s, fcm ⟨(m.b 3).hi, 1⟩ ⟨xh * m.sc, yl⟩ = s := ⟨_, rfl⟩
          rw [hs0] at CA hhi
          clear hs0 ok
          go_wp2_with fail
          refine (CA.out _).mono ?_
          rintro e w1 ⟨rfl, hb1⟩
          obtain ⟨ut1, rfl⟩ := ovr_next hb1
          clear hb1
          by_cases hc : 0 < s0
          · rw [if_pos hc] at hhi
            have HIGH := Lib.hid hhi
            clear hhi
            go_upto_region 17 with (with_reducible show wpList _ _ _ (⟨none, Op.store _ _ _, _, _, _, _⟩ :: _) _ _; refine wpList_store_row rfl 99 _ _ rfl b rfl _ _ (RrowT1.out ut1) #[I (xh * m.sc), I yl] rfl (one2 rfl rfl) rfl (by kernel_rfl) ?_)
            refine name_w fun T2 hT2 => ?_
            have ra3 : T2.heap[a]? = some (.cells #[I (m.b 2).lo, I 1] 99 (0, 0)) := by rw [hT2]; exact (setRow_other HAB.out).trans (RrowT0.out ut1)
            have rb3 : T2.heap[b]? = some (.cells #[I (xh * m.sc), I yl] 99 (0, 0)) := by rw [hT2]; exact setRow_same (RrowT1.out ut1)
            have bT2 : Below V.heap.size V T2 := by rw [hT2]; exact below_setRow (HT.out.trans ((ovr_below T ut1).mono HT.out.size)) HYB.out _
            clear hT2
            have HT2 := Lib.hid bT2
            have reT2 : ∀ v, ∃ x, ovr T2 v = ovr V x := fun v => ovr_reB bT2 v
            have yW00 := SV_yW00.out
            replace yW00 := tr_cell reT2 yW00
            have yW01 := SV_yW01.out
            replace yW01 := tr_cell reT2 yW01
            have yW02 := SV_yW02.out
            replace yW02 := tr_cell reT2 yW02
            have yW03 := SV_yW03.out
            replace yW03 := tr_cell reT2 yW03
            have yW04 := SV_yW04.out
            replace yW04 := tr_cell reT2 yW04
            have yW05 := SV_yW05.out
            replace yW05 := tr_cell reT2 yW05
            have yW06 := SV_yW06.out
            replace yW06 := tr_cell reT2 yW06
            have yW07 := SV_yW07.out
            replace yW07 := tr_cell reT2 yW07
            have yW08 := SV_yW08.out
            replace yW08 := tr_cell reT2 yW08
            have yW09 := SV_yW09.out
            replace yW09 := tr_cell reT2 yW09
            have yW010 := SV_yW010.out
            replace yW010 := tr_cell reT2 yW010
            have yW011 := SV_yW011.out
            replace yW011 := tr_cell reT2 yW011
            have yW012 := SV_yW012.out
            replace yW012 := tr_cell reT2 yW012
            have RrowW0 := SV_RrowW0
            replace RrowW0 := Lib.hid (tr_row reT2 RrowW0.out)
            have yX00 := SV_yX00.out
            replace yX00 := tr_cell reT2 yX00
            have yX01 := SV_yX01.out
            replace yX01 := tr_cell reT2 yX01
            have yX02 := SV_yX02.out
            replace yX02 := tr_cell reT2 yX02
            have yX03 := SV_yX03.out
            replace yX03 := tr_cell reT2 yX03
            have yX04 := SV_yX04.out
            replace yX04 := tr_cell reT2 yX04
            have yX05 := SV_yX05.out
            replace yX05 := tr_cell reT2 yX05
            have yX06 := SV_yX06.out
            replace yX06 := tr_cell reT2 yX06
            have yX07 := SV_yX07.out
            replace yX07 := tr_cell reT2 yX07
            have yX08 := SV_yX08.out
            replace yX08 := tr_cell reT2 yX08
            have RrowX0 := SV_RrowX0
            replace RrowX0 := Lib.hid (tr_row reT2 RrowX0.out)
            have yV00 := SV_yV00.out
            replace yV00 := tr_cell reT2 yV00
            have yV01 := SV_yV01.out
            replace yV01 := tr_cell reT2 yV01
            have RrowV0 := SV_RrowV0
            replace RrowV0 := Lib.hid (tr_row reT2 RrowV0.out)
            have yV10 := SV_yV10.out
            replace yV10 := tr_cell reT2 yV10
            have yV11 := SV_yV11.out
            replace yV11 := tr_cell reT2 yV11
            have RrowV1 := SV_RrowV1
            replace RrowV1 := Lib.hid (tr_row reT2 RrowV1.out)
            have yT200 := ovr_cell (W := T2) (b := a) (o := 0) (v := I (m.b 2).lo) (by rw [cell_of_row _ _ _ _ _ _ ra3]; rfl)
            have yT201 := ovr_cell (W := T2) (b := a) (o := 1) (v := I 1) (by rw [cell_of_row _ _ _ _ _ _ ra3]; rfl)
            have RrowT20 := Lib.hid (ovr_row ra3)
            clear ra3
            have yT210 := ovr_cell (W := T2) (b := b) (o := 0) (v := I (xh * m.sc)) (by rw [cell_of_row _ _ _ _ _ _ rb3]; rfl)
            have yT211 := ovr_cell (W := T2) (b := b) (o := 1) (v := I yl) (by rw [cell_of_row _ _ _ _ _ _ rb3]; rfl)
            have RrowT21 := Lib.hid (ovr_row rb3)
            clear rb3
            have HUT2 : Hid (∀ u, Below w.heap.size w (ovr T2 u)) := fun u => by obtain ⟨x, hx⟩ := reT2 u; rw [hx]; exact HUV.out x
            clear reT2 bT2
            obtain ⟨ut2, hut2⟩ := ovr_self T2
            rw [hut2]
            clear hut2
            have HTW := HT2
            have HOKQ := HOKF
            have ok := fracs_ok HPL.out (k := 3) (by decide)
            have CB := Lib.hid fun V => compare_any ⟨(xh * m.sc), yl⟩ ⟨xl * m.sc, yh⟩ V
            have CC := Lib.hid fun V => compare_any ⟨(xh * m.sc), yl⟩ ⟨(m.b 2).lo, 1⟩ V
            have hlaw := reach_law HPL.out (k := 3) (by decide)
            rw [show highF m ⟨xl, xh⟩ ⟨yl, yh⟩ 3 = ⟨(xh * m.sc), yl⟩ from HIGH.out] at hlaw
            rw [co_ok HOKQ.out (show fok ⟨xl * m.sc, yh⟩ = true from ok.1)] at CB
            rw [co_ok HOKQ.out (show fok ⟨(m.b 2).lo, 1⟩ = true from ok.2.2.1)] at CC
            obtain ⟨s1, hs1⟩ : ∃ s, fcm ⟨(xh * m.sc), yl⟩ ⟨xl * m.sc, yh⟩ = s := ⟨_, rfl⟩
            obtain ⟨s2, hs2⟩ : ∃ s, fcm ⟨(xh * m.sc), yl⟩ ⟨(m.b 2).lo, 1⟩ = s := ⟨_, rfl⟩
            replace hlaw : (0 ≤ s1 ∧ 0 < s2) ↔ posB m ⟨xl, xh⟩ ⟨yl, yh⟩ 3 = true := by rw [← hs1, ← hs2]; exact hlaw
            rw [hs1] at CB
            rw [hs2] at CC
            have HLAW := Lib.hid hlaw
            clear ok hs1 hs2 hlaw
            go_wp2_with fail
            refine (CB.out _).mono ?_
            rintro e w1 ⟨rfl, hb1⟩
            obtain ⟨v1, rfl⟩ := ovr_next hb1
            clear hb1
            go_wp2_with fail
            refine (CC.out _).mono ?_
            rintro e w2 ⟨rfl, hb1⟩
            obtain ⟨v2, rfl⟩ := ovr_next hb1
            clear hb1
            have HEND : Hid (Below V.heap.size V (ovr T2 v2)) := HT2.out.trans ((ovr_below T2 v2).mono HT2.out.size)
            have q1 := HBIT.out 3 (by decide)
            rw [show S / 2 ^ 3 = S / 8 from rfl] at q1
            rcases hp : posB m ⟨xl, xh⟩ ⟨yl, yh⟩ 3 with _ | _
            · rw [hp] at q1
              have hn : ¬ (0 ≤ s1 ∧ 0 < s2) := fun h => by have := HLAW.out.1 h; rw [hp] at this; cases this
              rw [if_neg Bool.false_ne_true] at q1
              clear hp
              by_cases g1 : 0 ≤ s1
              · have g2 : ¬ 0 < s2 := fun h => hn ⟨g1, h⟩
                clear hn
                go_wp2_with fail
                exact ⟨⟨3 + 1, by decide, rfl, HEND.out⟩, by simp [intOf]⟩
              · clear hn
                go_wp2_with fail
                exact ⟨⟨3 + 1, by decide, rfl, HEND.out⟩, by simp [intOf]⟩
            · rw [hp, if_pos rfl] at q1
              obtain ⟨g1, g2⟩ := HLAW.out.2 hp
              clear hp
              go_wp2_with fail
              exact ⟨⟨3 + 1, by decide, rfl, HEND.out⟩, by simp [intOf]⟩
          · rw [if_neg hc] at hhi
            have HIGH := Lib.hid hhi
            clear hhi
            have HTW := HT
            have HOKQ := HOTP
            have ok := fracs_ok HPL.out (k := 3) (by decide)
            have CB := Lib.hid fun V => compare_any ⟨(m.b 3).hi, 1⟩ ⟨xl * m.sc, yh⟩ V
            have CC := Lib.hid fun V => compare_any ⟨(m.b 3).hi, 1⟩ ⟨(m.b 2).lo, 1⟩ V
            have hlaw := reach_law HPL.out (k := 3) (by decide)
            rw [show highF m ⟨xl, xh⟩ ⟨yl, yh⟩ 3 = ⟨(m.b 3).hi, 1⟩ from HIGH.out] at hlaw
            rw [co_ok HOKQ.out (show fok ⟨xl * m.sc, yh⟩ = true from ok.1)] at CB
            rw [co_ok HOKQ.out (show fok ⟨(m.b 2).lo, 1⟩ = true from ok.2.2.1)] at CC
            obtain ⟨s1, hs1⟩ : ∃ s, fcm ⟨(m.b 3).hi, 1⟩ ⟨xl * m.sc, yh⟩ = s := ⟨_, rfl⟩
            obtain ⟨s2, hs2⟩ : ∃ s, fcm ⟨(m.b 3).hi, 1⟩ ⟨(m.b 2).lo, 1⟩ = s := ⟨_, rfl⟩
            replace hlaw : (0 ≤ s1 ∧ 0 < s2) ↔ posB m ⟨xl, xh⟩ ⟨yl, yh⟩ 3 = true := by rw [← hs1, ← hs2]; exact hlaw
            rw [hs1] at CB
            rw [hs2] at CC
            have HLAW := Lib.hid hlaw
            clear ok hs1 hs2 hlaw
            go_wp2_with fail
            refine (CB.out _).mono ?_
            rintro e w1 ⟨rfl, hb1⟩
            obtain ⟨v1, rfl⟩ := ovr_next hb1
            clear hb1
            go_wp2_with fail
            refine (CC.out _).mono ?_
            rintro e w2 ⟨rfl, hb1⟩
            obtain ⟨v2, rfl⟩ := ovr_next hb1
            clear hb1
            have HEND : Hid (Below V.heap.size V (ovr T v2)) := HT.out.trans ((ovr_below T v2).mono HT.out.size)
            have q1 := HBIT.out 3 (by decide)
            rw [show S / 2 ^ 3 = S / 8 from rfl] at q1
            rcases hp : posB m ⟨xl, xh⟩ ⟨yl, yh⟩ 3 with _ | _
            · rw [hp] at q1
              have hn : ¬ (0 ≤ s1 ∧ 0 < s2) := fun h => by have := HLAW.out.1 h; rw [hp] at this; cases this
              rw [if_neg Bool.false_ne_true] at q1
              clear hp
              by_cases g1 : 0 ≤ s1
              · have g2 : ¬ 0 < s2 := fun h => hn ⟨g1, h⟩
                clear hn
                go_wp2_with fail
                exact ⟨⟨3 + 1, by decide, rfl, HEND.out⟩, by simp [intOf]⟩
              · clear hn
                go_wp2_with fail
                exact ⟨⟨3 + 1, by decide, rfl, HEND.out⟩, by simp [intOf]⟩
            · rw [hp, if_pos rfl] at q1
              obtain ⟨g1, g2⟩ := HLAW.out.2 hp
              clear hp
              go_wp2_with fail
              exact ⟨⟨3 + 1, by decide, rfl, HEND.out⟩, by simp [intOf]⟩
      · skip
        obtain ⟨uy, huy⟩ : ∃ u, Y = ovr V u := ⟨Y, ovr_of hby⟩
        have c6 : Y.cell? ⟨q, 0, none⟩ = some (I (xh * m.sc)) := by rw [huy]; exact yV10 uy
        have c7 : Y.cell? ⟨q, 1, none⟩ = some (I yl) := by rw [huy]; exact yV11 uy
        clear huy hby
        go_upto_region 9 with fail
        go_cut [9, 10] (fun s9 s10 wx => ∃ a b : Nat, s9 = .pointer (some ⟨a, 0, none⟩) ∧ s10 = .pointer (some ⟨b, 0, none⟩) ∧ a ≠ b ∧ Y.heap.size ≤ a ∧ Y.heap.size ≤ b ∧ wx.heap[a]? = some (.cells #[I (-1), I 1] 99 (0, 0)) ∧ wx.heap[b]? = some (.cells #[I (xh * m.sc), I yl] 99 (0, 0)) ∧ Below Y.heap.size Y wx)
        case first =>
          go_region_held3 (fun w' => w'.cell? ⟨q, 0, none⟩ = some (I (xh * m.sc)) ∧ w'.cell? ⟨q, 1, none⟩ = some (I yl)) (go_keep) (fail)
          all_goals
            go_wp2_with fail
            go_meet
            case rel =>
              first
              | exact ⟨_, _, rfl, rfl, Nat.ne_of_lt (Nat.lt_succ_self _), Nat.le_refl _, Nat.le_succ _, (by rw [heap_drew]; exact heap_before (heap_last _ _ _ rfl)), (by rw [heap_drew]; exact heap_last _ _ _ (by simp)), (((Below.refl _ _).alloc (Nat.le_refl _) _).alloc (by simp) _).drew⟩
              | exact ⟨_, _, rfl, rfl, (Nat.ne_of_lt (Nat.lt_succ_self _)).symm, Nat.le_succ _, Nat.le_refl _, (by rw [heap_drew]; exact heap_last _ _ _ (by simp)), (by rw [heap_drew]; exact heap_before (heap_last _ _ _ rfl)), (((Below.refl _ _).alloc (Nat.le_refl _) _).alloc (by simp) _).drew⟩
        case rest =>
          obtain ⟨a, b, rfl, rfl, hab, hya, hyb, ra, rb, hb⟩ := hcut
          rename World => Y2
          have hb2 : Below V.heap.size V Y2 := HBY.out.trans (hb.mono HBY.out.size)
          have HAB := Lib.hid hab
          have HYA : Hid (V.heap.size ≤ a) := Nat.le_trans HBY.out.size hya
          have HYB : Hid (V.heap.size ≤ b) := Nat.le_trans HBY.out.size hyb
          have HB2 := Lib.hid hb2
          clear hb hab hya hyb c6 c7
          have reY2 : ∀ v, ∃ x, ovr Y2 v = ovr V x := fun v => ovr_reB hb2 v
          have SV_yW00 := Lib.hid yW00
          replace yW00 := tr_cell reY2 yW00
          have SV_yW01 := Lib.hid yW01
          replace yW01 := tr_cell reY2 yW01
          have SV_yW02 := Lib.hid yW02
          replace yW02 := tr_cell reY2 yW02
          have SV_yW03 := Lib.hid yW03
          replace yW03 := tr_cell reY2 yW03
          have SV_yW04 := Lib.hid yW04
          replace yW04 := tr_cell reY2 yW04
          have SV_yW05 := Lib.hid yW05
          replace yW05 := tr_cell reY2 yW05
          have SV_yW06 := Lib.hid yW06
          replace yW06 := tr_cell reY2 yW06
          have SV_yW07 := Lib.hid yW07
          replace yW07 := tr_cell reY2 yW07
          have SV_yW08 := Lib.hid yW08
          replace yW08 := tr_cell reY2 yW08
          have SV_yW09 := Lib.hid yW09
          replace yW09 := tr_cell reY2 yW09
          have SV_yW010 := Lib.hid yW010
          replace yW010 := tr_cell reY2 yW010
          have SV_yW011 := Lib.hid yW011
          replace yW011 := tr_cell reY2 yW011
          have SV_yW012 := Lib.hid yW012
          replace yW012 := tr_cell reY2 yW012
          have SV_RrowW0 := Lib.hid RrowW0.out
          replace RrowW0 := Lib.hid (tr_row reY2 RrowW0.out)
          have SV_yX00 := Lib.hid yX00
          replace yX00 := tr_cell reY2 yX00
          have SV_yX01 := Lib.hid yX01
          replace yX01 := tr_cell reY2 yX01
          have SV_yX02 := Lib.hid yX02
          replace yX02 := tr_cell reY2 yX02
          have SV_yX03 := Lib.hid yX03
          replace yX03 := tr_cell reY2 yX03
          have SV_yX04 := Lib.hid yX04
          replace yX04 := tr_cell reY2 yX04
          have SV_yX05 := Lib.hid yX05
          replace yX05 := tr_cell reY2 yX05
          have SV_yX06 := Lib.hid yX06
          replace yX06 := tr_cell reY2 yX06
          have SV_yX07 := Lib.hid yX07
          replace yX07 := tr_cell reY2 yX07
          have SV_yX08 := Lib.hid yX08
          replace yX08 := tr_cell reY2 yX08
          have SV_RrowX0 := Lib.hid RrowX0.out
          replace RrowX0 := Lib.hid (tr_row reY2 RrowX0.out)
          have SV_yV00 := Lib.hid yV00
          replace yV00 := tr_cell reY2 yV00
          have SV_yV01 := Lib.hid yV01
          replace yV01 := tr_cell reY2 yV01
          have SV_RrowV0 := Lib.hid RrowV0.out
          replace RrowV0 := Lib.hid (tr_row reY2 RrowV0.out)
          have SV_yV10 := Lib.hid yV10
          replace yV10 := tr_cell reY2 yV10
          have SV_yV11 := Lib.hid yV11
          replace yV11 := tr_cell reY2 yV11
          have SV_RrowV1 := Lib.hid RrowV1.out
          replace RrowV1 := Lib.hid (tr_row reY2 RrowV1.out)
          have yY200 := ovr_cell (W := Y2) (b := a) (o := 0) (v := I (-1)) (by rw [cell_of_row _ _ _ _ _ _ ra]; rfl)
          have yY201 := ovr_cell (W := Y2) (b := a) (o := 1) (v := I 1) (by rw [cell_of_row _ _ _ _ _ _ ra]; rfl)
          have RrowY20 := Lib.hid (ovr_row ra)
          clear ra
          have yY210 := ovr_cell (W := Y2) (b := b) (o := 0) (v := I (xh * m.sc)) (by rw [cell_of_row _ _ _ _ _ _ rb]; rfl)
          have yY211 := ovr_cell (W := Y2) (b := b) (o := 1) (v := I yl) (by rw [cell_of_row _ _ _ _ _ _ rb]; rfl)
          have RrowY21 := Lib.hid (ovr_row rb)
          clear rb
          have HUY2 : Hid (∀ u, Below w.heap.size w (ovr Y2 u)) := fun u => by obtain ⟨x, hx⟩ := reY2 u; rw [hx]; exact HUV.out x
          clear reY2 hb2
          obtain ⟨uy2, huy2⟩ := ovr_self Y2
          rw [huy2]
          have HB3 : Hid (Below V.heap.size V (ovr Y2 uy2)) := by rw [← huy2]; exact HB2.out
          clear huy2
          go_upto_region 14 with (with_reducible show wpList _ _ _ (⟨none, Op.store _ _ _, _, _, _, _⟩ :: _) _ _; refine wpList_store_row rfl 99 _ _ rfl a rfl _ _ (RrowY20.out uy2) #[I (m.b 3).lo, I 1] rfl (one2 rfl rfl) rfl (by kernel_rfl) ?_)
          refine name_w fun T hT => ?_
          have ra2 : T.heap[a]? = some (.cells #[I (m.b 3).lo, I 1] 99 (0, 0)) := by rw [hT]; exact setRow_same (RrowY20.out uy2)
          have rb2 : T.heap[b]? = some (.cells #[I (xh * m.sc), I yl] 99 (0, 0)) := by rw [hT]; exact (setRow_other HAB.out.symm).trans (RrowY21.out uy2)
          have bT : Below V.heap.size V T := by rw [hT]; exact below_setRow HB3.out HYA.out _
          clear hT
          have HT := Lib.hid bT
          have reT : ∀ v, ∃ x, ovr T v = ovr V x := fun v => ovr_reB bT v
          have yW00 := SV_yW00.out
          replace yW00 := tr_cell reT yW00
          have yW01 := SV_yW01.out
          replace yW01 := tr_cell reT yW01
          have yW02 := SV_yW02.out
          replace yW02 := tr_cell reT yW02
          have yW03 := SV_yW03.out
          replace yW03 := tr_cell reT yW03
          have yW04 := SV_yW04.out
          replace yW04 := tr_cell reT yW04
          have yW05 := SV_yW05.out
          replace yW05 := tr_cell reT yW05
          have yW06 := SV_yW06.out
          replace yW06 := tr_cell reT yW06
          have yW07 := SV_yW07.out
          replace yW07 := tr_cell reT yW07
          have yW08 := SV_yW08.out
          replace yW08 := tr_cell reT yW08
          have yW09 := SV_yW09.out
          replace yW09 := tr_cell reT yW09
          have yW010 := SV_yW010.out
          replace yW010 := tr_cell reT yW010
          have yW011 := SV_yW011.out
          replace yW011 := tr_cell reT yW011
          have yW012 := SV_yW012.out
          replace yW012 := tr_cell reT yW012
          have RrowW0 := SV_RrowW0
          replace RrowW0 := Lib.hid (tr_row reT RrowW0.out)
          have yX00 := SV_yX00.out
          replace yX00 := tr_cell reT yX00
          have yX01 := SV_yX01.out
          replace yX01 := tr_cell reT yX01
          have yX02 := SV_yX02.out
          replace yX02 := tr_cell reT yX02
          have yX03 := SV_yX03.out
          replace yX03 := tr_cell reT yX03
          have yX04 := SV_yX04.out
          replace yX04 := tr_cell reT yX04
          have yX05 := SV_yX05.out
          replace yX05 := tr_cell reT yX05
          have yX06 := SV_yX06.out
          replace yX06 := tr_cell reT yX06
          have yX07 := SV_yX07.out
          replace yX07 := tr_cell reT yX07
          have yX08 := SV_yX08.out
          replace yX08 := tr_cell reT yX08
          have RrowX0 := SV_RrowX0
          replace RrowX0 := Lib.hid (tr_row reT RrowX0.out)
          have yV00 := SV_yV00.out
          replace yV00 := tr_cell reT yV00
          have yV01 := SV_yV01.out
          replace yV01 := tr_cell reT yV01
          have RrowV0 := SV_RrowV0
          replace RrowV0 := Lib.hid (tr_row reT RrowV0.out)
          have yV10 := SV_yV10.out
          replace yV10 := tr_cell reT yV10
          have yV11 := SV_yV11.out
          replace yV11 := tr_cell reT yV11
          have RrowV1 := SV_RrowV1
          replace RrowV1 := Lib.hid (tr_row reT RrowV1.out)
          have yT00 := ovr_cell (W := T) (b := a) (o := 0) (v := I (m.b 3).lo) (by rw [cell_of_row _ _ _ _ _ _ ra2]; rfl)
          have yT01 := ovr_cell (W := T) (b := a) (o := 1) (v := I 1) (by rw [cell_of_row _ _ _ _ _ _ ra2]; rfl)
          have RrowT0 := Lib.hid (ovr_row ra2)
          clear ra2
          have yT10 := ovr_cell (W := T) (b := b) (o := 0) (v := I (xh * m.sc)) (by rw [cell_of_row _ _ _ _ _ _ rb2]; rfl)
          have yT11 := ovr_cell (W := T) (b := b) (o := 1) (v := I yl) (by rw [cell_of_row _ _ _ _ _ _ rb2]; rfl)
          have RrowT1 := Lib.hid (ovr_row rb2)
          clear rb2
          have HUT : Hid (∀ u, Below w.heap.size w (ovr T u)) := fun u => by obtain ⟨x, hx⟩ := reT u; rw [hx]; exact HUV.out x
          clear reT bT
          obtain ⟨ut, hut⟩ := ovr_self T
          rw [hut]
          clear hut
          have ok := fracs_ok HPL.out (k := 4) (by decide)
          have CA := Lib.hid fun V => compare_any ⟨(xh * m.sc), yl⟩ ⟨xh * m.sc, yl⟩ V
          have HOTP : Hid (fok ⟨(xh * m.sc), yl⟩ = true) := ok.2.1
          have HOKF : Hid (fok ⟨xh * m.sc, yl⟩ = true) := ok.2.1
          have hhi : highF m ⟨xl, xh⟩ ⟨yl, yh⟩ 4 = if 0 < fcm ⟨(xh * m.sc), yl⟩ ⟨xh * m.sc, yl⟩ then ⟨xh * m.sc, yl⟩ else ⟨(xh * m.sc), yl⟩ := rfl
          rw [co_ok HOTP.out HOKF.out] at CA
          obtain ⟨s0, hs0⟩ : ∃ s, fcm ⟨(xh * m.sc), yl⟩ ⟨xh * m.sc, yl⟩ = s := ⟨_, rfl⟩
          rw [hs0] at CA hhi
          clear hs0 ok
          go_wp2_with fail
          refine (CA.out _).mono ?_
          rintro e w1 ⟨rfl, hb1⟩
          obtain ⟨ut1, rfl⟩ := ovr_next hb1
          clear hb1
          by_cases hc : 0 < s0
          · rw [if_pos hc] at hhi
            have HIGH := Lib.hid hhi
            clear hhi
            go_upto_region 17 with (with_reducible show wpList _ _ _ (⟨none, Op.store _ _ _, _, _, _, _⟩ :: _) _ _; refine wpList_store_row rfl 99 _ _ rfl b rfl _ _ (RrowT1.out ut1) #[I (xh * m.sc), I yl] rfl (one2 rfl rfl) rfl (by kernel_rfl) ?_)
            refine name_w fun T2 hT2 => ?_
            have ra3 : T2.heap[a]? = some (.cells #[I (m.b 3).lo, I 1] 99 (0, 0)) := by rw [hT2]; exact (setRow_other HAB.out).trans (RrowT0.out ut1)
            have rb3 : T2.heap[b]? = some (.cells #[I (xh * m.sc), I yl] 99 (0, 0)) := by rw [hT2]; exact setRow_same (RrowT1.out ut1)
            have bT2 : Below V.heap.size V T2 := by rw [hT2]; exact below_setRow (HT.out.trans ((ovr_below T ut1).mono HT.out.size)) HYB.out _
            clear hT2
            have HT2 := Lib.hid bT2
            have reT2 : ∀ v, ∃ x, ovr T2 v = ovr V x := fun v => ovr_reB bT2 v
            have yW00 := SV_yW00.out
            replace yW00 := tr_cell reT2 yW00
            have yW01 := SV_yW01.out
            replace yW01 := tr_cell reT2 yW01
            have yW02 := SV_yW02.out
            replace yW02 := tr_cell reT2 yW02
            have yW03 := SV_yW03.out
            replace yW03 := tr_cell reT2 yW03
            have yW04 := SV_yW04.out
            replace yW04 := tr_cell reT2 yW04
            have yW05 := SV_yW05.out
            replace yW05 := tr_cell reT2 yW05
            have yW06 := SV_yW06.out
            replace yW06 := tr_cell reT2 yW06
            have yW07 := SV_yW07.out
            replace yW07 := tr_cell reT2 yW07
            have yW08 := SV_yW08.out
            replace yW08 := tr_cell reT2 yW08
            have yW09 := SV_yW09.out
            replace yW09 := tr_cell reT2 yW09
            have yW010 := SV_yW010.out
            replace yW010 := tr_cell reT2 yW010
            have yW011 := SV_yW011.out
            replace yW011 := tr_cell reT2 yW011
            have yW012 := SV_yW012.out
            replace yW012 := tr_cell reT2 yW012
            have RrowW0 := SV_RrowW0
            replace RrowW0 := Lib.hid (tr_row reT2 RrowW0.out)
            have yX00 := SV_yX00.out
            replace yX00 := tr_cell reT2 yX00
            have yX01 := SV_yX01.out
            replace yX01 := tr_cell reT2 yX01
            have yX02 := SV_yX02.out
            replace yX02 := tr_cell reT2 yX02
            have yX03 := SV_yX03.out
            replace yX03 := tr_cell reT2 yX03
            have yX04 := SV_yX04.out
            replace yX04 := tr_cell reT2 yX04
            have yX05 := SV_yX05.out
            replace yX05 := tr_cell reT2 yX05
            have yX06 := SV_yX06.out
            replace yX06 := tr_cell reT2 yX06
            have yX07 := SV_yX07.out
            replace yX07 := tr_cell reT2 yX07
            have yX08 := SV_yX08.out
            replace yX08 := tr_cell reT2 yX08
            have RrowX0 := SV_RrowX0
            replace RrowX0 := Lib.hid (tr_row reT2 RrowX0.out)
            have yV00 := SV_yV00.out
            replace yV00 := tr_cell reT2 yV00
            have yV01 := SV_yV01.out
            replace yV01 := tr_cell reT2 yV01
            have RrowV0 := SV_RrowV0
            replace RrowV0 := Lib.hid (tr_row reT2 RrowV0.out)
            have yV10 := SV_yV10.out
            replace yV10 := tr_cell reT2 yV10
            have yV11 := SV_yV11.out
            replace yV11 := tr_cell reT2 yV11
            have RrowV1 := SV_RrowV1
            replace RrowV1 := Lib.hid (tr_row reT2 RrowV1.out)
            have yT200 := ovr_cell (W := T2) (b := a) (o := 0) (v := I (m.b 3).lo) (by rw [cell_of_row _ _ _ _ _ _ ra3]; rfl)
            have yT201 := ovr_cell (W := T2) (b := a) (o := 1) (v := I 1) (by rw [cell_of_row _ _ _ _ _ _ ra3]; rfl)
            have RrowT20 := Lib.hid (ovr_row ra3)
            clear ra3
            have yT210 := ovr_cell (W := T2) (b := b) (o := 0) (v := I (xh * m.sc)) (by rw [cell_of_row _ _ _ _ _ _ rb3]; rfl)
            have yT211 := ovr_cell (W := T2) (b := b) (o := 1) (v := I yl) (by rw [cell_of_row _ _ _ _ _ _ rb3]; rfl)
            have RrowT21 := Lib.hid (ovr_row rb3)
            clear rb3
            have HUT2 : Hid (∀ u, Below w.heap.size w (ovr T2 u)) := fun u => by obtain ⟨x, hx⟩ := reT2 u; rw [hx]; exact HUV.out x
            clear reT2 bT2
            obtain ⟨ut2, hut2⟩ := ovr_self T2
            rw [hut2]
            clear hut2
            have HTW := HT2
            have HOKQ := HOKF
            have ok := fracs_ok HPL.out (k := 4) (by decide)
            have CB := Lib.hid fun V => compare_any ⟨(xh * m.sc), yl⟩ ⟨xl * m.sc, yh⟩ V
            have CC := Lib.hid fun V => compare_any ⟨(xh * m.sc), yl⟩ ⟨(m.b 3).lo, 1⟩ V
            have hlaw := reach_law HPL.out (k := 4) (by decide)
            rw [show highF m ⟨xl, xh⟩ ⟨yl, yh⟩ 4 = ⟨(xh * m.sc), yl⟩ from HIGH.out] at hlaw
            rw [co_ok HOKQ.out (show fok ⟨xl * m.sc, yh⟩ = true from ok.1)] at CB
            rw [co_ok HOKQ.out (show fok ⟨(m.b 3).lo, 1⟩ = true from ok.2.2.1)] at CC
            obtain ⟨s1, hs1⟩ : ∃ s, fcm ⟨(xh * m.sc), yl⟩ ⟨xl * m.sc, yh⟩ = s := ⟨_, rfl⟩
            obtain ⟨s2, hs2⟩ : ∃ s, fcm ⟨(xh * m.sc), yl⟩ ⟨(m.b 3).lo, 1⟩ = s := ⟨_, rfl⟩
            replace hlaw : (0 ≤ s1 ∧ 0 < s2) ↔ posB m ⟨xl, xh⟩ ⟨yl, yh⟩ 4 = true := by rw [← hs1, ← hs2]; exact hlaw
            rw [hs1] at CB
            rw [hs2] at CC
            have HLAW := Lib.hid hlaw
            clear ok hs1 hs2 hlaw
            go_wp2_with fail
            refine (CB.out _).mono ?_
            rintro e w1 ⟨rfl, hb1⟩
            obtain ⟨v1, rfl⟩ := ovr_next hb1
            clear hb1
            go_wp2_with fail
            refine (CC.out _).mono ?_
            rintro e w2 ⟨rfl, hb1⟩
            obtain ⟨v2, rfl⟩ := ovr_next hb1
            clear hb1
            have HEND : Hid (Below V.heap.size V (ovr T2 v2)) := HT2.out.trans ((ovr_below T2 v2).mono HT2.out.size)
            have q1 := HBIT.out 4 (by decide)
            rw [show S / 2 ^ 4 = S / 16 from rfl] at q1
            rcases hp : posB m ⟨xl, xh⟩ ⟨yl, yh⟩ 4 with _ | _
            · rw [hp] at q1
              have hn : ¬ (0 ≤ s1 ∧ 0 < s2) := fun h => by have := HLAW.out.1 h; rw [hp] at this; cases this
              rw [if_neg Bool.false_ne_true] at q1
              clear hp
              by_cases g1 : 0 ≤ s1
              · have g2 : ¬ 0 < s2 := fun h => hn ⟨g1, h⟩
                clear hn
                go_wp2_with fail
                exact ⟨⟨4 + 1, by decide, rfl, HEND.out⟩, by simp [intOf]⟩
              · clear hn
                go_wp2_with fail
                exact ⟨⟨4 + 1, by decide, rfl, HEND.out⟩, by simp [intOf]⟩
            · rw [hp, if_pos rfl] at q1
              obtain ⟨g1, g2⟩ := HLAW.out.2 hp
              clear hp
              go_wp2_with fail
              exact ⟨⟨4 + 1, by decide, rfl, HEND.out⟩, by simp [intOf]⟩
          · rw [if_neg hc] at hhi
            have HIGH := Lib.hid hhi
            clear hhi
            have HTW := HT
            have HOKQ := HOTP
            have ok := fracs_ok HPL.out (k := 4) (by decide)
            have CB := Lib.hid fun V => compare_any ⟨(xh * m.sc), yl⟩ ⟨xl * m.sc, yh⟩ V
            have CC := Lib.hid fun V => compare_any ⟨(xh * m.sc), yl⟩ ⟨(m.b 3).lo, 1⟩ V
            have hlaw := reach_law HPL.out (k := 4) (by decide)
            rw [show highF m ⟨xl, xh⟩ ⟨yl, yh⟩ 4 = ⟨(xh * m.sc), yl⟩ from HIGH.out] at hlaw
            rw [co_ok HOKQ.out (show fok ⟨xl * m.sc, yh⟩ = true from ok.1)] at CB
            rw [co_ok HOKQ.out (show fok ⟨(m.b 3).lo, 1⟩ = true from ok.2.2.1)] at CC
            obtain ⟨s1, hs1⟩ : ∃ s, fcm ⟨(xh * m.sc), yl⟩ ⟨xl * m.sc, yh⟩ = s := ⟨_, rfl⟩
            obtain ⟨s2, hs2⟩ : ∃ s, fcm ⟨(xh * m.sc), yl⟩ ⟨(m.b 3).lo, 1⟩ = s := ⟨_, rfl⟩
            replace hlaw : (0 ≤ s1 ∧ 0 < s2) ↔ posB m ⟨xl, xh⟩ ⟨yl, yh⟩ 4 = true := by rw [← hs1, ← hs2]; exact hlaw
            rw [hs1] at CB
            rw [hs2] at CC
            have HLAW := Lib.hid hlaw
            clear ok hs1 hs2 hlaw
            go_wp2_with fail
            refine (CB.out _).mono ?_
            rintro e w1 ⟨rfl, hb1⟩
            obtain ⟨v1, rfl⟩ := ovr_next hb1
            clear hb1
            go_wp2_with fail
            refine (CC.out _).mono ?_
            rintro e w2 ⟨rfl, hb1⟩
            obtain ⟨v2, rfl⟩ := ovr_next hb1
            clear hb1
            have HEND : Hid (Below V.heap.size V (ovr T v2)) := HT.out.trans ((ovr_below T v2).mono HT.out.size)
            have q1 := HBIT.out 4 (by decide)
            rw [show S / 2 ^ 4 = S / 16 from rfl] at q1
            rcases hp : posB m ⟨xl, xh⟩ ⟨yl, yh⟩ 4 with _ | _
            · rw [hp] at q1
              have hn : ¬ (0 ≤ s1 ∧ 0 < s2) := fun h => by have := HLAW.out.1 h; rw [hp] at this; cases this
              rw [if_neg Bool.false_ne_true] at q1
              clear hp
              by_cases g1 : 0 ≤ s1
              · have g2 : ¬ 0 < s2 := fun h => hn ⟨g1, h⟩
                clear hn
                go_wp2_with fail
                exact ⟨⟨4 + 1, by decide, rfl, HEND.out⟩, by simp [intOf]⟩
              · clear hn
                go_wp2_with fail
                exact ⟨⟨4 + 1, by decide, rfl, HEND.out⟩, by simp [intOf]⟩
            · rw [hp, if_pos rfl] at q1
              obtain ⟨g1, g2⟩ := HLAW.out.2 hp
              clear hp
              go_wp2_with fail
              exact ⟨⟨4 + 1, by decide, rfl, HEND.out⟩, by simp [intOf]⟩
      · have HBF := Lib.hid (hbw.out.trans (hby.mono hbw.out.size))
        clear hby
        go_wp2_with fail
        refine (KN.out _).mono ?_
        rintro e w1 ⟨rfl, hb1⟩
        have HBG := Lib.hid (HBF.out.trans (hb1.mono HBF.out.size))
        clear hb1
        go_wp2_with fail
        go_ret
        exact ⟨rfl, HBG.out⟩
      · omega
end Go.Proofs.Yteibgenkklpoaaa.Un
