/- The reference of chapter 5: next and Window. -/
import Derived.Test.YteibgenkklpoaaaGreatDz1
import Derived.Test.YteibgenkklpoaaaGreatDt2
import Derived.Test.YteibgenkklpoaaaGreatRo
import Derived.Test.YteibgenkklpoaaaGreatDl
import Derived.Laws.OwnMore
namespace Go.Proofs.YteibgenkklpoaaaGreat.Un
open Go.RowKit
theorem rd_rng_at {w : World} {B b o n k : Nat} {xs : List Rng} (h : Rd w B 2 (some ⟨b, o, none⟩) n (rR xs)) (hk : k < n) : w.cell? ⟨b, o + k * 2, none⟩ = some (I (at0 xs k).lo) ∧ w.cell? ⟨b, o + k * 2 + 1, none⟩ = some (I (at0 xs k).hi) := by
  obtain ⟨b', o', e, _, h1, h2⟩ := h.rng hk
  injection e with e
  injection e with e1 e2
  subst e1 e2
  exact ⟨h1, h2⟩
/-- The numbers of one step. -/
structure NxN (m : Mdl) (z : Rng) (k : Nat) : Prop where
  nz : ¬ m.sc = 0
  wa : IntKind.i64.wrap ((m.b k).lo * z.lo) = (m.b k).lo * z.lo
  wb : IntKind.i64.wrap ((m.b k).hi * z.hi) = (m.b k).hi * z.hi
  qa : 0 ≤ ((m.b k).lo * z.lo).tdiv m.sc ∧ ((m.b k).lo * z.lo).tdiv m.sc ≤ 1000000000000
  qb : 0 ≤ ((m.b k).hi * z.hi).tdiv m.sc ∧ ((m.b k).hi * z.hi).tdiv m.sc ≤ 1000000000000
  ra : IntKind.i64.wrap (((m.b k).lo * z.lo).tdiv m.sc + 1) = nxA m z k
  rb : IntKind.i64.wrap (((m.b k).hi * z.hi).tdiv m.sc + 1) = nxB m z k
theorem nx_num {m : Mdl} (hm : okMdl m = true) {z : Rng} (hz : spanB z 1 1000000 = true) {k : Nat} (hk : k < 4) : NxN m z k := by
  obtain ⟨hs1, hs2, _⟩ := okMdl_iff.1 hm
  obtain ⟨a1, a2, a3, _, _⟩ := bdM_bd hm hk
  obtain ⟨z1, z2, z3⟩ := spanB_iff.1 hz
  have m3 := mul_bd (a := (m.b k).lo) (b := z.lo) (A := 1000000) (B := 1000000) ⟨a1, by omega⟩ ⟨by omega, by omega⟩
  have m4 := mul_bd (a := (m.b k).hi) (b := z.hi) (A := 1000000) (B := 1000000) ⟨by omega, by omega⟩ ⟨by omega, by omega⟩
  have key : ∀ x : Int, 0 ≤ x → 0 ≤ x.tdiv m.sc ∧ x.tdiv m.sc ≤ x := fun x hx => by
    rw [Int.tdiv_eq_ediv_of_nonneg hx]
    exact ⟨Int.ediv_nonneg hx (by omega), Int.ediv_le_self _ hx⟩
  have k3 := key _ m3.1
  have k4 := key _ m4.1
  exact ⟨by omega, IntWalk.i64_in _ (by omega), IntWalk.i64_in _ (by omega), by omega, by omega, IntWalk.i64_in _ (by omega), IntWalk.i64_in _ (by omega)⟩
set_option maxRecDepth 100000 in
set_option maxHeartbeats 4000000 in
theorem next_any (m : Mdl) (A : Option Addr) (c : Nat) (zs : List Rng) (v : Int) (w : World) (B : Nat) (hB : B ≤ w.heap.size) (hx : Rd w B 2 A zs.length (rR zs)) (hok : okMdl m = true) (hzs : ∀ i, i < zs.length → spanB (at0 zs i) 1 1000000 = true) (hzl : zs.length ≤ 20) :
    Calls Tryz.prog 37 #[.agg (mdA m), .slice A zs.length c, I v] w fun e w' => e = .returned (I (nxL m zs v zs.length)) ∧ Below w.heap.size w w' := by
  have HX : Hid (∀ V, Below w.heap.size w V → Rd V B 2 A zs.length (rR zs)) := fun V hV => hx.below (hV.mono hB)
  have HN : Hid (∀ i, i < zs.length → ∀ k, k < 4 → NxN m (at0 zs i) k) := fun i hi k hk => nx_num hok (hzs i hi) hk
  have HL : Hid (zs.length ≤ 20) := hzl
  clear hx hB hok hzs hzl
  obtain ⟨W, hW⟩ : ∃ W, W = (w.alloc (.cells #[I m.sc, I (m.b 0).lo, I (m.b 0).hi, I (m.b 1).lo, I (m.b 1).hi, I (m.b 2).lo, I (m.b 2).hi, I (m.b 3).lo, I (m.b 3).hi] 26)) := ⟨_, rfl⟩
  have rowW0 : W.heap[w.heap.size]? = some (.cells #[I m.sc, I (m.b 0).lo, I (m.b 0).hi, I (m.b 1).lo, I (m.b 1).hi, I (m.b 2).lo, I (m.b 2).hi, I (m.b 3).lo, I (m.b 3).hi] 26 (0, 0)) := by rw [hW]; exact heap_last _ _ _ rfl
  have yW00 := ovr_cell (W := W) (b := w.heap.size) (o := 0) (v := I m.sc) (by rw [cell_of_row _ _ _ _ _ _ rowW0]; rfl)
  have yW01 := ovr_cell (W := W) (b := w.heap.size) (o := 1) (v := I (m.b 0).lo) (by rw [cell_of_row _ _ _ _ _ _ rowW0]; rfl)
  have yW02 := ovr_cell (W := W) (b := w.heap.size) (o := 2) (v := I (m.b 0).hi) (by rw [cell_of_row _ _ _ _ _ _ rowW0]; rfl)
  have yW03 := ovr_cell (W := W) (b := w.heap.size) (o := 3) (v := I (m.b 1).lo) (by rw [cell_of_row _ _ _ _ _ _ rowW0]; rfl)
  have yW04 := ovr_cell (W := W) (b := w.heap.size) (o := 4) (v := I (m.b 1).hi) (by rw [cell_of_row _ _ _ _ _ _ rowW0]; rfl)
  have yW05 := ovr_cell (W := W) (b := w.heap.size) (o := 5) (v := I (m.b 2).lo) (by rw [cell_of_row _ _ _ _ _ _ rowW0]; rfl)
  have yW06 := ovr_cell (W := W) (b := w.heap.size) (o := 6) (v := I (m.b 2).hi) (by rw [cell_of_row _ _ _ _ _ _ rowW0]; rfl)
  have yW07 := ovr_cell (W := W) (b := w.heap.size) (o := 7) (v := I (m.b 3).lo) (by rw [cell_of_row _ _ _ _ _ _ rowW0]; rfl)
  have yW08 := ovr_cell (W := W) (b := w.heap.size) (o := 8) (v := I (m.b 3).hi) (by rw [cell_of_row _ _ _ _ _ _ rowW0]; rfl)
  have RrowW0 := Lib.hid (ovr_row rowW0)
  clear rowW0
  have HUW : Hid (∀ u, Below w.heap.size w (ovr W u)) := U1 hW
  have HW := Lib.hid hW
  clear hW
  have HWB : Hid (Below w.heap.size w W) := below_self0' HUW.out
  go_enter Tryz.func37, Tryz.ntmps37
  go_upto_region 1 with (fail)
  rw [← HW.out]
  obtain ⟨u0, hu0⟩ := ovr_self W
  rw [hu0]
  clear hu0
  go_wp2_with fail
  go_loopw [7, 8] (fun q i wr => ∃ (n : Nat), n ≤ zs.length ∧ i = .int .i64 n ∧ q = I (nxL m zs v n) ∧ Below W.heap.size W wr) (fun _ i _ => zs.length - (intOf i).toNat)
  case atStart => exact ⟨0, by omega, rfl, rfl, ovr_below _ _⟩
  case round =>
    obtain ⟨n, hnl, rfl, rfl, hb⟩ := hrel
    rename World => Y
    have HBY := Lib.hid hb
    have hn20 : n ≤ 20 := by have := HL.out; omega
    by_cases hlt : n < zs.length
    · have HLT := Lib.hid hlt
      obtain ⟨b, o, rfl, _, e0, e1⟩ := (HX.out Y (HWB.out.trans (hb.mono HWB.out.size))).rng hlt
      clear e0 e1
      have reY : ∀ v, ∃ x, ovr Y v = ovr W x := fun v => ovr_reB hb v
      have SW_yW00 := Lib.hid yW00
      replace yW00 := tr_cell reY yW00
      have SW_yW01 := Lib.hid yW01
      replace yW01 := tr_cell reY yW01
      have SW_yW02 := Lib.hid yW02
      replace yW02 := tr_cell reY yW02
      have SW_yW03 := Lib.hid yW03
      replace yW03 := tr_cell reY yW03
      have SW_yW04 := Lib.hid yW04
      replace yW04 := tr_cell reY yW04
      have SW_yW05 := Lib.hid yW05
      replace yW05 := tr_cell reY yW05
      have SW_yW06 := Lib.hid yW06
      replace yW06 := tr_cell reY yW06
      have SW_yW07 := Lib.hid yW07
      replace yW07 := tr_cell reY yW07
      have SW_yW08 := Lib.hid yW08
      replace yW08 := tr_cell reY yW08
      have SW_RrowW0 := Lib.hid RrowW0.out
      replace RrowW0 := Lib.hid (tr_row reY RrowW0.out)
      have HUY : Hid (∀ u, Below w.heap.size w (ovr Y u)) := fun u => by obtain ⟨x, hx⟩ := reY u; rw [hx]; exact HUW.out x
      clear reY hb
      obtain ⟨y0, hy0⟩ := ovr_self Y
      rw [hy0]
      clear hy0
      go_wp2_with fail
      go_loopw [7, 9] (fun q i wr => ∃ (k : Nat) (x : World), k ≤ 4 ∧ i = .int .i64 k ∧ q = I (nxK m (at0 zs n) v (nxL m zs v n) k) ∧ wr = ovr Y x) (fun _ i _ => 4 - (intOf i).toNat)
      case atStart => exact ⟨0, y0, by omega, rfl, rfl, rfl⟩
      case round =>
        obtain ⟨k, x, hk4, rfl, rfl, rfl⟩ := hrel
        rcases k with _ | _ | _ | _ | _ | k
        · skip
          go_upto_region 8 with fail
          have hbZ := ovr_below Y x
          obtain ⟨Z, hZ⟩ : ∃ Z, Z = ovr Y x := ⟨_, rfl⟩
          rw [← hZ] at hbZ
          rw [← hZ]
          have hZ' := Lib.hid hZ
          clear hZ
          have hbZ' := Lib.hid hbZ
          have reZ : ∀ v, ∃ x, ovr Z v = ovr Y x := fun v => ovr_reB hbZ v
          replace yW00 := tr_cell reZ yW00
          replace yW01 := tr_cell reZ yW01
          replace yW02 := tr_cell reZ yW02
          replace yW03 := tr_cell reZ yW03
          replace yW04 := tr_cell reZ yW04
          replace yW05 := tr_cell reZ yW05
          replace yW06 := tr_cell reZ yW06
          replace yW07 := tr_cell reZ yW07
          replace yW08 := tr_cell reZ yW08
          replace RrowW0 := Lib.hid (tr_row reZ RrowW0.out)
          have HUZ : Hid (∀ u, Below w.heap.size w (ovr Z u)) := fun u => by obtain ⟨x, hx⟩ := reZ u; rw [hx]; exact HUY.out x
          clear reZ hbZ
          obtain ⟨ze0, ze1⟩ := rd_rng_at (HX.out Z (HWB.out.trans ((HBY.out.trans (hbZ'.out.mono HBY.out.size)).mono HWB.out.size))) HLT.out
          have e0 := ovr_cell ze0
          have e1 := ovr_cell ze1
          clear ze0 ze1
          have hlt := HLT.out
          have HNUM := HN.out n HLT.out 0 (by decide)
          have wa := HNUM.wa
          have wb := HNUM.wb
          have qa := HNUM.qa
          have qb := HNUM.qb
          have ra := HNUM.ra
          have rb := HNUM.rb
          have nz := HNUM.nz
          obtain ⟨a, ha⟩ : ∃ a, nxA m (at0 zs n) 0 = a := ⟨_, rfl⟩
          obtain ⟨b9, hb9⟩ : ∃ a, nxB m (at0 zs n) 0 = a := ⟨_, rfl⟩
          have hst : Hid (nxK m (at0 zs n) v (nxL m zs v n) (0 + 1) = nxS m (at0 zs n) v (nxK m (at0 zs n) v (nxL m zs v n) 0) 0) := rfl
          unfold nxS at hst
          rw [ha] at ra hst
          rw [hb9] at rb hst
          obtain ⟨q, hq⟩ : ∃ q, nxK m (at0 zs n) v (nxL m zs v n) 0 = q := ⟨_, rfl⟩
          rw [hq] at hst
          rw [hq]
          clear HNUM ha hb9 hq
          refine Dl.wp_region_late 30 [15, 16, 17, 18, 19, 20, 21, 22, 23, 24, 25, 26, 27, 28, 29] (fun _ => none) (by kernel_rfl) (by kernel_rfl) (by kernel_rfl) (by kernel_rfl) [] (E := 23)
            ⟨by kernel_rfl, alloc_rng, fun j hj => by cases hj⟩ (by kernel_rfl) (fun _ _ => rfl) (fun c a d v w h => by cases d <;> exact h) ?_
          simp only [List.take_succ_cons, List.take_zero, List.drop_succ_cons, List.drop_zero]
          repeat (refine Dk.wpG_one rfl rfl rfl ?_; intro K hK; go_big_quiet_op; go_big_quiet_on)
          refine Dk.wpG_nil (fun w5 hw5 _ => ?_)
          refine Dl.wpTailH_cons (wp_assign _ (I a) rfl rfl ⟨hw5, ?_⟩)
          refine Dl.wpTailH_cons (wp_assign _ (I b9) rfl rfl ⟨hw5, ?_⟩)
          refine Dl.wpTailH_nil ?_
          simp only [Act.put]
          obtain ⟨x5, rfl⟩ := hw5
          have hb6 := Lib.hid (hbZ'.out.trans ((ovr_below Z x5).mono hbZ'.out.size))
          clear e0 e1 hlt wa wb qa qb ra rb nz
          by_cases h1 : v < a
          · have d1 := decide_eq_true h1
            by_cases h2 : v < b9
            · have d2 := decide_eq_true h2
              have e9 := hst.out
              rw [if_pos h2, if_pos h1] at e9
              have E9 := Lib.hid e9
              clear e9 h1 h2
              go_wp2_with fail
              exact ⟨⟨0 + 1, _, by decide, rfl, by rw [E9.out, Int.min_assoc], ovr_of hb6.out⟩, by simp [intOf]⟩
            · have d2 := decide_eq_false h2
              have e9 := hst.out
              rw [if_neg h2, if_pos h1] at e9
              have E9 := Lib.hid e9
              clear e9 h1 h2
              go_wp2_with fail
              exact ⟨⟨0 + 1, _, by decide, rfl, by rw [E9.out], ovr_of hb6.out⟩, by simp [intOf]⟩
          · have d1 := decide_eq_false h1
            by_cases h2 : v < b9
            · have d2 := decide_eq_true h2
              have e9 := hst.out
              rw [if_pos h2, if_neg h1] at e9
              have E9 := Lib.hid e9
              clear e9 h1 h2
              go_wp2_with fail
              exact ⟨⟨0 + 1, _, by decide, rfl, by rw [E9.out], ovr_of hb6.out⟩, by simp [intOf]⟩
            · have d2 := decide_eq_false h2
              have e9 := hst.out
              rw [if_neg h2, if_neg h1] at e9
              have E9 := Lib.hid e9
              clear e9 h1 h2
              go_wp2_with fail
              exact ⟨⟨0 + 1, _, by decide, rfl, by rw [E9.out], ovr_of hb6.out⟩, by simp [intOf]⟩
        · skip
          go_upto_region 8 with fail
          have hbZ := ovr_below Y x
          obtain ⟨Z, hZ⟩ : ∃ Z, Z = ovr Y x := ⟨_, rfl⟩
          rw [← hZ] at hbZ
          rw [← hZ]
          have hZ' := Lib.hid hZ
          clear hZ
          have hbZ' := Lib.hid hbZ
          have reZ : ∀ v, ∃ x, ovr Z v = ovr Y x := fun v => ovr_reB hbZ v
          replace yW00 := tr_cell reZ yW00
          replace yW01 := tr_cell reZ yW01
          replace yW02 := tr_cell reZ yW02
          replace yW03 := tr_cell reZ yW03
          replace yW04 := tr_cell reZ yW04
          replace yW05 := tr_cell reZ yW05
          replace yW06 := tr_cell reZ yW06
          replace yW07 := tr_cell reZ yW07
          replace yW08 := tr_cell reZ yW08
          replace RrowW0 := Lib.hid (tr_row reZ RrowW0.out)
          have HUZ : Hid (∀ u, Below w.heap.size w (ovr Z u)) := fun u => by obtain ⟨x, hx⟩ := reZ u; rw [hx]; exact HUY.out x
          clear reZ hbZ
          obtain ⟨ze0, ze1⟩ := rd_rng_at (HX.out Z (HWB.out.trans ((HBY.out.trans (hbZ'.out.mono HBY.out.size)).mono HWB.out.size))) HLT.out
          have e0 := ovr_cell ze0
          have e1 := ovr_cell ze1
          clear ze0 ze1
          have hlt := HLT.out
          have HNUM := HN.out n HLT.out 1 (by decide)
          have wa := HNUM.wa
          have wb := HNUM.wb
          have qa := HNUM.qa
          have qb := HNUM.qb
          have ra := HNUM.ra
          have rb := HNUM.rb
          have nz := HNUM.nz
          obtain ⟨a, ha⟩ : ∃ a, nxA m (at0 zs n) 1 = a := ⟨_, rfl⟩
          obtain ⟨b9, hb9⟩ : ∃ a, nxB m (at0 zs n) 1 = a := ⟨_, rfl⟩
          have hst : Hid (nxK m (at0 zs n) v (nxL m zs v n) (1 + 1) = nxS m (at0 zs n) v (nxK m (at0 zs n) v (nxL m zs v n) 1) 1) := rfl
          unfold nxS at hst
          rw [ha] at ra hst
          rw [hb9] at rb hst
          obtain ⟨q, hq⟩ : ∃ q, nxK m (at0 zs n) v (nxL m zs v n) 1 = q := ⟨_, rfl⟩
          rw [hq] at hst
          rw [hq]
          clear HNUM ha hb9 hq
          refine Dl.wp_region_late 30 [15, 16, 17, 18, 19, 20, 21, 22, 23, 24, 25, 26, 27, 28, 29] (fun _ => none) (by kernel_rfl) (by kernel_rfl) (by kernel_rfl) (by kernel_rfl) [] (E := 23)
            ⟨by kernel_rfl, alloc_rng, fun j hj => by cases hj⟩ (by kernel_rfl) (fun _ _ => rfl) (fun c a d v w h => by cases d <;> exact h) ?_
          simp only [List.take_succ_cons, List.take_zero, List.drop_succ_cons, List.drop_zero]
          repeat (refine Dk.wpG_one rfl rfl rfl ?_; intro K hK; go_big_quiet_op; go_big_quiet_on)
          refine Dk.wpG_nil (fun w5 hw5 _ => ?_)
          refine Dl.wpTailH_cons (wp_assign _ (I a) rfl rfl ⟨hw5, ?_⟩)
          refine Dl.wpTailH_cons (wp_assign _ (I b9) rfl rfl ⟨hw5, ?_⟩)
          refine Dl.wpTailH_nil ?_
          simp only [Act.put]
          obtain ⟨x5, rfl⟩ := hw5
          have hb6 := Lib.hid (hbZ'.out.trans ((ovr_below Z x5).mono hbZ'.out.size))
          clear e0 e1 hlt wa wb qa qb ra rb nz
          by_cases h1 : v < a
          · have d1 := decide_eq_true h1
            by_cases h2 : v < b9
            · have d2 := decide_eq_true h2
              have e9 := hst.out
              rw [if_pos h2, if_pos h1] at e9
              have E9 := Lib.hid e9
              clear e9 h1 h2
              go_wp2_with fail
              exact ⟨⟨1 + 1, _, by decide, rfl, by rw [E9.out, Int.min_assoc], ovr_of hb6.out⟩, by simp [intOf]⟩
            · have d2 := decide_eq_false h2
              have e9 := hst.out
              rw [if_neg h2, if_pos h1] at e9
              have E9 := Lib.hid e9
              clear e9 h1 h2
              go_wp2_with fail
              exact ⟨⟨1 + 1, _, by decide, rfl, by rw [E9.out], ovr_of hb6.out⟩, by simp [intOf]⟩
          · have d1 := decide_eq_false h1
            by_cases h2 : v < b9
            · have d2 := decide_eq_true h2
              have e9 := hst.out
              rw [if_pos h2, if_neg h1] at e9
              have E9 := Lib.hid e9
              clear e9 h1 h2
              go_wp2_with fail
              exact ⟨⟨1 + 1, _, by decide, rfl, by rw [E9.out], ovr_of hb6.out⟩, by simp [intOf]⟩
            · have d2 := decide_eq_false h2
              have e9 := hst.out
              rw [if_neg h2, if_neg h1] at e9
              have E9 := Lib.hid e9
              clear e9 h1 h2
              go_wp2_with fail
              exact ⟨⟨1 + 1, _, by decide, rfl, by rw [E9.out], ovr_of hb6.out⟩, by simp [intOf]⟩
        · skip
          go_upto_region 8 with fail
          have hbZ := ovr_below Y x
          obtain ⟨Z, hZ⟩ : ∃ Z, Z = ovr Y x := ⟨_, rfl⟩
          rw [← hZ] at hbZ
          rw [← hZ]
          have hZ' := Lib.hid hZ
          clear hZ
          have hbZ' := Lib.hid hbZ
          have reZ : ∀ v, ∃ x, ovr Z v = ovr Y x := fun v => ovr_reB hbZ v
          replace yW00 := tr_cell reZ yW00
          replace yW01 := tr_cell reZ yW01
          replace yW02 := tr_cell reZ yW02
          replace yW03 := tr_cell reZ yW03
          replace yW04 := tr_cell reZ yW04
          replace yW05 := tr_cell reZ yW05
          replace yW06 := tr_cell reZ yW06
          replace yW07 := tr_cell reZ yW07
          replace yW08 := tr_cell reZ yW08
          replace RrowW0 := Lib.hid (tr_row reZ RrowW0.out)
          have HUZ : Hid (∀ u, Below w.heap.size w (ovr Z u)) := fun u => by obtain ⟨x, hx⟩ := reZ u; rw [hx]; exact HUY.out x
          clear reZ hbZ
          obtain ⟨ze0, ze1⟩ := rd_rng_at (HX.out Z (HWB.out.trans ((HBY.out.trans (hbZ'.out.mono HBY.out.size)).mono HWB.out.size))) HLT.out
          have e0 := ovr_cell ze0
          have e1 := ovr_cell ze1
          clear ze0 ze1
          have hlt := HLT.out
          have HNUM := HN.out n HLT.out 2 (by decide)
          have wa := HNUM.wa
          have wb := HNUM.wb
          have qa := HNUM.qa
          have qb := HNUM.qb
          have ra := HNUM.ra
          have rb := HNUM.rb
          have nz := HNUM.nz
          obtain ⟨a, ha⟩ : ∃ a, nxA m (at0 zs n) 2 = a := ⟨_, rfl⟩
          obtain ⟨b9, hb9⟩ : ∃ a, nxB m (at0 zs n) 2 = a := ⟨_, rfl⟩
          have hst : Hid (nxK m (at0 zs n) v (nxL m zs v n) (2 + 1) = nxS m (at0 zs n) v (nxK m (at0 zs n) v (nxL m zs v n) 2) 2) := rfl
          unfold nxS at hst
          rw [ha] at ra hst
          rw [hb9] at rb hst
          obtain ⟨q, hq⟩ : ∃ q, nxK m (at0 zs n) v (nxL m zs v n) 2 = q := ⟨_, rfl⟩
          rw [hq] at hst
          rw [hq]
          clear HNUM ha hb9 hq
          refine Dl.wp_region_late 30 [15, 16, 17, 18, 19, 20, 21, 22, 23, 24, 25, 26, 27, 28, 29] (fun _ => none) (by kernel_rfl) (by kernel_rfl) (by kernel_rfl) (by kernel_rfl) [] (E := 23)
            ⟨by kernel_rfl, alloc_rng, fun j hj => by cases hj⟩ (by kernel_rfl) (fun _ _ => rfl) (fun c a d v w h => by cases d <;> exact h) ?_
          simp only [List.take_succ_cons, List.take_zero, List.drop_succ_cons, List.drop_zero]
          repeat (refine Dk.wpG_one rfl rfl rfl ?_; intro K hK; go_big_quiet_op; go_big_quiet_on)
          refine Dk.wpG_nil (fun w5 hw5 _ => ?_)
          refine Dl.wpTailH_cons (wp_assign _ (I a) rfl rfl ⟨hw5, ?_⟩)
          refine Dl.wpTailH_cons (wp_assign _ (I b9) rfl rfl ⟨hw5, ?_⟩)
          refine Dl.wpTailH_nil ?_
          simp only [Act.put]
          obtain ⟨x5, rfl⟩ := hw5
          have hb6 := Lib.hid (hbZ'.out.trans ((ovr_below Z x5).mono hbZ'.out.size))
          clear e0 e1 hlt wa wb qa qb ra rb nz
          by_cases h1 : v < a
          · have d1 := decide_eq_true h1
            by_cases h2 : v < b9
            · have d2 := decide_eq_true h2
              have e9 := hst.out
              rw [if_pos h2, if_pos h1] at e9
              have E9 := Lib.hid e9
              clear e9 h1 h2
              go_wp2_with fail
              exact ⟨⟨2 + 1, _, by decide, rfl, by rw [E9.out, Int.min_assoc], ovr_of hb6.out⟩, by simp [intOf]⟩
            · have d2 := decide_eq_false h2
              have e9 := hst.out
              rw [if_neg h2, if_pos h1] at e9
              have E9 := Lib.hid e9
              clear e9 h1 h2
              go_wp2_with fail
              exact ⟨⟨2 + 1, _, by decide, rfl, by rw [E9.out], ovr_of hb6.out⟩, by simp [intOf]⟩
          · have d1 := decide_eq_false h1
            by_cases h2 : v < b9
            · have d2 := decide_eq_true h2
              have e9 := hst.out
              rw [if_pos h2, if_neg h1] at e9
              have E9 := Lib.hid e9
              clear e9 h1 h2
              go_wp2_with fail
              exact ⟨⟨2 + 1, _, by decide, rfl, by rw [E9.out], ovr_of hb6.out⟩, by simp [intOf]⟩
            · have d2 := decide_eq_false h2
              have e9 := hst.out
              rw [if_neg h2, if_neg h1] at e9
              have E9 := Lib.hid e9
              clear e9 h1 h2
              go_wp2_with fail
              exact ⟨⟨2 + 1, _, by decide, rfl, by rw [E9.out], ovr_of hb6.out⟩, by simp [intOf]⟩
        · skip
          go_upto_region 8 with fail
          have hbZ := ovr_below Y x
          obtain ⟨Z, hZ⟩ : ∃ Z, Z = ovr Y x := ⟨_, rfl⟩
          rw [← hZ] at hbZ
          rw [← hZ]
          have hZ' := Lib.hid hZ
          clear hZ
          have hbZ' := Lib.hid hbZ
          have reZ : ∀ v, ∃ x, ovr Z v = ovr Y x := fun v => ovr_reB hbZ v
          replace yW00 := tr_cell reZ yW00
          replace yW01 := tr_cell reZ yW01
          replace yW02 := tr_cell reZ yW02
          replace yW03 := tr_cell reZ yW03
          replace yW04 := tr_cell reZ yW04
          replace yW05 := tr_cell reZ yW05
          replace yW06 := tr_cell reZ yW06
          replace yW07 := tr_cell reZ yW07
          replace yW08 := tr_cell reZ yW08
          replace RrowW0 := Lib.hid (tr_row reZ RrowW0.out)
          have HUZ : Hid (∀ u, Below w.heap.size w (ovr Z u)) := fun u => by obtain ⟨x, hx⟩ := reZ u; rw [hx]; exact HUY.out x
          clear reZ hbZ
          obtain ⟨ze0, ze1⟩ := rd_rng_at (HX.out Z (HWB.out.trans ((HBY.out.trans (hbZ'.out.mono HBY.out.size)).mono HWB.out.size))) HLT.out
          have e0 := ovr_cell ze0
          have e1 := ovr_cell ze1
          clear ze0 ze1
          have hlt := HLT.out
          have HNUM := HN.out n HLT.out 3 (by decide)
          have wa := HNUM.wa
          have wb := HNUM.wb
          have qa := HNUM.qa
          have qb := HNUM.qb
          have ra := HNUM.ra
          have rb := HNUM.rb
          have nz := HNUM.nz
          obtain ⟨a, ha⟩ : ∃ a, nxA m (at0 zs n) 3 = a := ⟨_, rfl⟩
          obtain ⟨b9, hb9⟩ : ∃ a, nxB m (at0 zs n) 3 = a := ⟨_, rfl⟩
          have hst : Hid (nxK m (at0 zs n) v (nxL m zs v n) (3 + 1) = nxS m (at0 zs n) v (nxK m (at0 zs n) v (nxL m zs v n) 3) 3) := rfl
          unfold nxS at hst
          rw [ha] at ra hst
          rw [hb9] at rb hst
          obtain ⟨q, hq⟩ : ∃ q, nxK m (at0 zs n) v (nxL m zs v n) 3 = q := ⟨_, rfl⟩
          rw [hq] at hst
          rw [hq]
          clear HNUM ha hb9 hq
          refine Dl.wp_region_late 30 [15, 16, 17, 18, 19, 20, 21, 22, 23, 24, 25, 26, 27, 28, 29] (fun _ => none) (by kernel_rfl) (by kernel_rfl) (by kernel_rfl) (by kernel_rfl) [] (E := 23)
            ⟨by kernel_rfl, alloc_rng, fun j hj => by cases hj⟩ (by kernel_rfl) (fun _ _ => rfl) (fun c a d v w h => by cases d <;> exact h) ?_
          simp only [List.take_succ_cons, List.take_zero, List.drop_succ_cons, List.drop_zero]
          repeat (refine Dk.wpG_one rfl rfl rfl ?_; intro K hK; go_big_quiet_op; go_big_quiet_on)
          refine Dk.wpG_nil (fun w5 hw5 _ => ?_)
          refine Dl.wpTailH_cons (wp_assign _ (I a) rfl rfl ⟨hw5, ?_⟩)
          refine Dl.wpTailH_cons (wp_assign _ (I b9) rfl rfl ⟨hw5, ?_⟩)
          refine Dl.wpTailH_nil ?_
          simp only [Act.put]
          obtain ⟨x5, rfl⟩ := hw5
          have hb6 := Lib.hid (hbZ'.out.trans ((ovr_below Z x5).mono hbZ'.out.size))
          clear e0 e1 hlt wa wb qa qb ra rb nz
          by_cases h1 : v < a
          · have d1 := decide_eq_true h1
            by_cases h2 : v < b9
            · have d2 := decide_eq_true h2
              have e9 := hst.out
              rw [if_pos h2, if_pos h1] at e9
              have E9 := Lib.hid e9
              clear e9 h1 h2
              go_wp2_with fail
              exact ⟨⟨3 + 1, _, by decide, rfl, by rw [E9.out, Int.min_assoc], ovr_of hb6.out⟩, by simp [intOf]⟩
            · have d2 := decide_eq_false h2
              have e9 := hst.out
              rw [if_neg h2, if_pos h1] at e9
              have E9 := Lib.hid e9
              clear e9 h1 h2
              go_wp2_with fail
              exact ⟨⟨3 + 1, _, by decide, rfl, by rw [E9.out], ovr_of hb6.out⟩, by simp [intOf]⟩
          · have d1 := decide_eq_false h1
            by_cases h2 : v < b9
            · have d2 := decide_eq_true h2
              have e9 := hst.out
              rw [if_pos h2, if_neg h1] at e9
              have E9 := Lib.hid e9
              clear e9 h1 h2
              go_wp2_with fail
              exact ⟨⟨3 + 1, _, by decide, rfl, by rw [E9.out], ovr_of hb6.out⟩, by simp [intOf]⟩
            · have d2 := decide_eq_false h2
              have e9 := hst.out
              rw [if_neg h2, if_neg h1] at e9
              have E9 := Lib.hid e9
              clear e9 h1 h2
              go_wp2_with fail
              exact ⟨⟨3 + 1, _, by decide, rfl, by rw [E9.out], ovr_of hb6.out⟩, by simp [intOf]⟩
        · have hbf := Lib.hid (HBY.out.trans ((ovr_below Y x).mono HBY.out.size))
          go_wp2_with fail
          exact ⟨⟨n + 1, HLT.out, rfl, rfl, hbf.out⟩, by have := HLT.out; simp [intOf]; omega⟩
        · omega
    · have hnn : n = zs.length := by omega
      subst hnn
      have hbf := Lib.hid (HWB.out.trans (HBY.out.mono HWB.out.size))
      clear hb
      go_wp2_with fail
      go_ret
      exact ⟨rfl, hbf.out⟩
end Go.Proofs.YteibgenkklpoaaaGreat.Un
