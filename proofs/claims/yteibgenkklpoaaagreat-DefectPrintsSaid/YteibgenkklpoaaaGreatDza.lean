/- The reference of chapter 5: zones, Why, next, Window. -/
import Derived.Test.YteibgenkklpoaaaGreatDw2
import Derived.Test.YteibgenkklpoaaaGreatDt1
import Derived.Test.YteibgenkklpoaaaGreatDb
import Derived.Test.YteibgenkklpoaaaGreatDt2
import Derived.Test.YteibgenkklpoaaaGreatRo
import Derived.Test.YteibgenkklpoaaaGreatDl
import Derived.Laws.OwnMore
import Derived.Test.YteibgenkklpoaaaGreatJo
import Derived.Test.YteibgenkklpoaaaGreatHp
namespace Go.Proofs.YteibgenkklpoaaaGreat.Un
open Go.RowKit
theorem ck_ok' {m : Mdl} {zs : List Rng} {v : Int} (h1 : ckF m zs v = 0) : okMdl m = true ∧ (∀ i, i < zs.length → spanB (at0 zs i) 1 1000000 = true) ∧ zs.length ≤ 20 ∧ v ≤ 31 := by
  have hok : okMdl m = true := by
    rcases hq : okMdl m with _ | _
    · unfold ckF at h1; rw [hq] at h1; cases h1
    · rfl
  unfold ckF at h1
  rw [hok, if_pos rfl] at h1
  split at h1
  · cases h1
  · rename_i hl
    split at h1
    · cases h1
    · rename_i hn
      rw [Bool.or_eq_true, not_or] at hn
      have h2 := hn.1
      have h3 := hn.2
      simp only [Bool.not_eq_true, List.any_eq_false] at h2
      simp only [decide_eq_true_eq] at h3
      refine ⟨hok, fun i hi => ?_, by omega, by omega⟩
      have h5 := h2 (at0 zs i) (by rw [at0_get hi]; exact List.getElem_mem hi)
      simpa [notGr] using h5
def zE (zs : List Rng) (v : Int) : Int := if 20 < zs.length then 5 else if zs.any notGr || decide (31 < v) then 2 else 0
theorem ck_zE (m : Mdl) (zs : List Rng) (v : Int) : ckF m zs v = if okMdl m then zE zs v else 2 := rfl
set_option maxRecDepth 100000 in
set_option maxHeartbeats 4000000 in
theorem refZones_any (A : Option Addr) (c : Nat) (zs : List Rng) (v : Int) (w : World) (B : Nat) (hm : zs.length ≤ maxLen) (hB : B ≤ w.heap.size) (hx : Rd w B 2 A zs.length (rR zs)) :
    Calls Tryz.prog 11 #[.slice A zs.length c, .int .u8 v] w fun e w' => e = .returned (I (zE zs v)) ∧ Below w.heap.size w w' := by
  have HX : Hid (∀ u, Rd (ovr w u) B 2 A zs.length (rR zs)) := fun u => hx.below ((ovr_below w u).mono hB)
  have hf : Hid (zE zs v = if 20 < zs.length then 5 else if zs.any notGr || decide (31 < v) then 2 else 0) := rfl
  have CG := Lib.hid fun r V => refGrad_any r V
  have HM : Hid (zs.length ≤ 9223372036854775807) := by show _ ≤ _; unfold maxLen at hm; omega
  clear hx hB hm
  obtain ⟨u0, hu0⟩ := ovr_self w
  have H0 := Lib.hid hu0
  clear hu0
  go_enter Tryz.func11, Tryz.ntmps11
  by_cases h1 : 20 < zs.length
  · rw [if_pos h1] at hf
    have d1 : decide ((20 : Int) < (zs.length : Int)) = true := decide_eq_true (by omega)
    go_wp2_with fail
    go_ret
    exact ⟨by rw [hf.out]; rfl, Below.refl _ _⟩
  rw [if_neg h1] at hf
  have d1 : decide ((20 : Int) < (zs.length : Int)) = false := decide_eq_false (by omega)
  have HL : Hid (zs.length ≤ 20) := by show _ ≤ _; omega
  go_wp2_with fail
  go_loopw [5] (fun i wr => ∃ (n : Nat) (u : World), n ≤ zs.length ∧ i = .int .i64 n ∧ wr = ovr w u ∧ ∀ j, j < n → spanB (at0 zs j) 1 1000000 = true) (fun i _ => zs.length - (intOf i).toNat)
  case atStart => exact ⟨0, u0, by omega, rfl, H0.out, fun j hj => absurd hj (by omega)⟩
  case round =>
    obtain ⟨n, u, hnl, rfl, rfl, hall⟩ := hrel
    have HALL := Lib.hid hall
    clear hall
    have hn20 : n ≤ 20 := by have := HL.out; omega
    by_cases hlt : n < zs.length
    · have HLT := Lib.hid hlt
      obtain ⟨b, o, rfl, _, e0, e1⟩ := (HX.out u).rng hlt
      have CQ := Lib.hid (CG.out (at0 zs n) (ovr w u))
      rcases hb : spanB (at0 zs n) 1 1000000 with _ | _ <;> rw [hb] at CQ
      · have hf2 : Hid (zE zs v = 2) := by
          show _ = _
          rw [hf.out, show zs.any notGr = true from List.any_eq_true.2 ⟨at0 zs n, by rw [at0_get hlt]; exact List.getElem_mem hlt, by unfold notGr; rw [hb]; rfl⟩]
          rfl
        go_wp2_with fail
        refine CQ.out.mono ?_
        rintro e w1 ⟨rfl, hb1⟩
        obtain ⟨u1, rfl⟩ := ovr_next hb1
        clear hb1
        go_wp2_with fail
        go_ret
        exact ⟨by rw [hf2.out]; rfl, ovr_below _ _⟩
      · have hq : Hid (∀ j, j < n + 1 → spanB (at0 zs j) 1 1000000 = true) := fun j hj => by
          by_cases hjn : j = n
          · rw [hjn]; exact hb
          · exact HALL.out j (by omega)
        go_wp2_with fail
        refine CQ.out.mono ?_
        rintro e w1 ⟨rfl, hb1⟩
        obtain ⟨u1, rfl⟩ := ovr_next hb1
        clear hb1
        go_wp2_with fail
        exact ⟨⟨n + 1, u1, HLT.out, rfl, rfl, hq.out⟩, by have := HLT.out; simp [intOf]; omega⟩
    · have hnn : n = zs.length := by omega
      subst hnn
      have hany : zs.any notGr = false := by
        rw [List.any_eq_false]
        intro x hx
        obtain ⟨j, hj, rfl⟩ := at0_mem hx
        unfold notGr
        rw [HALL.out j hj]
        decide
      rw [hany] at hf
      by_cases h2 : 31 < v
      · rw [decide_eq_true h2] at hf
        go_wp2_with fail
        go_ret
        exact ⟨by rw [hf.out]; rfl, ovr_below _ _⟩
      rw [decide_eq_false h2] at hf
      go_wp2_with fail
      go_ret
      exact ⟨by rw [hf.out]; rfl, ovr_below _ _⟩
theorem un_n5 : ∀ a b c d e : Bool, ∀ w : Fin 32, ∀ k : Fin 5, bits .and .u8 (bits .andNot .u8 (n5 a b c d e) (w : Nat) / 2 ^ (k : Nat)) 1 = if s5 a b c d e k && unw (w : Nat) k then 1 else 0 := by decide +kernel
theorem un_reg (p : Nat → Bool) {v : Int} (hv : 0 ≤ v ∧ v ≤ 31) {k : Nat} (hk : k < 5) : bits .and .u8 (bits .andNot .u8 (regK p 5) v / 2 ^ k) 1 = if p k && unw v k then 1 else 0 := by
  obtain ⟨n, rfl⟩ : ∃ n : Nat, v = n := ⟨v.toNat, by omega⟩
  rw [regK_n5, un_n5 _ _ _ _ _ ⟨n, by omega⟩ ⟨k, hk⟩, s5_at p hk]
def whyP : Option (Nat × Nat) → Int × Int
  | some (i, k) => (i, k)
  | none => (-1, 0)
theorem whyZ_none {m : Mdl} {v rate : Int} {z : Rng} (h : ∀ k, k < 5 → whyB m v rate z k = false) : whyZ m v rate z = none := by
  unfold whyZ
  rw [List.find?_eq_none]
  intro q hq
  rw [h q (List.mem_range.1 hq)]
  simp
theorem whyZ_some {m : Mdl} {v rate : Int} {z : Rng} {j : Nat} (hj : j < 5) (h : whyB m v rate z j = true) (hno : ∀ k, k < j → whyB m v rate z k = false) : whyZ m v rate z = some j := by
  unfold whyZ
  rw [List.find?_eq_some_iff_getElem]
  exact ⟨h, j, by simpa using hj, by simp, fun q hq => by simp; exact hno q hq⟩
theorem whyL_some {m : Mdl} {v rate : Int} {zs : List Rng} {i k : Nat} (hi : i < zs.length) (h : whyZ m v rate (at0 zs i) = some k) (hno : ∀ j, j < i → whyZ m v rate (at0 zs j) = none) : whyL m v rate zs = some (i, k) := by
  unfold whyL
  rw [List.findSome?_eq_some_iff]
  refine ⟨List.range i, i, (List.range (zs.length - i - 1)).map (i + 1 + ·), ?_, by rw [h]; rfl, fun q hq => ?_⟩
  · rw [show zs.length = i + ((zs.length - i - 1) + 1) by omega, List.range_add]
    congr 1
    rw [List.range_succ_eq_map, List.map_cons, List.map_map, Nat.add_zero]
    congr 1
    rw [show i + (zs.length - i - 1 + 1) - i - 1 = zs.length - i - 1 by omega]
    refine List.map_congr_left fun a _ => ?_
    show i + (a + 1) = i + 1 + a
    omega
  · rw [hno q (by simpa using hq)]; rfl
theorem whyL_no {m : Mdl} {v rate : Int} {zs : List Rng} (h : ∀ j, j < zs.length → whyZ m v rate (at0 zs j) = none) : whyL m v rate zs = none := by
  unfold whyL
  rw [List.findSome?_eq_none_iff]
  intro q hq
  rw [h q (List.mem_range.1 hq)]
  rfl
set_option maxRecDepth 100000 in
set_option maxHeartbeats 4000000 in
theorem refWhy_any (m : Mdl) (A : Option Addr) (c : Nat) (zs : List Rng) (v rate : Int) (w : World) (B : Nat) (hB : B ≤ w.heap.size) (hx : Rd w B 2 A zs.length (rR zs)) (hck : ckF m zs v = 0) (hr : 0 ≤ rate ∧ rate ≤ 1000000) (hv : 0 ≤ v) :
    Calls Tryz.prog 14 #[.agg (mdA m), .slice A zs.length c, .int .u8 v, I rate] w fun e w' => e = .returned (.tuple #[I (whyP (whyL m v rate zs)).1, I (whyP (whyL m v rate zs)).2]) ∧ Below w.heap.size w w' := by
  have HX : Hid (∀ V, Below w.heap.size w V → Rd V B 2 A zs.length (rR zs)) := fun V hV => hx.below (hV.mono hB)
  obtain ⟨hok, hzs, hzl, hv31⟩ := ck_ok' hck
  have HPL : Hid (∀ i, i < zs.length → PlOk m ⟨rate, rate⟩ (at0 zs i)) := fun i hi => ⟨hok, spanB_iff.2 ⟨hr.1, Int.le_refl _, hr.2⟩, hzs i hi⟩
  have HV : Hid (0 ≤ v ∧ v ≤ 31) := ⟨hv, hv31⟩
  have HL : Hid (zs.length ≤ 20) := hzl
  clear hx hB hck hok hzs hzl hv31 hr hv
  obtain ⟨W, hW⟩ : ∃ W, W = (w.alloc (.cells #[I m.sc, I (m.b 0).lo, I (m.b 0).hi, I (m.b 1).lo, I (m.b 1).hi, I (m.b 2).lo, I (m.b 2).hi, I (m.b 3).lo, I (m.b 3).hi] 26)) := ⟨_, rfl⟩
  have rowW0 : W.heap[w.heap.size]? = some (.cells #[I m.sc, I (m.b 0).lo, I (m.b 0).hi, I (m.b 1).lo, I (m.b 1).hi, I (m.b 2).lo, I (m.b 2).hi, I (m.b 3).lo, I (m.b 3).hi] 26 (0, 0)) := by rw [hW]; exact heap_last _ _ _ rfl
  have yW00 := ovr_cell (W := W) (b := w.heap.size) (o := 0) (v := I m.sc) (by rw [cell_of_row _ _ _ _ _ _ rowW0]; rfl)
  have yW01 := ovr_cell (W := W) (b := w.heap.size) (o := 1) (v := I (m.b 0).lo) (by rw [cell_of_row _ _ _ _ _ _ rowW0]; rfl)
  have yW02 := ovr_cell (W := W) (b := w.heap.size) (o := 2) (v := I (m.b 0).hi) (by rw [cell_of_row _ _ _ _ _ _ rowW0]; rfl)
  have yW03 := ovr_cell (W := W) (b := w.heap.size) (o := 3) (v := I (m.b 1).lo) (by rw [cell_of_row _ _ _ _ _ _ rowW0]; rfl)
  have yW04 := ovr_cell (W := W) (b := w.heap.size) (o := 4) (v := I (m.b 1).hi) (by rw [cell_of_row _ _ _ _ _ _ rowW0]; rfl)
  have yW05 := ovr_cell (W := W) (b := w.heap.size) (o := 5) (v := I (m.b 2).lo) (by rw [cell_of_row _ _ _ _ _ _ rowW0]; rfl)
  have yW06 := ovr_cell (W := W) (b := w.heap.size) (o := 6) (v := I (m.b 2).hi) (by rw [cell_of_row _ _ _ _ _ _ rowW0]; rfl)
  have yW07 := ovr_cell (W := W) (b := w.heap.size) (o := 7) (v := I (m.b 3).lo) (by rw [cell_of_row _ _ _ _ _ _ rowW0]; rfl)
  have yW08 := ovr_cell (W := W) (b := w.heap.size) (o := 8) (v := I (m.b 3).hi) (by rw [cell_of_row _ _ _ _ _ _ rowW0]; rfl)
  have RrowW0 := Lib.hid (ovr_row rowW0)
  clear rowW0
  have HUW : Hid (∀ u, Below w.heap.size w (ovr W u)) := U1 hW
  have HW := Lib.hid hW
  clear hW
  have HWB : Hid (Below w.heap.size w W) := by
    obtain ⟨v', hv'⟩ := ovr_self W
    have := HUW.out v'
    rwa [← hv'] at this
  go_enter Tryz.func14, Tryz.ntmps14
  go_upto_region 1 with (fail)
  rw [← HW.out]
  obtain ⟨u0, hu0⟩ := ovr_self W
  rw [hu0]
  clear hu0
  go_wp2_with fail
  go_loopw [10] (fun i wr => ∃ (n : Nat), n ≤ zs.length ∧ i = .int .i64 n ∧ Below W.heap.size W wr ∧ ∀ j, j < n → whyZ m v rate (at0 zs j) = none) (fun i _ => zs.length - (intOf i).toNat)
  case atStart => exact ⟨0, by omega, rfl, ovr_below _ _, fun j hj => absurd hj (by omega)⟩
  case round =>
    obtain ⟨n, hnl, rfl, hb, hall⟩ := hrel
    rename World => Y
    have HBY := Lib.hid hb
    have HALL := Lib.hid hall
    clear hall
    have hn20 : n ≤ 20 := by have := HL.out; omega
    by_cases hlt : n < zs.length
    · have HLT := Lib.hid hlt
      obtain ⟨b, o, rfl, _, e0, e1⟩ := (HX.out Y (HWB.out.trans (hb.mono HWB.out.size))).rng hlt
      have c0 := ovr_cell e0
      have c1 := ovr_cell e1
      have CR : Hid (∀ V, Calls Tryz.prog 38 #[.agg (mdA m), .agg #[I rate, I rate], .agg #[I (at0 zs n).lo, I (at0 zs n).hi]] V fun e w' => e = .returned (.int .u8 (regK (posB m ⟨rate, rate⟩ (at0 zs n)) 5)) ∧ Below V.heap.size V w') := fun V => refRegions_any m ⟨rate, rate⟩ (at0 zs n) (HPL.out n hlt) V
      have HBI : Hid (∀ k, k < 5 → bits .and .u8 (bits .andNot .u8 (regK (posB m ⟨rate, rate⟩ (at0 zs n)) 5) v / 2 ^ k) 1 = if whyB m v rate (at0 zs n) k then 1 else 0) := fun k hk => by
        rw [un_reg _ HV.out hk]
        unfold whyB
        rw [Bool.and_comm]
      obtain ⟨S, hS⟩ : ∃ S, regK (posB m ⟨rate, rate⟩ (at0 zs n)) 5 = S := ⟨_, rfl⟩
      rw [hS] at CR HBI
      clear hS e0 e1
      have reY : ∀ v, ∃ x, ovr Y v = ovr W x := fun v => ovr_reB hb v
      have SW_yW00 := Lib.hid yW00
      replace yW00 := tr_cell reY yW00
      have SW_yW01 := Lib.hid yW01
      replace yW01 := tr_cell reY yW01
      have SW_yW02 := Lib.hid yW02
      replace yW02 := tr_cell reY yW02
      have SW_yW03 := Lib.hid yW03
      replace yW03 := tr_cell reY yW03
      have SW_yW04 := Lib.hid yW04
      replace yW04 := tr_cell reY yW04
      have SW_yW05 := Lib.hid yW05
      replace yW05 := tr_cell reY yW05
      have SW_yW06 := Lib.hid yW06
      replace yW06 := tr_cell reY yW06
      have SW_yW07 := Lib.hid yW07
      replace yW07 := tr_cell reY yW07
      have SW_yW08 := Lib.hid yW08
      replace yW08 := tr_cell reY yW08
      have SW_RrowW0 := Lib.hid RrowW0.out
      replace RrowW0 := Lib.hid (tr_row reY RrowW0.out)
      have HUY : Hid (∀ u, Below w.heap.size w (ovr Y u)) := fun u => by obtain ⟨x, hx⟩ := reY u; rw [hx]; exact HUW.out x
      clear reY hb
      go_upto_region 4 with fail
      refine wp_region_below_lit (by kernel_rfl) (by kernel_rfl) ?_
      repeat (go_big_quiet_step (fail))
      go_big_quiet_step ((go_at_call 38; exact call_below (CR.out _)))
      repeat (go_big_quiet_step (fail))
      refine wpQuiet_nil ?_
      intro Z hZ
      obtain ⟨u2, rfl⟩ : ∃ u, Z = ovr Y u := ⟨Z, ovr_of hZ⟩
      clear hZ
      have HZB : Hid (Below W.heap.size W (ovr Y u2)) := HBY.out.trans ((ovr_below Y u2).mono HBY.out.size)
      obtain ⟨Z, hZ⟩ : ∃ Z, ovr Y u2 = Z := ⟨_, rfl⟩
      rw [hZ] at HZB ⊢
      clear hZ
      go_wp2_with fail
      go_loopw [12] (fun i wr => ∃ (k : Nat), k ≤ 5 ∧ i = .int .i64 k ∧ wr = Z ∧ ∀ j, j < k → whyB m v rate (at0 zs n) j = false) (fun i _ => 5 - (intOf i).toNat)
      case atStart => exact ⟨0, by omega, rfl, rfl, fun j hj => absurd hj (by omega)⟩
      case round =>
        obtain ⟨k, hk5, rfl, rfl, hno⟩ := hrel
        have HNO := Lib.hid hno
        clear hno
        by_cases hk : k < 5
        · have q1 := HBI.out k hk
          have HK := Lib.hid hk
          rcases hwb : whyB m v rate (at0 zs n) k with _ | _
          · rw [hwb, if_neg Bool.false_ne_true] at q1
            have hn2 : Hid (∀ j, j < k + 1 → whyB m v rate (at0 zs n) j = false) := fun j hj => by
              by_cases hjk : j = k
              · rw [hjk]; exact hwb
              · exact HNO.out j (by omega)
            go_wp2_with fail
            exact ⟨⟨k + 1, HK.out, rfl, trivial, hn2.out⟩, by have := HK.out; simp [intOf]; omega⟩
          · rw [hwb, if_pos rfl] at q1
            have hfin : Hid (whyL m v rate zs = some (n, k)) := whyL_some HLT.out (whyZ_some HK.out hwb HNO.out) HALL.out
            have hbf := Lib.hid (HWB.out.trans (HZB.out.mono HWB.out.size))
            go_wp2_with fail
            go_ret2
            exact ⟨by rw [hfin.out]; rfl, hbf.out⟩
        · have hall2 : Hid (∀ j, j < n + 1 → whyZ m v rate (at0 zs j) = none) := fun j hj => by
            by_cases hjn : j = n
            · rw [hjn]; exact whyZ_none fun q hq => HNO.out q (by omega)
            · exact HALL.out j (by omega)
          go_wp2_with fail
          exact ⟨⟨n + 1, HLT.out, rfl, HZB.out, hall2.out⟩, by have := HLT.out; simp [intOf]; omega⟩
    · have hfin : Hid (whyL m v rate zs = none) := whyL_no fun j hj => HALL.out j (by omega)
      have hbf := Lib.hid (HWB.out.trans (HBY.out.mono HWB.out.size))
      clear hb
      go_wp2_with fail
      go_ret2
      exact ⟨by rw [hfin.out]; rfl, hbf.out⟩
end Go.Proofs.YteibgenkklpoaaaGreat.Un
namespace Go.Proofs.YteibgenkklpoaaaGreat.Un
open Go.RowKit
theorem rd_rng_at {w : World} {B b o n k : Nat} {xs : List Rng} (h : Rd w B 2 (some ⟨b, o, none⟩) n (rR xs)) (hk : k < n) : w.cell? ⟨b, o + k * 2, none⟩ = some (I (at0 xs k).lo) ∧ w.cell? ⟨b, o + k * 2 + 1, none⟩ = some (I (at0 xs k).hi) := by
  obtain ⟨b', o', e, _, h1, h2⟩ := h.rng hk
  injection e with e
  injection e with e1 e2
  subst e1 e2
  exact ⟨h1, h2⟩
/-- The numbers of one step. -/
structure NxN (m : Mdl) (z : Rng) (k : Nat) : Prop where
  nz : ¬ m.sc = 0
  wa : IntKind.i64.wrap ((m.b k).lo * z.lo) = (m.b k).lo * z.lo
  wb : IntKind.i64.wrap ((m.b k).hi * z.hi) = (m.b k).hi * z.hi
  qa : 0 ≤ ((m.b k).lo * z.lo).tdiv m.sc ∧ ((m.b k).lo * z.lo).tdiv m.sc ≤ 1000000000000
  qb : 0 ≤ ((m.b k).hi * z.hi).tdiv m.sc ∧ ((m.b k).hi * z.hi).tdiv m.sc ≤ 1000000000000
  ra : IntKind.i64.wrap (((m.b k).lo * z.lo).tdiv m.sc + 1) = nxA m z k
  rb : IntKind.i64.wrap (((m.b k).hi * z.hi).tdiv m.sc + 1) = nxB m z k
theorem nx_num {m : Mdl} (hm : okMdl m = true) {z : Rng} (hz : spanB z 1 1000000 = true) {k : Nat} (hk : k < 4) : NxN m z k := by
  obtain ⟨hs1, hs2, _⟩ := okMdl_iff.1 hm
  obtain ⟨a1, a2, a3, _, _⟩ := bdM_bd hm hk
  obtain ⟨z1, z2, z3⟩ := spanB_iff.1 hz
  have m3 := mul_bd (a := (m.b k).lo) (b := z.lo) (A := 1000000) (B := 1000000) ⟨a1, by omega⟩ ⟨by omega, by omega⟩
  have m4 := mul_bd (a := (m.b k).hi) (b := z.hi) (A := 1000000) (B := 1000000) ⟨by omega, by omega⟩ ⟨by omega, by omega⟩
  have key : ∀ x : Int, 0 ≤ x → 0 ≤ x.tdiv m.sc ∧ x.tdiv m.sc ≤ x := fun x hx => by
    rw [Int.tdiv_eq_ediv_of_nonneg hx]
    exact ⟨Int.ediv_nonneg hx (by omega), Int.ediv_le_self _ hx⟩
  have k3 := key _ m3.1
  have k4 := key _ m4.1
  exact ⟨by omega, IntWalk.i64_in _ (by omega), IntWalk.i64_in _ (by omega), by omega, by omega, IntWalk.i64_in _ (by omega), IntWalk.i64_in _ (by omega)⟩
set_option maxRecDepth 100000 in
set_option maxHeartbeats 4000000 in
theorem next_any (m : Mdl) (A : Option Addr) (c : Nat) (zs : List Rng) (v : Int) (w : World) (B : Nat) (hB : B ≤ w.heap.size) (hx : Rd w B 2 A zs.length (rR zs)) (hok : okMdl m = true) (hzs : ∀ i, i < zs.length → spanB (at0 zs i) 1 1000000 = true) (hzl : zs.length ≤ 20) :
    Calls Tryz.prog 37 #[.agg (mdA m), .slice A zs.length c, I v] w fun e w' => e = .returned (I (nxL m zs v zs.length)) ∧ Below w.heap.size w w' := by
  have HX : Hid (∀ V, Below w.heap.size w V → Rd V B 2 A zs.length (rR zs)) := fun V hV => hx.below (hV.mono hB)
  have HN : Hid (∀ i, i < zs.length → ∀ k, k < 4 → NxN m (at0 zs i) k) := fun i hi k hk => nx_num hok (hzs i hi) hk
  have HL : Hid (zs.length ≤ 20) := hzl
  clear hx hB hok hzs hzl
  obtain ⟨W, hW⟩ : ∃ W, W = (w.alloc (.cells #[I m.sc, I (m.b 0).lo, I (m.b 0).hi, I (m.b 1).lo, I (m.b 1).hi, I (m.b 2).lo, I (m.b 2).hi, I (m.b 3).lo, I (m.b 3).hi] 26)) := ⟨_, rfl⟩
  have rowW0 : W.heap[w.heap.size]? = some (.cells #[I m.sc, I (m.b 0).lo, I (m.b 0).hi, I (m.b 1).lo, I (m.b 1).hi, I (m.b 2).lo, I (m.b 2).hi, I (m.b 3).lo, I (m.b 3).hi] 26 (0, 0)) := by rw [hW]; exact heap_last _ _ _ rfl
  have yW00 := ovr_cell (W := W) (b := w.heap.size) (o := 0) (v := I m.sc) (by rw [cell_of_row _ _ _ _ _ _ rowW0]; rfl)
  have yW01 := ovr_cell (W := W) (b := w.heap.size) (o := 1) (v := I (m.b 0).lo) (by rw [cell_of_row _ _ _ _ _ _ rowW0]; rfl)
  have yW02 := ovr_cell (W := W) (b := w.heap.size) (o := 2) (v := I (m.b 0).hi) (by rw [cell_of_row _ _ _ _ _ _ rowW0]; rfl)
  have yW03 := ovr_cell (W := W) (b := w.heap.size) (o := 3) (v := I (m.b 1).lo) (by rw [cell_of_row _ _ _ _ _ _ rowW0]; rfl)
  have yW04 := ovr_cell (W := W) (b := w.heap.size) (o := 4) (v := I (m.b 1).hi) (by rw [cell_of_row _ _ _ _ _ _ rowW0]; rfl)
  have yW05 := ovr_cell (W := W) (b := w.heap.size) (o := 5) (v := I (m.b 2).lo) (by rw [cell_of_row _ _ _ _ _ _ rowW0]; rfl)
  have yW06 := ovr_cell (W := W) (b := w.heap.size) (o := 6) (v := I (m.b 2).hi) (by rw [cell_of_row _ _ _ _ _ _ rowW0]; rfl)
  have yW07 := ovr_cell (W := W) (b := w.heap.size) (o := 7) (v := I (m.b 3).lo) (by rw [cell_of_row _ _ _ _ _ _ rowW0]; rfl)
  have yW08 := ovr_cell (W := W) (b := w.heap.size) (o := 8) (v := I (m.b 3).hi) (by rw [cell_of_row _ _ _ _ _ _ rowW0]; rfl)
  have RrowW0 := Lib.hid (ovr_row rowW0)
  clear rowW0
  have HUW : Hid (∀ u, Below w.heap.size w (ovr W u)) := U1 hW
  have HW := Lib.hid hW
  clear hW
  have HWB : Hid (Below w.heap.size w W) := below_self0' HUW.out
  go_enter Tryz.func37, Tryz.ntmps37
  go_upto_region 1 with (fail)
  rw [← HW.out]
  obtain ⟨u0, hu0⟩ := ovr_self W
  rw [hu0]
  clear hu0
  go_wp2_with fail
  go_loopw [7, 8] (fun q i wr => ∃ (n : Nat), n ≤ zs.length ∧ i = .int .i64 n ∧ q = I (nxL m zs v n) ∧ Below W.heap.size W wr) (fun _ i _ => zs.length - (intOf i).toNat)
  case atStart => exact ⟨0, by omega, rfl, rfl, ovr_below _ _⟩
  case round =>
    obtain ⟨n, hnl, rfl, rfl, hb⟩ := hrel
    rename World => Y
    have HBY := Lib.hid hb
    have hn20 : n ≤ 20 := by have := HL.out; omega
    by_cases hlt : n < zs.length
    · have HLT := Lib.hid hlt
      obtain ⟨b, o, rfl, _, e0, e1⟩ := (HX.out Y (HWB.out.trans (hb.mono HWB.out.size))).rng hlt
      clear e0 e1
      have reY : ∀ v, ∃ x, ovr Y v = ovr W x := fun v => ovr_reB hb v
      have SW_yW00 := Lib.hid yW00
      replace yW00 := tr_cell reY yW00
      have SW_yW01 := Lib.hid yW01
      replace yW01 := tr_cell reY yW01
      have SW_yW02 := Lib.hid yW02
      replace yW02 := tr_cell reY yW02
      have SW_yW03 := Lib.hid yW03
      replace yW03 := tr_cell reY yW03
      have SW_yW04 := Lib.hid yW04
      replace yW04 := tr_cell reY yW04
      have SW_yW05 := Lib.hid yW05
      replace yW05 := tr_cell reY yW05
      have SW_yW06 := Lib.hid yW06
      replace yW06 := tr_cell reY yW06
      have SW_yW07 := Lib.hid yW07
      replace yW07 := tr_cell reY yW07
      have SW_yW08 := Lib.hid yW08
      replace yW08 := tr_cell reY yW08
      have SW_RrowW0 := Lib.hid RrowW0.out
      replace RrowW0 := Lib.hid (tr_row reY RrowW0.out)
      have HUY : Hid (∀ u, Below w.heap.size w (ovr Y u)) := fun u => by obtain ⟨x, hx⟩ := reY u; rw [hx]; exact HUW.out x
      clear reY hb
      obtain ⟨y0, hy0⟩ := ovr_self Y
      rw [hy0]
      clear hy0
      go_wp2_with fail
      go_loopw [7, 9] (fun q i wr => ∃ (k : Nat) (x : World), k ≤ 4 ∧ i = .int .i64 k ∧ q = I (nxK m (at0 zs n) v (nxL m zs v n) k) ∧ wr = ovr Y x) (fun _ i _ => 4 - (intOf i).toNat)
      case atStart => exact ⟨0, y0, by omega, rfl, rfl, rfl⟩
      case round =>
        obtain ⟨k, x, hk4, rfl, rfl, rfl⟩ := hrel
        rcases k with _ | _ | _ | _ | _ | k
        · skip
          go_upto_region 8 with fail
          have hbZ := ovr_below Y x
          obtain ⟨Z, hZ⟩ : ∃ Z, Z = ovr Y x := ⟨_, rfl⟩
          rw [← hZ] at hbZ
          rw [← hZ]
          have hZ' := Lib.hid hZ
          clear hZ
          have hbZ' := Lib.hid hbZ
          have reZ : ∀ v, ∃ x, ovr Z v = ovr Y x := fun v => ovr_reB hbZ v
          replace yW00 := tr_cell reZ yW00
          replace yW01 := tr_cell reZ yW01
          replace yW02 := tr_cell reZ yW02
          replace yW03 := tr_cell reZ yW03
          replace yW04 := tr_cell reZ yW04
          replace yW05 := tr_cell reZ yW05
          replace yW06 := tr_cell reZ yW06
          replace yW07 := tr_cell reZ yW07
          replace yW08 := tr_cell reZ yW08
          replace RrowW0 := Lib.hid (tr_row reZ RrowW0.out)
          have HUZ : Hid (∀ u, Below w.heap.size w (ovr Z u)) := fun u => by obtain ⟨x, hx⟩ := reZ u; rw [hx]; exact HUY.out x
          clear reZ hbZ
          obtain ⟨ze0, ze1⟩ := rd_rng_at (HX.out Z (HWB.out.trans ((HBY.out.trans (hbZ'.out.mono HBY.out.size)).mono HWB.out.size))) HLT.out
          have e0 := ovr_cell ze0
          have e1 := ovr_cell ze1
          clear ze0 ze1
          have hlt := HLT.out
          have HNUM := HN.out n HLT.out 0 (by decide)
          have wa := HNUM.wa
          have wb := HNUM.wb
          have qa := HNUM.qa
          have qb := HNUM.qb
          have ra := HNUM.ra
          have rb := HNUM.rb
          have nz := HNUM.nz
          obtain ⟨a, ha⟩ : ∃ a, nxA m (at0 zs n) 0 = a := ⟨_, rfl⟩
          obtain ⟨b9, hb9⟩ : ∃ a, nxB m (at0 zs n) 0 = a := ⟨_, rfl⟩
          have hst : Hid (nxK m (at0 zs n) v (nxL m zs v n) (0 + 1) = nxS m (at0 zs n) v (nxK m (at0 zs n) v (nxL m zs v n) 0) 0) := rfl
          unfold nxS at hst
          rw [ha] at ra hst
          rw [hb9] at rb hst
          obtain ⟨q, hq⟩ : ∃ q, nxK m (at0 zs n) v (nxL m zs v n) 0 = q := ⟨_, rfl⟩
          rw [hq] at hst
          rw [hq]
          clear HNUM ha hb9 hq
          refine Dl.wp_region_late 30 [15, 16, 17, 18, 19, 20, 21, 22, 23, 24, 25, 26, 27, 28, 29] (fun _ => none) (by kernel_rfl) (by kernel_rfl) (by kernel_rfl) (by kernel_rfl) [] (E := 23)
            ⟨by kernel_rfl, alloc_rng, fun j hj => by cases hj⟩ (by kernel_rfl) (fun _ _ => rfl) (fun c a d v w h => by cases d <;> exact h) ?_
          simp only [List.take_succ_cons, List.take_zero, List.drop_succ_cons, List.drop_zero]
          repeat (refine Dk.wpG_one rfl rfl rfl ?_; intro K hK; go_big_quiet_op; go_big_quiet_on)
          refine Dk.wpG_nil (fun w5 hw5 _ => ?_)
          refine Dl.wpTailH_cons (wp_assign _ (I a) rfl rfl ⟨hw5, ?_⟩)
          refine Dl.wpTailH_cons (wp_assign _ (I b9) rfl rfl ⟨hw5, ?_⟩)
          refine Dl.wpTailH_nil ?_
          simp only [Act.put]
          obtain ⟨x5, rfl⟩ := hw5
          have hb6 := Lib.hid (hbZ'.out.trans ((ovr_below Z x5).mono hbZ'.out.size))
          clear e0 e1 hlt wa wb qa qb ra rb nz
          by_cases h1 : v < a
          · have d1 := decide_eq_true h1
            by_cases h2 : v < b9
            · have d2 := decide_eq_true h2
              have e9 := hst.out
              rw [if_pos h2, if_pos h1] at e9
              have E9 := Lib.hid e9
              clear e9 h1 h2
              go_wp2_with fail
              exact ⟨⟨0 + 1, _, by decide, rfl, by rw [E9.out, Int.min_assoc], ovr_of hb6.out⟩, by simp [intOf]⟩
            · have d2 := decide_eq_false h2
              have e9 := hst.out
              rw [if_neg h2, if_pos h1] at e9
              have E9 := Lib.hid e9
              clear e9 h1 h2
              go_wp2_with fail
              exact ⟨⟨0 + 1, _, by decide, rfl, by rw [E9.out], ovr_of hb6.out⟩, by simp [intOf]⟩
          · have d1 := decide_eq_false h1
            by_cases h2 : v < b9
            · have d2 := decide_eq_true h2
              have e9 := hst.out
              rw [if_pos h2, if_neg h1] at e9
              have E9 := Lib.hid e9
              clear e9 h1 h2
              go_wp2_with fail
              exact ⟨⟨0 + 1, _, by decide, rfl, by rw [E9.out], ovr_of hb6.out⟩, by simp [intOf]⟩
            · have d2 := decide_eq_false h2
              have e9 := hst.out
              rw [if_neg h2, if_neg h1] at e9
              have E9 := Lib.hid e9
              clear e9 h1 h2
              go_wp2_with fail
              exact ⟨⟨0 + 1, _, by decide, rfl, by rw [E9.out], ovr_of hb6.out⟩, by simp [intOf]⟩
        · skip
          go_upto_region 8 with fail
          have hbZ := ovr_below Y x
          obtain ⟨Z, hZ⟩ : ∃ Z, Z = ovr Y x := ⟨_, rfl⟩
          rw [← hZ] at hbZ
          rw [← hZ]
          have hZ' := Lib.hid hZ
          clear hZ
          have hbZ' := Lib.hid hbZ
          have reZ : ∀ v, ∃ x, ovr Z v = ovr Y x := fun v => ovr_reB hbZ v
          replace yW00 := tr_cell reZ yW00
          replace yW01 := tr_cell reZ yW01
          replace yW02 := tr_cell reZ yW02
          replace yW03 := tr_cell reZ yW03
          replace yW04 := tr_cell reZ yW04
          replace yW05 := tr_cell reZ yW05
          replace yW06 := tr_cell reZ yW06
          replace yW07 := tr_cell reZ yW07
          replace yW08 := tr_cell reZ yW08
          replace RrowW0 := Lib.hid (tr_row reZ RrowW0.out)
          have HUZ : Hid (∀ u, Below w.heap.size w (ovr Z u)) := fun u => by obtain ⟨x, hx⟩ := reZ u; rw [hx]; exact HUY.out x
          clear reZ hbZ
          obtain ⟨ze0, ze1⟩ := rd_rng_at (HX.out Z (HWB.out.trans ((HBY.out.trans (hbZ'.out.mono HBY.out.size)).mono HWB.out.size))) HLT.out
          have e0 := ovr_cell ze0
          have e1 := ovr_cell ze1
          clear ze0 ze1
          have hlt := HLT.out
          have HNUM := HN.out n HLT.out 1 (by decide)
          have wa := HNUM.wa
          have wb := HNUM.wb
          have qa := HNUM.qa
          have qb := HNUM.qb
          have ra := HNUM.ra
          have rb := HNUM.rb
          have nz := HNUM.nz
          obtain ⟨a, ha⟩ : ∃ a, nxA m (at0 zs n) 1 = a := ⟨_, rfl⟩
          obtain ⟨b9, hb9⟩ : ∃ a, nxB m (at0 zs n) 1 = a := ⟨_, rfl⟩
          have hst : Hid (nxK m (at0 zs n) v (nxL m zs v n) (1 + 1) = nxS m (at0 zs n) v (nxK m (at0 zs n) v (nxL m zs v n) 1) 1) := rfl
          unfold nxS at hst
          rw [ha] at ra hst
          rw [hb9] at rb hst
          obtain ⟨q, hq⟩ : ∃ q, nxK m (at0 zs n) v (nxL m zs v n) 1 = q := ⟨_, rfl⟩
          rw [hq] at hst
          rw [hq]
          clear HNUM ha hb9 hq
          refine Dl.wp_region_late 30 [15, 16, 17, 18, 19, 20, 21, 22, 23, 24, 25, 26, 27, 28, 29] (fun _ => none) (by kernel_rfl) (by kernel_rfl) (by kernel_rfl) (by kernel_rfl) [] (E := 23)
            ⟨by kernel_rfl, alloc_rng, fun j hj => by cases hj⟩ (by kernel_rfl) (fun _ _ => rfl) (fun c a d v w h => by cases d <;> exact h) ?_
          simp only [List.take_succ_cons, List.take_zero, List.drop_succ_cons, List.drop_zero]
          repeat (refine Dk.wpG_one rfl rfl rfl ?_; intro K hK; go_big_quiet_op; go_big_quiet_on)
          refine Dk.wpG_nil (fun w5 hw5 _ => ?_)
          refine Dl.wpTailH_cons (wp_assign _ (I a) rfl rfl ⟨hw5, ?_⟩)
          refine Dl.wpTailH_cons (wp_assign _ (I b9) rfl rfl ⟨hw5, ?_⟩)
          refine Dl.wpTailH_nil ?_
          simp only [Act.put]
          obtain ⟨x5, rfl⟩ := hw5
          have hb6 := Lib.hid (hbZ'.out.trans ((ovr_below Z x5).mono hbZ'.out.size))
          clear e0 e1 hlt wa wb qa qb ra rb nz
          by_cases h1 : v < a
          · have d1 := decide_eq_true h1
            by_cases h2 : v < b9
            · have d2 := decide_eq_true h2
              have e9 := hst.out
              rw [if_pos h2, if_pos h1] at e9
              have E9 := Lib.hid e9
              clear e9 h1 h2
              go_wp2_with fail
              exact ⟨⟨1 + 1, _, by decide, rfl, by rw [E9.out, Int.min_assoc], ovr_of hb6.out⟩, by simp [intOf]⟩
            · have d2 := decide_eq_false h2
              have e9 := hst.out
              rw [if_neg h2, if_pos h1] at e9
              have E9 := Lib.hid e9
              clear e9 h1 h2
              go_wp2_with fail
              exact ⟨⟨1 + 1, _, by decide, rfl, by rw [E9.out], ovr_of hb6.out⟩, by simp [intOf]⟩
          · have d1 := decide_eq_false h1
            by_cases h2 : v < b9
            · have d2 := decide_eq_true h2
              have e9 := hst.out
              rw [if_pos h2, if_neg h1] at e9
              have E9 := Lib.hid e9
              clear e9 h1 h2
              go_wp2_with fail
              exact ⟨⟨1 + 1, _, by decide, rfl, by rw [E9.out], ovr_of hb6.out⟩, by simp [intOf]⟩
            · have d2 := decide_eq_false h2
              have e9 := hst.out
              rw [if_neg h2, if_neg h1] at e9
              have E9 := Lib.hid e9
              clear e9 h1 h2
              go_wp2_with fail
              exact ⟨⟨1 + 1, _, by decide, rfl, by rw [E9.out], ovr_of hb6.out⟩, by simp [intOf]⟩
        · skip
          go_upto_region 8 with fail
          have hbZ := ovr_below Y x
          obtain ⟨Z, hZ⟩ : ∃ Z, Z = ovr Y x := ⟨_, rfl⟩
          rw [← hZ] at hbZ
          rw [← hZ]
          have hZ' := Lib.hid hZ
          clear hZ
          have hbZ' := Lib.hid hbZ
          have reZ : ∀ v, ∃ x, ovr Z v = ovr Y x := fun v => ovr_reB hbZ v
          replace yW00 := tr_cell reZ yW00
          replace yW01 := tr_cell reZ yW01
          replace yW02 := tr_cell reZ yW02
          replace yW03 := tr_cell reZ yW03
          replace yW04 := tr_cell reZ yW04
          replace yW05 := tr_cell reZ yW05
          replace yW06 := tr_cell reZ yW06
          replace yW07 := tr_cell reZ yW07
          replace yW08 := tr_cell reZ yW08
          replace RrowW0 := Lib.hid (tr_row reZ RrowW0.out)
          have HUZ : Hid (∀ u, Below w.heap.size w (ovr Z u)) := fun u => by obtain ⟨x, hx⟩ := reZ u; rw [hx]; exact HUY.out x
          clear reZ hbZ
          obtain ⟨ze0, ze1⟩ := rd_rng_at (HX.out Z (HWB.out.trans ((HBY.out.trans (hbZ'.out.mono HBY.out.size)).mono HWB.out.size))) HLT.out
          have e0 := ovr_cell ze0
          have e1 := ovr_cell ze1
          clear ze0 ze1
          have hlt := HLT.out
          have HNUM := HN.out n HLT.out 2 (by decide)
          have wa := HNUM.wa
          have wb := HNUM.wb
          have qa := HNUM.qa
          have qb := HNUM.qb
          have ra := HNUM.ra
          have rb := HNUM.rb
          have nz := HNUM.nz
          obtain ⟨a, ha⟩ : ∃ a, nxA m (at0 zs n) 2 = a := ⟨_, rfl⟩
          obtain ⟨b9, hb9⟩ : ∃ a, nxB m (at0 zs n) 2 = a := ⟨_, rfl⟩
          have hst : Hid (nxK m (at0 zs n) v (nxL m zs v n) (2 + 1) = nxS m (at0 zs n) v (nxK m (at0 zs n) v (nxL m zs v n) 2) 2) := rfl
          unfold nxS at hst
          rw [ha] at ra hst
          rw [hb9] at rb hst
          obtain ⟨q, hq⟩ : ∃ q, nxK m (at0 zs n) v (nxL m zs v n) 2 = q := ⟨_, rfl⟩
          rw [hq] at hst
          rw [hq]
          clear HNUM ha hb9 hq
          refine Dl.wp_region_late 30 [15, 16, 17, 18, 19, 20, 21, 22, 23, 24, 25, 26, 27, 28, 29] (fun _ => none) (by kernel_rfl) (by kernel_rfl) (by kernel_rfl) (by kernel_rfl) [] (E := 23)
            ⟨by kernel_rfl, alloc_rng, fun j hj => by cases hj⟩ (by kernel_rfl) (fun _ _ => rfl) (fun c a d v w h => by cases d <;> exact h) ?_
          simp only [List.take_succ_cons, List.take_zero, List.drop_succ_cons, List.drop_zero]
          repeat (refine Dk.wpG_one rfl rfl rfl ?_; intro K hK; go_big_quiet_op; go_big_quiet_on)
          refine Dk.wpG_nil (fun w5 hw5 _ => ?_)
          refine Dl.wpTailH_cons (wp_assign _ (I a) rfl rfl ⟨hw5, ?_⟩)
          refine Dl.wpTailH_cons (wp_assign _ (I b9) rfl rfl ⟨hw5, ?_⟩)
          refine Dl.wpTailH_nil ?_
          simp only [Act.put]
          obtain ⟨x5, rfl⟩ := hw5
          have hb6 := Lib.hid (hbZ'.out.trans ((ovr_below Z x5).mono hbZ'.out.size))
          clear e0 e1 hlt wa wb qa qb ra rb nz
          by_cases h1 : v < a
          · have d1 := decide_eq_true h1
            by_cases h2 : v < b9
            · have d2 := decide_eq_true h2
              have e9 := hst.out
              rw [if_pos h2, if_pos h1] at e9
              have E9 := Lib.hid e9
              clear e9 h1 h2
              go_wp2_with fail
              exact ⟨⟨2 + 1, _, by decide, rfl, by rw [E9.out, Int.min_assoc], ovr_of hb6.out⟩, by simp [intOf]⟩
            · have d2 := decide_eq_false h2
              have e9 := hst.out
              rw [if_neg h2, if_pos h1] at e9
              have E9 := Lib.hid e9
              clear e9 h1 h2
              go_wp2_with fail
              exact ⟨⟨2 + 1, _, by decide, rfl, by rw [E9.out], ovr_of hb6.out⟩, by simp [intOf]⟩
          · have d1 := decide_eq_false h1
            by_cases h2 : v < b9
            · have d2 := decide_eq_true h2
              have e9 := hst.out
              rw [if_pos h2, if_neg h1] at e9
              have E9 := Lib.hid e9
              clear e9 h1 h2
              go_wp2_with fail
              exact ⟨⟨2 + 1, _, by decide, rfl, by rw [E9.out], ovr_of hb6.out⟩, by simp [intOf]⟩
            · have d2 := decide_eq_false h2
              have e9 := hst.out
              rw [if_neg h2, if_neg h1] at e9
              have E9 := Lib.hid e9
              clear e9 h1 h2
              go_wp2_with fail
              exact ⟨⟨2 + 1, _, by decide, rfl, by rw [E9.out], ovr_of hb6.out⟩, by simp [intOf]⟩
        · skip
          go_upto_region 8 with fail
          have hbZ := ovr_below Y x
          obtain ⟨Z, hZ⟩ : ∃ Z, Z = ovr Y x := ⟨_, rfl⟩
          rw [← hZ] at hbZ
          rw [← hZ]
          have hZ' := Lib.hid hZ
          clear hZ
          have hbZ' := Lib.hid hbZ
          have reZ : ∀ v, ∃ x, ovr Z v = ovr Y x := fun v => ovr_reB hbZ v
          replace yW00 := tr_cell reZ yW00
          replace yW01 := tr_cell reZ yW01
          replace yW02 := tr_cell reZ yW02
          replace yW03 := tr_cell reZ yW03
          replace yW04 := tr_cell reZ yW04
          replace yW05 := tr_cell reZ yW05
          replace yW06 := tr_cell reZ yW06
          replace yW07 := tr_cell reZ yW07
          replace yW08 := tr_cell reZ yW08
          replace RrowW0 := Lib.hid (tr_row reZ RrowW0.out)
          have HUZ : Hid (∀ u, Below w.heap.size w (ovr Z u)) := fun u => by obtain ⟨x, hx⟩ := reZ u; rw [hx]; exact HUY.out x
          clear reZ hbZ
          obtain ⟨ze0, ze1⟩ := rd_rng_at (HX.out Z (HWB.out.trans ((HBY.out.trans (hbZ'.out.mono HBY.out.size)).mono HWB.out.size))) HLT.out
          have e0 := ovr_cell ze0
          have e1 := ovr_cell ze1
          clear ze0 ze1
          have hlt := HLT.out
          have HNUM := HN.out n HLT.out 3 (by decide)
          have wa := HNUM.wa
          have wb := HNUM.wb
          have qa := HNUM.qa
          have qb := HNUM.qb
          have ra := HNUM.ra
          have rb := HNUM.rb
          have nz := HNUM.nz
          obtain ⟨a, ha⟩ : ∃ a, nxA m (at0 zs n) 3 = a := ⟨_, rfl⟩
          obtain ⟨b9, hb9⟩ : ∃ a, nxB m (at0 zs n) 3 = a := ⟨_, rfl⟩
          have hst : Hid (nxK m (at0 zs n) v (nxL m zs v n) (3 + 1) = nxS m (at0 zs n) v (nxK m (at0 zs n) v (nxL m zs v n) 3) 3) := rfl
          unfold nxS at hst
          rw [ha] at ra hst
          rw [hb9] at rb hst
          obtain ⟨q, hq⟩ : ∃ q, nxK m (at0 zs n) v (nxL m zs v n) 3 = q := ⟨_, rfl⟩
          rw [hq] at hst
          rw [hq]
          clear HNUM ha hb9 hq
          refine Dl.wp_region_late 30 [15, 16, 17, 18, 19, 20, 21, 22, 23, 24, 25, 26, 27, 28, 29] (fun _ => none) (by kernel_rfl) (by kernel_rfl) (by kernel_rfl) (by kernel_rfl) [] (E := 23)
            ⟨by kernel_rfl, alloc_rng, fun j hj => by cases hj⟩ (by kernel_rfl) (fun _ _ => rfl) (fun c a d v w h => by cases d <;> exact h) ?_
          simp only [List.take_succ_cons, List.take_zero, List.drop_succ_cons, List.drop_zero]
          repeat (refine Dk.wpG_one rfl rfl rfl ?_; intro K hK; go_big_quiet_op; go_big_quiet_on)
          refine Dk.wpG_nil (fun w5 hw5 _ => ?_)
          refine Dl.wpTailH_cons (wp_assign _ (I a) rfl rfl ⟨hw5, ?_⟩)
          refine Dl.wpTailH_cons (wp_assign _ (I b9) rfl rfl ⟨hw5, ?_⟩)
          refine Dl.wpTailH_nil ?_
          simp only [Act.put]
          obtain ⟨x5, rfl⟩ := hw5
          have hb6 := Lib.hid (hbZ'.out.trans ((ovr_below Z x5).mono hbZ'.out.size))
          clear e0 e1 hlt wa wb qa qb ra rb nz
          by_cases h1 : v < a
          · have d1 := decide_eq_true h1
            by_cases h2 : v < b9
            · have d2 := decide_eq_true h2
              have e9 := hst.out
              rw [if_pos h2, if_pos h1] at e9
              have E9 := Lib.hid e9
              clear e9 h1 h2
              go_wp2_with fail
              exact ⟨⟨3 + 1, _, by decide, rfl, by rw [E9.out, Int.min_assoc], ovr_of hb6.out⟩, by simp [intOf]⟩
            · have d2 := decide_eq_false h2
              have e9 := hst.out
              rw [if_neg h2, if_pos h1] at e9
              have E9 := Lib.hid e9
              clear e9 h1 h2
              go_wp2_with fail
              exact ⟨⟨3 + 1, _, by decide, rfl, by rw [E9.out], ovr_of hb6.out⟩, by simp [intOf]⟩
          · have d1 := decide_eq_false h1
            by_cases h2 : v < b9
            · have d2 := decide_eq_true h2
              have e9 := hst.out
              rw [if_pos h2, if_neg h1] at e9
              have E9 := Lib.hid e9
              clear e9 h1 h2
              go_wp2_with fail
              exact ⟨⟨3 + 1, _, by decide, rfl, by rw [E9.out], ovr_of hb6.out⟩, by simp [intOf]⟩
            · have d2 := decide_eq_false h2
              have e9 := hst.out
              rw [if_neg h2, if_neg h1] at e9
              have E9 := Lib.hid e9
              clear e9 h1 h2
              go_wp2_with fail
              exact ⟨⟨3 + 1, _, by decide, rfl, by rw [E9.out], ovr_of hb6.out⟩, by simp [intOf]⟩
        · have hbf := Lib.hid (HBY.out.trans ((ovr_below Y x).mono HBY.out.size))
          go_wp2_with fail
          exact ⟨⟨n + 1, HLT.out, rfl, rfl, hbf.out⟩, by have := HLT.out; simp [intOf]; omega⟩
        · omega
    · have hnn : n = zs.length := by omega
      subst hnn
      have hbf := Lib.hid (HWB.out.trans (HBY.out.mono HWB.out.size))
      clear hb
      go_wp2_with fail
      go_ret
      exact ⟨rfl, hbf.out⟩
end Go.Proofs.YteibgenkklpoaaaGreat.Un
namespace Go.Proofs.YteibgenkklpoaaaGreat.Un
open Go.RowKit
theorem rc_len' (l : List Rng) : (rc l).length = l.length * 2 := by rw [rc_flat, flat_len]
theorem rc_set' (i : List Rng) (x : Rng) (k : Int) : (rc (i ++ [x])).set (i.length * 2 + 1) (I k) = rc (i ++ [⟨x.lo, k⟩]) := by
  rw [rc_app, rc_app, List.set_append_right _ _ (by rw [rc_len']; omega), rc_len']
  have : i.length * 2 + 1 - i.length * 2 = 1 := by omega
  rw [this]; rfl
theorem rc_get' (i : List Rng) (x : Rng) : (rc (i ++ [x]))[i.length * 2 + 1]? = some (I x.hi) := by
  rw [rc_app, List.getElem?_append_right (by rw [rc_len']; omega), rc_len']
  have : i.length * 2 + 1 - i.length * 2 = 1 := by omega
  rw [this]; rfl
/-- The answer of the reference's Window. -/
def RetWr (w : World) (m : Mdl) (zs : List Rng) (u : Int) (e : Ending) (w' : World) : Prop :=
  ∃ A c l, e = .returned (.slice A l.length c) ∧ WinOf (badAt m u zs) l ∧ l.length ≤ c ∧ Rd w' w'.heap.size 2 A l.length (rR l) ∧ Below w.heap.size w w'
theorem soc_own {e : TypeId} {sz B n : Nat} {olds : List Value} {v : Value} {w : World} (h : SoC e sz B n olds v w) (hn : 0 < n) : ∃ g cap, v = .slice (some ⟨g, 0, none⟩) n cap ∧ B ≤ g ∧ g < w.heap.size ∧ w.ownsRow B e sz v n olds := by
  rcases h with ⟨h0, _⟩ | ho
  · omega
  · obtain ⟨h1, ⟨_, h2⟩ | ⟨g, cap, cur, hv, hb, hg, r⟩⟩ := id ho
    · omega
    · exact ⟨g, cap, hv, hb, (Array.getElem?_eq_some_iff.1 hg).1, ho⟩
set_option maxRecDepth 100000 in
set_option maxHeartbeats 4000000 in
theorem refWindow_any (m : Mdl) (A : Option Addr) (c : Nat) (zs : List Rng) (u : Int) (w : World) (B : Nat) (hB : B ≤ w.heap.size) (hx : Rd w B 2 A zs.length (rR zs)) (hck : ckF m zs u = 0) (hu : 0 ≤ u) :
    Calls Tryz.prog 13 #[.agg (mdA m), .slice A zs.length c, .int .u8 u] w (RetWr w m zs u) := by
  obtain ⟨hok, hzs, hzl, hu31⟩ := ck_ok' hck
  have CN : Hid (∀ V v, Below w.heap.size w V → Calls Tryz.prog 37 #[.agg (mdA m), .slice A zs.length c, I v] V fun e w' => e = .returned (I (nxL m zs v zs.length)) ∧ Below V.heap.size V w') := fun V v hV => next_any m A c zs v V B (Nat.le_trans hB hV.size) (hx.below (hV.mono hB)) hok hzs hzl
  have CY : Hid (∀ V v, Below w.heap.size w V → 0 ≤ v ∧ v ≤ 1000000 → Calls Tryz.prog 14 #[.agg (mdA m), .slice A zs.length c, .int .u8 u, I v] V fun e w' => e = .returned (.tuple #[I (whyP (whyL m u v zs)).1, I (whyP (whyL m u v zs)).2]) ∧ Below V.heap.size V w') := fun V v hV hv => refWhy_any m A c zs u v V B (Nat.le_trans hB hV.size) (hx.below (hV.mono hB)) hck hv hu
  have HSU : Hid (∀ v x, 0 ≤ v ∧ v ≤ 1000000 → v ≤ x ∧ x < nxL m zs v zs.length → (badAt m u zs x ↔ badAt m u zs v)) := fun v x hv hx => same_until hok hzs hv hx
  have HNL : Hid (∀ v, v < 1000001 → v < nxL m zs v zs.length ∧ nxL m zs v zs.length ≤ 1000001) := fun v hv => ⟨(nxL_le m zs v zs.length).2.1 hv, (nxL_le m zs v zs.length).1⟩
  obtain ⟨i0, hi0, iz0, iz1, iz2⟩ := info_parts rng_info
  clear hx hB hok hzs hzl hu31 hck hu
  obtain ⟨W, hW⟩ : ∃ W, W = (w.alloc (.cells #[I m.sc, I (m.b 0).lo, I (m.b 0).hi, I (m.b 1).lo, I (m.b 1).hi, I (m.b 2).lo, I (m.b 2).hi, I (m.b 3).lo, I (m.b 3).hi] 26)) := ⟨_, rfl⟩
  have rowW0 : W.heap[w.heap.size]? = some (.cells #[I m.sc, I (m.b 0).lo, I (m.b 0).hi, I (m.b 1).lo, I (m.b 1).hi, I (m.b 2).lo, I (m.b 2).hi, I (m.b 3).lo, I (m.b 3).hi] 26 (0, 0)) := by rw [hW]; exact heap_last _ _ _ rfl
  have yW00 := ovr_cell (W := W) (b := w.heap.size) (o := 0) (v := I m.sc) (by rw [cell_of_row _ _ _ _ _ _ rowW0]; rfl)
  have yW01 := ovr_cell (W := W) (b := w.heap.size) (o := 1) (v := I (m.b 0).lo) (by rw [cell_of_row _ _ _ _ _ _ rowW0]; rfl)
  have yW02 := ovr_cell (W := W) (b := w.heap.size) (o := 2) (v := I (m.b 0).hi) (by rw [cell_of_row _ _ _ _ _ _ rowW0]; rfl)
  have yW03 := ovr_cell (W := W) (b := w.heap.size) (o := 3) (v := I (m.b 1).lo) (by rw [cell_of_row _ _ _ _ _ _ rowW0]; rfl)
  have yW04 := ovr_cell (W := W) (b := w.heap.size) (o := 4) (v := I (m.b 1).hi) (by rw [cell_of_row _ _ _ _ _ _ rowW0]; rfl)
  have yW05 := ovr_cell (W := W) (b := w.heap.size) (o := 5) (v := I (m.b 2).lo) (by rw [cell_of_row _ _ _ _ _ _ rowW0]; rfl)
  have yW06 := ovr_cell (W := W) (b := w.heap.size) (o := 6) (v := I (m.b 2).hi) (by rw [cell_of_row _ _ _ _ _ _ rowW0]; rfl)
  have yW07 := ovr_cell (W := W) (b := w.heap.size) (o := 7) (v := I (m.b 3).lo) (by rw [cell_of_row _ _ _ _ _ _ rowW0]; rfl)
  have yW08 := ovr_cell (W := W) (b := w.heap.size) (o := 8) (v := I (m.b 3).hi) (by rw [cell_of_row _ _ _ _ _ _ rowW0]; rfl)
  have RrowW0 := Lib.hid (ovr_row rowW0)
  clear rowW0
  have HUW : Hid (∀ u, Below w.heap.size w (ovr W u)) := U1 hW
  have HW := Lib.hid hW
  clear hW
  have HWB : Hid (Below w.heap.size w W) := below_self0' HUW.out
  go_enter Tryz.func13, Tryz.ntmps13
  go_upto_region 1 with (fail)
  rw [← HW.out]
  obtain ⟨u0, hu0⟩ := ovr_self W
  rw [hu0]
  clear hu0
  go_wp2_with fail
  go_loopw [7, 8] (fun q i wr => ∃ (v : Int) (l : List Rng), 0 ≤ v ∧ v ≤ 1000001 ∧ i = I v ∧ WinUp (badAt m u zs) v l ∧ SoC 23 2 W.heap.size l.length (rc l) q wr ∧ Below W.heap.size W wr) (fun _ i _ => (1000001 - intOf i).toNat)
  case atStart => exact ⟨0, [], by omega, by omega, rfl, winUp_nil _, .inl ⟨rfl, rfl, _, rfl⟩, (ovr_below _ _).alloc (ovr_below _ _).size _⟩
  case round =>
    obtain ⟨v, l, hv0, hv1, rfl, hwu, hso, hb⟩ := hrel
    rename World => Y
    have HBY := Lib.hid hb
    have HWU := Lib.hid hwu
    have HSO := Lib.hid hso
    clear hwu hso
    by_cases hlt : v ≤ 1000000
    · have HV0 : Hid (0 ≤ v) := hv0
      have HV1 : Hid (v ≤ 1000000) := hlt
      obtain ⟨ht0, ht1⟩ := HNL.out v (by omega)
      have hsu := HSU.out v
      have CNv := Lib.hid fun V hV => CN.out V v hV
      have CYv := Lib.hid fun V hV => CY.out V v hV ⟨hv0, hlt⟩
      obtain ⟨t, ht⟩ : ∃ t, nxL m zs v zs.length = t := ⟨_, rfl⟩
      rw [ht] at ht0 ht1 hsu CNv
      have HT0 : Hid (v < t) := ht0
      have HT1 : Hid (t ≤ 1000001) := ht1
      have HBAD : Hid (badAt m u zs v → WinUp (badAt m u zs) t l) := fun hb => HWU.out.bad ht0 fun x h1 h2 => (hsu x ⟨hv0, hlt⟩ ⟨h1, h2⟩).2 hb
      have HWA0 : Hid (¬ badAt m u zs v → ∀ x, v ≤ x → x < t → ¬ badAt m u zs x) := fun hb x h1 h2 hc => hb ((hsu x ⟨hv0, hlt⟩ ⟨h1, h2⟩).1 hc)
      have kt : IntKind.i64.wrap (t - 1) = t - 1 := IntWalk.i64_in _ (by omega)
      have kv : IntKind.i64.wrap (v - 1) = v - 1 := IntWalk.i64_in _ (by omega)
      clear ht hsu ht0 ht1 hv0 hv1
      have d0 : decide (v ≤ 1000000) = true := decide_eq_true hlt
      clear hlt
      have reY : ∀ v, ∃ x, ovr Y v = ovr W x := fun v => ovr_reB hb v
      have SW_yW00 := Lib.hid yW00
      replace yW00 := tr_cell reY yW00
      have SW_yW01 := Lib.hid yW01
      replace yW01 := tr_cell reY yW01
      have SW_yW02 := Lib.hid yW02
      replace yW02 := tr_cell reY yW02
      have SW_yW03 := Lib.hid yW03
      replace yW03 := tr_cell reY yW03
      have SW_yW04 := Lib.hid yW04
      replace yW04 := tr_cell reY yW04
      have SW_yW05 := Lib.hid yW05
      replace yW05 := tr_cell reY yW05
      have SW_yW06 := Lib.hid yW06
      replace yW06 := tr_cell reY yW06
      have SW_yW07 := Lib.hid yW07
      replace yW07 := tr_cell reY yW07
      have SW_yW08 := Lib.hid yW08
      replace yW08 := tr_cell reY yW08
      have SW_RrowW0 := Lib.hid RrowW0.out
      replace RrowW0 := Lib.hid (tr_row reY RrowW0.out)
      have HUY : Hid (∀ u, Below w.heap.size w (ovr Y u)) := fun u => by obtain ⟨x, hx⟩ := reY u; rw [hx]; exact HUW.out x
      clear reY hb
      obtain ⟨y0, hy0⟩ := ovr_self Y
      rw [hy0]
      clear hy0
      go_wp2_with fail
      refine (CNv.out _ (HWB.out.trans ((HBY.out.trans ((ovr_below Y y0).mono HBY.out.size)).mono HWB.out.size))).mono ?_
      rintro e w1 ⟨rfl, hb1⟩
      obtain ⟨y1, rfl⟩ := ovr_next hb1
      clear hb1
      go_wp2_with fail
      refine (CYv.out _ (HWB.out.trans ((HBY.out.trans ((ovr_below Y y1).mono HBY.out.size)).mono HWB.out.size))).mono ?_
      rintro e w1 ⟨rfl, hb1⟩
      obtain ⟨y2, rfl⟩ := ovr_next hb1
      clear hb1
      have HSO2 : Hid (SoC 23 2 W.heap.size l.length (rc l) u7 (ovr Y y2)) := HSO.out.over (ovr_below Y y2)
      have HBY2 : Hid (Below W.heap.size W (ovr Y y2)) := HBY.out.trans ((ovr_below Y y2).mono HBY.out.size)
      clear d0
      rcases hq : whyL m u v zs with _ | ⟨i, k⟩
      · have HNB := HWA0.out (whyL_none.1 hq)
        have HNBH := Lib.hid HNB
        clear HNB hq
        by_cases hl0 : 0 < l.length
        · obtain ⟨p, x, hpx⟩ : ∃ p x, l = p ++ [x] := ⟨l.dropLast, l.getLast (by intro e; rw [e] at hl0; exact absurd hl0 (Nat.lt_irrefl _)), (List.dropLast_concat_getLast _).symm⟩
          obtain ⟨g, cap, hv, hg1, hg2, ho⟩ := soc_own HSO2.out hl0
          have hlp : l.length = p.length + 1 := by rw [hpx]; simp
          have hc1 : (ovr Y y2).cell? ⟨g, p.length * 2 + 1, none⟩ = some (I x.hi) := by
            rw [hv] at ho
            rw [ho.cellAt _ (by omega), hpx]
            exact rc_get' p x
          have hp9 : p.length ≤ 1000001 := by have := HWU.out.len; have := HV1.out; omega
          have HO := Lib.hid ho
          have HG1 := Lib.hid hg1
          have HLP := Lib.hid hlp
          have HPX := Lib.hid hpx
          subst hv
          rw [hlp]
          clear ho hg1 hg2 hlp hpx hl0
          by_cases hhi : x.hi = v - 1
          · have hfz : (ovr Y y2).frozen? ⟨g, p.length * 2 + 1, none⟩ = false := HO.out.frozenAt _
            rw [hhi] at hc1
            have HHI := Lib.hid hhi
            clear hhi
            go_wp2_with fail
            have hst := HO.out.stored (p.length * 2 + 1) (I (t - 1))
            have hjn : WinUp (badAt m u zs) t (p ++ [⟨x.lo, t - 1⟩]) := by
              refine WinUp.join (v := v) ?_ HT0.out HNBH.out
              have h9 := HWU.out
              rw [HPX.out, show x = ⟨x.lo, v - 1⟩ by rw [← HHI.out]] at h9
              exact h9
            refine ⟨⟨t, p ++ [⟨x.lo, t - 1⟩], by have := HT0.out; have := HV0.out; omega, HT1.out, rfl, hjn, .inr ?_, HBY2.out.setCell HG1.out _⟩, by have := HT0.out; have := HT1.out; simp [intOf]; omega⟩
            have h9 := hst.1
            rw [HPX.out, rc_set'] at h9
            simpa using h9
          · have HWA : Hid (WinUp (badAt m u zs) t (l ++ [⟨v, t - 1⟩])) := HWU.out.app HV0.out HT0.out (HWU.out.far (by rw [HLP.out]; omega) (by rw [HLP.out, Nat.add_sub_cancel, HPX.out, at0_last]; exact hhi)) HNBH.out
            have hbq2 : (x.hi == v - 1) = false := by simpa using hhi
            have HSO9 : Hid (SoC 23 2 W.heap.size (p.length + 1) (rc l) (.slice (some ⟨g, 0, none⟩) (p.length + 1) cap) (ovr Y y2)) := by
              have h9 := HSO2.out
              rw [HLP.out] at h9
              exact h9
            have HLEN : Hid (l.length = p.length + 1) := HLP.out
            go_wp2_with (with_reducible show wpList _ _ _ (⟨some 58, _, _, _, _, _⟩ :: _) _ _; refine Hid.out ?_)
            refine Lib.hid ?_
            refine wpList_app_soc rfl _ _ 27 rfl 23 i0 _ 2 16 Tryz.underlying27 hi0 iz0 iz1 iz2 rfl (by decide) W.heap.size (p.length + 1) (rc l) _ rfl (HSO9.out.over ((Below.refl _ _).alloc (Nat.le_refl _) _)) ⟨(ovr Y y2).heap.size, 0, none⟩ 1 [I v, I (t - 1)] rfl rfl (cells_row (heap_last _ _ _ rfl)) (by simp [Value.oneCell']) (by have := HBY2.out.size; simp; omega) (by have := HWU.out.len; have := HV1.out; have := HLEN.out; omega) (by decide) ?_
            intro v' w2 hso2 hb2
            have HB2 : Hid (Below W.heap.size W w2) := (HBY2.out.alloc HBY2.out.size _).trans hb2
            have HSO3 := Lib.hid hso2
            clear hso2 hb2
            go_wp2_with fail
            exact ⟨⟨t, l ++ [⟨v, t - 1⟩], by have := HT0.out; have := HV0.out; omega, HT1.out, rfl, HWA.out, by rw [List.length_append, rc_app, HLEN.out]; exact HSO3.out, HB2.out⟩, by have := HT0.out; have := HT1.out; simp [intOf]; omega⟩
        · have hl0' : l.length = 0 := by omega
          have HWA : Hid (WinUp (badAt m u zs) t (l ++ [⟨v, t - 1⟩])) := HWU.out.app HV0.out HT0.out (fun r hr => by rw [List.length_eq_zero_iff.1 hl0'] at hr; cases hr) HNBH.out
          obtain ⟨A7, c7, rfl, _⟩ := (show SoC 23 2 W.heap.size l.length (flat 2 (rR l) l.length) u7 (ovr Y y2) by rw [← rc_flat]; exact HSO2.out).rd
          have HL0 := Lib.hid hl0'
          have HSO9 : Hid (SoC 23 2 W.heap.size 0 (rc l) (.slice A7 0 c7) (ovr Y y2)) := by
            have h9 := HSO2.out
            rw [hl0'] at h9
            exact h9
          have HLEN : Hid (l.length = 0) := hl0'
          rw [hl0']
          clear hl0 hl0'
          go_wp2_with (with_reducible show wpList _ _ _ (⟨some 58, _, _, _, _, _⟩ :: _) _ _; refine Hid.out ?_)
          refine Lib.hid ?_
          refine wpList_app_soc rfl _ _ 27 rfl 23 i0 _ 2 16 Tryz.underlying27 hi0 iz0 iz1 iz2 rfl (by decide) W.heap.size (0) (rc l) _ rfl (HSO9.out.over ((Below.refl _ _).alloc (Nat.le_refl _) _)) ⟨(ovr Y y2).heap.size, 0, none⟩ 1 [I v, I (t - 1)] rfl rfl (cells_row (heap_last _ _ _ rfl)) (by simp [Value.oneCell']) (by have := HBY2.out.size; simp; omega) (by have := HWU.out.len; have := HV1.out; have := HLEN.out; omega) (by decide) ?_
          intro v' w2 hso2 hb2
          have HB2 : Hid (Below W.heap.size W w2) := (HBY2.out.alloc HBY2.out.size _).trans hb2
          have HSO3 := Lib.hid hso2
          clear hso2 hb2
          go_wp2_with fail
          exact ⟨⟨t, l ++ [⟨v, t - 1⟩], by have := HT0.out; have := HV0.out; omega, HT1.out, rfl, HWA.out, by rw [List.length_append, rc_app, HLEN.out]; exact HSO3.out, HB2.out⟩, by have := HT0.out; have := HT1.out; simp [intOf]; omega⟩
      · have hbd : badAt m u zs v := by
          by_cases h : badAt m u zs v
          · exact h
          · rw [whyL_none.2 h] at hq; cases hq
        have HWT := Lib.hid (HBAD.out hbd)
        clear hq hbd
        have d5 : decide ((i : Int) < 0) = false := decide_eq_false (by omega)
        go_wp2_with fail
        exact ⟨⟨t, l, by have := HT0.out; have := HV0.out; omega, HT1.out, rfl, HWT.out, HSO2.out, HBY2.out⟩, by have := HT0.out; have := HT1.out; simp [intOf]; omega⟩
    · have hv9 : v = 1000001 := by omega
      subst hv9
      obtain ⟨A7, c7, rfl, hc7, _, hrd⟩ := (show SoC 23 2 W.heap.size l.length (flat 2 (rR l) l.length) u7 Y by rw [← rc_flat]; exact HSO.out).rd
      have hwd := HWU.out.done
      have hbf := Lib.hid (HWB.out.trans (HBY.out.mono HWB.out.size))
      have HRD := Lib.hid hrd
      have HWD := Lib.hid hwd
      clear hb hrd hwd hlt
      go_wp2_with fail
      go_ret
      exact ⟨A7, c7, l, rfl, HWD.out, hc7, HRD.out, hbf.out⟩
end Go.Proofs.YteibgenkklpoaaaGreat.Un
