/- The reference of chapter 5: Zones and Why. -/
import Derived.Test.YteibgenkklpoaaaGreatDw2
import Derived.Test.YteibgenkklpoaaaGreatDt1
import Derived.Test.YteibgenkklpoaaaGreatDb
namespace Go.Proofs.YteibgenkklpoaaaGreat.Un
open Go.RowKit
theorem ck_ok' {m : Mdl} {zs : List Rng} {v : Int} (h1 : ckF m zs v = 0) : okMdl m = true ∧ (∀ i, i < zs.length → spanB (at0 zs i) 1 1000000 = true) ∧ zs.length ≤ 20 ∧ v ≤ 31 := by
  have hok : okMdl m = true := by
    rcases hq : okMdl m with _ | _
    · unfold ckF at h1; rw [hq] at h1; cases h1
    · rfl
  unfold ckF at h1
  rw [hok, if_pos rfl] at h1
  split at h1
  · cases h1
  · rename_i hl
    split at h1
    · cases h1
    · rename_i hn
      rw [Bool.or_eq_true, not_or] at hn
      have h2 := hn.1
      have h3 := hn.2
      simp only [Bool.not_eq_true, List.any_eq_false] at h2
      simp only [decide_eq_true_eq] at h3
      refine ⟨hok, fun i hi => ?_, by omega, by omega⟩
      have h5 := h2 (at0 zs i) (by rw [at0_get hi]; exact List.getElem_mem hi)
      simpa [notGr] using h5
def zE (zs : List Rng) (v : Int) : Int := if 20 < zs.length then 5 else if zs.any notGr || decide (31 < v) then 2 else 0
theorem ck_zE (m : Mdl) (zs : List Rng) (v : Int) : ckF m zs v = if okMdl m then zE zs v else 2 := rfl
set_option maxRecDepth 100000 in
set_option maxHeartbeats 4000000 in
theorem refZones_any (A : Option Addr) (c : Nat) (zs : List Rng) (v : Int) (w : World) (B : Nat) (hm : zs.length ≤ maxLen) (hB : B ≤ w.heap.size) (hx : Rd w B 2 A zs.length (rR zs)) :
    Calls Tryz.prog 11 #[.slice A zs.length c, .int .u8 v] w fun e w' => e = .returned (I (zE zs v)) ∧ Below w.heap.size w w' := by
  have HX : Hid (∀ u, Rd (ovr w u) B 2 A zs.length (rR zs)) := fun u => hx.below ((ovr_below w u).mono hB)
  have hf : Hid (zE zs v = if 20 < zs.length then 5 else if zs.any notGr || decide (31 < v) then 2 else 0) := rfl
  have CG := Lib.hid fun r V => refGrad_any r V
  have HM : Hid (zs.length ≤ 9223372036854775807) := by show _ ≤ _; unfold maxLen at hm; omega
  clear hx hB hm
  obtain ⟨u0, hu0⟩ := ovr_self w
  have H0 := Lib.hid hu0
  clear hu0
  go_enter Tryz.func11, Tryz.ntmps11
  by_cases h1 : 20 < zs.length
  · rw [if_pos h1] at hf
    have d1 : decide ((20 : Int) < (zs.length : Int)) = true := decide_eq_true (by omega)
    go_wp2_with fail
    go_ret
    exact ⟨by rw [hf.out]; rfl, Below.refl _ _⟩
  rw [if_neg h1] at hf
  have d1 : decide ((20 : Int) < (zs.length : Int)) = false := decide_eq_false (by omega)
  have HL : Hid (zs.length ≤ 20) := by show _ ≤ _; omega
  go_wp2_with fail
  go_loopw [5] (fun i wr => ∃ (n : Nat) (u : World), n ≤ zs.length ∧ i = .int .i64 n ∧ wr = ovr w u ∧ ∀ j, j < n → spanB (at0 zs j) 1 1000000 = true) (fun i _ => zs.length - (intOf i).toNat)
  case atStart => exact ⟨0, u0, by omega, rfl, H0.out, fun j hj => absurd hj (by omega)⟩
  case round =>
    obtain ⟨n, u, hnl, rfl, rfl, hall⟩ := hrel
    have HALL := Lib.hid hall
    clear hall
    have hn20 : n ≤ 20 := by have := HL.out; omega
    by_cases hlt : n < zs.length
    · have HLT := Lib.hid hlt
      obtain ⟨b, o, rfl, _, e0, e1⟩ := (HX.out u).rng hlt
      have CQ := Lib.hid (CG.out (at0 zs n) (ovr w u))
      rcases hb : spanB (at0 zs n) 1 1000000 with _ | _ <;> rw [hb] at CQ
      · have hf2 : Hid (zE zs v = 2) := by
          show _ = _
          rw [hf.out, show zs.any notGr = true from List.any_eq_true.2 ⟨at0 zs n, by rw [at0_get hlt]; exact List.getElem_mem hlt, by unfold notGr; rw [hb]; rfl⟩]
          rfl
        go_wp2_with fail
        refine CQ.out.mono ?_
        rintro e w1 ⟨rfl, hb1⟩
        obtain ⟨u1, rfl⟩ := ovr_next hb1
        clear hb1
        go_wp2_with fail
        go_ret
        exact ⟨by rw [hf2.out]; rfl, ovr_below _ _⟩
      · have hq : Hid (∀ j, j < n + 1 → spanB (at0 zs j) 1 1000000 = true) := fun j hj => by
          by_cases hjn : j = n
          · rw [hjn]; exact hb
          · exact HALL.out j (by omega)
        go_wp2_with fail
        refine CQ.out.mono ?_
        rintro e w1 ⟨rfl, hb1⟩
        obtain ⟨u1, rfl⟩ := ovr_next hb1
        clear hb1
        go_wp2_with fail
        exact ⟨⟨n + 1, u1, HLT.out, rfl, rfl, hq.out⟩, by have := HLT.out; simp [intOf]; omega⟩
    · have hnn : n = zs.length := by omega
      subst hnn
      have hany : zs.any notGr = false := by
        rw [List.any_eq_false]
        intro x hx
        obtain ⟨j, hj, rfl⟩ := at0_mem hx
        unfold notGr
        rw [HALL.out j hj]
        decide
      rw [hany] at hf
      by_cases h2 : 31 < v
      · rw [decide_eq_true h2] at hf
        go_wp2_with fail
        go_ret
        exact ⟨by rw [hf.out]; rfl, ovr_below _ _⟩
      rw [decide_eq_false h2] at hf
      go_wp2_with fail
      go_ret
      exact ⟨by rw [hf.out]; rfl, ovr_below _ _⟩
theorem un_n5 : ∀ a b c d e : Bool, ∀ w : Fin 32, ∀ k : Fin 5, bits .and .u8 (bits .andNot .u8 (n5 a b c d e) (w : Nat) / 2 ^ (k : Nat)) 1 = if s5 a b c d e k && unw (w : Nat) k then 1 else 0 := by decide +kernel
theorem un_reg (p : Nat → Bool) {v : Int} (hv : 0 ≤ v ∧ v ≤ 31) {k : Nat} (hk : k < 5) : bits .and .u8 (bits .andNot .u8 (regK p 5) v / 2 ^ k) 1 = if p k && unw v k then 1 else 0 := by
  obtain ⟨n, rfl⟩ : ∃ n : Nat, v = n := ⟨v.toNat, by omega⟩
  rw [regK_n5, un_n5 _ _ _ _ _ ⟨n, by omega⟩ ⟨k, hk⟩, s5_at p hk]
def whyP : Option (Nat × Nat) → Int × Int
  | some (i, k) => (i, k)
  | none => (-1, 0)
theorem whyZ_none {m : Mdl} {v rate : Int} {z : Rng} (h : ∀ k, k < 5 → whyB m v rate z k = false) : whyZ m v rate z = none := by
  unfold whyZ
  rw [List.find?_eq_none]
  intro q hq
  rw [h q (List.mem_range.1 hq)]
  simp
theorem whyZ_some {m : Mdl} {v rate : Int} {z : Rng} {j : Nat} (hj : j < 5) (h : whyB m v rate z j = true) (hno : ∀ k, k < j → whyB m v rate z k = false) : whyZ m v rate z = some j := by
  unfold whyZ
  rw [List.find?_eq_some_iff_getElem]
  exact ⟨h, j, by simpa using hj, by simp, fun q hq => by simp; exact hno q hq⟩
theorem whyL_some {m : Mdl} {v rate : Int} {zs : List Rng} {i k : Nat} (hi : i < zs.length) (h : whyZ m v rate (at0 zs i) = some k) (hno : ∀ j, j < i → whyZ m v rate (at0 zs j) = none) : whyL m v rate zs = some (i, k) := by
  unfold whyL
  rw [List.findSome?_eq_some_iff]
  refine ⟨List.range i, i, (List.range (zs.length - i - 1)).map (i + 1 + ·), ?_, by rw [h]; rfl, fun q hq => ?_⟩
  · rw [show zs.length = i + ((zs.length - i - 1) + 1) by omega, List.range_add]
    congr 1
    rw [List.range_succ_eq_map, List.map_cons, List.map_map, Nat.add_zero]
    congr 1
    rw [show i + (zs.length - i - 1 + 1) - i - 1 = zs.length - i - 1 by omega]
    refine List.map_congr_left fun a _ => ?_
    show i + (a + 1) = i + 1 + a
    omega
  · rw [hno q (by simpa using hq)]; rfl
theorem whyL_no {m : Mdl} {v rate : Int} {zs : List Rng} (h : ∀ j, j < zs.length → whyZ m v rate (at0 zs j) = none) : whyL m v rate zs = none := by
  unfold whyL
  rw [List.findSome?_eq_none_iff]
  intro q hq
  rw [h q (List.mem_range.1 hq)]
  rfl
set_option maxRecDepth 100000 in
set_option maxHeartbeats 4000000 in
theorem refWhy_any (m : Mdl) (A : Option Addr) (c : Nat) (zs : List Rng) (v rate : Int) (w : World) (B : Nat) (hB : B ≤ w.heap.size) (hx : Rd w B 2 A zs.length (rR zs)) (hck : ckF m zs v = 0) (hr : 0 ≤ rate ∧ rate ≤ 1000000) (hv : 0 ≤ v) :
    Calls Tryz.prog 14 #[.agg (mdA m), .slice A zs.length c, .int .u8 v, I rate] w fun e w' => e = .returned (.tuple #[I (whyP (whyL m v rate zs)).1, I (whyP (whyL m v rate zs)).2]) ∧ Below w.heap.size w w' := by
  have HX : Hid (∀ V, Below w.heap.size w V → Rd V B 2 A zs.length (rR zs)) := fun V hV => hx.below (hV.mono hB)
  obtain ⟨hok, hzs, hzl, hv31⟩ := ck_ok' hck
  have HPL : Hid (∀ i, i < zs.length → PlOk m ⟨rate, rate⟩ (at0 zs i)) := fun i hi => ⟨hok, spanB_iff.2 ⟨hr.1, Int.le_refl _, hr.2⟩, hzs i hi⟩
  have HV : Hid (0 ≤ v ∧ v ≤ 31) := ⟨hv, hv31⟩
  have HL : Hid (zs.length ≤ 20) := hzl
  clear hx hB hck hok hzs hzl hv31 hr hv
  obtain ⟨W, hW⟩ : ∃ W, W = (w.alloc (.cells #[I m.sc, I (m.b 0).lo, I (m.b 0).hi, I (m.b 1).lo, I (m.b 1).hi, I (m.b 2).lo, I (m.b 2).hi, I (m.b 3).lo, I (m.b 3).hi] 26)) := ⟨_, rfl⟩
  have rowW0 : W.heap[w.heap.size]? = some (.cells #[I m.sc, I (m.b 0).lo, I (m.b 0).hi, I (m.b 1).lo, I (m.b 1).hi, I (m.b 2).lo, I (m.b 2).hi, I (m.b 3).lo, I (m.b 3).hi] 26 (0, 0)) := by rw [hW]; exact heap_last _ _ _ rfl
  have yW00 := ovr_cell (W := W) (b := w.heap.size) (o := 0) (v := I m.sc) (by rw [cell_of_row _ _ _ _ _ _ rowW0]; rfl)
  have yW01 := ovr_cell (W := W) (b := w.heap.size) (o := 1) (v := I (m.b 0).lo) (by rw [cell_of_row _ _ _ _ _ _ rowW0]; rfl)
  have yW02 := ovr_cell (W := W) (b := w.heap.size) (o := 2) (v := I (m.b 0).hi) (by rw [cell_of_row _ _ _ _ _ _ rowW0]; rfl)
  have yW03 := ovr_cell (W := W) (b := w.heap.size) (o := 3) (v := I (m.b 1).lo) (by rw [cell_of_row _ _ _ _ _ _ rowW0]; rfl)
  have yW04 := ovr_cell (W := W) (b := w.heap.size) (o := 4) (v := I (m.b 1).hi) (by rw [cell_of_row _ _ _ _ _ _ rowW0]; rfl)
  have yW05 := ovr_cell (W := W) (b := w.heap.size) (o := 5) (v := I (m.b 2).lo) (by rw [cell_of_row _ _ _ _ _ _ rowW0]; rfl)
  have yW06 := ovr_cell (W := W) (b := w.heap.size) (o := 6) (v := I (m.b 2).hi) (by rw [cell_of_row _ _ _ _ _ _ rowW0]; rfl)
  have yW07 := ovr_cell (W := W) (b := w.heap.size) (o := 7) (v := I (m.b 3).lo) (by rw [cell_of_row _ _ _ _ _ _ rowW0]; rfl)
  have yW08 := ovr_cell (W := W) (b := w.heap.size) (o := 8) (v := I (m.b 3).hi) (by rw [cell_of_row _ _ _ _ _ _ rowW0]; rfl)
  have RrowW0 := Lib.hid (ovr_row rowW0)
  clear rowW0
  have HUW : Hid (∀ u, Below w.heap.size w (ovr W u)) := U1 hW
  have HW := Lib.hid hW
  clear hW
  have HWB : Hid (Below w.heap.size w W) := by
    obtain ⟨v', hv'⟩ := ovr_self W
    have := HUW.out v'
    rwa [← hv'] at this
  go_enter Tryz.func14, Tryz.ntmps14
  go_upto_region 1 with (fail)
  rw [← HW.out]
  obtain ⟨u0, hu0⟩ := ovr_self W
  rw [hu0]
  clear hu0
  go_wp2_with fail
  go_loopw [10] (fun i wr => ∃ (n : Nat), n ≤ zs.length ∧ i = .int .i64 n ∧ Below W.heap.size W wr ∧ ∀ j, j < n → whyZ m v rate (at0 zs j) = none) (fun i _ => zs.length - (intOf i).toNat)
  case atStart => exact ⟨0, by omega, rfl, ovr_below _ _, fun j hj => absurd hj (by omega)⟩
  case round =>
    obtain ⟨n, hnl, rfl, hb, hall⟩ := hrel
    rename World => Y
    have HBY := Lib.hid hb
    have HALL := Lib.hid hall
    clear hall
    have hn20 : n ≤ 20 := by have := HL.out; omega
    by_cases hlt : n < zs.length
    · have HLT := Lib.hid hlt
      obtain ⟨b, o, rfl, _, e0, e1⟩ := (HX.out Y (HWB.out.trans (hb.mono HWB.out.size))).rng hlt
      have c0 := ovr_cell e0
      have c1 := ovr_cell e1
      have CR : Hid (∀ V, Calls Tryz.prog 38 #[.agg (mdA m), .agg #[I rate, I rate], .agg #[I (at0 zs n).lo, I (at0 zs n).hi]] V fun e w' => e = .returned (.int .u8 (regK (posB m ⟨rate, rate⟩ (at0 zs n)) 5)) ∧ Below V.heap.size V w') := fun V => refRegions_any m ⟨rate, rate⟩ (at0 zs n) (HPL.out n hlt) V
      have HBI : Hid (∀ k, k < 5 → bits .and .u8 (bits .andNot .u8 (regK (posB m ⟨rate, rate⟩ (at0 zs n)) 5) v / 2 ^ k) 1 = if whyB m v rate (at0 zs n) k then 1 else 0) := fun k hk => by
        rw [un_reg _ HV.out hk]
        unfold whyB
        rw [Bool.and_comm]
      obtain ⟨S, hS⟩ : ∃ S, regK (posB m ⟨rate, rate⟩ (at0 zs n)) 5 = S := ⟨_, rfl⟩
      rw [hS] at CR HBI
      clear hS e0 e1
      have reY : ∀ v, ∃ x, ovr Y v = ovr W x := fun v => ovr_reB hb v
      have SW_yW00 := Lib.hid yW00
      replace yW00 := tr_cell reY yW00
      have SW_yW01 := Lib.hid yW01
      replace yW01 := tr_cell reY yW01
      have SW_yW02 := Lib.hid yW02
      replace yW02 := tr_cell reY yW02
      have SW_yW03 := Lib.hid yW03
      replace yW03 := tr_cell reY yW03
      have SW_yW04 := Lib.hid yW04
      replace yW04 := tr_cell reY yW04
      have SW_yW05 := Lib.hid yW05
      replace yW05 := tr_cell reY yW05
      have SW_yW06 := Lib.hid yW06
      replace yW06 := tr_cell reY yW06
      have SW_yW07 := Lib.hid yW07
      replace yW07 := tr_cell reY yW07
      have SW_yW08 := Lib.hid yW08
      replace yW08 := tr_cell reY yW08
      have SW_RrowW0 := Lib.hid RrowW0.out
      replace RrowW0 := Lib.hid (tr_row reY RrowW0.out)
      have HUY : Hid (∀ u, Below w.heap.size w (ovr Y u)) := fun u => by obtain ⟨x, hx⟩ := reY u; rw [hx]; exact HUW.out x
      clear reY hb
      go_upto_region 4 with fail
      refine wp_region_below_lit (by kernel_rfl) (by kernel_rfl) ?_
      repeat (go_big_quiet_step (fail))
      go_big_quiet_step ((go_at_call 38; exact call_below (CR.out _)))
      repeat (go_big_quiet_step (fail))
      refine wpQuiet_nil ?_
      intro Z hZ
      obtain ⟨u2, rfl⟩ : ∃ u, Z = ovr Y u := ⟨Z, ovr_of hZ⟩
      clear hZ
      have HZB : Hid (Below W.heap.size W (ovr Y u2)) := HBY.out.trans ((ovr_below Y u2).mono HBY.out.size)
      obtain ⟨Z, hZ⟩ : ∃ Z, ovr Y u2 = Z := ⟨_, rfl⟩
      rw [hZ] at HZB ⊢
      clear hZ
      go_wp2_with fail
      go_loopw [12] (fun i wr => ∃ (k : Nat), k ≤ 5 ∧ i = .int .i64 k ∧ wr = Z ∧ ∀ j, j < k → whyB m v rate (at0 zs n) j = false) (fun i _ => 5 - (intOf i).toNat)
      case atStart => exact ⟨0, by omega, rfl, rfl, fun j hj => absurd hj (by omega)⟩
      case round =>
        obtain ⟨k, hk5, rfl, rfl, hno⟩ := hrel
        have HNO := Lib.hid hno
        clear hno
        by_cases hk : k < 5
        · have q1 := HBI.out k hk
          have HK := Lib.hid hk
          rcases hwb : whyB m v rate (at0 zs n) k with _ | _
          · rw [hwb, if_neg Bool.false_ne_true] at q1
            have hn2 : Hid (∀ j, j < k + 1 → whyB m v rate (at0 zs n) j = false) := fun j hj => by
              by_cases hjk : j = k
              · rw [hjk]; exact hwb
              · exact HNO.out j (by omega)
            go_wp2_with fail
            exact ⟨⟨k + 1, HK.out, rfl, trivial, hn2.out⟩, by have := HK.out; simp [intOf]; omega⟩
          · rw [hwb, if_pos rfl] at q1
            have hfin : Hid (whyL m v rate zs = some (n, k)) := whyL_some HLT.out (whyZ_some HK.out hwb HNO.out) HALL.out
            have hbf := Lib.hid (HWB.out.trans (HZB.out.mono HWB.out.size))
            go_wp2_with fail
            go_ret2
            exact ⟨by rw [hfin.out]; rfl, hbf.out⟩
        · have hall2 : Hid (∀ j, j < n + 1 → whyZ m v rate (at0 zs j) = none) := fun j hj => by
            by_cases hjn : j = n
            · rw [hjn]; exact whyZ_none fun q hq => HNO.out q (by omega)
            · exact HALL.out j (by omega)
          go_wp2_with fail
          exact ⟨⟨n + 1, HLT.out, rfl, HZB.out, hall2.out⟩, by have := HLT.out; simp [intOf]; omega⟩
    · have hfin : Hid (whyL m v rate zs = none) := whyL_no fun j hj => HALL.out j (by omega)
      have hbf := Lib.hid (HWB.out.trans (HBY.out.mono HWB.out.size))
      clear hb
      go_wp2_with fail
      go_ret2
      exact ⟨by rw [hfin.out]; rfl, hbf.out⟩
end Go.Proofs.YteibgenkklpoaaaGreat.Un
