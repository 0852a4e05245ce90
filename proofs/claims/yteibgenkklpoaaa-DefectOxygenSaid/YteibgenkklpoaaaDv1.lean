/- The reference of chapter 5: Heat and After. -/
import Derived.Test.YteibgenkklpoaaaDo2
import Derived.Test.YteibgenkklpoaaaDb
namespace Go.Proofs.Yteibgenkklpoaaa.Un
open Go.RowKit
theorem hc_lo (h : Hst) (k : Nat) : h.c (1 + k * 2) = I (h.s k).lo := by
  unfold Hst.c
  rw [if_neg (by omega), if_pos (by omega), show (1 + k * 2 - 1) / 2 = k by omega]
theorem hc_hi (h : Hst) (k : Nat) : h.c (1 + k * 2 + 1) = I (h.s k).hi := by
  unfold Hst.c
  rw [if_neg (by omega), if_neg (by omega), show (1 + k * 2 + 1 - 1) / 2 = k by omega]
set_option maxRecDepth 100000 in
set_option maxHeartbeats 2000000 in
theorem leafter (A : Option Addr) (c : Nat) (l : List Hst) (ox : Int) (k : Nat) (w : World) (B : Nat) (hl : l.length ≤ 1000) (hB : B ≤ w.heap.size) (hx : Rd w B 11 A l.length (rH l)) (hk : k < 5) (hox : 0 ≤ ox ∧ ox ≤ 1000000) (hst : OkAll l) :
    Calls Try.prog 55 #[.slice A l.length c, I ox, I k, .bool false] w fun e w' => e = .returned (I (cuK leP l ox k l.length)) ∧ Below w.heap.size w w' := by
  have HX : Hid (∀ V, Below w.heap.size w V → Rd V B 11 A l.length (rH l)) := fun V hV => hx.below (hV.mono hB)
  have HBD : Hid (∀ n, n ≤ l.length → 0 ≤ cuK leP l ox k n ∧ cuK leP l ox k n ≤ ox) := fun n hn => cu_bd (fun r => le_ok) hst hk hox n hn
  have HST : Hid (∀ n, n < l.length → spanB ((at0 l n).s k) 0 10000 = true ∧ 0 ≤ (at0 l n).d ∧ (at0 l n).d ≤ 1000000) := fun n hn => ⟨(hst.sp hn hk).1, (hst.sp hn hk).2, (stOk_iff.1 (hst n hn)).2.1⟩
  have HOX := Lib.hid hox
  have HK := Lib.hid hk
  have HL := Lib.hid hl
  clear hx hB hst hox hk hl
  obtain ⟨u0, hu0⟩ := ovr_self w
  have H0 := Lib.hid hu0
  clear hu0
  go_enter Try.func55, Try.ntmps55
  go_wp2_with fail
  go_loopw [1, 9] (fun o i wr => ∃ (n : Nat) (u : World), n ≤ l.length ∧ i = .int .i64 n ∧ o = I (cuK leP l ox k n) ∧ wr = ovr w u) (fun _ i _ => l.length - (intOf i).toNat)
  case atStart => exact ⟨0, u0, by omega, rfl, rfl, H0.out⟩
  case round =>
    obtain ⟨n, u, hnl, rfl, rfl, rfl⟩ := hrel
    have hln : n ≤ 1000 := by have := HL.out; omega
    by_cases hlt : n < l.length
    · obtain ⟨b, o, rfl, _, hc⟩ := rd_hst (HX.out _ (ovr_below w u)) hlt
      have hcu : Hid (cuK leP l ox k (n + 1) = stF leP (at0 l n) k (cuK leP l ox k n)) := rfl
      obtain ⟨h, hh⟩ : ∃ h, h = at0 l n := ⟨_, rfl⟩
      have hs := HST.out n hlt
      rw [← hh] at hc hs hcu
      have e0 : (ovr w u).cell? ⟨b, o + n * 11, none⟩ = some (I h.d) := hc 0 (by omega)
      have e1 : (ovr w u).cell? ⟨b, o + n * 11 + 1 + k * 2, none⟩ = some (I (h.s k).lo) := by rw [Nat.add_assoc, hc (1 + k * 2) (by have := HK.out; omega), hc_lo]
      have e2 : (ovr w u).cell? ⟨b, o + n * 11 + 1 + k * 2 + 1, none⟩ = some (I (h.s k).hi) := by rw [show o + n * 11 + 1 + k * 2 + 1 = o + n * 11 + (1 + k * 2 + 1) by omega, hc (1 + k * 2 + 1) (by have := HK.out; omega), hc_hi]
      obtain ⟨⟨sl, sh⟩, hsr⟩ : ∃ r, h.s k = r := ⟨_, rfl⟩
      have hb := HBD.out n (by omega)
      have hb1 := HBD.out (n + 1) hlt
      rw [hcu.out] at hb1
      unfold stF at hcu hb1
      rw [hsr] at hs e1 e2 hcu hb1
      have HLT := Lib.hid hlt
      have hox := HOX.out
      have hk5 := HK.out
      obtain ⟨x, hx⟩ : ∃ x, cuK leP l ox k n = x := ⟨_, rfl⟩
      rw [hx] at hb hcu hb1
      rw [hx]
      obtain ⟨a, ha⟩ : ∃ a, x - h.d = a := ⟨_, rfl⟩
      rw [ha] at hcu hb1
      have k1 : IntKind.i64.wrap (x - h.d) = a := by rw [ha]; exact IntWalk.i64_in _ (by omega)
      clear hc hh hsr hx
      by_cases hpos : a ≤ 0
      · rw [if_neg (by omega)] at hcu
        clear ha hb hb1 hs hox
        go_wp2_with fail
        exact ⟨⟨n + 1, u, HLT.out, rfl, by rw [hcu.out], rfl⟩, by have := HLT.out; simp [intOf]; omega⟩
      · rw [if_pos (by omega)] at hcu hb1
        have bd := leP_bd (a := a) (r := ⟨sl, sh⟩) ⟨by omega, by omega⟩ hs.1
        simp only at bd
        have k2 : IntKind.i64.wrap (a * sl) = a * sl := IntWalk.i64_in _ (by omega)
        have HCU : Hid (cuK leP l ox k (n + 1) = x - leP a ⟨sl, sh⟩) := hcu.out
        obtain ⟨y, hy⟩ : ∃ y, leP a ⟨sl, sh⟩ = y := ⟨_, rfl⟩
        unfold leP at hy
        simp only at hy
        have HY : Hid (leP a ⟨sl, sh⟩ = y) := hy
        have k4 : IntKind.i64.wrap (x - y) = x - y := IntWalk.i64_in _ (by have : leP a ⟨sl, sh⟩ = y := hy; omega)
        have k3 : IntKind.i64.wrap ((a * sl).tdiv 10000) = y := by rw [hy]; exact IntWalk.i64_in _ (by have : leP a ⟨sl, sh⟩ = y := hy; omega)
        clear ha hb hb1 hs hox bd hcu hy
        go_upto_region 7 with fail
        refine name_w fun V hV => ?_
        obtain ⟨T, hT⟩ : ∃ T, T = (ovr w u).heap.size := ⟨_, rfl⟩
        have rV : V.heap[T]? = some (.cells #[I sl, I sh] 23 (0, 0)) := by rw [hV]; exact heap_last _ _ _ hT
        have bV : Below w.heap.size w V := by rw [hV]; exact (ovr_below w u).alloc (ovr_below w u).size _
        rw [← hT]
        have c0 : V.cell? ⟨T, 0, none⟩ = some (I sl) := by rw [cell_of_row _ _ _ _ _ _ rV]; rfl
        have c1 : V.cell? ⟨T, 1, none⟩ = some (I sh) := by rw [cell_of_row _ _ _ _ _ _ rV]; rfl
        have BV := Lib.hid bV
        clear hV hT rV bV e0 e1 e2
        go_wp2_with fail
        exact ⟨⟨n + 1, V, HLT.out, rfl, by rw [HCU.out, HY.out], ovr_of BV.out⟩, by have := HLT.out; simp [intOf]; omega⟩
    · have hn : n = l.length := by omega
      subst hn
      go_wp2_with fail
      go_ret
      exact ⟨rfl, ovr_below w u⟩
set_option maxRecDepth 100000 in
set_option maxHeartbeats 2000000 in
theorem moafter (A : Option Addr) (c : Nat) (l : List Hst) (ox : Int) (k : Nat) (w : World) (B : Nat) (hl : l.length ≤ 1000) (hB : B ≤ w.heap.size) (hx : Rd w B 11 A l.length (rH l)) (hk : k < 5) (hox : 0 ≤ ox ∧ ox ≤ 1000000) (hst : OkAll l) :
    Calls Try.prog 55 #[.slice A l.length c, I ox, I k, .bool true] w fun e w' => e = .returned (I (cuK moP l ox k l.length)) ∧ Below w.heap.size w w' := by
  have HX : Hid (∀ V, Below w.heap.size w V → Rd V B 11 A l.length (rH l)) := fun V hV => hx.below (hV.mono hB)
  have HBD : Hid (∀ n, n ≤ l.length → 0 ≤ cuK moP l ox k n ∧ cuK moP l ox k n ≤ ox) := fun n hn => cu_bd (fun r => mo_ok) hst hk hox n hn
  have HST : Hid (∀ n, n < l.length → spanB ((at0 l n).s k) 0 10000 = true ∧ 0 ≤ (at0 l n).d ∧ (at0 l n).d ≤ 1000000) := fun n hn => ⟨(hst.sp hn hk).1, (hst.sp hn hk).2, (stOk_iff.1 (hst n hn)).2.1⟩
  have HOX := Lib.hid hox
  have HK := Lib.hid hk
  have HL := Lib.hid hl
  clear hx hB hst hox hk hl
  obtain ⟨u0, hu0⟩ := ovr_self w
  have H0 := Lib.hid hu0
  clear hu0
  go_enter Try.func55, Try.ntmps55
  go_wp2_with fail
  go_loopw [1, 9] (fun o i wr => ∃ (n : Nat) (u : World), n ≤ l.length ∧ i = .int .i64 n ∧ o = I (cuK moP l ox k n) ∧ wr = ovr w u) (fun _ i _ => l.length - (intOf i).toNat)
  case atStart => exact ⟨0, u0, by omega, rfl, rfl, H0.out⟩
  case round =>
    obtain ⟨n, u, hnl, rfl, rfl, rfl⟩ := hrel
    have hln : n ≤ 1000 := by have := HL.out; omega
    by_cases hlt : n < l.length
    · obtain ⟨b, o, rfl, _, hc⟩ := rd_hst (HX.out _ (ovr_below w u)) hlt
      have hcu : Hid (cuK moP l ox k (n + 1) = stF moP (at0 l n) k (cuK moP l ox k n)) := rfl
      obtain ⟨h, hh⟩ : ∃ h, h = at0 l n := ⟨_, rfl⟩
      have hs := HST.out n hlt
      rw [← hh] at hc hs hcu
      have e0 : (ovr w u).cell? ⟨b, o + n * 11, none⟩ = some (I h.d) := hc 0 (by omega)
      have e1 : (ovr w u).cell? ⟨b, o + n * 11 + 1 + k * 2, none⟩ = some (I (h.s k).lo) := by rw [Nat.add_assoc, hc (1 + k * 2) (by have := HK.out; omega), hc_lo]
      have e2 : (ovr w u).cell? ⟨b, o + n * 11 + 1 + k * 2 + 1, none⟩ = some (I (h.s k).hi) := by rw [show o + n * 11 + 1 + k * 2 + 1 = o + n * 11 + (1 + k * 2 + 1) by omega, hc (1 + k * 2 + 1) (by have := HK.out; omega), hc_hi]
      obtain ⟨⟨sl, sh⟩, hsr⟩ : ∃ r, h.s k = r := ⟨_, rfl⟩
      have hb := HBD.out n (by omega)
      have hb1 := HBD.out (n + 1) hlt
      rw [hcu.out] at hb1
      unfold stF at hcu hb1
      rw [hsr] at hs e1 e2 hcu hb1
      have HLT := Lib.hid hlt
      have hox := HOX.out
      have hk5 := HK.out
      obtain ⟨x, hx⟩ : ∃ x, cuK moP l ox k n = x := ⟨_, rfl⟩
      rw [hx] at hb hcu hb1
      rw [hx]
      obtain ⟨a, ha⟩ : ∃ a, x - h.d = a := ⟨_, rfl⟩
      rw [ha] at hcu hb1
      have k1 : IntKind.i64.wrap (x - h.d) = a := by rw [ha]; exact IntWalk.i64_in _ (by omega)
      clear hc hh hsr hx
      by_cases hpos : a ≤ 0
      · rw [if_neg (by omega)] at hcu
        clear ha hb hb1 hs hox
        go_wp2_with fail
        exact ⟨⟨n + 1, u, HLT.out, rfl, by rw [hcu.out], rfl⟩, by have := HLT.out; simp [intOf]; omega⟩
      · rw [if_pos (by omega)] at hcu hb1
        have bd := moP_bd (a := a) (r := ⟨sl, sh⟩) ⟨by omega, by omega⟩ hs.1
        simp only at bd
        have k2 : IntKind.i64.wrap (a * sh) = a * sh ∧ IntKind.i64.wrap (a * sh + 9999) = a * sh + 9999 := ⟨IntWalk.i64_in _ (by omega), IntWalk.i64_in _ (by omega)⟩
        have HCU : Hid (cuK moP l ox k (n + 1) = x - moP a ⟨sl, sh⟩) := hcu.out
        obtain ⟨y, hy⟩ : ∃ y, moP a ⟨sl, sh⟩ = y := ⟨_, rfl⟩
        unfold moP at hy
        simp only at hy
        have HY : Hid (moP a ⟨sl, sh⟩ = y) := hy
        have k4 : IntKind.i64.wrap (x - y) = x - y := IntWalk.i64_in _ (by have : moP a ⟨sl, sh⟩ = y := hy; omega)
        have k3 : IntKind.i64.wrap ((a * sh + 9999).tdiv 10000) = y := by rw [hy]; exact IntWalk.i64_in _ (by have : moP a ⟨sl, sh⟩ = y := hy; omega)
        clear ha hb hb1 hs hox bd hcu hy
        go_upto_region 7 with fail
        refine name_w fun V hV => ?_
        obtain ⟨T, hT⟩ : ∃ T, T = (ovr w u).heap.size := ⟨_, rfl⟩
        have rV : V.heap[T]? = some (.cells #[I sl, I sh] 23 (0, 0)) := by rw [hV]; exact heap_last _ _ _ hT
        have bV : Below w.heap.size w V := by rw [hV]; exact (ovr_below w u).alloc (ovr_below w u).size _
        rw [← hT]
        have c0 : V.cell? ⟨T, 0, none⟩ = some (I sl) := by rw [cell_of_row _ _ _ _ _ _ rV]; rfl
        have c1 : V.cell? ⟨T, 1, none⟩ = some (I sh) := by rw [cell_of_row _ _ _ _ _ _ rV]; rfl
        have BV := Lib.hid bV
        clear hV hT rV bV e0 e1 e2
        go_wp2_with fail
        exact ⟨⟨n + 1, V, HLT.out, rfl, by rw [HCU.out, HY.out], ovr_of BV.out⟩, by have := HLT.out; simp [intOf]; omega⟩
    · have hn : n = l.length := by omega
      subst hn
      go_wp2_with fail
      go_ret
      exact ⟨rfl, ovr_below w u⟩
theorem st_no {h : Hst} {j : Nat} (hj : j < 5) (hb : spanB (h.s j) 0 10000 = false) : stOk h = false := by
  rcases hs : stOk h with _ | _
  · rfl
  · rw [(stOk_iff.1 hs).2.2 j hj] at hb; cases hb
theorem any_st {l : List Hst} {n : Nat} (hn : n < l.length) (h : stOk (at0 l n) = false) : l.any notSt = true := by
  rw [List.any_eq_true]
  exact ⟨at0 l n, by rw [at0_get hn]; exact List.getElem_mem hn, by unfold notSt; rw [h]; rfl⟩
set_option maxRecDepth 100000 in
set_option maxHeartbeats 4000000 in
theorem heat_any (A : Option Addr) (c : Nat) (l : List Hst) (ox : Rng) (v : Int) (w : World) (B : Nat) (hl : l.length ≤ 1000) (hB : B ≤ w.heap.size) (hx : Rd w B 11 A l.length (rH l)) :
    Calls Try.prog 54 #[.slice A l.length c, ox.val, .int .u8 v] w fun e w' => e = .returned (I (anE l ox v)) ∧ Below w.heap.size w w' := by
  have HX : Hid (∀ V, Below w.heap.size w V → Rd V B 11 A l.length (rH l)) := fun V hV => hx.below (hV.mono hB)
  have hf : Hid (anE l ox v = if 30 < l.length then 5 else if l.any notSt || (!spanB ox 0 1000000 || decide (31 < v)) then 2 else if v = 0 then 7 else 0) := rfl
  have CS := Lib.hid fun r a b V => span_any r a b V
  have HL := Lib.hid hl
  obtain ⟨xl, xh⟩ := ox
  clear hx hB hl
  obtain ⟨W, hW⟩ : ∃ W, W = (w.alloc (.cells #[I xl, I xh] 23)) := ⟨_, rfl⟩
  have rowW0 : W.heap[w.heap.size]? = some (.cells #[I xl, I xh] 23 (0, 0)) := by rw [hW]; exact heap_last _ _ _ rfl
  have yW00 := ovr_cell (W := W) (b := w.heap.size) (o := 0) (v := I xl) (by rw [cell_of_row _ _ _ _ _ _ rowW0]; rfl)
  have yW01 := ovr_cell (W := W) (b := w.heap.size) (o := 1) (v := I xh) (by rw [cell_of_row _ _ _ _ _ _ rowW0]; rfl)
  have RrowW0 := Lib.hid (ovr_row rowW0)
  clear rowW0
  have HUW : Hid (∀ u, Below w.heap.size w (ovr W u)) := U1 hW
  have HW := Lib.hid hW
  clear hW
  go_enter Try.func54, Try.ntmps54
  go_upto_region 1 with (fail)
  rw [← HW.out]
  obtain ⟨u0, hu0⟩ := ovr_self W
  rw [hu0]
  clear hu0
  by_cases h1 : 30 < l.length
  · rw [if_pos h1] at hf
    have d1 : decide ((30 : Int) < (l.length : Int)) = true := decide_eq_true (by omega)
    go_wp2_with fail
    go_ret
    exact ⟨by rw [hf.out]; rfl, HUW.out _⟩
  rw [if_neg h1] at hf
  have d1 : decide ((30 : Int) < (l.length : Int)) = false := decide_eq_false (by omega)
  have HL30 : Hid (l.length ≤ 30) := by show _ ≤ _; omega
  go_wp2_with fail
  go_loopw [7] (fun i wr => ∃ (n : Nat) (u : World), n ≤ l.length ∧ i = .int .i64 n ∧ wr = ovr W u ∧ ∀ j, j < n → stOk (at0 l j) = true) (fun i _ => l.length - (intOf i).toNat)
  case atStart => exact ⟨0, u0, by omega, rfl, rfl, fun j hj => absurd hj (by omega)⟩
  case round =>
    obtain ⟨n, u, hnl, rfl, rfl, hall⟩ := hrel
    have HALL := Lib.hid hall
    clear hall
    have hn30 : n ≤ 30 := by have := HL30.out; omega
    by_cases hlt : n < l.length
    · have HLT := Lib.hid hlt
      have hd2 : decide ((n : Int) < (l.length : Int)) = true := decide_eq_true (by omega)
      go_wp2_with fail
      go_loopw [8] (fun i wr => ∃ (j : Nat) (u : World), j ≤ 5 ∧ i = .int .i64 j ∧ wr = ovr W u ∧ ∀ q, q < j → spanB ((at0 l n).s q) 0 10000 = true) (fun i _ => 5 - (intOf i).toNat)
      case atStart => exact ⟨0, u, by omega, rfl, rfl, fun j hj => absurd hj (by omega)⟩
      case round =>
        obtain ⟨j, u, hj5, rfl, rfl, hq⟩ := hrel
        have HQ := Lib.hid hq
        clear hq
        obtain ⟨b, o, rfl, _, hc⟩ := rd_hst (HX.out _ (HUW.out u)) HLT.out
        obtain ⟨h, hh⟩ : ∃ h, h = at0 l n := ⟨_, rfl⟩
        rw [← hh] at hc HQ
        have HH := Lib.hid hh
        clear hh
        by_cases hj : j < 5
        · have e1 : (ovr W u).cell? ⟨b, o + n * 11 + 1 + j * 2, none⟩ = some (I (h.s j).lo) := by rw [Nat.add_assoc, hc (1 + j * 2) (by omega), hc_lo]
          have e2 : (ovr W u).cell? ⟨b, o + n * 11 + 1 + j * 2 + 1, none⟩ = some (I (h.s j).hi) := by rw [show o + n * 11 + 1 + j * 2 + 1 = o + n * 11 + (1 + j * 2 + 1) by omega, hc (1 + j * 2 + 1) (by omega), hc_hi]
          have CQ := Lib.hid (CS.out (h.s j) 0 10000 (ovr W u))
          have HJ := Lib.hid hj
          clear hc
          rcases hb : spanB (h.s j) 0 10000 with _ | _ <;> rw [hb] at CQ
          · have HANY : Hid (l.any notSt = true) := any_st HLT.out (st_no HJ.out (by rw [← HH.out]; exact hb))
            go_wp2_with fail
            refine CQ.out.mono ?_
            rintro e w1 ⟨rfl, hb1⟩
            obtain ⟨u1, rfl⟩ := ovr_next hb1
            clear hb1
            have hf2 : Hid (anE l ⟨xl, xh⟩ v = 2) := by show _ = _; rw [hf.out, HANY.out]; rfl
            go_wp2_with fail
            go_ret
            exact ⟨by rw [hf2.out]; rfl, HUW.out _⟩
          · have hq2 : Hid (∀ q, q < j + 1 → spanB ((at0 l n).s q) 0 10000 = true) := fun q hq => by
              rw [← HH.out]
              by_cases hqj : q = j
              · rw [hqj]; exact hb
              · exact HQ.out q (by omega)
            go_wp2_with fail
            refine CQ.out.mono ?_
            rintro e w1 ⟨rfl, hb1⟩
            obtain ⟨u1, rfl⟩ := ovr_next hb1
            clear hb1
            go_wp2_with fail
            exact ⟨⟨j + 1, u1, HJ.out, rfl, rfl, hq2.out⟩, by have := HJ.out; simp [intOf]; omega⟩
        · have e0 : (ovr W u).cell? ⟨b, o + n * 11, none⟩ = some (I h.d) := hc 0 (by omega)
          clear hc
          have hsp : Hid (∀ q, q < 5 → spanB (h.s q) 0 10000 = true) := fun q hq => HQ.out q (by omega)
          have hlt := HLT.out
          by_cases ha : h.d < 0
          · have HANY : Hid (l.any notSt = true) := any_st HLT.out (by
              rw [← HH.out]
              rcases hs : stOk h with _ | _
              · rfl
              · have := (stOk_iff.1 hs).1; omega)
            have hf2 : Hid (anE l ⟨xl, xh⟩ v = 2) := by show _ = _; rw [hf.out, HANY.out]; rfl
            go_wp2_with fail
            go_ret
            exact ⟨by rw [hf2.out]; rfl, HUW.out _⟩
          by_cases hb : 1000000 < h.d
          · have HANY : Hid (l.any notSt = true) := any_st HLT.out (by
              rw [← HH.out]
              rcases hs : stOk h with _ | _
              · rfl
              · have := (stOk_iff.1 hs).2.1; omega)
            have hf2 : Hid (anE l ⟨xl, xh⟩ v = 2) := by show _ = _; rw [hf.out, HANY.out]; rfl
            go_wp2_with fail
            go_ret
            exact ⟨by rw [hf2.out]; rfl, HUW.out _⟩
          have hall2 : Hid (∀ j, j < n + 1 → stOk (at0 l j) = true) := fun q hq => by
            by_cases hqn : q = n
            · rw [hqn, ← HH.out]; exact stOk_iff.2 ⟨by omega, by omega, hsp.out⟩
            · exact HALL.out q (by omega)
          go_wp2_with fail
          exact ⟨⟨n + 1, u, HLT.out, rfl, rfl, hall2.out⟩, by have := HLT.out; simp [intOf]; omega⟩
    · have hnn : n = l.length := by omega
      subst hnn
      have hany : l.any notSt = false := by
        rw [List.any_eq_false]
        intro x hx
        obtain ⟨j, hj, rfl⟩ := at0_mem hx
        unfold notSt
        rw [HALL.out j hj]
        decide
      rw [hany] at hf
      have CQ := Lib.hid (CS.out ⟨xl, xh⟩ 0 1000000)
      rcases hb : spanB ⟨xl, xh⟩ 0 1000000 with _ | _ <;> rw [hb] at CQ hf
      · go_wp2_with fail
        refine (CQ.out _).mono ?_
        rintro e w1 ⟨rfl, hb1⟩
        obtain ⟨u1, rfl⟩ := ovr_next hb1
        clear hb1
        go_wp2_with fail
        go_ret
        exact ⟨by rw [hf.out]; rfl, HUW.out _⟩
      by_cases h2 : 31 < v
      · rw [decide_eq_true h2] at hf
        go_wp2_with fail
        refine (CQ.out _).mono ?_
        rintro e w1 ⟨rfl, hb1⟩
        obtain ⟨u1, rfl⟩ := ovr_next hb1
        clear hb1
        go_wp2_with fail
        go_ret
        exact ⟨by rw [hf.out]; rfl, HUW.out _⟩
      rw [decide_eq_false h2] at hf
      by_cases h3 : v = 0
      · rw [if_pos h3] at hf
        have h4 : (v == 0) = true := by simpa using h3
        go_wp2_with fail
        refine (CQ.out _).mono ?_
        rintro e w1 ⟨rfl, hb1⟩
        obtain ⟨u1, rfl⟩ := ovr_next hb1
        clear hb1
        go_wp2_with fail
        go_ret
        exact ⟨by rw [hf.out]; rfl, HUW.out _⟩
      rw [if_neg h3] at hf
      have h4 : (v == 0) = false := by simpa using h3
      go_wp2_with fail
      refine (CQ.out _).mono ?_
      rintro e w1 ⟨rfl, hb1⟩
      obtain ⟨u1, rfl⟩ := ovr_next hb1
      clear hb1
      go_wp2_with fail
      go_ret
      exact ⟨by rw [hf.out]; rfl, HUW.out _⟩
end Go.Proofs.Yteibgenkklpoaaa.Un
