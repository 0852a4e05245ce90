/- The law FinishNoBetter: its walk. -/
import Derived.Test.YtljjpidigckheaaNbp
import Derived.Test.YtljjpidigckheaaLtm
namespace Go.Proofs.Ytljjpidigckheaa.Un
open Go.RowKit
abbrev htA (A : Option Addr) (l n : Nat) (ta tb tc td a0 a1 a2 : Int) : Array Value := #[.slice A l n, .int .i16 ta, .int .i16 tb, .int .i32 tc, .int .u8 td, .int .i8 a0, .int .i8 a1, .int .i8 a2]
set_option maxRecDepth 100000 in
set_option maxHeartbeats 8000000 in
theorem finishNoBetter_any (WI HI : Int) (A : Option Addr) (n : Nat) (z : List Int) (ta tb tc td a0 a1 a2 : Int) (w : World) (_ : -9223372036854775808 ≤ WI ∧ WI ≤ 9223372036854775807) (_ : -9223372036854775808 ≤ HI ∧ HI ≤ 9223372036854775807) (hl : z.length ≤ n) (hq : n ≤ maxLen) (hx : Rd w w.heap.size 1 A z.length (rI z))
 (hb : (-32768 ≤ ta ∧ ta ≤ 32767) ∧ (-32768 ≤ tb ∧ tb ≤ 32767) ∧ (-2147483648 ≤ tc ∧ tc ≤ 2147483647) ∧ (0 ≤ td ∧ td ≤ 255) ∧ (-128 ≤ a0 ∧ a0 ≤ 127) ∧ (-128 ≤ a1 ∧ a1 ≤ 127) ∧ (-128 ≤ a2 ∧ a2 ≤ 127)) :
 Calls Try.prog 12 #[I WI, I HI, .agg (htA A z.length n ta tb tc td a0 a1 a2)] w fun e w' => e = .returned (.bool true) ∧ Below w.heap.size w w' := by
 have KN := Lib.hid known_any
 have HRD : Hid (∀ V, Below w.heap.size w V → Rd V w.heap.size 1 A z.length (rI z)) := fun V hV => hx.below hV
 have HM : Hid (z.length ≤ maxLen) := Nat.le_trans hl hq
 have HBD := Lib.hid hb
 obtain ⟨i4, hi4, kz0, kz1, kz2⟩ := info_parts int9_info
 obtain ⟨i3, hi3, jz0, jz1, jz2⟩ := info_parts rng9_info
 clear hx hl hq hb
 obtain ⟨W0, hW0⟩ : ∃ W0, W0 = (w.alloc (.cells #[.slice A z.length n, .int .i16 ta, .int .i16 tb, .int .i32 tc, .int .u8 td, .int .i8 a0, .int .i8 a1, .int .i8 a2] 101)) := ⟨_, rfl⟩
 have rowW00 : W0.heap[w.heap.size]? = some (.cells #[.slice A z.length n, .int .i16 ta, .int .i16 tb, .int .i32 tc, .int .u8 td, .int .i8 a0, .int .i8 a1, .int .i8 a2] 101 (0, 0)) := by rw [hW0]; exact heap_last _ _ _ rfl
 have yW000 := ovr_cell (W := W0) (b := w.heap.size) (o := 0) (v := .slice A z.length n) (by rw [cell_of_row _ _ _ _ _ _ rowW00]; rfl)
 have yW001 := ovr_cell (W := W0) (b := w.heap.size) (o := 1) (v := .int .i16 ta) (by rw [cell_of_row _ _ _ _ _ _ rowW00]; rfl)
 have yW002 := ovr_cell (W := W0) (b := w.heap.size) (o := 2) (v := .int .i16 tb) (by rw [cell_of_row _ _ _ _ _ _ rowW00]; rfl)
 have yW003 := ovr_cell (W := W0) (b := w.heap.size) (o := 3) (v := .int .i32 tc) (by rw [cell_of_row _ _ _ _ _ _ rowW00]; rfl)
 have yW004 := ovr_cell (W := W0) (b := w.heap.size) (o := 4) (v := .int .u8 td) (by rw [cell_of_row _ _ _ _ _ _ rowW00]; rfl)
 have yW005 := ovr_cell (W := W0) (b := w.heap.size) (o := 5) (v := .int .i8 a0) (by rw [cell_of_row _ _ _ _ _ _ rowW00]; rfl)
 have yW006 := ovr_cell (W := W0) (b := w.heap.size) (o := 6) (v := .int .i8 a1) (by rw [cell_of_row _ _ _ _ _ _ rowW00]; rfl)
 have yW007 := ovr_cell (W := W0) (b := w.heap.size) (o := 7) (v := .int .i8 a2) (by rw [cell_of_row _ _ _ _ _ _ rowW00]; rfl)
 have RrowW00 := Lib.hid (ovr_row rowW00)
 clear rowW00
 have HUW0 : Hid (∀ u, Below w.heap.size w (ovr W0 u)) := U1 hW0
 have HW0 := Lib.hid hW0
 clear hW0
 go_enter Try.func12, Try.ntmps12
 go_upto_region 1 with (fail)
 rw [← HW0.out]
 obtain ⟨u0, hu0⟩ := ovr_self W0
 rw [hu0]
 clear hu0
 have S0 : Hid (StL w [(w.heap.size, htA A z.length n ta tb tc td a0 a1 a2, 101)] (ovr W0 u0)) := ⟨HUW0.out u0, fun y hy => by
  rcases List.mem_cons.1 hy with rfl | hy
  · exact RrowW00.out u0
  cases hy⟩
 refine name_w fun V hV => ?_
 rw [← hV] at S0
 have hc0 := cell_of_row _ _ 0 _ _ _ S0.out.hd
 change _ = some (Value.slice A z.length n) at hc0
 clear hV HUW0 RrowW00 HW0 yW000 yW001 yW002 yW003 yW004 yW005 yW006 yW007
 by_cases c1 : z.length ≤ 36
 case neg =>
  have d0 : decide ((36 : Int) < (z.length : Int)) = true := decide_eq_true (by omega)
  clear c1
  go_wp2_with fail
  refine (KN.out _).mono ?_
  rintro e wk ⟨rfl, hb⟩
  have SK := Lib.hid (S0.out.below hb)
  clear hb
  go_wp2_with fail
  go_ret
  exact ⟨rfl, SK.out.1⟩
 have d0 : decide ((36 : Int) < (z.length : Int)) = false := decide_eq_false (by omega)
 have HC := Lib.hid c1
 clear c1
 go_upto_region 4 with fail
 clear d0 hc0
 go_wp2_with fail
 go_loopw [8] (fun iv wr => ∃ k : Nat, k ≤ z.length ∧ iv = .int .i64 k ∧ (∀ j, j < k → -100000 ≤ at0 z j ∧ at0 z j ≤ 100000) ∧ StL w [(w.heap.size, htA A z.length n ta tb tc td a0 a1 a2, 101)] wr) (fun iv _ => z.length - (intOf iv).toNat)
 case atStart => exact ⟨0, Nat.zero_le _, rfl, fun j hj => absurd hj (Nat.not_lt_zero _), S0.out⟩
 case round =>
  obtain ⟨k, hk, rfl, hall, hst⟩ := hrel
  rename World => Y
  have S := Lib.hid hst
  have HAL := Lib.hid hall
  clear hst S0 hall
  by_cases hlt : k < z.length
  case pos =>
   have HLT := Lib.hid hlt
   have ki : decide ((k : Int) < (z.length : Int)) = true := decide_eq_true (by omega)
   have k36 : k ≤ 36 := by have := HC.out; omega
   obtain ⟨zb, zo, rfl, _, e0⟩ := rd_int9 (HRD.out Y S.out.1) hlt
   have HZK : Hid (∀ v, at0 z k = v → -100000 ≤ v ∧ v ≤ 100000 → ∀ j, j < k + 1 → -100000 ≤ at0 z j ∧ at0 z j ≤ 100000) := fun v hv hb j hj => by
        rcases Nat.lt_or_ge j k with h | h
        · exact HAL.out j h
        · obtain rfl : j = k := by omega
          omega
   obtain ⟨zk, hzk⟩ : ∃ v, at0 z k = v := ⟨_, rfl⟩
   have HN := Lib.hid (HZK.out zk hzk)
   rw [hzk] at e0
   clear hzk HZK hk
   by_cases h1 : zk < -100000
   · have d1 : decide (zk < -100000) = true := decide_eq_true h1
     clear h1
     go_wp2_with fail
     refine (KN.out _).mono ?_
     rintro e wk ⟨rfl, hb⟩
     have SK := Lib.hid (S.out.below hb)
     clear hb
     go_wp2_with fail
     go_ret
     exact ⟨rfl, SK.out.1⟩
   have d1 : decide (zk < -100000) = false := decide_eq_false h1
   by_cases h2 : 100000 < zk
   · have d2 : decide (100000 < zk) = true := decide_eq_true h2
     clear h2 h1
     go_wp2_with fail
     refine (KN.out _).mono ?_
     rintro e wk ⟨rfl, hb⟩
     have SK := Lib.hid (S.out.below hb)
     clear hb
     go_wp2_with fail
     go_ret
     exact ⟨rfl, SK.out.1⟩
   have d2 : decide (100000 < zk) = false := decide_eq_false h2
   have HN2 := Lib.hid (HN.out ⟨by omega, by omega⟩)
   clear h1 h2 HN
   go_wp2_with fail
   go_roundw
   case rel => exact ⟨k + 1, HLT.out, by go_num, HN2.out, S.out⟩
   case measure => have := HLT.out; simp [intOf]; omega
  obtain rfl : k = z.length := by omega
  have ki : decide ((z.length : Int) < (z.length : Int)) = false := decide_eq_false (by omega)
  clear hk hlt
  go_upto_region 9 with fail
  clear ki
  go_wp2_with (with_reducible show wpList _ _ _ (⟨some 53, _, _, _, _, _⟩ :: _) _ _; refine Hid.out ?_)
  refine Lib.hid ?_
  refine wpList_app_litM rfl _ _ 30 rfl 3 i4 _ 1 8 Try.underlying30 hi4 kz0 kz1 kz2 rfl (by decide) _ rfl _ _ _ rfl (rI z) ((HRD.out _ (S.out.below ((Below.refl _ _).alloc (Nat.le_refl _) _)).1).more (S.out.below ((Below.refl _ _).alloc (Nat.le_refl _) _)).1.size) (by have := HC.out; omega) (by decide) 0 (Nat.zero_le _) ?_
  intro A2 q2 w2 hr2 hb2
  simp only [Act.put, List.setIfInBounds_toArray, List.set_cons_zero, List.set_cons_succ]
  have hb12 : Below Y.heap.size Y w2 := ((Below.refl _ _).alloc (Nat.le_refl _) _ : Below Y.heap.size Y _).trans (hb2.mono (by simp))
  have S2 := Lib.hid (S.out.below hb12)
  have CB := Lib.hid (best_any WI HI z A2 q2 w2.heap.size w2 (by have := HC.out; omega) (Nat.le_refl _) hr2)
  clear hr2 hb2 hb12 S
  go_wp2_with fail
  refine CB.out.mono ?_
  rintro e w3 ⟨⟨P, f, er, rfl, hok⟩, hb⟩
  have S3 := Lib.hid (S2.out.below hb)
  have HOK := Lib.hid hok
  clear hb hok S2 CB
  go_upto_region 10 with (with_reducible show wpList _ _ _ _ _ _; refine wpList_store_row rfl 51 _ _ rfl w3.heap.size rfl _ _ (heap_last _ _ _ rfl) (tiA P f) rfl (by simp [Value.oneCell']) rfl (by kernel_rfl) ?_)
  have S4 := Lib.hid (S3.out.put #[I 0, I 0, I 0, I 0, I 0, I 0] (tiA P f) 51)
  have hlw := lt_of_row S3.out.hd
  obtain ⟨PT, hPT⟩ : ∃ q, q = w3.heap.size := ⟨_, rfl⟩
  rw [← hPT] at hlw
  have HPT := Lib.hid hlw
  refine name_w fun W4 hW4 => ?_
  rw [← hW4] at S4
  rw [← hPT] at S4 ⊢
  clear hW4 hPT S3 hlw
  rcases ho : okSh (bsX WI HI z) with _ | _
  case false =>
   obtain ⟨e1, e2, e3⟩ : er = 2 ∧ P = ⟨0, 0, 0, 0⟩ ∧ f = ⟨0, 0⟩ := by
        rcases HOK.out with h | h
        · rw [ho] at h; exact absurd h.1 (by decide)
        · exact h.2
   subst e1 e2 e3
   clear ho
   have t0 : W4.cell? ⟨PT, 0, none⟩ = some (I 0) := (cell_of_row _ _ 0 _ _ _ S4.out.hd).trans rfl
   have t1 : W4.cell? ⟨PT, 1, none⟩ = some (I 0) := (cell_of_row _ _ 1 _ _ _ S4.out.hd).trans rfl
   have t2 : W4.cell? ⟨PT, 2, none⟩ = some (I 0) := (cell_of_row _ _ 2 _ _ _ S4.out.hd).trans rfl
   have t3 : W4.cell? ⟨PT, 3, none⟩ = some (I 0) := (cell_of_row _ _ 3 _ _ _ S4.out.hd).trans rfl
   have t4 : W4.cell? ⟨PT, 4, none⟩ = some (I 0) := (cell_of_row _ _ 4 _ _ _ S4.out.hd).trans rfl
   have t5 : W4.cell? ⟨PT, 5, none⟩ = some (I 0) := (cell_of_row _ _ 5 _ _ _ S4.out.hd).trans rfl
   go_wp2_with fail
   refine (KN.out _).mono ?_
   rintro e wk ⟨rfl, hb⟩
   have SK := Lib.hid (S4.out.below hb)
   clear hb
   go_wp2_with fail
   go_ret
   exact ⟨rfl, SK.out.1⟩
  obtain ⟨e1, hpd, hip, hff, hnr⟩ : er = 0 ∧ 0 < P.d ∧ InP P ∧ f = bsD WI z ∧ near9 P (gridL WI.toNat z.length) (at0 z) f = true := by
   rcases HOK.out with h | h
   · exact h.2
   · rw [ho] at h; exact absurd h.1 (by decide)
  subst e1
  obtain ⟨WW, HH, eW, eH, bW, bH, eL2⟩ := sh_nat ho
  change WI = _ at eW
  change HI = _ at eH
  change (exR z).length = _ at eL2
  rw [exR_len] at eL2
  subst eW eH
  have HO := Lib.hid ho
  have HEL := Lib.hid eL2
  have HWH := Lib.hid (And.intro bW bH)
  have HIH := Lib.hid (bs_h ho)
  have HFF := Lib.hid hff
  have HFK : Hid (fok f = true) := by show _ = _; rw [hff]; exact bsD_fok ho
  have HFN : Hid (0 ≤ f.n) := by show _ ≤ _; rw [hff]; exact bsD_nn _ _
  have HPD := Lib.hid hpd
  have b1 : decide ((WW : Int) < 2) = false := decide_eq_false (by omega)
  have b2 : decide ((6 : Int) < (WW : Int)) = false := decide_eq_false (by omega)
  have b3 : decide ((HH : Int) < 2) = false := decide_eq_false (by omega)
  have b4 : decide ((6 : Int) < (HH : Int)) = false := decide_eq_false (by omega)
  have b5 : IntKind.i64.wrap ((WW : Int) * (HH : Int)) = (z.length : Int) := by
   rw [eL2, Int.natCast_mul]
   have := mul_bd (a := (WW : Int)) (b := (HH : Int)) (A := 6) (B := 6) (by omega) (by omega)
   exact IntWalk.i64_in _ (by omega)
  have b6 : ((z.length : Int) != (z.length : Int)) = false := bne_self_eq_false _
  clear hff hnr hip hpd ho eL2 bW bH HOK
  go_upto_region 12 with fail
  clear b1 b2 b3 b4 b5 b6
  have hbd := HBD.out
  have k1 : IntKind.i64.wrap ta = ta := IntWalk.i64_in _ (by omega)
  have k2 : IntKind.i64.wrap tb = tb := IntWalk.i64_in _ (by omega)
  have k3 : IntKind.i64.wrap tc = tc := IntWalk.i64_in _ (by omega)
  have k4 : IntKind.i64.wrap td = td := IntWalk.i64_in _ (by omega)
  have k5 : IntKind.i64.wrap (1 + td) = 1 + td := IntWalk.i64_in _ (by omega)
  have h1 : W4.cell? ⟨w.heap.size, 1, none⟩ = some (.int .i16 ta) := (cell_of_row _ _ 1 _ _ _ S4.out.tail.hd).trans rfl
  have h2 : W4.cell? ⟨w.heap.size, 2, none⟩ = some (.int .i16 tb) := (cell_of_row _ _ 2 _ _ _ S4.out.tail.hd).trans rfl
  have h3 : W4.cell? ⟨w.heap.size, 3, none⟩ = some (.int .i32 tc) := (cell_of_row _ _ 3 _ _ _ S4.out.tail.hd).trans rfl
  have h4 : W4.cell? ⟨w.heap.size, 4, none⟩ = some (.int .u8 td) := (cell_of_row _ _ 4 _ _ _ S4.out.tail.hd).trans rfl
  clear hbd
  go_upto_region 13 with fail
  clear k1 k2 k3 k4 k5 h1 h2 h3 h4
  obtain ⟨tp, htp⟩ : ∃ q : Pln, q = ⟨ta, tb, tc, 1 + td⟩ := ⟨_, rfl⟩
  have hpl := lt_of_row S4.out.hd
  obtain ⟨PU, hPU⟩ : ∃ q, q = W4.heap.size := ⟨_, rfl⟩
  obtain ⟨W6, hW6⟩ : ∃ V, V = W4.alloc (.cells #[I ta, I tb, I tc, I (1 + td), I 0, I 0] 51) := ⟨_, rfl⟩
  have S6 : Hid (StL w [(PU, tiA tp ⟨0, 0⟩, 51), (PT, tiA P f, 51), (w.heap.size, htA A z.length n ta tb tc td a0 a1 a2, 101)] W6) := by
   refine StL.cons (S4.out.below (by rw [hW6]; exact (Below.refl _ _).alloc (Nat.le_refl _) _)) ?_
   rw [hW6, htp]
   exact heap_last _ _ _ hPU
  rw [← hPU, ← hW6]
  have HTP : Hid (InP tp ∧ 0 < tp.d ∧ tp.d ≤ 256) := by
   have := HBD.out
   show _ ∧ _
   rw [htp]
   unfold InP
   simp only
   omega
  clear hPU hW6 S4 hpl htp
  have HAW : Hid (∀ V, Below w.heap.size w V → Calls Try.prog 30 #[I (WW : Int), .slice A z.length n, .agg (tiA tp ⟨0, 0⟩)] V fun e w' => e = .returned (I (awK WW z tp z.length)) ∧ Below V.heap.size V w') := fun V hV => away_any WW HH z tp ⟨0, 0⟩ A n V w.heap.size HTP.out.1 ⟨by have := HWH.out; omega, HWH.out.1.2⟩ HWH.out.2.2 HEL.out HIH.out hV.size (HRD.out V hV)
  have hab : 0 ≤ awK WW z tp z.length ∧ awK WW z tp z.length ≤ 1000000000000000 := ⟨awK_nonneg _ _ _ _, awK_bd HTP.out.1 ⟨by have := HWH.out; omega, HWH.out.1.2⟩ HWH.out.2.2 HEL.out HIH.out _ (Nat.le_refl _)⟩
  have hbt := bs_better (p := tp) HO.out HTP.out.2.1
  rw [← HFF.out] at hbt
  obtain ⟨N, hN⟩ : ∃ N, awK WW z tp z.length = N := ⟨_, rfl⟩
  rw [hN] at HAW hab hbt
  have hfk : fok ⟨N, tp.d⟩ = true := fok_iff.2 (by have := HTP.out; simp only; omega)
  obtain ⟨hc2, hc1⟩ := co_ge hfk HFK.out hbt
  obtain ⟨cn, hcn⟩ : ∃ c, coF ⟨N, tp.d⟩ f = c := ⟨_, rfl⟩
  rw [hcn] at hc1 hc2
  have CC : Hid (∀ V, Calls Try.prog 45 #[.agg #[I N, I tp.d], .agg #[I f.n, I f.d]] V fun e w' => e = .returned (.tuple #[I cn.1, I 0]) ∧ Below V.heap.size V w') := fun V => by
   have := compare_any ⟨N, tp.d⟩ f V
   rw [hcn, hc2] at this
   exact this
  have d1 : decide (cn.1 < 0) = false := decide_eq_false (by omega)
  clear hN hab hbt hfk hc1 hc2 hcn
  have f0 : ∀ u, (ovr W6 u).cell? ⟨PU, 0, none⟩ = some (I tp.a) := cell_row9 S6.out.hd (j := 0) rfl
  have f1 : ∀ u, (ovr W6 u).cell? ⟨PU, 1, none⟩ = some (I tp.b) := cell_row9 S6.out.hd (j := 1) rfl
  have f2 : ∀ u, (ovr W6 u).cell? ⟨PU, 2, none⟩ = some (I tp.c) := cell_row9 S6.out.hd (j := 2) rfl
  have f3 : ∀ u, (ovr W6 u).cell? ⟨PU, 3, none⟩ = some (I tp.d) := cell_row9 S6.out.hd (j := 3) rfl
  have f4 : ∀ u, (ovr W6 u).cell? ⟨PU, 4, none⟩ = some (I 0) := cell_row9 S6.out.hd (j := 4) rfl
  have f5 : ∀ u, (ovr W6 u).cell? ⟨PU, 5, none⟩ = some (I 0) := cell_row9 S6.out.hd (j := 5) rfl
  have f6 : ∀ u, (ovr W6 u).cell? ⟨PT, 4, none⟩ = some (I f.n) := cell_row9 S6.out.tail.hd (j := 4) rfl
  have f7 : ∀ u, (ovr W6 u).cell? ⟨PT, 5, none⟩ = some (I f.d) := cell_row9 S6.out.tail.hd (j := 5) rfl
  refine Dm.wp_region_late 13 [12] (fun j => if j = 3 then some (fun u _ => u = I N) else if j = 9 then some (fun u _ => u = .tuple #[I cn.1, I 0]) else none) (by kernel_rfl) (by kernel_rfl) (by kernel_rfl) (by kernel_rfl) [] (E := 24) ⟨by kernel_rfl, alloc_rng9, fun j hj => by cases hj⟩ (by kernel_rfl) (fun i hi => by simp only [List.mem_cons, List.not_mem_nil, or_false] at hi; rcases hi with rfl; rfl) (fun c a d v w h => by cases d <;> exact h) (by kernel_rfl) ?_
  simp only [List.take_succ_cons, List.take_zero, List.drop_succ_cons, List.drop_zero]
  repeat (first | (refine Dk.wpG_one rfl rfl rfl ?_; intro K hK; go_big_quiet_op; go_big_quiet_on) | (refine Dk.wpG_skip rfl ?_; simp only [Act.put, List.setIfInBounds_toArray, List.set_cons_zero, List.set_cons_succ]))
  refine Dk.wpG_make (fun u _ => u = I N) rfl rfl (fun w' hw' hk => ?_) (fun u hu => ?_)
  · obtain ⟨y, rfl⟩ := hw'
    go_simp
    exact call_grow (HAW.out _ (S6.out.below (ovr_below W6 y)).1)
  obtain ⟨_, _, rfl⟩ := hu
  simp only [Act.put, List.setIfInBounds_toArray, List.set_cons_zero, List.set_cons_succ]
  repeat (first | (refine Dk.wpG_one rfl rfl rfl ?_; intro K hK; go_big_quiet_op; go_big_quiet_on) | (refine Dk.wpG_skip rfl ?_; simp only [Act.put, List.setIfInBounds_toArray, List.set_cons_zero, List.set_cons_succ]))
  refine Dk.wpG_make (fun u _ => u = .tuple #[I cn.1, I 0]) rfl rfl (fun w' hw' hk => ?_) (fun u hu => ?_)
  · go_simp
    exact call_grow (CC.out w')
  obtain ⟨_, _, rfl⟩ := hu
  simp only [Act.put, List.setIfInBounds_toArray, List.set_cons_zero, List.set_cons_succ]
  repeat (first | (refine Dk.wpG_one rfl rfl rfl ?_; intro K hK; go_big_quiet_op; go_big_quiet_on) | (refine Dk.wpG_skip rfl ?_; simp only [Act.put, List.setIfInBounds_toArray, List.set_cons_zero, List.set_cons_succ]))
  refine Dk.wpG_nil (fun w5 hw5 hG => ?_)
  have S7 := Lib.hid (S6.out.below hw5.le)
  clear hG hw5 f0 f1 f2 f3 f4 f5 f6 f7 S6 HAW CC
  refine Dl.wpTailH_cons (wp_assign _ (I cn.1) rfl rfl ⟨trivial, ?_⟩)
  refine Dl.wpTailH_cons (wp_assign _ (I 0) rfl rfl ⟨trivial, ?_⟩)
  refine Dl.wpTailH_nil ?_
  simp only [Act.put, List.setIfInBounds_toArray, List.set_cons_zero, List.set_cons_succ]
  have t3 : w5.cell? ⟨PT, 3, none⟩ = some (I P.d) := (cell_of_row _ _ 3 _ _ _ S7.out.tail.hd).trans rfl
  have t4 : w5.cell? ⟨PT, 4, none⟩ = some (I f.n) := (cell_of_row _ _ 4 _ _ _ S7.out.tail.hd).trans rfl
  have d2 : decide (f.n < 0) = false := decide_eq_false (by have := HFN.out; omega)
  have d3 : decide (P.d < 1) = false := decide_eq_false (by have := HPD.out; omega)
  go_upto_region 16 with fail
  clear t3 t4 d1 d2 d3
  go_upto_region 17 with fail
  obtain ⟨BB, hBB⟩ : ∃ q, q = w5.heap.size := ⟨_, rfl⟩
  obtain ⟨X, hX⟩ : ∃ Z, Z = (w5.alloc (.cells #[] 3)).alloc (.cells #[] 3) := ⟨_, rfl⟩
  have HT0 : Hid (Tw2 w BB (.slice (some ⟨BB, 0, none⟩) 0 0) (.slice (some ⟨BB + 1, 0, none⟩) 0 0) (fun i => -(at0 z i)) (fun i => at0 z i + a0 * ((i : Int) % (WW : Int)) + a1 * ((i : Int) / (WW : Int)) + a2) 0 [(PU, tiA tp ⟨0, 0⟩, 51), (PT, tiA P f, 51), (w.heap.size, htA A z.length n ta tb tc td a0 a1 a2, 101)] X) := by
   have hbX : Below w5.heap.size w5 X := by rw [hX]; exact ((Below.refl _ _).alloc (Nat.le_refl _) _).alloc (by simp) _
   refine ⟨S7.out.below hbX, fun x hx => by rw [hBB]; exact lt_of_row (S7.out.2 x hx), ⟨by rw [hBB]; exact S7.out.1.size, by rw [hBB]; exact hbX.size⟩, ?_, ?_, ?_⟩
   · refine own_lit0 ?_ (Nat.le_refl _)
     rw [hX]
     exact heap_before (heap_last _ _ _ hBB)
   · refine own_lit0 ?_ (Nat.le_succ _)
     rw [hX]
     exact heap_last _ _ _ (by simp [hBB])
   · intro b hb he
     simp [Value.ownBlock] at hb he
     omega
  rw [← hBB, ← hX]
  clear hBB hX S7
  go_wp2_with fail
  go_loopw [15, 13, 14] (fun iv va vb wr => ∃ k : Nat, k ≤ z.length ∧ iv = .int .i64 k ∧ Tw2 w BB va vb (fun i => -(at0 z i)) (fun i => at0 z i + a0 * ((i : Int) % (WW : Int)) + a1 * ((i : Int) / (WW : Int)) + a2) k [(PU, tiA tp ⟨0, 0⟩, 51), (PT, tiA P f, 51), (w.heap.size, htA A z.length n ta tb tc td a0 a1 a2, 101)] wr) (fun iv _ _ _ => z.length - (intOf iv).toNat)
  case atStart => exact ⟨0, Nat.zero_le _, rfl, HT0.out⟩
  case round =>
   obtain ⟨k, hk, rfl, hst⟩ := hrel
   rename World => Y
   have S := Lib.hid hst
   clear hst HT0
   by_cases hlt : k < z.length
   case pos =>
        have HLT := Lib.hid hlt
        have ki : decide ((k : Int) < (z.length : Int)) = true := decide_eq_true (by omega)
        have kin : k < z.length := hlt
        have k36 : k ≤ 36 := by have := HC.out; omega
        obtain ⟨zb, zo, hzA, hzb, e0⟩ := rd_int9 (HRD.out Y S.out.st.1) hlt
        have hzr := HAL.out k hlt
        have hg := gPt_in (W := WW) (H := HH) (i := k) ⟨by have := HWH.out; omega, HWH.out.1.2⟩ HWH.out.2.2 (by have := HEL.out; omega)
        unfold InG at hg
        change (0 ≤ ((k % WW : Nat) : Int) ∧ ((k % WW : Nat) : Int) ≤ 5) ∧ (0 ≤ ((k / WW : Nat) : Int) ∧ ((k / WW : Nat) : Int) ≤ 5) ∧ _ at hg
        rw [Int.natCast_emod, Int.natCast_ediv] at hg
        obtain ⟨zk, hzk⟩ : ∃ v, at0 z k = v := ⟨_, rfl⟩
        obtain ⟨XX, hXX⟩ : ∃ v, (k : Int) % (WW : Int) = v := ⟨_, rfl⟩
        obtain ⟨ZZ, hZZ⟩ : ∃ v, (k : Int) / (WW : Int) = v := ⟨_, rfl⟩
        obtain ⟨ad, had⟩ : ∃ v, zk + a0 * XX + a1 * ZZ + a2 = v := ⟨_, rfl⟩
        have HAD : Hid (at0 z k + a0 * ((k : Int) % (WW : Int)) + a1 * ((k : Int) / (WW : Int)) + a2 = ad) := by show _ = _; rw [hzk, hXX, hZZ, had]
        have HZN : Hid (-(at0 z k) = -zk) := by show _ = _; rw [hzk]
        rw [hzk] at e0 hzr
        rw [hXX, hZZ] at hg
        have hbd := HBD.out
        have m1 := mul_bd (a := a0) (b := XX) (A := 128) (B := 5) (by omega) (by omega)
        have m2 := mul_bd (a := a1) (b := ZZ) (A := 128) (B := 5) (by omega) (by omega)
        have w0 : ((WW : Int) = 0) = False := by have := HWH.out; simp; omega
        have w1 : (WW = 0) = False := by have := HWH.out; simp; omega
        have k1 : IntKind.i64.wrap a0 = a0 := IntWalk.i64_in _ (by omega)
        have k2 : IntKind.i64.wrap a1 = a1 := IntWalk.i64_in _ (by omega)
        have k3 : IntKind.i64.wrap a2 = a2 := IntWalk.i64_in _ (by omega)
        have k4 : IntKind.i64.wrap (a0 * XX) = a0 * XX := IntWalk.i64_in _ (by omega)
        have k5 : IntKind.i64.wrap (a1 * ZZ) = a1 * ZZ := IntWalk.i64_in _ (by omega)
        have k6 : IntKind.i64.wrap (zk + a0 * XX) = zk + a0 * XX := IntWalk.i64_in _ (by omega)
        have k7 : IntKind.i64.wrap (zk + a0 * XX + a1 * ZZ) = zk + a0 * XX + a1 * ZZ := IntWalk.i64_in _ (by omega)
        have k8 : IntKind.i64.wrap (zk + a0 * XX + a1 * ZZ + a2) = ad := (IntWalk.i64_in _ (by omega)).trans had
        have k9 : wrap64 (-zk) = -zk := by unfold wrap64; omega
        have k10 : wrap64 ZZ = ZZ := by unfold wrap64; omega
        have k11 : wrap64 XX = XX := by unfold wrap64; omega
        have k12 : IntKind.i64.wrap XX = XX := IntWalk.i64_in _ (by omega)
        have k13 : IntKind.i64.wrap ZZ = ZZ := IntWalk.i64_in _ (by omega)
        have hr := S.out.st.tail.tail.hd
        have c5 : Y.cell? ⟨w.heap.size, 5, none⟩ = some (.int .i8 a0) := (cell_of_row _ _ 5 _ _ _ hr).trans rfl
        have c6 : Y.cell? ⟨w.heap.size, 6, none⟩ = some (.int .i8 a1) := (cell_of_row _ _ 6 _ _ _ hr).trans rfl
        have c7 : Y.cell? ⟨w.heap.size, 7, none⟩ = some (.int .i8 a2) := (cell_of_row _ _ 7 _ _ _ hr).trans rfl
        have hvl := S.out.oa.lt
        have hBw := S.out.lt (w.heap.size, htA A z.length n ta tb tc td a0 a1 a2, 101) (.tail _ (.tail _ (.head _)))
        change w.heap.size < BB at hBw
        subst hzA
        obtain ⟨L, hL1, hL2, happ⟩ := app_pre (P := Try.prog) 30 30 3 i4 _ 1 8 Try.underlying30 hi4 kz0 kz1 kz2 rfl (by decide) Y BB u13 _ _ S.out.oa S.out.hb.2 [I (-zk)] rfl (by simp [Value.oneCell']) (by omega) (by decide)
        have nz : some zb ≠ u13.ownBlock := fun e => by have := (hvl _ e.symm).1; omega
        have nw : some w.heap.size ≠ u13.ownBlock := fun e => by have := (hvl _ e.symm).1; omega
        have y0 := pl_cell hL2 e0 nz
        have y1 := pl_cell hL2 c5 nw
        have y2 := pl_cell hL2 c6 nw
        have y3 := pl_cell hL2 c7 nw
        have HL := Lib.hid (And.intro hL1 hL2)
        have HAP := Lib.hid happ
        have HVL : Hid (∀ k, u13.ownBlock = some k → k < Y.heap.size) := fun k hk => (hvl k hk).2
        clear hzk hzr hg had hbd m1 m2 c5 c6 c7 hBw e0 hzb nz nw hL1 hL2 hk
        go_upto_region 20 with fail
        refine Pr.wp_region_seqP L 37 (fun j => if j = 6 then some (SlN Y #[I (-zk)] 3 1) else if j = 7 then some (fun u w => w.ownsRow BB 3 1 u (k + 1) (((List.range k).map fun i => I (-(at0 z i))) ++ [I (-zk)]) ∧ (u.ownBlock = u13.ownBlock ∨ ∃ k, u.ownBlock = some k ∧ Y.heap.size ≤ k)) else if j = 36 then some (SlN Y #[I ad] 3 1) else none) (HL.out.1 _ _ (Below.refl _ _).drew) (by kernel_rfl) (by kernel_rfl) (by kernel_rfl) (by kernel_rfl) (by kernel_rfl) ?_
        simp only [List.take_succ_cons, List.take_zero, List.drop_succ_cons, List.drop_zero]
        repeat (first | (refine Pr.wpG_one rfl rfl rfl ?_; intro K hK; go_big_quiet_op; go_big_quiet_on) | (refine Pr.wpG_skip rfl ?_; simp only [Act.put, List.setIfInBounds_toArray, List.set_cons_zero, List.set_cons_succ]))
        refine Pr.wpG_make (SlN Y #[I (-zk)] 3 1) rfl rfl (fun w' hw' hk => ?_) (fun u hu => ?_)
        · unfold Pr.grows
          go_simp
          exact slp_grow HL.out.1 HL.out.2 HVL.out hw'
        obtain ⟨_, _, SB, rfl, _, _⟩ := hu
        simp only [Act.put, List.setIfInBounds_toArray, List.set_cons_zero, List.set_cons_succ]
        repeat (first | (refine Pr.wpG_one rfl rfl rfl ?_; intro K hK; go_big_quiet_op; go_big_quiet_on) | (refine Pr.wpG_skip rfl ?_; simp only [Act.put, List.setIfInBounds_toArray, List.set_cons_zero, List.set_cons_succ]))
        refine Pr.wpG_make (fun u w => w.ownsRow BB 3 1 u (k + 1) (((List.range k).map fun i => I (-(at0 z i))) ++ [I (-zk)]) ∧ (u.ownBlock = u13.ownBlock ∨ ∃ k, u.ownBlock = some k ∧ Y.heap.size ≤ k)) rfl rfl (fun w' hw' hk => ?_) (fun u hu => ?_)
        · have h4 := (hk ⟨6, .data⟩ (by simp) rfl _ _ _ rfl rfl rfl (by simp) rfl).now.at
          obtain ⟨v', w1, e1, e2, e3⟩ := HAP.out w' hw' ⟨SB, 0, none⟩ 1 (news_lit h4.1)
          exact app_grows _ _ 30 rfl u13 _ v' rfl rfl w1 e1 e2 e3
        obtain ⟨va2, rfl⟩ : ∃ v, v = u := ⟨_, rfl⟩
        clear hu
        simp only [Act.put, List.setIfInBounds_toArray, List.set_cons_zero, List.set_cons_succ]
        repeat (first | (refine Pr.wpG_one rfl rfl rfl ?_; intro K hK; go_big_quiet_op; go_big_quiet_on) | (refine Pr.wpG_skip rfl ?_; simp only [Act.put, List.setIfInBounds_toArray, List.set_cons_zero, List.set_cons_succ]))
        refine Pr.wpG_make (SlN Y #[I ad] 3 1) rfl rfl (fun w' hw' hk => ?_) (fun u hu => ?_)
        · unfold Pr.grows
          go_simp
          exact slp_grow HL.out.1 HL.out.2 HVL.out hw'
        obtain ⟨_, _, TB, rfl, _, _⟩ := hu
        simp only [Act.put, List.setIfInBounds_toArray, List.set_cons_zero, List.set_cons_succ]
        repeat (first | (refine Pr.wpG_one rfl rfl rfl ?_; intro K hK; go_big_quiet_op; go_big_quiet_on) | (refine Pr.wpG_skip rfl ?_; simp only [Act.put, List.setIfInBounds_toArray, List.set_cons_zero, List.set_cons_succ]))
        refine Pr.wpG_nil (fun w5 hw5 hG => ?_)
        have hO1 := hG.1.2.now
        have hB1 := hG.2.now.at
        have hgr := HL.out.2 _ _ hw5.le
        have hob := own_other S.out.ob hgr (fun b hb e => S.out.ap b hb e)
        have hbs : BB ≤ _ := Nat.le_trans S.out.hb.2 hgr.size
        clear hG hw5 y0 y1 y2 y3 HL HAP HVL k1 k2 k3 k4 k5 k6 k7 k8 k9 k10 k11 k12 k13 w0 w1
        refine wpTailIn_cons Wd.wide (by intro c h; cases h) ?_
        refine wp_app_own _ _ 30 rfl BB 3 i4 _ 1 8 Try.underlying30 hi4 kz0 kz1 kz2 rfl (by decide) u14 _ _ rfl hob ⟨TB, 0, none⟩ 1 [I ad] rfl rfl (news_lit hB1.1) (by simp [Value.oneCell']) (by omega) (by decide) hbs (fun vb2 w6 hO2 hg6 hOb2 => ?_)
        have hO1a := hO1.1
        rw [← HZN.out] at hO1a
        rw [← HAD.out] at hO2
        have HFIN := Lib.hid (S.out.done hgr hO1a hO1.2 hO2 hg6 hOb2)
        clear hO1a hO1 hO2 hg6 hOb2 hB1 hgr hob hbs S
        refine wpTailIn_cons Wd.wide (by intro c h; cases h) ?_
        unfold Oper.wp
        go_simp
        refine wpTailIn_cons Wd.wide (by intro c h; cases h) ?_
        unfold Oper.wp
        go_simp
        refine wpTailIn_nil ?_
        (try simp only [Act.put, List.setIfInBounds_toArray, List.set_cons_zero, List.set_cons_succ])
        go_wp2_with fail
        go_roundw
        case rel => exact ⟨k + 1, HLT.out, by go_num, HFIN.out⟩
        case measure => have := HLT.out; simp [intOf]; omega
   obtain rfl : k = z.length := by omega
   have ki : decide ((z.length : Int) < (z.length : Int)) = false := decide_eq_false (by omega)
   clear hk hlt
   have S8 := Lib.hid S.out.st
   obtain ⟨DA, dc, rfl, hrd⟩ := own_map S.out.oa
   obtain ⟨EA, ec, rfl, hre⟩ := own_map S.out.ob
   obtain ⟨zd, hzd⟩ : ∃ l, l = dnL z := ⟨_, rfl⟩
   obtain ⟨ze, hze⟩ : ∃ l, l = adL WW a0 a1 a2 z := ⟨_, rfl⟩
   have hdl : zd.length = z.length := by rw [hzd]; exact dnL_len z
   have hel : ze.length = z.length := by rw [hze]; exact adL_len WW a0 a1 a2 z
   have HRZ : Hid (∀ V, Below Y.heap.size Y V → Rd V Y.heap.size 1 DA z.length (rI zd) ∧ Rd V Y.heap.size 1 EA z.length (rI ze)) := fun V hV => by
        rw [hzd, hze]
        exact ⟨hrd.below hV, hre.below hV⟩
   have HZD : Hid (okSh (bsX (WW : Int) (HH : Int) zd) = true ∧ bsD (WW : Int) zd = f) := by
        show _ ∧ _
        rw [hzd]
        exact ⟨bs_ok HO.out (dnL_len z) (dnL_h HIH.out), (bs_down HO.out).trans HFF.out.symm⟩
   have HZE : Hid (okSh (bsX (WW : Int) (HH : Int) ze) = true ∧ bsD (WW : Int) ze = f) := by
        show _ ∧ _
        rw [hze]
        exact ⟨bs_ok HO.out (adL_len WW a0 a1 a2 z) (adL_h ⟨by have := HWH.out; omega, HWH.out.1.2⟩ HWH.out.2.2 HEL.out (by have := HBD.out; omega) HAL.out), (bs_added HO.out).trans HFF.out.symm⟩
   have HB9 : Hid (∀ zx : List Int, zx.length = z.length → okSh (bsX (WW : Int) (HH : Int) zx) = true ∧ bsD (WW : Int) zx = f → ∀ V XA xc, Rd V V.heap.size 1 XA z.length (rI zx) → Calls Try.prog 28 #[I (WW : Int), I (HH : Int), .slice XA z.length xc] V fun e w' => (∃ P : Pln, e = .returned (.tuple #[.agg #[I P.a, I P.b, I P.c, I P.d, I f.n, I f.d], I 0])) ∧ Below V.heap.size V w') := fun zx hlx hx V XA xc hr => by
        have hc := best_any (WW : Int) (HH : Int) zx XA xc V.heap.size V (by rw [hlx]; have := HC.out; omega) (Nat.le_refl _) (by rw [hlx]; exact hr)
        rw [hlx] at hc
        refine hc.mono fun e w' h => ⟨?_, h.2⟩
        obtain ⟨⟨P, g, er, he, hok⟩, _⟩ := h
        rcases hok with h | h
        · obtain ⟨_, h1, _, _, h2, _⟩ := h
          have h3 : g = f := h2.trans hx.2
          subst h1 h3
          exact ⟨P, he⟩
        · rw [hx.1] at h
          exact absurd h.1 (by decide)
   have HLD := Lib.hid (And.intro hdl hel)
   clear hrd hre hzd hze hdl hel S
   go_upto_region 21 with fail
   clear ki
   have CD := Lib.hid (HB9.out zd HLD.out.1 HZD.out Y DA dc (HRZ.out Y (Below.refl _ _)).1)
   go_wp2_with fail
   refine CD.out.mono ?_
   rintro e w7 ⟨⟨P1, rfl⟩, hb⟩
   have S9 := Lib.hid (S8.out.below hb)
   have HBY := Lib.hid hb
   clear hb S8 CD
   go_upto_region 22 with (with_reducible show wpList _ _ _ _ _ _; refine wpList_store_row rfl 51 _ _ rfl w7.heap.size rfl _ _ (heap_last _ _ _ rfl) (tiA P1 f) rfl (by simp [Value.oneCell']) rfl (by kernel_rfl) ?_)
   have S10 := Lib.hid (S9.out.put #[I 0, I 0, I 0, I 0, I 0, I 0] (tiA P1 f) 51)
   have HBY2 := Lib.hid (HBY.out.trans ((put_bel w7 #[I 0, I 0, I 0, I 0, I 0, I 0] (tiA P1 f) 51).mono HBY.out.size))
   obtain ⟨PV, hPV⟩ : ∃ q, q = w7.heap.size := ⟨_, rfl⟩
   refine name_w fun W8 hW8 => ?_
   rw [← hW8] at S10 HBY2
   rw [← hPV] at S10 ⊢
   clear hW8 hPV S9 HBY
   have CE := Lib.hid (HB9.out ze HLD.out.2 HZE.out W8 EA ec ((HRZ.out W8 HBY2.out).2.more HBY2.out.size))
   go_wp2_with fail
   refine CE.out.mono ?_
   rintro e w9 ⟨⟨P2, rfl⟩, hb⟩
   have S11 := Lib.hid (S10.out.below hb)
   clear hb S10 HBY2 CE HB9 HRZ
   go_upto_region 23 with (with_reducible show wpList _ _ _ _ _ _; refine wpList_store_row rfl 51 _ _ rfl w9.heap.size rfl _ _ (heap_last _ _ _ rfl) (tiA P2 f) rfl (by simp [Value.oneCell']) rfl (by kernel_rfl) ?_)
   have S12 := Lib.hid (S11.out.put #[I 0, I 0, I 0, I 0, I 0, I 0] (tiA P2 f) 51)
   obtain ⟨PX, hPX⟩ : ∃ q, q = w9.heap.size := ⟨_, rfl⟩
   refine name_w fun W10 hW10 => ?_
   rw [← hW10] at S12
   rw [← hPX] at S12 ⊢
   clear hW10 hPX S11
   have t4 : W10.cell? ⟨PX, 4, none⟩ = some (I f.n) := (cell_of_row _ _ 4 _ _ _ S12.out.hd).trans rfl
   have t5 : W10.cell? ⟨PX, 5, none⟩ = some (I f.d) := (cell_of_row _ _ 5 _ _ _ S12.out.hd).trans rfl
   have t6 : W10.cell? ⟨PV, 4, none⟩ = some (I f.n) := (cell_of_row _ _ 4 _ _ _ S12.out.tail.hd).trans rfl
   have t7 : W10.cell? ⟨PV, 5, none⟩ = some (I f.d) := (cell_of_row _ _ 5 _ _ _ S12.out.tail.hd).trans rfl
   have t8 : W10.cell? ⟨PT, 4, none⟩ = some (I f.n) := (cell_of_row _ _ 4 _ _ _ S12.out.tail.tail.tail.hd).trans rfl
   have t9 : W10.cell? ⟨PT, 5, none⟩ = some (I f.d) := (cell_of_row _ _ 5 _ _ _ S12.out.tail.tail.tail.hd).trans rfl
   go_upto_region 25 with fail
   clear t4 t5 t6 t7 t8 t9
   by_cases c2 : z.length ≤ 16
   case neg =>
        have d0 : decide ((16 : Int) < (z.length : Int)) = true := decide_eq_true (by omega)
        clear c2
        go_wp2_with fail
        refine (KN.out _).mono ?_
        rintro e wk ⟨rfl, hb⟩
        have SK := Lib.hid (S12.out.below hb)
        clear hb
        go_wp2_with fail
        go_ret
        exact ⟨rfl, SK.out.1⟩
   have d0 : decide ((16 : Int) < (z.length : Int)) = false := decide_eq_false (by omega)
   clear c2
   go_upto_region 28 with fail
   clear d0
   have hpl := lt_of_row (S12.out.nth 3 rfl)
   have hpw := S12.out.1.size
   obtain ⟨PS, hPS⟩ : ∃ q, q = W10.heap.size := ⟨_, rfl⟩
   have HPS : Hid (w.heap.size ≤ PS ∧ PT ≠ PS) := by show _ ∧ _; rw [hPS]; exact ⟨hpw, by omega⟩
   obtain ⟨W11, hW11⟩ : ∃ V, V = W10.alloc (.cells #[I (WW : Int), I (HH : Int), I 0, I 0, .slice none 0 0] 37) := ⟨_, rfl⟩
   have S13 : Hid (StL w [(PS, #[I (WW : Int), I (HH : Int), I 0, I 0, .slice none 0 0], 37), (PT, tiA P f, 51)] W11) := by
        have hbb : Below W10.heap.size W10 W11 := by rw [hW11]; exact (Below.refl _ _).alloc (Nat.le_refl _) _
        refine StL.cons ⟨(S12.out.below hbb).1, fun x hx => ?_⟩ ?_
        · rcases List.mem_cons.1 hx with rfl | hx
          · exact (S12.out.below hbb).nth 3 rfl
          cases hx
        · rw [hW11]
          exact heap_last _ _ _ hPS
   rw [← hPS, ← hW11]
   clear hPS hW11 S12 hpl hpw
   have S14 : Hid (SfL w W11.heap.size PS (I (WW : Int)) (I (HH : Int)) (I 0) (I 0) ((exR z).take 0) (.slice none 0 0) [(PT, tiA P f, 51)] W11) := SfL.start S13.out HPS.out.1 (fun x hx => by
        rcases List.mem_cons.1 hx with rfl | hx
        · exact HPS.out.2
        cases hx)
   clear S13
   go_wp2_with fail
   go_loopw [20] (fun iv wr => ∃ (k : Nat) (v : Value), k ≤ z.length ∧ iv = .int .i64 k ∧ SfL w W11.heap.size PS (I (WW : Int)) (I (HH : Int)) (I 0) (I 0) ((exR z).take k) v [(PT, tiA P f, 51)] wr) (fun iv _ => z.length - (intOf iv).toNat)
   case atStart => exact ⟨0, _, Nat.zero_le _, rfl, S14.out⟩
   case round =>
        obtain ⟨k, v, hk, rfl, hst⟩ := hrel
        rename World => Y
        have S := Lib.hid hst
        clear hst S14
        by_cases hlt : k < z.length
        case pos =>
         have HLT := Lib.hid hlt
         have ki : decide ((k : Int) < (z.length : Int)) = true := decide_eq_true (by omega)
         have kin : k < z.length := hlt
         have k36 : k ≤ 36 := by have := HC.out; omega
         obtain ⟨zb, zo, hzA, _, e0⟩ := rd_int9 (HRD.out Y S.out.st.1) hlt
         have ex := exR_at hlt
         obtain ⟨zk, hzk⟩ : ∃ v, at0 z k = v := ⟨_, rfl⟩
         rw [hzk] at e0 ex
         have HNX : Hid ((exR z).take (k + 1) = (exR z).take k ++ [⟨zk, zk⟩]) := by show _ = _; rw [take_snoc9 (by rw [exR_len]; exact hlt), ex]
         have HTL : Hid (((exR z).take k).length = k) := by show _ = _; rw [List.length_take, exR_len]; omega
         obtain ⟨VA, vn, vc, rfl⟩ := own_slice S.out.own
         have f4 : ∀ u, (ovr Y u).cell? ⟨PS, 4, none⟩ = some (.slice VA vn vc) := cell_row9 S.out.row (j := 4) rfl
         clear ex hzk hk
         go_upto_region 31 with fail
         have v1 := ovr_cell e0
         subst hzA
         clear e0
         refine wp_region_seq2 12 (fun j => if j = 11 then some (SlN Y #[I zk, I zk] 24 1) else none) (by kernel_rfl) (by kernel_rfl) (by kernel_rfl) (by kernel_rfl) (by kernel_rfl) ?_
         simp only [List.take_succ_cons, List.take_zero, List.drop_succ_cons, List.drop_zero]
         repeat (first | (refine wpG_one rfl rfl rfl ?_; intro K hK; go_big_quiet_op; go_big_quiet_on) | (refine wpG_skip rfl ?_; simp only [Act.put, List.setIfInBounds_toArray, List.set_cons_zero, List.set_cons_succ]))
         refine wpG_make (SlN Y #[I zk, I zk] 24 1) rfl rfl (fun w' hw' hk => ?_) (fun u hu => ?_)
         · go_simp
           exact sln_grow hw'
         obtain ⟨_, _, SB, rfl, _, _⟩ := hu
         simp only [Act.put, List.setIfInBounds_toArray, List.set_cons_zero, List.set_cons_succ]
         repeat (first | (refine wpG_one rfl rfl rfl ?_; intro K hK; go_big_quiet_op; go_big_quiet_on) | (refine wpG_skip rfl ?_; simp only [Act.put, List.setIfInBounds_toArray, List.set_cons_zero, List.set_cons_succ]))
         refine wpG_nil (fun w5 hw5 hG => ?_)
         have hB1 := hG.2.now.at
         have S5 := Lib.hid (S.out.below hw5.le)
         clear hG hw5 S v1 f4
         refine wpTailIn_cons Wd.wide (by intro c h; cases h) ?_
         refine wp_app_own _ _ 35 rfl W11.heap.size 24 i3 _ 2 16 Try.underlying35 hi3 jz0 jz1 jz2 rfl (by decide) _ _ _ rfl S5.out.own ⟨SB, 0, none⟩ 1 [I zk, I zk] rfl rfl (news_lit hB1.1) (by simp [Value.oneCell']) (by rw [HTL.out]; omega) (by decide) S5.out.ql.2.2 (fun v2 w6 hO2 hg6 _ => ?_)
         obtain ⟨SA, sn, sc, rfl⟩ := own_slice hO2
         have hfin := S5.out.next (r := ⟨zk, zk⟩) hO2 hg6
         have z2 : w6.cell? ⟨PS, 4, none⟩ = some (.slice VA vn vc) := by rw [cell_of_row _ _ _ _ _ _ hfin.1]; rfl
         have f2 := frozen_of_row _ _ 4 _ _ hfin.1
         have HFIN := Lib.hid hfin.2
         clear hO2 hg6 hB1 hfin S5
         refine wpTailIn_cons Wd.wide (by intro c h; cases h) ?_
         unfold Oper.wp
         go_simp
         refine wpTailIn_cons Wd.wide (by intro c h; cases h) ?_
         unfold Oper.wp
         go_simp
         refine wpTailIn_nil ?_
         (try simp only [Act.put, List.setIfInBounds_toArray, List.set_cons_zero, List.set_cons_succ])
         go_wp2_with fail
         go_roundw
         case rel => exact ⟨k + 1, _, HLT.out, by go_num, by rw [HNX.out]; exact HFIN.out⟩
         case measure => have := HLT.out; simp [intOf]; omega
        obtain rfl : k = z.length := by omega
        have ki : decide ((z.length : Int) < (z.length : Int)) = false := decide_eq_false (by omega)
        have hown := S.out.own
        rw [show (exR z).take z.length = exR z from by rw [← exR_len z, List.take_length]] at hown
        obtain ⟨A5, c5, rfl, hn5, hc5, hrd5⟩ := Rd.of_own_max hown
        have S7 := Lib.hid S.out.all
        have CF : Hid (Calls Try.prog 32 #[.agg #[I (WW : Int), I (HH : Int), I 0, I 0, .slice A5 z.length c5]] Y (RetFF Y ((f, (ff9 (bsX (WW : Int) (HH : Int) z) false).2), (f, (ff9 (bsX (WW : Int) (HH : Int) z) true).2), 0))) := by
         have h := flatness0_any (bsX (WW : Int) (HH : Int) z) A5 c5 Y Y.heap.size ⟨hn5, hc5⟩ (Nat.le_refl _) hrd5
         have e1 : flF (bsX (WW : Int) (HH : Int) z) = ((f, (ff9 (bsX (WW : Int) (HH : Int) z) false).2), (f, (ff9 (bsX (WW : Int) (HH : Int) z) true).2), 0) := by
          unfold flF
          rw [if_pos HO.out]
          have g1 := best_ff HO.out HFF.out false
          have g2 := best_ff HO.out HFF.out true
          obtain ⟨⟨p1, q1⟩, e1⟩ : ∃ q, ff9 (bsX (WW : Int) (HH : Int) z) false = q := ⟨_, rfl⟩
          obtain ⟨⟨p2, q2⟩, e2⟩ : ∃ q, ff9 (bsX (WW : Int) (HH : Int) z) true = q := ⟨_, rfl⟩
          rw [e1] at g1 ⊢
          rw [e2] at g2 ⊢
          change p1 = f at g1
          change p2 = f at g2
          show ((p1, q1), (p2, q2), (0 : Int)) = ((f, q1), (f, q2), 0)
          rw [g1, g2]
         rw [e1] at h
         have eA : shA (bsX (WW : Int) (HH : Int) z) A5 c5 = #[I (WW : Int), I (HH : Int), I 0, I 0, .slice A5 z.length c5] := by show #[I (WW : Int), I (HH : Int), I 0, I 0, Value.slice A5 (exR z).length c5] = _; rw [exR_len]
         rw [eA] at h
         exact h
        rw [exR_len] at S7
        clear hown hrd5 S hlt hk hn5 hc5
        go_wp2_with (with_reducible show wpList _ _ _ _ _ _; refine wpList_load_row9 rfl 37 _ rfl PS rfl #[I (WW : Int), I (HH : Int), I 0, I 0, .slice A5 z.length c5] _ _ _ S7.out.hd Try.underlying37 rfl (by kernel_rfl) ?_)
        refine CF.out.mono ?_
        obtain ⟨L1, hL1⟩ : ∃ q, (ff9 (bsX (WW : Int) (HH : Int) z) false).2 = q := ⟨_, rfl⟩
        obtain ⟨L2, hL2⟩ : ∃ q, (ff9 (bsX (WW : Int) (HH : Int) z) true).2 = q := ⟨_, rfl⟩
        rw [hL1, hL2]
        rintro e w12 ⟨v1, v2, rfl, ⟨A3, m3, C3, n3, rfl, _, _, _, _, _⟩, ⟨A4, m4, C4, n4, rfl, _, _, _, _, _⟩, hb⟩
        have S8 := Lib.hid (S7.out.below hb)
        clear hb CF S7 hL1 hL2 ki
        go_upto_region 33 with fail
        obtain ⟨PB, hPB⟩ : ∃ q, q = w12.heap.size := ⟨_, rfl⟩
        obtain ⟨QB, hQB⟩ : ∃ q, q = w12.heap.size + 1 := ⟨_, rfl⟩
        obtain ⟨Z, hZ⟩ : ∃ Z, Z = (w12.alloc (.cells #[I f.n, I f.d, .slice A3 L1.1.length m3, .slice C3 L1.2.length n3] 60)).alloc (.cells #[I f.n, I f.d, .slice A4 L2.1.length m4, .slice C4 L2.2.length n4] 60) := ⟨_, rfl⟩
        have hbZ : Below w12.heap.size w12 Z := by rw [hZ]; exact ((Below.refl _ _).alloc (Nat.le_refl _) _).alloc (by simp) _
        have SZ : Hid (StL w [(QB, #[I f.n, I f.d, .slice A4 L2.1.length m4, .slice C4 L2.2.length n4], 60), (PB, #[I f.n, I f.d, .slice A3 L1.1.length m3, .slice C3 L1.2.length n3], 60), (PS, #[I (WW : Int), I (HH : Int), I 0, I 0, .slice A5 z.length c5], 37), (PT, tiA P f, 51)] Z) := by
         refine StL.cons (StL.cons (S8.out.below hbZ) ?_) ?_
         · rw [hZ]
           exact heap_before (heap_last _ _ _ hPB)
         · rw [hZ]
           exact heap_last _ _ _ (by simp [hQB])
        rw [← hQB, ← hPB, ← hZ]
        clear hZ hPB hQB hbZ S8
        have t4 : Z.cell? ⟨PT, 4, none⟩ = some (I f.n) := (cell_of_row _ _ 4 _ _ _ SZ.out.tail.tail.tail.hd).trans rfl
        have t5 : Z.cell? ⟨PT, 5, none⟩ = some (I f.d) := (cell_of_row _ _ 5 _ _ _ SZ.out.tail.tail.tail.hd).trans rfl
        have t6 : Z.cell? ⟨PB, 0, none⟩ = some (I f.n) := (cell_of_row _ _ 0 _ _ _ SZ.out.tail.hd).trans rfl
        have t7 : Z.cell? ⟨PB, 1, none⟩ = some (I f.d) := (cell_of_row _ _ 1 _ _ _ SZ.out.tail.hd).trans rfl
        have t8 : Z.cell? ⟨QB, 0, none⟩ = some (I f.n) := (cell_of_row _ _ 0 _ _ _ SZ.out.hd).trans rfl
        have t9 : Z.cell? ⟨QB, 1, none⟩ = some (I f.d) := (cell_of_row _ _ 1 _ _ _ SZ.out.hd).trans rfl
        go_wp2_with fail
        refine (KN.out _).mono ?_
        rintro e wk ⟨rfl, hb⟩
        have SK := Lib.hid (SZ.out.below hb)
        clear hb
        go_wp2_with fail
        go_ret
        exact ⟨rfl, SK.out.1⟩
end Go.Proofs.Ytljjpidigckheaa.Un
