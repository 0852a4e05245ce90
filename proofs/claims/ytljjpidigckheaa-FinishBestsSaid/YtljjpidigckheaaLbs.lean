/- The law FinishBests: its walk. -/
import Derived.Test.YtljjpidigckheaaAw
import Derived.Test.YtljjpidigckheaaSap
import Derived.Test.YtljjpidigckheaaLtm
import Derived.Test.YtljjpidigckheaaQas2
import Derived.Test.YtljjpidigckheaaRff
namespace Go.Proofs.Ytljjpidigckheaa.Un
open Go.RowKit
set_option maxRecDepth 100000 in
set_option maxHeartbeats 8000000 in
theorem finishBests_any (WI HI : Int) (A : Option Addr) (n : Nat) (z : List Int) (w : World) (_ : -9223372036854775808 ≤ WI ∧ WI ≤ 9223372036854775807) (_ : -9223372036854775808 ≤ HI ∧ HI ≤ 9223372036854775807) (hl : z.length ≤ n) (hq : n ≤ maxLen) (hx : Rd w w.heap.size 1 A z.length (rI z)) (_ : ∀ j, j < z.length → -9223372036854775808 ≤ at0 z j ∧ at0 z j ≤ 9223372036854775807) :
 Calls Try.prog 5 #[I WI, I HI, .slice A z.length n] w fun e w' => e = .returned (.bool true) ∧ Below w.heap.size w w' := by
 have KN := Lib.hid known_any
 have HRD : Hid (∀ V, Below w.heap.size w V → Rd V w.heap.size 1 A z.length (rI z)) := fun V hV => hx.below hV
 have HM : Hid (z.length ≤ maxLen) := Nat.le_trans hl hq
 have S0 := Lib.hid (StL.nil w)
 obtain ⟨i4, hi4, kz0, kz1, kz2⟩ := info_parts int9_info
 obtain ⟨i3, hi3, jz0, jz1, jz2⟩ := info_parts rng9_info
 clear hx hl hq
 go_enter Try.func5, Try.ntmps5
 by_cases c1 : z.length ≤ 36
 case neg =>
  have d0 : decide ((36 : Int) < (z.length : Int)) = true := decide_eq_true (by omega)
  clear c1
  go_wp2_with fail
  refine (KN.out _).mono ?_
  rintro e wk ⟨rfl, hb⟩
  have SK := Lib.hid (S0.out.below hb)
  clear hb
  go_wp2_with fail
  go_ret
  exact ⟨rfl, SK.out.1⟩
 have d0 : decide ((36 : Int) < (z.length : Int)) = false := decide_eq_false (by omega)
 have HC := Lib.hid c1
 clear c1
 go_upto_region 3 with fail
 clear d0
 go_wp2_with (with_reducible show wpList _ _ _ (⟨some 23, _, _, _, _, _⟩ :: _) _ _; refine Hid.out ?_)
 refine Lib.hid ?_
 refine wpList_app_litM rfl _ _ 30 rfl 3 i4 _ 1 8 Try.underlying30 hi4 kz0 kz1 kz2 rfl (by decide) _ rfl _ _ _ rfl (rI z) ((HRD.out _ ((Below.refl _ _).alloc (Nat.le_refl _) _)).more (by simp)) (by have := HC.out; omega) (by decide) 0 (Nat.zero_le _) ?_
 intro A2 q2 w2 hr2 hb2
 simp only [Act.put, List.setIfInBounds_toArray, List.set_cons_zero, List.set_cons_succ]
 have hb12 : Below w.heap.size w w2 := ((Below.refl _ _).alloc (Nat.le_refl _) _ : Below w.heap.size w _).trans (hb2.mono (by simp))
 have S2 := Lib.hid (S0.out.below hb12)
 have CB := Lib.hid (best_any WI HI z A2 q2 w2.heap.size w2 (by have := HC.out; omega) (Nat.le_refl _) hr2)
 clear hr2 hb2 hb12 S0
 go_wp2_with fail
 refine CB.out.mono ?_
 rintro e w3 ⟨⟨P, f, er, rfl, hok⟩, hb⟩
 have S3 := Lib.hid (S2.out.below hb)
 have HOK := Lib.hid hok
 clear hb hok S2 CB
 go_upto_region 4 with (with_reducible show wpList _ _ _ _ _ _; refine wpList_store_row rfl 51 _ _ rfl w3.heap.size rfl _ _ (heap_last _ _ _ rfl) (tiA P f) rfl (by simp [Value.oneCell']) rfl (by kernel_rfl) ?_)
 have S4 := Lib.hid (S3.out.put #[I 0, I 0, I 0, I 0, I 0, I 0] (tiA P f) 51)
 have hlw : w.heap.size ≤ w3.heap.size := S3.out.1.size
 obtain ⟨PT, hPT⟩ : ∃ q, q = w3.heap.size := ⟨_, rfl⟩
 rw [← hPT] at hlw
 have HPT := Lib.hid hlw
 refine name_w fun W4 hW4 => ?_
 rw [← hW4] at S4
 rw [← hPT] at S4 ⊢
 clear hW4 hPT S3 hlw
 go_upto_region 5 with fail
 have hpl := lt_of_row S4.out.hd
 obtain ⟨PS, hPS⟩ : ∃ q, q = W4.heap.size := ⟨_, rfl⟩
 have HPS : Hid (w.heap.size ≤ PS ∧ PT ≠ PS) := by show _ ∧ _; rw [hPS]; exact ⟨S4.out.1.size, by omega⟩
 obtain ⟨W5, hW5⟩ : ∃ V, V = W4.alloc (.cells #[I WI, I HI, I 0, I 0, .slice none 0 0] 37) := ⟨_, rfl⟩
 have S5 : Hid (StL w [(PS, #[I WI, I HI, I 0, I 0, .slice none 0 0], 37), (PT, tiA P f, 51)] W5) := by
  refine StL.cons (S4.out.below (by rw [hW5]; exact (Below.refl _ _).alloc (Nat.le_refl _) _)) ?_
  rw [hW5]
  exact heap_last _ _ _ hPS
 rw [← hPS, ← hW5]
 clear hPS hW5 S4 hpl
 have S6 : Hid (SfL w W5.heap.size PS (I WI) (I HI) (I 0) (I 0) ((exR z).take 0) (.slice none 0 0) [(PT, tiA P f, 51)] W5) := SfL.start S5.out HPS.out.1 (fun x hx => by
  rcases List.mem_cons.1 hx with rfl | hx
  · exact HPS.out.2
  cases hx)
 clear S5
 go_wp2_with fail
 go_loopw [10] (fun iv wr => ∃ (k : Nat) (v : Value), k ≤ z.length ∧ iv = .int .i64 k ∧ SfL w W5.heap.size PS (I WI) (I HI) (I 0) (I 0) ((exR z).take k) v [(PT, tiA P f, 51)] wr) (fun iv _ => z.length - (intOf iv).toNat)
 case atStart => exact ⟨0, _, Nat.zero_le _, rfl, S6.out⟩
 case round =>
  obtain ⟨k, v, hk, rfl, hst⟩ := hrel
  rename World => Y
  have S := Lib.hid hst
  clear hst S6
  by_cases hlt : k < z.length
  case pos =>
   have HLT := Lib.hid hlt
   have ki : decide ((k : Int) < (z.length : Int)) = true := decide_eq_true (by omega)
   have kin : k < z.length := hlt
   have k36 : k ≤ 36 := by have := HC.out; omega
   obtain ⟨zb, zo, hzA, _, e0⟩ := rd_int9 (HRD.out Y S.out.st.1) hlt
   have ex := exR_at hlt
   obtain ⟨zk, hzk⟩ : ∃ v, at0 z k = v := ⟨_, rfl⟩
   rw [hzk] at e0 ex
   have HNX : Hid ((exR z).take (k + 1) = (exR z).take k ++ [⟨zk, zk⟩]) := by show _ = _; rw [take_snoc9 (by rw [exR_len]; exact hlt), ex]
   have HTL : Hid (((exR z).take k).length = k) := by show _ = _; rw [List.length_take, exR_len]; omega
   obtain ⟨VA, vn, vc, rfl⟩ := own_slice S.out.own
   have f4 : ∀ u, (ovr Y u).cell? ⟨PS, 4, none⟩ = some (.slice VA vn vc) := cell_row9 S.out.row (j := 4) rfl
   clear ex hzk hk
   go_upto_region 8 with fail
   have v1 := ovr_cell e0
   subst hzA
   clear e0
   refine wp_region_seq2 12 (fun j => if j = 11 then some (SlN Y #[I zk, I zk] 24 1) else none) (by kernel_rfl) (by kernel_rfl) (by kernel_rfl) (by kernel_rfl) (by kernel_rfl) ?_
   simp only [List.take_succ_cons, List.take_zero, List.drop_succ_cons, List.drop_zero]
   repeat (first | (refine wpG_one rfl rfl rfl ?_; intro K hK; go_big_quiet_op; go_big_quiet_on) | (refine wpG_skip rfl ?_; simp only [Act.put, List.setIfInBounds_toArray, List.set_cons_zero, List.set_cons_succ]))
   refine wpG_make (SlN Y #[I zk, I zk] 24 1) rfl rfl (fun w' hw' hk => ?_) (fun u hu => ?_)
   · go_simp
     exact sln_grow hw'
   obtain ⟨_, _, SB, rfl, _, _⟩ := hu
   simp only [Act.put, List.setIfInBounds_toArray, List.set_cons_zero, List.set_cons_succ]
   repeat (first | (refine wpG_one rfl rfl rfl ?_; intro K hK; go_big_quiet_op; go_big_quiet_on) | (refine wpG_skip rfl ?_; simp only [Act.put, List.setIfInBounds_toArray, List.set_cons_zero, List.set_cons_succ]))
   refine wpG_nil (fun w5 hw5 hG => ?_)
   have hB1 := hG.2.now.at
   have S5 := Lib.hid (S.out.below hw5.le)
   clear hG hw5 S v1 f4
   refine wpTailIn_cons Wd.wide (by intro c h; cases h) ?_
   refine wp_app_own _ _ 35 rfl W5.heap.size 24 i3 _ 2 16 Try.underlying35 hi3 jz0 jz1 jz2 rfl (by decide) _ _ _ rfl S5.out.own ⟨SB, 0, none⟩ 1 [I zk, I zk] rfl rfl (news_lit hB1.1) (by simp [Value.oneCell']) (by rw [HTL.out]; omega) (by decide) S5.out.ql.2.2 (fun v2 w6 hO2 hg6 _ => ?_)
   obtain ⟨SA, sn, sc, rfl⟩ := own_slice hO2
   have hfin := S5.out.next (r := ⟨zk, zk⟩) hO2 hg6
   have z2 : w6.cell? ⟨PS, 4, none⟩ = some (.slice VA vn vc) := by rw [cell_of_row _ _ _ _ _ _ hfin.1]; rfl
   have f2 := frozen_of_row _ _ 4 _ _ hfin.1
   have HFIN := Lib.hid hfin.2
   clear hO2 hg6 hB1 hfin S5
   refine wpTailIn_cons Wd.wide (by intro c h; cases h) ?_
   unfold Oper.wp
   go_simp
   refine wpTailIn_cons Wd.wide (by intro c h; cases h) ?_
   unfold Oper.wp
   go_simp
   refine wpTailIn_nil ?_
   (try simp only [Act.put, List.setIfInBounds_toArray, List.set_cons_zero, List.set_cons_succ])
   go_wp2_with fail
   go_roundw
   case rel => exact ⟨k + 1, _, HLT.out, by go_num, by rw [HNX.out]; exact HFIN.out⟩
   case measure => have := HLT.out; simp [intOf]; omega
  obtain rfl : k = z.length := by omega
  have ki : decide ((z.length : Int) < (z.length : Int)) = false := decide_eq_false (by omega)
  have hown := S.out.own
  rw [show (exR z).take z.length = exR z from by rw [← exR_len z, List.take_length]] at hown
  obtain ⟨A5, c5, rfl, _, hc5, hrd5⟩ := Rd.of_own_max hown
  have S7 := Lib.hid S.out.all
  have HR7 := Lib.hid hrd5
  clear hown hrd5 S hlt hk
  have CS := Lib.hid (refSheet_any (bsX WI HI z) A5 c5 Y Y.heap.size (Nat.le_refl _) HR7.out (by show (exR z).length ≤ _; rw [exR_len]; exact HM.out))
  have eA : Hid (shA (bsX WI HI z) A5 c5 = #[I WI, I HI, I 0, I 0, .slice A5 z.length c5]) := by show #[I WI, I HI, I 0, I 0, Value.slice A5 (exR z).length c5] = _; rw [exR_len]
  have eL := Lib.hid (exR_len z)
  rw [exR_len] at S7
  rw [eA.out] at CS
  go_wp2_with (with_reducible show wpList _ _ _ _ _ _; refine wpList_load_row9 rfl 37 _ rfl PS rfl #[I WI, I HI, I 0, I 0, .slice A5 z.length c5] _ _ _ S7.out.hd Try.underlying37 rfl (by kernel_rfl) ?_)
  refine CS.out.mono ?_
  rintro e w8 ⟨rfl, hb⟩
  have S8 := Lib.hid (S7.out.below hb)
  have HR8 : Hid (Rd w8 w8.heap.size 2 A5 (exR z).length (rR (exR z))) := (HR7.out.below hb).more hb.size
  clear hb S7 HR7 CS ki
  rcases ho : okSh (bsX WI HI z) with _ | _
  case false =>
   obtain ⟨e1, e2, e3⟩ : er = 2 ∧ P = ⟨0, 0, 0, 0⟩ ∧ f = ⟨0, 0⟩ := by
        rcases HOK.out with h | h
        · rw [ho] at h; exact absurd h.1 (by decide)
        · exact h.2
   subst e1 e2 e3
   clear ho
   have t0 : w8.cell? ⟨PT, 0, none⟩ = some (I 0) := (cell_of_row _ _ 0 _ _ _ S8.out.tail.hd).trans rfl
   have t1 : w8.cell? ⟨PT, 1, none⟩ = some (I 0) := (cell_of_row _ _ 1 _ _ _ S8.out.tail.hd).trans rfl
   have t2 : w8.cell? ⟨PT, 2, none⟩ = some (I 0) := (cell_of_row _ _ 2 _ _ _ S8.out.tail.hd).trans rfl
   have t3 : w8.cell? ⟨PT, 3, none⟩ = some (I 0) := (cell_of_row _ _ 3 _ _ _ S8.out.tail.hd).trans rfl
   have t4 : w8.cell? ⟨PT, 4, none⟩ = some (I 0) := (cell_of_row _ _ 4 _ _ _ S8.out.tail.hd).trans rfl
   have t5 : w8.cell? ⟨PT, 5, none⟩ = some (I 0) := (cell_of_row _ _ 5 _ _ _ S8.out.tail.hd).trans rfl
   go_wp2_with fail
   refine (KN.out _).mono ?_
   rintro e wk ⟨rfl, hb⟩
   have SK := Lib.hid (S8.out.below hb)
   clear hb
   go_wp2_with fail
   go_ret
   exact ⟨rfl, SK.out.1⟩
  case true =>
   obtain ⟨e1, hpd, hip, hff, hnr⟩ : er = 0 ∧ 0 < P.d ∧ InP P ∧ f = ds9 (fl9 (gridL WI.toNat z.length) (ex9 (at0 z)) true) ∧ near9 P (gridL WI.toNat z.length) (at0 z) f = true := by
        rcases HOK.out with h | h
        · exact h.2
        · rw [ho] at h; exact absurd h.1 (by decide)
   subst e1
   have hrf := Lib.hid (refFlatness_any (bsX WI HI z) A5 c5 w8 w8.heap.size ho (Nat.le_refl _) HR8.out)
   rw [best_ff ho hff, best_ff ho hff, eA.out] at hrf
   obtain ⟨WW, HH, eW, eH, bW, bH, eL2⟩ := sh_nat ho
   change WI = _ at eW
   change HI = _ at eH
   change (exR z).length = _ at eL2
   rw [exR_len] at eL2
   subst eW eH
   have hih : InH z := fun j hj => by
        have := sh_z ho j (by show j < (exR z).length; rw [exR_len]; exact hj)
        change (_ ≤ (at0 (exR z) j).lo ∧ (at0 (exR z) j).lo ≤ _) ∧ _ at this
        rw [exR_at hj] at this
        exact this.1
   have hbd := best_dist bW.1 bH.1 eL2 hpd hff hnr
   have HAW : Hid (∀ V, Below w.heap.size w V → Calls Try.prog 30 #[I (WW : Int), .slice A z.length n, .agg (tiA P f)] V fun e w' => e = .returned (I (awK WW z P z.length)) ∧ Below V.heap.size V w') := fun V hV => away_any WW HH z P f A n V w.heap.size hip ⟨by omega, bW.2⟩ bH.2 eL2 hih hV.size (HRD.out V hV)
   have hab : 0 ≤ awK WW z P z.length ∧ awK WW z P z.length ≤ 1000000000000000 := ⟨awK_nonneg _ _ _ _, awK_bd hip ⟨by omega, bW.2⟩ bH.2 eL2 hih _ (Nat.le_refl _)⟩
   obtain ⟨N, hN⟩ : ∃ N : Nat, awK WW z P z.length = (N : Int) := ⟨(awK WW z P z.length).toNat, by omega⟩
   obtain ⟨D, hD⟩ : ∃ D : Nat, P.d = (D : Int) := ⟨P.d.toNat, by omega⟩
   rw [hN] at HAW hbd hab
   rw [hD] at hbd
   have HLW : Hid (∀ V, Calls Try.prog 31 #[I (N : Int), I P.d] V fun e w' => e = .returned (.agg #[I f.n, I f.d]) ∧ Below V.heap.size V w') := fun V => by
        have hp := hip.2.2.2
        have := refLowest_any N D (by omega) (by omega) V
        rw [hbd, ← hD] at this
        exact this
   have HIP : Hid (InP P ∧ 0 < P.d) := ⟨hip, hpd⟩
   clear ho hff hnr hip hpd eL2 hih hbd hab hN hD bW bH HOK
   go_wp2_with (with_reducible show wpList _ _ _ _ _ _; refine wpList_load_row9 rfl 37 _ rfl PS rfl #[I (WW : Int), I (HH : Int), I 0, I 0, .slice A5 z.length c5] _ _ _ S8.out.hd Try.underlying37 rfl (by kernel_rfl) ?_)
   refine hrf.out.mono ?_
   rintro e w9 ⟨rfl, hb⟩
   have S9 := Lib.hid (S8.out.below hb)
   clear hb S8 HR8 hrf
   go_upto_region 12 with fail
   obtain ⟨QF, hQF⟩ : ∃ q, q = w9.heap.size := ⟨_, rfl⟩
   obtain ⟨Z, hZ⟩ : ∃ Z, Z = (w9.alloc (.cells #[I f.n, I f.d] 49)).alloc (.cells #[I f.n, I f.d] 49) := ⟨_, rfl⟩
   have hbZ : Below w9.heap.size w9 Z := by rw [hZ]; exact ((Below.refl _ _).alloc (Nat.le_refl _) _).alloc (by simp) _
   have SZ : Hid (StL w [(QF, #[I f.n, I f.d], 49), (PS, #[I (WW : Int), I (HH : Int), I 0, I 0, .slice A5 z.length c5], 37), (PT, tiA P f, 51)] Z) := by
        refine StL.cons (S9.out.below hbZ) ?_
        rw [hZ]
        exact heap_before (heap_last _ _ _ hQF)
   rw [← hQF, ← hZ]
   clear hZ hQF hbZ S9
   have t0 : Z.cell? ⟨PT, 0, none⟩ = some (I P.a) := (cell_of_row _ _ 0 _ _ _ SZ.out.tail.tail.hd).trans rfl
   have t1 : Z.cell? ⟨PT, 1, none⟩ = some (I P.b) := (cell_of_row _ _ 1 _ _ _ SZ.out.tail.tail.hd).trans rfl
   have t2 : Z.cell? ⟨PT, 2, none⟩ = some (I P.c) := (cell_of_row _ _ 2 _ _ _ SZ.out.tail.tail.hd).trans rfl
   have t3 : Z.cell? ⟨PT, 3, none⟩ = some (I P.d) := (cell_of_row _ _ 3 _ _ _ SZ.out.tail.tail.hd).trans rfl
   have t4 : Z.cell? ⟨PT, 4, none⟩ = some (I f.n) := (cell_of_row _ _ 4 _ _ _ SZ.out.tail.tail.hd).trans rfl
   have t5 : Z.cell? ⟨PT, 5, none⟩ = some (I f.d) := (cell_of_row _ _ 5 _ _ _ SZ.out.tail.tail.hd).trans rfl
   have t6 : Z.cell? ⟨QF, 0, none⟩ = some (I f.n) := (cell_of_row _ _ 0 _ _ _ SZ.out.hd).trans rfl
   have t7 : Z.cell? ⟨QF, 1, none⟩ = some (I f.d) := (cell_of_row _ _ 1 _ _ _ SZ.out.hd).trans rfl
   have b1 : decide (P.d < 1) = false := decide_eq_false (by have := HIP.out.2; omega)
   have b2 : decide (1000000000 < P.d) = false := decide_eq_false (by have := HIP.out.1.2.2.2; omega)
   have hib := HIP.out.1
   unfold InP at hib
   have b3 : decide (1000000000000000 < (if (if P.a < P.b then P.b else P.a) < P.c then P.c else if P.a < P.b then P.b else P.a)) = false := decide_eq_false (by split <;> (try split) <;> omega)
   have b4 : decide ((if P.c < (if P.b < P.a then P.b else P.a) then P.c else if P.b < P.a then P.b else P.a) < -1000000000000000) = false := decide_eq_false (by split <;> (try split) <;> omega)
   clear hib
   go_upto_region 14 with fail
   clear t0 t1 t2 t3 t4 t5 t6 t7 b1 b2 b3 b4
   have f0 : ∀ u, (ovr Z u).cell? ⟨PT, 0, none⟩ = some (I P.a) := cell_row9 SZ.out.tail.tail.hd (j := 0) rfl
   have f1 : ∀ u, (ovr Z u).cell? ⟨PT, 1, none⟩ = some (I P.b) := cell_row9 SZ.out.tail.tail.hd (j := 1) rfl
   have f2 : ∀ u, (ovr Z u).cell? ⟨PT, 2, none⟩ = some (I P.c) := cell_row9 SZ.out.tail.tail.hd (j := 2) rfl
   have f3 : ∀ u, (ovr Z u).cell? ⟨PT, 3, none⟩ = some (I P.d) := cell_row9 SZ.out.tail.tail.hd (j := 3) rfl
   have f4 : ∀ u, (ovr Z u).cell? ⟨PT, 4, none⟩ = some (I f.n) := cell_row9 SZ.out.tail.tail.hd (j := 4) rfl
   have f5 : ∀ u, (ovr Z u).cell? ⟨PT, 5, none⟩ = some (I f.d) := cell_row9 SZ.out.tail.tail.hd (j := 5) rfl
   refine wp_region_seq2 8 (fun j => if j = 3 then some (fun u _ => u = I (N : Int)) else if j = 7 then some (NewAt Z #[I 0, I 0] 49) else none) (by kernel_rfl) (by kernel_rfl) (by kernel_rfl) (by kernel_rfl) (by kernel_rfl) ?_
   simp only [List.take_succ_cons, List.take_zero, List.drop_succ_cons, List.drop_zero]
   repeat (first | (refine wpG_one rfl rfl rfl ?_; intro K hK; go_big_quiet_op; go_big_quiet_on) | (refine wpG_skip rfl ?_; simp only [Act.put, List.setIfInBounds_toArray, List.set_cons_zero, List.set_cons_succ]))
   refine wpG_make (fun u _ => u = I (N : Int)) rfl rfl (fun w' hw' hk => ?_) (fun u hu => ?_)
   · obtain ⟨y, rfl⟩ := hw'
     go_simp
     exact call_grow (HAW.out _ (SZ.out.below (ovr_below Z y)).1)
   obtain ⟨_, _, rfl⟩ := hu
   simp only [Act.put, List.setIfInBounds_toArray, List.set_cons_zero, List.set_cons_succ]
   repeat (first | (refine wpG_one rfl rfl rfl ?_; intro K hK; go_big_quiet_op; go_big_quiet_on) | (refine wpG_skip rfl ?_; simp only [Act.put, List.setIfInBounds_toArray, List.set_cons_zero, List.set_cons_succ]))
   refine wpG_make (NewAt Z #[I 0, I 0] 49) rfl rfl (fun w' hw' hk => ?_) (fun u hu => ?_)
   · go_simp
     exact new_grow hw'
   obtain ⟨_, _, QN, rfl, _, _⟩ := hu
   simp only [Act.put, List.setIfInBounds_toArray, List.set_cons_zero, List.set_cons_succ]
   repeat (first | (refine wpG_one rfl rfl rfl ?_; intro K hK; go_big_quiet_op; go_big_quiet_on) | (refine wpG_skip rfl ?_; simp only [Act.put, List.setIfInBounds_toArray, List.set_cons_zero, List.set_cons_succ]))
   refine wpG_nil (fun w5 hw5 hG => ?_)
   have hx9 := (Box.now hG.2).at
   have hle := hw5.le
   clear hG hw5 f0 f1 f2 f3 f4 f5
   refine wpTailIn_cons Wd.wide (by intro c h; cases h) ?_
   refine wp_store_row 49 _ _ rfl QN rfl _ _ hx9.1 #[I (N : Int), I P.d] rfl (by simp [Value.oneCell']) rfl (by kernel_rfl) ?_
   refine wpTailIn_nil ?_
   simp only [Act.put]
   obtain ⟨Z2, hZ2⟩ : ∃ Z, Z = w5.setRow QN #[I (N : Int), I P.d] := ⟨_, rfl⟩
   have hbZ : Below Z.heap.size Z Z2 := by rw [hZ2]; exact below_setRow hle hx9.2 _
   have S2 : Hid (StL w [(QN, #[I (N : Int), I P.d], 49), (QF, #[I f.n, I f.d], 49), (PS, #[I (WW : Int), I (HH : Int), I 0, I 0, .slice A5 z.length c5], 37), (PT, tiA P f, 51)] Z2) := by
        refine StL.cons (SZ.out.below hbZ) ?_
        rw [hZ2]
        exact setRow_same hx9.1
   rw [← hZ2]
   clear hZ2 hbZ hx9 hle SZ HAW
   have f0 : ∀ u, (ovr Z2 u).cell? ⟨QN, 0, none⟩ = some (I (N : Int)) := cell_row9 S2.out.hd (j := 0) rfl
   have f1 : ∀ u, (ovr Z2 u).cell? ⟨QN, 1, none⟩ = some (I P.d) := cell_row9 S2.out.hd (j := 1) rfl
   have f2 : ∀ u, (ovr Z2 u).cell? ⟨QF, 0, none⟩ = some (I f.n) := cell_row9 S2.out.tail.hd (j := 0) rfl
   have f3 : ∀ u, (ovr Z2 u).cell? ⟨QF, 1, none⟩ = some (I f.d) := cell_row9 S2.out.tail.hd (j := 1) rfl
   go_upto_region 15 with fail
   refine Gg.wp_region_make (fun j => if j = 4 then some (fun u _ => u = .agg #[I f.n, I f.d]) else if j = 8 then some (fun u _ => u = .bool true) else none) (by kernel_rfl) (by kernel_rfl) (by kernel_rfl) ?_
   repeat (first | (refine Gg.wpG_one rfl rfl rfl ?_; intro K hK; go_big_quiet_op; go_big_quiet_on) | (refine Gg.wpG_skip rfl ?_; simp only [Act.put, List.setIfInBounds_toArray, List.set_cons_zero, List.set_cons_succ]))
   refine Gg.wpG_make (fun u _ => u = .agg #[I f.n, I f.d]) rfl rfl (fun w' hw' hk => ?_) (fun u hu => ?_)
   · go_simp
     exact call_grow (HLW.out w')
   obtain ⟨_, _, rfl⟩ := hu
   simp only [Act.put, List.setIfInBounds_toArray, List.set_cons_zero, List.set_cons_succ]
   repeat (first | (refine Gg.wpG_one rfl rfl rfl ?_; intro K hK; go_big_quiet_op; go_big_quiet_on) | (refine Gg.wpG_skip rfl ?_; simp only [Act.put, List.setIfInBounds_toArray, List.set_cons_zero, List.set_cons_succ]))
   refine Gg.wpG_make (fun u _ => u = .bool true) rfl rfl (fun w' hw' hk => ?_) (fun u hu => ?_)
   · go_simp
     exact call_grow (KN.out w')
   obtain ⟨_, _, rfl⟩ := hu
   simp only [Act.put, List.setIfInBounds_toArray, List.set_cons_zero, List.set_cons_succ]
   repeat (first | (refine Gg.wpG_one rfl rfl rfl ?_; intro K hK; go_big_quiet_op; go_big_quiet_on) | (refine Gg.wpG_skip rfl ?_; simp only [Act.put, List.setIfInBounds_toArray, List.set_cons_zero, List.set_cons_succ]))
   refine Gg.wpG_nil (fun w5 hw5 hG => ?_)
   have S5 := Lib.hid (S2.out.below hw5.le)
   clear hG hw5 f0 f1 f2 f3
   go_wp2_with fail
   all_goals go_ret
   all_goals exact ⟨rfl, S5.out.1⟩
end Go.Proofs.Ytljjpidigckheaa.Un
