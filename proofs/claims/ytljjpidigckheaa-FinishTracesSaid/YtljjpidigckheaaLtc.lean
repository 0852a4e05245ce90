/- The law FinishTraces: its walk. -/
import Derived.Test.YtljjpidigckheaaOj
import Derived.Test.YtljjpidigckheaaNd
import Derived.Test.YtljjpidigckheaaLtm
namespace Go.Proofs.Ytljjpidigckheaa.Un
open Go.RowKit
theorem StL.hd {w V : World} {L : List (Nat × Array Value × TypeId)} {b : Nat} {cs : Array Value} {t : TypeId} (h : StL w ((b, cs, t) :: L) V) : V.heap[b]? = some (.cells cs t (0, 0)) := h.2 _ (.head _)
set_option maxRecDepth 100000 in
set_option maxHeartbeats 8000000 in
theorem finishTraces_any (A : Option Addr) (c : Nat) (l : List Gag) (g day : Int) (x : Rng) (w : World) (hx : Rd w w.heap.size 6 A l.length (rG l)) :
    Calls Try.prog 3 #[.slice A l.length c, .agg #[I g, I day, I x.lo, I x.hi]] w fun e w' => e = .returned (.bool true) ∧ Below w.heap.size w w' := by
  have KN := Lib.hid known_any
  have HRD : Hid (∀ V, Below w.heap.size w V → Rd V w.heap.size 6 A l.length (rG l)) := fun V hV => hx.below hV
  obtain ⟨i3, hi3, jz0, jz1, jz2⟩ := info_parts gag9_info
  clear hx
  obtain ⟨W, hW⟩ : ∃ W, W = (w.alloc (.cells #[I g, I day, I x.lo, I x.hi] 26)) := ⟨_, rfl⟩
  have rowW0 : W.heap[w.heap.size]? = some (.cells #[I g, I day, I x.lo, I x.hi] 26 (0, 0)) := by rw [hW]; exact heap_last _ _ _ rfl
  have yW00 := ovr_cell (W := W) (b := w.heap.size) (o := 0) (v := I g) (by rw [cell_of_row _ _ _ _ _ _ rowW0]; rfl)
  have yW01 := ovr_cell (W := W) (b := w.heap.size) (o := 1) (v := I day) (by rw [cell_of_row _ _ _ _ _ _ rowW0]; rfl)
  have yW02 := ovr_cell (W := W) (b := w.heap.size) (o := 2) (v := I x.lo) (by rw [cell_of_row _ _ _ _ _ _ rowW0]; rfl)
  have yW03 := ovr_cell (W := W) (b := w.heap.size) (o := 3) (v := I x.hi) (by rw [cell_of_row _ _ _ _ _ _ rowW0]; rfl)
  have RrowW0 := Lib.hid (ovr_row rowW0)
  clear rowW0
  have HUW : Hid (∀ u, Below w.heap.size w (ovr W u)) := U1 hW
  have HW := Lib.hid hW
  clear hW
  go_enter Try.func3, Try.ntmps3
  go_upto_region 1 with (fail)
  rw [← HW.out]
  obtain ⟨u0, hu0⟩ := ovr_self W
  rw [hu0]
  clear hu0
  by_cases c1 : l.length ≤ 40
  case neg =>
    have d0 : decide ((40 : Int) < (l.length : Int)) = true := decide_eq_true (by omega)
    clear c1
    go_wp2_with fail
    refine (KN.out _).mono ?_
    rintro e w1 ⟨rfl, hb1⟩
    obtain ⟨uk, rfl⟩ := ovr_next hb1
    clear hb1
    go_wp2_with fail
    go_ret
    exact ⟨rfl, HUW.out _⟩
  have d0 : decide ((40 : Int) < (l.length : Int)) = false := decide_eq_false (by omega)
  have HC : Hid (l.length ≤ 40) := c1
  clear c1
  go_upto_region 3 with fail
  have S0 : Hid (StL w [(w.heap.size, #[I g, I day, I x.lo, I x.hi], 26)] (ovr W u0)) := ⟨HUW.out u0, fun y hy => by
    rcases List.mem_cons.1 hy with rfl | hy
    · exact RrowW0.out u0
    cases hy⟩
  refine name_w fun V hV => ?_
  rw [← hV] at S0
  clear hV HUW RrowW0 d0
  have CG : Hid (∀ V A c, Rd V V.heap.size 6 A l.length (rG l) → Calls Try.prog 17 #[.slice A l.length c] V fun e w' => e = .returned (I (er9 (okGag l))) ∧ Below V.heap.size V w') := fun V A c h => checkGauges_any A c l V V.heap.size (Nat.le_refl _) h
  refine (tr_parts (trF l g day x)).elim fun tl h1 => h1.elim fun th h2 => h2.elim fun p h3 => h3.elim fun te hq => ?_
  clear h1 h2 h3
  have CT : Hid (∀ V A c, Rd V V.heap.size 6 A l.length (rG l) → Calls Try.prog 18 #[.slice A l.length c, I g, I day, .agg #[I x.lo, I x.hi]] V (RetTy V (⟨tl, th⟩, p, te))) := fun V A c h => by rw [← hq]; exact traceY_any l g day x A c V V.heap.size (Nat.le_refl _) h
  have CR : Hid (∀ V, Below w.heap.size w V → Calls Try.prog 19 #[.slice A l.length c, I g, I day, .agg #[I x.lo, I x.hi]] V (RetTr V (⟨tl, th⟩, p, te))) := fun V hV => by rw [← hq]; exact refTrace_any l g day x A c V w.heap.size hV.size (HRD.out V hV) (by have := HC.out; omega)
  have CGR : Hid (∀ V, Below w.heap.size w V → Calls Try.prog 20 #[.slice A l.length c] V fun e w' => e = .returned (.bool (okGag l)) ∧ Below V.heap.size V w') := fun V hV => refGauges_any l A c V w.heap.size hV.size (HRD.out V hV) (by have := HC.out; omega)
  have HPL : Hid (p.length ≤ 31) := by
    show _ ≤ _
    have h1 : p = (trF l g day x).2.1 := by rw [hq]
    rw [h1]
    exact trF_len l g day x
  clear hq
  obtain ⟨er, her⟩ : ∃ e, er9 (okGag l) = e := ⟨_, rfl⟩
  have HER := Lib.hid her
  rw [her] at CG
  clear her
  have HRV : Hid (∀ U, Below V.heap.size V U → Rd U U.heap.size 6 A l.length (rG l)) := fun U hU => (HRD.out U (S0.out.below hU).1).more (S0.out.below hU).1.size
  go_wp2_with (with_reducible show wpList _ _ _ (⟨some 19, _, _, _, _, _⟩ :: _) _ _; refine Hid.out ?_)
  refine Lib.hid ?_
  refine wpList_app_litM rfl _ _ 22 rfl 108 i3 _ 6 48 Try.underlying22 hi3 jz0 jz1 jz2 rfl (by decide) _ rfl _ _ _ rfl (rG l) (HRV.out _ ((Below.refl _ _).alloc (Nat.le_refl _) _)) (by have := HC.out; omega) (by decide) 0 (Nat.zero_le _) ?_
  intro A2 c2 w2 hr2 hb2
  simp only [Act.put, List.setIfInBounds_toArray, List.set_cons_zero, List.set_cons_succ]
  have S1 := Lib.hid (S0.out.below (((Below.refl _ _).alloc (Nat.le_refl _) _ : Below V.heap.size V _).trans (hb2.mono (by simp))))
  have CG2 := Lib.hid (CG.out w2 A2 c2 hr2)
  clear hr2 hb2 S0 HRV
  go_wp2_with fail
  refine CG2.out.mono ?_
  rintro e w5 ⟨rfl, hb⟩
  have S1 := Lib.hid (S1.out.below hb)
  clear hb CG2
  go_upto_region 4 with fail
  have r0 := S1.out.hd
  have f1 : ∀ u, (ovr w5 u).cell? ⟨w.heap.size, 0, none⟩ = some (I g) := cell_row9 r0 (j := 0) rfl
  have f2 : ∀ u, (ovr w5 u).cell? ⟨w.heap.size, 1, none⟩ = some (I day) := cell_row9 r0 (j := 1) rfl
  have f3 : ∀ u, (ovr w5 u).cell? ⟨w.heap.size, 2, none⟩ = some (I x.lo) := cell_row9 r0 (j := 2) rfl
  have f4 : ∀ u, (ovr w5 u).cell? ⟨w.heap.size, 3, none⟩ = some (I x.hi) := cell_row9 r0 (j := 3) rfl
  clear r0
  refine name_w fun V4 hV4 => ?_
  rw [← hV4] at S1 f1 f2 f3 f4
  clear hV4
  have HV4 : Hid (∀ z, Below w.heap.size w (ovr V4 z)) := fun z => (S1.out.below (ovr_below V4 z)).1
  refine Dl.wp_region_late 15 [12, 13] (fun j => if j = 0 then some Emp else if j = 2 then some (SlAm V4.heap.size 6 l.length (rG l)) else if j = 9 then some (TrAt9 tl th p te) else if j = 14 then some (NewAt V4 #[I 0, I 0] 24) else none) (by kernel_rfl) (by kernel_rfl) (by kernel_rfl) (by kernel_rfl) [14] (E := 24)
    ⟨by kernel_rfl, alloc_rng, fun j hj => by simp only [List.mem_cons, List.not_mem_nil, or_false] at hj; rcases hj with rfl <;> exact ⟨_, _, _, rfl⟩⟩ (by kernel_rfl) (fun i hi => by simp only [List.mem_cons, List.not_mem_nil, or_false] at hi; rcases hi with rfl | rfl <;> rfl) (fun c a d v w h => by cases d <;> exact h) ?_
  simp only [List.take_succ_cons, List.take_zero, List.drop_succ_cons, List.drop_zero]
  refine Dk.wpG_make Emp rfl rfl (fun w' hw' _ => ?_) (fun u hu => ?_)
  · go_simp
    exact emp_grow w'
  obtain ⟨_, _, b0, rfl⟩ := hu
  simp only [Act.put, List.setIfInBounds_toArray, List.set_cons_zero, List.set_cons_succ]
  repeat (refine Dk.wpG_one rfl rfl rfl ?_; intro K hK; go_big_quiet_op; go_big_quiet_on)
  refine Dk.wpG_make (SlAm V4.heap.size 6 l.length (rG l)) rfl rfl (fun w' hw' _ => ?_) (fun u hu => ?_)
  · obtain ⟨z, rfl⟩ := hw'
    exact app_growM _ _ 22 rfl 108 i3 _ 6 48 Try.underlying22 hi3 jz0 jz1 jz2 rfl (by decide) b0 rfl A l.length c rfl (rG l) ((HRD.out _ (HV4.out z)).more (HV4.out z).size) (by have := HC.out; omega) (by decide) (ovr_below V4 z).size
  obtain ⟨_, _, A2, c2, rfl, _, _, _⟩ := hu
  simp only [Act.put, List.setIfInBounds_toArray, List.set_cons_zero, List.set_cons_succ]
  repeat (refine Dk.wpG_one rfl rfl rfl ?_; intro K hK; go_big_quiet_op; go_big_quiet_on)
  refine Dk.wpG_make (TrAt9 tl th p te) rfl rfl (fun w' hw' hk => ?_) (fun u hu => ?_)
  · have q1 := hk ⟨2, .data⟩ (by simp) rfl _ 24 _ rfl rfl rfl (by simp) rfl
    go_simp
    exact tr_grow (CT.out _ _ _ q1.now.at9)
  obtain ⟨_, _, P1, pc1, rfl, _⟩ := hu
  simp only [Act.put, List.setIfInBounds_toArray, List.set_cons_zero, List.set_cons_succ]
  repeat (refine Dk.wpG_one rfl rfl rfl ?_; intro K hK; go_big_quiet_op; go_big_quiet_on)
  refine Dk.wpG_make (NewAt V4 #[I 0, I 0] 24) rfl rfl (fun w' hw' _ => ?_) (fun u hu => ?_)
  · go_simp
    exact new_grow hw'
  obtain ⟨_, _, B1, rfl, _, _⟩ := hu
  simp only [Act.put, List.setIfInBounds_toArray, List.set_cons_zero, List.set_cons_succ]
  refine Dk.wpG_nil (fun w5 hw5 hG => ?_)
  have hn1 := (Box.now hG.2).at
  have hpa := (Box.now hG.1.2).at
  clear hG
  refine Dl.wpTailH_cons ?_
  refine wp_store_row 24 _ _ rfl B1 rfl _ _ hn1.1 #[I tl, I th] rfl (one2 rfl rfl) rfl (by kernel_rfl) ?_
  have hcl := below_setRow hw5.le hn1.2 #[I tl, I th]
  refine ⟨Cl.of hcl, ?_⟩
  refine Dl.wpTailH_cons ?_
  refine wp_assign _ (.slice P1 p.length pc1) rfl rfl ?_
  refine ⟨Cl.of hcl, ?_⟩
  refine Dl.wpTailH_cons ?_
  refine wp_assign _ (I te) rfl rfl ?_
  refine ⟨Cl.of hcl, ?_⟩
  refine Dl.wpTailH_nil ?_
  simp only [Act.put]
  have S2 := Lib.hid ((S1.out.below hcl).cons (setRow_same (cs' := #[I tl, I th]) hn1.1))
  have HP1 := Lib.hid (hpa.set hn1.1 (by decide) #[I tl, I th])
  obtain ⟨X1, hX1⟩ : ∃ X1, X1 = w5.setRow B1 #[I tl, I th] := ⟨_, rfl⟩
  rw [← hX1] at S2 HP1 ⊢
  have HBCL : Hid (Below V4.heap.size V4 X1) := by rw [hX1]; exact hcl
  clear hX1 hcl hn1 hpa hw5 HV4
  go_upto_region 5 with fail
  have r0 := S2.out.tail.hd
  have f1 : X1.cell? ⟨w.heap.size, 0, none⟩ = some (I g) := (cell_of_row _ _ 0 _ _ _ r0).trans rfl
  have f2 : X1.cell? ⟨w.heap.size, 1, none⟩ = some (I day) := (cell_of_row _ _ 1 _ _ _ r0).trans rfl
  have f3 : X1.cell? ⟨w.heap.size, 2, none⟩ = some (I x.lo) := (cell_of_row _ _ 2 _ _ _ r0).trans rfl
  have f4 : X1.cell? ⟨w.heap.size, 3, none⟩ = some (I x.hi) := (cell_of_row _ _ 3 _ _ _ r0).trans rfl
  clear r0
  go_wp2_with fail
  refine (CR.out _ S2.out.1).mono ?_
  rintro e w6 ⟨P2, pc2, rfl, _, _, hr2, hb⟩
  have S3 := Lib.hid (S2.out.below hb)
  have HP1b := Lib.hid (HP1.out.later hb)
  have HP2 := Lib.hid hr2
  clear hb S2 HP1 f1 f2 f3 f4 hr2 CR CT CG
  go_upto_region 6 with (with_reducible show wpList _ _ _ _ _ _; refine wpList_store_row rfl 24 _ _ rfl w6.heap.size rfl _ _ (heap_last _ _ _ rfl) #[I tl, I th] rfl (one2 rfl rfl) rfl (by kernel_rfl) ?_)
  have S4 := Lib.hid (S3.out.put #[I 0, I 0] #[I tl, I th] 24)
  have hpb := put_bel w6 #[I 0, I 0] #[I tl, I th] 24
  have HP3 := Lib.hid (HP1b.out.later hpb)
  have HP4 := Lib.hid ((HP2.out.below hpb).more hpb.size)
  obtain ⟨b9, hb9⟩ : ∃ z, z = w6.heap.size := ⟨_, rfl⟩
  refine name_w fun Y hY => ?_
  rw [← hY] at S4 HP3 HP4
  rw [← hb9] at S4 ⊢
  clear hY hb9 S3 HP1b HP2 hpb
  rcases ho : okGag l with _ | _
  case false =>
    as_aux_lemma =>
      obtain rfl : er = 2 := by rw [← HER.out, ho]; rfl
      rw [ho] at CGR
      clear ho HER
      go_wp2_with fail
      refine (CGR.out _ S4.out.1).mono ?_
      rintro e w7 ⟨rfl, hb⟩
      have S5 := Lib.hid (S4.out.below hb)
      have HP5 := Lib.hid (HP3.out.later hb)
      have HP6 := Lib.hid ((HP4.out.below hb).more hb.size)
      clear hb S4 HP3 HP4
      have k1 := S5.out.hd
      have k2 := S5.out.tail.hd
      have a1 : w7.cell? ⟨b9, 0, none⟩ = some (I tl) := (cell_of_row _ _ _ _ _ _ k1).trans rfl
      have a2 : w7.cell? ⟨b9, 1, none⟩ = some (I th) := (cell_of_row _ _ _ _ _ _ k1).trans rfl
      have a3 : w7.cell? ⟨B1, 0, none⟩ = some (I tl) := (cell_of_row _ _ _ _ _ _ k2).trans rfl
      have a4 : w7.cell? ⟨B1, 1, none⟩ = some (I th) := (cell_of_row _ _ _ _ _ _ k2).trans rfl
      have q1 : (te != te) = false := bne_self_eq_false te
      have q2 : (((p.length : Nat) : Int) != (p.length : Int)) = false := bne_self_eq_false _
      clear k1 k2
      go_wp2_with fail
      go_loopw [12] (fun iv wr => ∃ k : Nat, k ≤ p.length ∧ iv = .int .i64 k ∧ Below w7.heap.size w7 wr) (fun iv _ => p.length - (intOf iv).toNat)
      case atStart => exact ⟨0, Nat.zero_le _, rfl, Below.refl _ _⟩
      case round =>
        obtain ⟨k, hk, rfl, hb7⟩ := hrel
        rename World => Z
        have HB7 := Lib.hid hb7
        clear a1 a2 a3 a4 q1 q2
        by_cases hlt : k < p.length
        case neg =>
          obtain rfl : k = p.length := by omega
          have ki : decide ((p.length : Int) < (p.length : Int)) = false := decide_eq_false (by omega)
          have S6 := Lib.hid (S5.out.below hb7)
          clear hb7 hk hlt
          go_wp2_with fail
          refine (KN.out _).mono ?_
          rintro e wk ⟨rfl, hb⟩
          have SK := Lib.hid (S6.out.below hb)
          clear hb
          go_wp2_with fail
          go_ret
          exact ⟨rfl, SK.out.1⟩
        have HLT := Lib.hid hlt
        have ki : decide ((k : Int) < (p.length : Int)) = true := decide_eq_true (by omega)
        obtain ⟨p1, o1, hP1, _, e1⟩ := rd_int9 (HP5.out.later hb7).1 hlt
        obtain ⟨p2, o2, hP2, _, e2⟩ := rd_int9 ((HP6.out.below hb7).more hb7.size) hlt
        subst hP1 hP2
        obtain ⟨v, hv⟩ : ∃ v, at0 p k = v := ⟨_, rfl⟩
        rw [hv] at e1 e2
        have q1 : (v != v) = false := bne_self_eq_false v
        have v1 := ovr_cell e1
        have v2 := ovr_cell e2
        have hkl : k < p.length := hlt
        have k1000 : k ≤ 1000000000000 := by have := HPL.out; omega
        clear hb7 hk e1 e2 hv
        go_upto_region 11 with fail
        refine Gg.wp_region_make (fun _ => none) (by kernel_rfl) (by kernel_rfl) (by kernel_rfl) ?_
        repeat (first | (refine Gg.wpG_one rfl rfl rfl ?_; intro K hK; go_big_quiet_op; go_big_quiet_on) | (refine Gg.wpG_skip rfl ?_; simp only [Act.put, List.setIfInBounds_toArray, List.set_cons_zero, List.set_cons_succ]))
        refine Gg.wpG_nil (fun w5 hw5 hG => ?_)
        have hb8 := HB7.out.trans (hw5.le.mono HB7.out.size)
        have HB8 := Lib.hid hb8
        clear hG hw5 hb8 v1 v2
        go_wp2_with fail
        go_roundw
        case rel => exact ⟨k + 1, HLT.out, by go_num, HB8.out⟩
        case measure => have := HLT.out; simp [intOf]; omega
  case true =>
    as_aux_lemma =>
      obtain rfl : er = 0 := by rw [← HER.out, ho]; rfl
      rw [ho] at CGR
      clear ho HER
      go_wp2_with fail
      refine (CGR.out _ S4.out.1).mono ?_
      rintro e w7 ⟨rfl, hb⟩
      have S5 := Lib.hid (S4.out.below hb)
      have HP5 := Lib.hid (HP3.out.later hb)
      have HP6 := Lib.hid ((HP4.out.below hb).more hb.size)
      clear hb S4 HP3 HP4
      have k1 := S5.out.hd
      have k2 := S5.out.tail.hd
      have a1 : w7.cell? ⟨b9, 0, none⟩ = some (I tl) := (cell_of_row _ _ _ _ _ _ k1).trans rfl
      have a2 : w7.cell? ⟨b9, 1, none⟩ = some (I th) := (cell_of_row _ _ _ _ _ _ k1).trans rfl
      have a3 : w7.cell? ⟨B1, 0, none⟩ = some (I tl) := (cell_of_row _ _ _ _ _ _ k2).trans rfl
      have a4 : w7.cell? ⟨B1, 1, none⟩ = some (I th) := (cell_of_row _ _ _ _ _ _ k2).trans rfl
      have q1 : (te != te) = false := bne_self_eq_false te
      have q2 : (((p.length : Nat) : Int) != (p.length : Int)) = false := bne_self_eq_false _
      clear k1 k2
      go_wp2_with fail
      go_loopw [12] (fun iv wr => ∃ k : Nat, k ≤ p.length ∧ iv = .int .i64 k ∧ Below w7.heap.size w7 wr) (fun iv _ => p.length - (intOf iv).toNat)
      case atStart => exact ⟨0, Nat.zero_le _, rfl, Below.refl _ _⟩
      case round =>
        obtain ⟨k, hk, rfl, hb7⟩ := hrel
        rename World => Z
        have HB7 := Lib.hid hb7
        clear a1 a2 a3 a4 q1 q2
        by_cases hlt : k < p.length
        case neg =>
          obtain rfl : k = p.length := by omega
          have ki : decide ((p.length : Int) < (p.length : Int)) = false := decide_eq_false (by omega)
          have S6 := Lib.hid (S5.out.below hb7)
          clear hb7 hk hlt
          go_wp2_with fail
          refine (KN.out _).mono ?_
          rintro e wk ⟨rfl, hb⟩
          have SK := Lib.hid (S6.out.below hb)
          clear hb
          go_wp2_with fail
          go_ret
          exact ⟨rfl, SK.out.1⟩
        have HLT := Lib.hid hlt
        have ki : decide ((k : Int) < (p.length : Int)) = true := decide_eq_true (by omega)
        obtain ⟨p1, o1, hP1, _, e1⟩ := rd_int9 (HP5.out.later hb7).1 hlt
        obtain ⟨p2, o2, hP2, _, e2⟩ := rd_int9 ((HP6.out.below hb7).more hb7.size) hlt
        subst hP1 hP2
        obtain ⟨v, hv⟩ : ∃ v, at0 p k = v := ⟨_, rfl⟩
        rw [hv] at e1 e2
        have q1 : (v != v) = false := bne_self_eq_false v
        have v1 := ovr_cell e1
        have v2 := ovr_cell e2
        have hkl : k < p.length := hlt
        have k1000 : k ≤ 1000000000000 := by have := HPL.out; omega
        clear hb7 hk e1 e2 hv
        go_upto_region 11 with fail
        refine Gg.wp_region_make (fun _ => none) (by kernel_rfl) (by kernel_rfl) (by kernel_rfl) ?_
        repeat (first | (refine Gg.wpG_one rfl rfl rfl ?_; intro K hK; go_big_quiet_op; go_big_quiet_on) | (refine Gg.wpG_skip rfl ?_; simp only [Act.put, List.setIfInBounds_toArray, List.set_cons_zero, List.set_cons_succ]))
        refine Gg.wpG_nil (fun w5 hw5 hG => ?_)
        have hb8 := HB7.out.trans (hw5.le.mono HB7.out.size)
        have HB8 := Lib.hid hb8
        clear hG hw5 hb8 v1 v2
        go_wp2_with fail
        go_roundw
        case rel => exact ⟨k + 1, HLT.out, by go_num, HB8.out⟩
        case measure => have := HLT.out; simp [intOf]; omega
end Go.Proofs.Ytljjpidigckheaa.Un
