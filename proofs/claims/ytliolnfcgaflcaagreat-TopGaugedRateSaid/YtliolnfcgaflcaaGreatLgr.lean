/- The law TopGaugedRate: its walk. -/
import Derived.Test.YtliolnfcgaflcaaGreatLtf
import Derived.Test.YtliolnfcgaflcaaGreatTqf
import Derived.Test.YtliolnfcgaflcaaGreatRo
namespace Go.Proofs.YtliolnfcgaflcaaGreat.Un
open Go.RowKit
set_option maxRecDepth 100000 in
set_option maxHeartbeats 8000000 in
theorem topGaugedRate_any (A : Option Addr) (c : Nat) (l : List Gag) (m : Mdl) (g day : Int) (x q : Rng) (b : Int) (w : World) (hx : Rd w w.heap.size 6 A l.length (rG l)) (hb : 0 ≤ b ∧ b ≤ 255) :
 Calls Tryz.prog 3 #[.slice A l.length c, .agg (mdA m), .agg (rdA g day x q b)] w fun e w' => e = .returned (.bool true) ∧ Below w.heap.size w w' := by
 have KF := Lib.hid flat_top
 have KQ := Lib.hid quiet_any
 have HRD : Hid (∀ V, Below w.heap.size w V → Rd V w.heap.size 6 A l.length (rG l)) := fun V hV => hx.below hV
 have HB := Lib.hid hb
 obtain ⟨i3, hi3, jz0, jz1, jz2⟩ := info_parts gag9_info
 clear hx hb
 obtain ⟨W, hW⟩ : ∃ W, W = ((w.alloc (.cells #[I m.sc, I (m.b 0).lo, I (m.b 0).hi, I (m.b 1).lo, I (m.b 1).hi, I (m.b 2).lo, I (m.b 2).hi, I (m.b 3).lo, I (m.b 3).hi] 27)).alloc (.cells #[I g, I day, I x.lo, I x.hi, I q.lo, I q.hi, .int .u8 b] 29)) := ⟨_, rfl⟩
 have rowW0 : W.heap[w.heap.size]? = some (.cells #[I m.sc, I (m.b 0).lo, I (m.b 0).hi, I (m.b 1).lo, I (m.b 1).hi, I (m.b 2).lo, I (m.b 2).hi, I (m.b 3).lo, I (m.b 3).hi] 27 (0, 0)) := by rw [hW]; exact heap_before (heap_last _ _ _ rfl)
 have yW00 := ovr_cell (W := W) (b := w.heap.size) (o := 0) (v := I m.sc) (by rw [cell_of_row _ _ _ _ _ _ rowW0]; rfl)
 have yW01 := ovr_cell (W := W) (b := w.heap.size) (o := 1) (v := I (m.b 0).lo) (by rw [cell_of_row _ _ _ _ _ _ rowW0]; rfl)
 have yW02 := ovr_cell (W := W) (b := w.heap.size) (o := 2) (v := I (m.b 0).hi) (by rw [cell_of_row _ _ _ _ _ _ rowW0]; rfl)
 have yW03 := ovr_cell (W := W) (b := w.heap.size) (o := 3) (v := I (m.b 1).lo) (by rw [cell_of_row _ _ _ _ _ _ rowW0]; rfl)
 have yW04 := ovr_cell (W := W) (b := w.heap.size) (o := 4) (v := I (m.b 1).hi) (by rw [cell_of_row _ _ _ _ _ _ rowW0]; rfl)
 have yW05 := ovr_cell (W := W) (b := w.heap.size) (o := 5) (v := I (m.b 2).lo) (by rw [cell_of_row _ _ _ _ _ _ rowW0]; rfl)
 have yW06 := ovr_cell (W := W) (b := w.heap.size) (o := 6) (v := I (m.b 2).hi) (by rw [cell_of_row _ _ _ _ _ _ rowW0]; rfl)
 have yW07 := ovr_cell (W := W) (b := w.heap.size) (o := 7) (v := I (m.b 3).lo) (by rw [cell_of_row _ _ _ _ _ _ rowW0]; rfl)
 have yW08 := ovr_cell (W := W) (b := w.heap.size) (o := 8) (v := I (m.b 3).hi) (by rw [cell_of_row _ _ _ _ _ _ rowW0]; rfl)
 have RrowW0 := Lib.hid (ovr_row rowW0)
 clear rowW0
 have rowW1 : W.heap[w.heap.size + 1]? = some (.cells #[I g, I day, I x.lo, I x.hi, I q.lo, I q.hi, .int .u8 b] 29 (0, 0)) := by rw [hW]; exact heap_last _ _ _ (by simp)
 have yW10 := ovr_cell (W := W) (b := w.heap.size + 1) (o := 0) (v := I g) (by rw [cell_of_row _ _ _ _ _ _ rowW1]; rfl)
 have yW11 := ovr_cell (W := W) (b := w.heap.size + 1) (o := 1) (v := I day) (by rw [cell_of_row _ _ _ _ _ _ rowW1]; rfl)
 have yW12 := ovr_cell (W := W) (b := w.heap.size + 1) (o := 2) (v := I x.lo) (by rw [cell_of_row _ _ _ _ _ _ rowW1]; rfl)
 have yW13 := ovr_cell (W := W) (b := w.heap.size + 1) (o := 3) (v := I x.hi) (by rw [cell_of_row _ _ _ _ _ _ rowW1]; rfl)
 have yW14 := ovr_cell (W := W) (b := w.heap.size + 1) (o := 4) (v := I q.lo) (by rw [cell_of_row _ _ _ _ _ _ rowW1]; rfl)
 have yW15 := ovr_cell (W := W) (b := w.heap.size + 1) (o := 5) (v := I q.hi) (by rw [cell_of_row _ _ _ _ _ _ rowW1]; rfl)
 have yW16 := ovr_cell (W := W) (b := w.heap.size + 1) (o := 6) (v := .int .u8 b) (by rw [cell_of_row _ _ _ _ _ _ rowW1]; rfl)
 have RrowW1 := Lib.hid (ovr_row rowW1)
 clear rowW1
 have HUW : Hid (∀ u, Below w.heap.size w (ovr W u)) := U2 hW
 have HW := Lib.hid hW
 clear hW
 go_enter Tryz.func3, Tryz.ntmps3
 go_upto_region 1 with (fail)
 rw [← HW.out]
 obtain ⟨u0, hu0⟩ := ovr_self W
 rw [hu0]
 clear hu0
 have S0 : Hid (StL w [(w.heap.size + 1, rdA g day x q b, 29), (w.heap.size, mdA m, 27)] (ovr W u0)) := ⟨HUW.out u0, fun y hy => by
  rcases List.mem_cons.1 hy with rfl | hy
  · exact RrowW1.out u0
  rcases List.mem_cons.1 hy with rfl | hy
  · exact RrowW0.out u0
  cases hy⟩
 refine name_w fun V hV => ?_
 rw [← hV] at S0
 clear hV HUW RrowW0 RrowW1 HW yW00 yW01 yW02 yW03 yW04 yW05 yW06 yW07 yW08 yW10 yW11 yW12 yW13 yW14 yW15 yW16
 by_cases c1 : l.length ≤ 40
 case neg =>
  have d0 : decide ((40 : Int) < (l.length : Int)) = true := decide_eq_true (by omega)
  clear c1
  go_wp2_with fail
  refine (KF.out _).mono ?_
  rintro e wk ⟨rfl, hb⟩
  have SK := Lib.hid (show StL w _ wk from by first | exact S0.out.below hb | exact S0.out.below (nc_one hb))
  clear hb
  go_wp2_with fail
  refine (KQ.out _).mono ?_
  rintro e wq ⟨rfl, hb⟩
  have SQ := Lib.hid (SK.out.below hb)
  clear hb SK
  go_wp2_with fail
  go_ret
  exact ⟨rfl, SQ.out.1⟩
 have d0 : decide ((40 : Int) < (l.length : Int)) = false := decide_eq_false (by omega)
 have HC := Lib.hid c1
 clear c1
 go_upto_region 3 with fail
 have e2 : V.cell? ⟨w.heap.size + 1, 2, none⟩ = some (I x.lo) := (cell_of_row _ _ 2 _ _ _ S0.out.hd).trans rfl
 have e3 : V.cell? ⟨w.heap.size + 1, 3, none⟩ = some (I x.hi) := (cell_of_row _ _ 3 _ _ _ S0.out.hd).trans rfl
 have e6 : V.cell? ⟨w.heap.size + 1, 6, none⟩ = some (.int .u8 b) := (cell_of_row _ _ 6 _ _ _ S0.out.hd).trans rfl
 have CP := Lib.hid fun U => point_any x b U HB.out
 rcases hp : ptB x with _ | _
 case false =>
  rw [hp] at CP
  simp only [Bool.false_eq_true, if_false] at CP
  clear hp d0
  go_wp2_with fail
  refine (CP.out _).mono ?_
  rintro e w1 ⟨rfl, hb⟩
  have S1 := Lib.hid (S0.out.below hb)
  clear hb S0 CP e2 e3 e6
  go_wp2_with fail
  refine (KF.out _).mono ?_
  rintro e wk ⟨rfl, hb⟩
  have SK := Lib.hid (show StL w _ wk from by first | exact S1.out.below hb | exact S1.out.below (nc_one hb))
  clear hb
  go_wp2_with fail
  refine (KQ.out _).mono ?_
  rintro e wq ⟨rfl, hb⟩
  have SQ := Lib.hid (SK.out.below hb)
  clear hb SK
  go_wp2_with fail
  go_ret
  exact ⟨rfl, SQ.out.1⟩
 rw [hp] at CP
 simp only [if_true] at CP
 have HPT := Lib.hid (spanB_iff.1 hp)
 clear hp d0
 go_wp2_with fail
 refine (CP.out _).mono ?_
 rintro e w1 ⟨rfl, hb⟩
 have S1 := Lib.hid (S0.out.below hb)
 clear hb S0 CP e2 e3 e6
 obtain ⟨n, hn⟩ : ∃ n, atP x b = n := ⟨_, rfl⟩
 have hnx := atP_in (r := x) (b := b) (by have := HPT.out; omega) HB.out
 rw [hn] at hnx ⊢
 have HNX := Lib.hid hnx
 clear hn hnx
 go_upto_region 4 with fail
 obtain ⟨P1, hP1⟩ : ∃ q, q = w1.heap.size := ⟨_, rfl⟩
 obtain ⟨X1, hX1⟩ : ∃ Z, Z = w1.alloc (.cells #[I n, I n] 24) := ⟨_, rfl⟩
 have S2 : Hid (StL w [(P1, #[I n, I n], 24), (w.heap.size + 1, rdA g day x q b, 29), (w.heap.size, mdA m, 27)] X1) := by
  refine StL.cons (S1.out.below (by rw [hX1]; exact (Below.refl _ _).alloc (Nat.le_refl _) _)) ?_
  rw [hX1]
  exact heap_last _ _ _ hP1
 rw [← hP1, ← hX1]
 clear hP1 hX1 S1
 go_upto_region 6 with fail
 refine (tr_parts (trF l g day x)).elim fun tl h1 => h1.elim fun th h2 => h2.elim fun p h3 => h3.elim fun te hq => ?_
 clear h1 h2 h3
 refine (tr_parts (trF l g day ⟨n, n⟩)).elim fun sl h1 => h1.elim fun sh h2 => h2.elim fun p2 h3 => h3.elim fun se hs => ?_
 clear h1 h2 h3
 have CT : Hid (∀ V A c, Rd V V.heap.size 6 A l.length (rG l) → Calls Tryz.prog 8 #[.slice A l.length c, I g, I day, .agg #[I x.lo, I x.hi]] V (RetTy V (⟨tl, th⟩, p, te))) := fun V A c h => by rw [← hq]; exact traceY_any l g day x A c V V.heap.size (Nat.le_refl _) h
 have CT2 : Hid (∀ V A c, Rd V V.heap.size 6 A l.length (rG l) → Calls Tryz.prog 8 #[.slice A l.length c, I g, I day, .agg #[I n, I n]] V (RetTy V (⟨sl, sh⟩, p2, se))) := fun V A c h => by rw [← hs]; exact traceY_any l g day ⟨n, n⟩ A c V V.heap.size (Nat.le_refl _) h
 have HQ := Lib.hid hq
 have HS := Lib.hid hs
 have HSUB : Hid (te = 0 → se = 0 ∧ Sub ⟨sl, sh⟩ ⟨tl, th⟩) := fun h => by
  have h1 := trF_sub (l := l) (g := g) (day := day) (X := x) (x := ⟨n, n⟩) (by rw [HQ.out]; exact h) ⟨HNX.out.1, Int.le_refl _, HNX.out.2⟩
  rw [HQ.out, HS.out] at h1
  exact h1
 clear hq hs
 have g0 : ∀ u, (ovr X1 u).cell? ⟨w.heap.size + 1, 0, none⟩ = some (I g) := cell_row9 S2.out.tail.hd (j := 0) rfl
 have g1 : ∀ u, (ovr X1 u).cell? ⟨w.heap.size + 1, 1, none⟩ = some (I day) := cell_row9 S2.out.tail.hd (j := 1) rfl
 have g2 : ∀ u, (ovr X1 u).cell? ⟨w.heap.size + 1, 2, none⟩ = some (I x.lo) := cell_row9 S2.out.tail.hd (j := 2) rfl
 have g3 : ∀ u, (ovr X1 u).cell? ⟨w.heap.size + 1, 3, none⟩ = some (I x.hi) := cell_row9 S2.out.tail.hd (j := 3) rfl
 have HX1 : Hid (∀ z, Below w.heap.size w (ovr X1 z)) := fun z => (S2.out.below (ovr_below X1 z)).1
 refine Dl.wp_region_late 15 [12, 13] (fun j => if j = 0 then some Emp else if j = 2 then some (SlAm X1.heap.size 6 l.length (rG l)) else if j = 9 then some (TrAt9 tl th p te) else if j = 14 then some (NewAt X1 #[I 0, I 0] 24) else none) (by kernel_rfl) (by kernel_rfl) (by kernel_rfl) (by kernel_rfl) [14] (E := 24)
  ⟨by kernel_rfl, alloc_rng, fun j hj => by simp only [List.mem_cons, List.not_mem_nil, or_false] at hj; rcases hj with rfl <;> exact ⟨_, _, _, rfl⟩⟩ (by kernel_rfl) (fun i hi => by simp only [List.mem_cons, List.not_mem_nil, or_false] at hi; rcases hi with rfl | rfl <;> rfl) (fun c a d v w h => by cases d <;> exact h) ?_
 simp only [List.take_succ_cons, List.take_zero, List.drop_succ_cons, List.drop_zero]
 refine Dk.wpG_make Emp rfl rfl (fun w' hw' _ => ?_) (fun u hu => ?_)
 · go_simp
   exact emp_grow w'
 obtain ⟨_, _, b0, rfl⟩ := hu
 simp only [Act.put, List.setIfInBounds_toArray, List.set_cons_zero, List.set_cons_succ]
 repeat (refine Dk.wpG_one rfl rfl rfl ?_; intro K hK; go_big_quiet_op; go_big_quiet_on)
 refine Dk.wpG_make (SlAm X1.heap.size 6 l.length (rG l)) rfl rfl (fun w' hw' _ => ?_) (fun u hu => ?_)
 · obtain ⟨z, rfl⟩ := hw'
   exact app_growM _ _ 22 rfl 71 i3 _ 6 48 Tryz.underlying22 hi3 jz0 jz1 jz2 rfl (by decide) b0 rfl A l.length c rfl (rG l) ((HRD.out _ (HX1.out z)).more (HX1.out z).size) (by have := HC.out; omega) (by decide) (ovr_below X1 z).size
 obtain ⟨_, _, A2, c2, rfl, _, _, _⟩ := hu
 simp only [Act.put, List.setIfInBounds_toArray, List.set_cons_zero, List.set_cons_succ]
 repeat (refine Dk.wpG_one rfl rfl rfl ?_; intro K hK; go_big_quiet_op; go_big_quiet_on)
 refine Dk.wpG_make (TrAt9 tl th p te) rfl rfl (fun w' hw' hk => ?_) (fun u hu => ?_)
 · have q1 := hk ⟨2, .data⟩ (by simp) rfl _ 44 _ rfl rfl rfl (by simp) rfl
   go_simp
   exact tr_grow (CT.out _ _ _ q1.now.at9)
 obtain ⟨_, _, PA1, pc1, rfl, _⟩ := hu
 simp only [Act.put, List.setIfInBounds_toArray, List.set_cons_zero, List.set_cons_succ]
 repeat (refine Dk.wpG_one rfl rfl rfl ?_; intro K hK; go_big_quiet_op; go_big_quiet_on)
 refine Dk.wpG_make (NewAt X1 #[I 0, I 0] 24) rfl rfl (fun w' hw' _ => ?_) (fun u hu => ?_)
 · go_simp
   exact new_grow hw'
 obtain ⟨_, _, B1, rfl, _, _⟩ := hu
 simp only [Act.put, List.setIfInBounds_toArray, List.set_cons_zero, List.set_cons_succ]
 refine Dk.wpG_nil (fun w5 hw5 hG => ?_)
 have hn1 := (Box.now hG.2).at
 clear hG
 refine Dl.wpTailH_cons ?_
 refine wp_store_row 24 _ _ rfl B1 rfl _ _ hn1.1 #[I tl, I th] rfl (one2 rfl rfl) rfl (by kernel_rfl) ?_
 have hcl := below_setRow hw5.le hn1.2 #[I tl, I th]
 refine ⟨Cl.of hcl, ?_⟩
 refine Dl.wpTailH_cons ?_
 refine wp_assign _ (.slice PA1 p.length pc1) rfl rfl ?_
 refine ⟨Cl.of hcl, ?_⟩
 refine Dl.wpTailH_cons ?_
 refine wp_assign _ (I te) rfl rfl ?_
 refine ⟨Cl.of hcl, ?_⟩
 refine Dl.wpTailH_nil ?_
 simp only [Act.put]
 have S3 := Lib.hid ((S2.out.below hcl).cons (setRow_same (cs' := #[I tl, I th]) hn1.1))
 obtain ⟨X2, hX2⟩ : ∃ X2, X2 = w5.setRow B1 #[I tl, I th] := ⟨_, rfl⟩
 rw [← hX2] at S3 ⊢
 clear hX2 hcl hn1 hw5 HX1
 clear g0 g1 g2 g3 CT S2
 go_upto_region 7 with fail
 have g0 : ∀ u, (ovr X2 u).cell? ⟨w.heap.size + 1, 0, none⟩ = some (I g) := cell_row9 S3.out.tail.tail.hd (j := 0) rfl
 have g1 : ∀ u, (ovr X2 u).cell? ⟨w.heap.size + 1, 1, none⟩ = some (I day) := cell_row9 S3.out.tail.tail.hd (j := 1) rfl
 have g2 : ∀ u, (ovr X2 u).cell? ⟨P1, 0, none⟩ = some (I n) := cell_row9 S3.out.tail.hd (j := 0) rfl
 have g3 : ∀ u, (ovr X2 u).cell? ⟨P1, 1, none⟩ = some (I n) := cell_row9 S3.out.tail.hd (j := 1) rfl
 have HX2 : Hid (∀ z, Below w.heap.size w (ovr X2 z)) := fun z => (S3.out.below (ovr_below X2 z)).1
 refine Dl.wp_region_late 14 [11, 12] (fun j => if j = 0 then some Emp else if j = 2 then some (SlAm X2.heap.size 6 l.length (rG l)) else if j = 8 then some (TrAt9 sl sh p2 se) else if j = 13 then some (NewAt X2 #[I 0, I 0] 24) else none) (by kernel_rfl) (by kernel_rfl) (by kernel_rfl) (by kernel_rfl) [13] (E := 24)
  ⟨by kernel_rfl, alloc_rng, fun j hj => by simp only [List.mem_cons, List.not_mem_nil, or_false] at hj; rcases hj with rfl <;> exact ⟨_, _, _, rfl⟩⟩ (by kernel_rfl) (fun i hi => by simp only [List.mem_cons, List.not_mem_nil, or_false] at hi; rcases hi with rfl | rfl <;> rfl) (fun c a d v w h => by cases d <;> exact h) ?_
 simp only [List.take_succ_cons, List.take_zero, List.drop_succ_cons, List.drop_zero]
 refine Dk.wpG_make Emp rfl rfl (fun w' hw' _ => ?_) (fun u hu => ?_)
 · go_simp
   exact emp_grow w'
 obtain ⟨_, _, b0, rfl⟩ := hu
 simp only [Act.put, List.setIfInBounds_toArray, List.set_cons_zero, List.set_cons_succ]
 repeat (refine Dk.wpG_one rfl rfl rfl ?_; intro K hK; go_big_quiet_op; go_big_quiet_on)
 refine Dk.wpG_make (SlAm X2.heap.size 6 l.length (rG l)) rfl rfl (fun w' hw' _ => ?_) (fun u hu => ?_)
 · obtain ⟨z, rfl⟩ := hw'
   exact app_growM _ _ 22 rfl 71 i3 _ 6 48 Tryz.underlying22 hi3 jz0 jz1 jz2 rfl (by decide) b0 rfl A l.length c rfl (rG l) ((HRD.out _ (HX2.out z)).more (HX2.out z).size) (by have := HC.out; omega) (by decide) (ovr_below X2 z).size
 obtain ⟨_, _, A2, c2, rfl, _, _, _⟩ := hu
 simp only [Act.put, List.setIfInBounds_toArray, List.set_cons_zero, List.set_cons_succ]
 repeat (refine Dk.wpG_one rfl rfl rfl ?_; intro K hK; go_big_quiet_op; go_big_quiet_on)
 refine Dk.wpG_make (TrAt9 sl sh p2 se) rfl rfl (fun w' hw' hk => ?_) (fun u hu => ?_)
 · have q1 := hk ⟨2, .data⟩ (by simp) rfl _ 58 _ rfl rfl rfl (by simp) rfl
   go_simp
   exact tr_grow (CT2.out _ _ _ q1.now.at9)
 obtain ⟨_, _, PA2, pc2, rfl, _⟩ := hu
 simp only [Act.put, List.setIfInBounds_toArray, List.set_cons_zero, List.set_cons_succ]
 repeat (refine Dk.wpG_one rfl rfl rfl ?_; intro K hK; go_big_quiet_op; go_big_quiet_on)
 refine Dk.wpG_make (NewAt X2 #[I 0, I 0] 24) rfl rfl (fun w' hw' _ => ?_) (fun u hu => ?_)
 · go_simp
   exact new_grow hw'
 obtain ⟨_, _, B2, rfl, _, _⟩ := hu
 simp only [Act.put, List.setIfInBounds_toArray, List.set_cons_zero, List.set_cons_succ]
 refine Dk.wpG_nil (fun w5 hw5 hG => ?_)
 have hn1 := (Box.now hG.2).at
 clear hG
 refine Dl.wpTailH_cons ?_
 refine wp_store_row 24 _ _ rfl B2 rfl _ _ hn1.1 #[I sl, I sh] rfl (one2 rfl rfl) rfl (by kernel_rfl) ?_
 have hcl := below_setRow hw5.le hn1.2 #[I sl, I sh]
 refine ⟨Cl.of hcl, ?_⟩
 refine Dl.wpTailH_cons ?_
 refine wp_assign _ (.slice PA2 p2.length pc2) rfl rfl ?_
 refine ⟨Cl.of hcl, ?_⟩
 refine Dl.wpTailH_cons ?_
 refine wp_assign _ (I se) rfl rfl ?_
 refine ⟨Cl.of hcl, ?_⟩
 refine Dl.wpTailH_nil ?_
 simp only [Act.put]
 have S4 := Lib.hid ((S3.out.below hcl).cons (setRow_same (cs' := #[I sl, I sh]) hn1.1))
 obtain ⟨X3, hX3⟩ : ∃ X3, X3 = w5.setRow B2 #[I sl, I sh] := ⟨_, rfl⟩
 rw [← hX3] at S4 ⊢
 clear hX3 hcl hn1 hw5 HX2
 clear g0 g1 g2 g3 CT2 S3
 by_cases hte : te = 0
 case neg =>
  have q0 : (te != 0) = true := by simpa using hte
  clear hte
  go_wp2_with fail
  refine (KF.out _).mono ?_
  rintro e wk ⟨rfl, hb⟩
  have SK := Lib.hid (show StL w _ wk from by first | exact S4.out.below hb | exact S4.out.below (nc_one hb))
  clear hb
  go_wp2_with fail
  refine (KQ.out _).mono ?_
  rintro e wq ⟨rfl, hb⟩
  have SQ := Lib.hid (SK.out.below hb)
  clear hb SK
  go_wp2_with fail
  go_ret
  exact ⟨rfl, SQ.out.1⟩
 subst hte
 obtain ⟨hse, hsub⟩ := HSUB.out rfl
 subst hse
 have HSB := Lib.hid hsub
 clear hsub HSUB
 have a0 : X3.cell? ⟨B2, 0, none⟩ = some (I sl) := (cell_of_row _ _ 0 _ _ _ (S4.out.nth 0 rfl)).trans rfl
 have a1 : X3.cell? ⟨B2, 1, none⟩ = some (I sh) := (cell_of_row _ _ 1 _ _ _ (S4.out.nth 0 rfl)).trans rfl
 have a2 : X3.cell? ⟨B1, 0, none⟩ = some (I tl) := (cell_of_row _ _ 0 _ _ _ (S4.out.nth 1 rfl)).trans rfl
 have a3 : X3.cell? ⟨B1, 1, none⟩ = some (I th) := (cell_of_row _ _ 1 _ _ _ (S4.out.nth 1 rfl)).trans rfl
 have d1 : decide (sl < tl) = false := decide_eq_false (by have := HSB.out.lo; simp only at this; omega)
 have d2 : decide (th < sh) = false := decide_eq_false (by have := HSB.out.hi; simp only at this; omega)
 have d3 : decide (sh < sl) = false := decide_eq_false (by have := HSB.out.mid; simp only at this; omega)
 go_upto_region 12 with fail
 clear d1 d2 d3 a0 a1
 have C1 := Lib.hid fun V => regionsX_any m ⟨tl, th⟩ q V
 have a4 : X3.cell? ⟨w.heap.size + 1, 4, none⟩ = some (I q.lo) := (cell_of_row _ _ 4 _ _ _ (S4.out.nth 3 rfl)).trans rfl
 have a5 : X3.cell? ⟨w.heap.size + 1, 5, none⟩ = some (I q.hi) := (cell_of_row _ _ 5 _ _ _ (S4.out.nth 3 rfl)).trans rfl
 by_cases h1 : (rgsF m ⟨tl, th⟩ q).2 = 0
 case neg =>
  rw [rgs_no h1] at C1
  clear h1
  go_wp2_with (with_reducible show wpList _ _ _ _ _ _; refine wpList_load_row9 rfl 27 _ rfl w.heap.size rfl (mdA m) _ _ _ (S4.out.nth 4 rfl) Tryz.underlying27 rfl (by kernel_rfl) ?_)
  refine (C1.out _).mono ?_
  rintro e w6 ⟨rfl, hb⟩
  have S5 := Lib.hid (S4.out.below hb)
  clear hb S4 C1 a2 a3 a4 a5
  go_wp2_with fail
  refine (KF.out _).mono ?_
  rintro e wk ⟨rfl, hb⟩
  have SK := Lib.hid (show StL w _ wk from by first | exact S5.out.below hb | exact S5.out.below (nc_one hb))
  clear hb
  go_wp2_with fail
  refine (KQ.out _).mono ?_
  rintro e wq ⟨rfl, hb⟩
  have SQ := Lib.hid (SK.out.below hb)
  clear hb SK
  go_wp2_with fail
  go_ret
  exact ⟨rfl, SQ.out.1⟩
 obtain ⟨hpl, hrg⟩ := rgs_ok h1
 have hpl2 := sub_ok hpl HSB.out
 have hrn := spanB_iff.1 hpl.r
 simp only at hrn
 have hs1 := HSB.out.lo
 have hs2 := HSB.out.mid
 have hs3 := HSB.out.hi
 simp only at hs1 hs2 hs3
 have hin := atP_in (r := ⟨sl, sh⟩) (b := b) hs2 HB.out
 have CA := Lib.hid fun V => at_any ⟨sl, sh⟩ b V (by simp only; omega) HB.out
 obtain ⟨n2, hn2⟩ : ∃ n, atP ⟨sl, sh⟩ b = n := ⟨_, rfl⟩
 rw [hn2] at hin CA
 simp only at hin
 have hsb2 : Sub ⟨n2, n2⟩ ⟨sl, sh⟩ := ⟨hin.1, Int.le_refl _, hin.2⟩
 have hpl3 := sub_ok hpl2 hsb2
 have C2 := Lib.hid fun V => regionsX_any m ⟨sl, sh⟩ q V
 have C3 := Lib.hid fun V => regionsX_any m ⟨n2, n2⟩ q V
 rw [hrg] at C1
 rw [rgs_pl hpl2] at C2
 rw [rgs_pl hpl3] at C3
 have b1 := sub_not hpl HSB.out
 have b2 := sub_not hpl2 hsb2
 have b3 := reg_some hpl3
 obtain ⟨RA, hRA⟩ : ∃ S, regK (posB m ⟨tl, th⟩ q) 5 = S := ⟨_, rfl⟩
 obtain ⟨RB, hRB⟩ : ∃ S, regK (posB m ⟨sl, sh⟩ q) 5 = S := ⟨_, rfl⟩
 obtain ⟨RC, hRC⟩ : ∃ S, regK (posB m ⟨n2, n2⟩ q) 5 = S := ⟨_, rfl⟩
 rw [hRA] at C1 b1
 rw [hRB] at C2 b1 b2
 rw [hRC] at C3 b2 b3
 have b4 : (RC != 0) = true := by simpa using b3
 have HBB : Hid (bits .andNot .u8 RB RA = 0 ∧ bits .andNot .u8 RC RB = 0 ∧ (RC != 0) = true) := ⟨b1, b2, b4⟩
 clear h1 hpl hpl2 hpl3 hrg hrn hs1 hs2 hs3 hin hn2 hsb2 b1 b2 b3 b4 hRA hRB hRC
 go_wp2_with (with_reducible show wpList _ _ _ _ _ _; refine wpList_load_row9 rfl 27 _ rfl w.heap.size rfl (mdA m) _ _ _ (S4.out.nth 4 rfl) Tryz.underlying27 rfl (by kernel_rfl) ?_)
 refine (C1.out _).mono ?_
 rintro e w6 ⟨rfl, hb⟩
 have S5 := Lib.hid (S4.out.below hb)
 clear hb S4 C1 a2 a3 a4 a5
 go_upto_region 15 with fail
 have a0 : w6.cell? ⟨B2, 0, none⟩ = some (I sl) := (cell_of_row _ _ 0 _ _ _ (S5.out.nth 0 rfl)).trans rfl
 have a1 : w6.cell? ⟨B2, 1, none⟩ = some (I sh) := (cell_of_row _ _ 1 _ _ _ (S5.out.nth 0 rfl)).trans rfl
 have a4 : w6.cell? ⟨w.heap.size + 1, 4, none⟩ = some (I q.lo) := (cell_of_row _ _ 4 _ _ _ (S5.out.nth 3 rfl)).trans rfl
 have a5 : w6.cell? ⟨w.heap.size + 1, 5, none⟩ = some (I q.hi) := (cell_of_row _ _ 5 _ _ _ (S5.out.nth 3 rfl)).trans rfl
 go_wp2_with (with_reducible show wpList _ _ _ _ _ _; refine wpList_load_row9 rfl 27 _ rfl w.heap.size rfl (mdA m) _ _ _ (S5.out.nth 4 rfl) Tryz.underlying27 rfl (by kernel_rfl) ?_)
 refine (C2.out _).mono ?_
 rintro e w7 ⟨rfl, hb⟩
 have S6 := Lib.hid (S5.out.below hb)
 clear hb S5 C2 a0 a1 a4 a5
 go_upto_region 16 with fail
 have a0 : w7.cell? ⟨B2, 0, none⟩ = some (I sl) := (cell_of_row _ _ 0 _ _ _ (S6.out.nth 0 rfl)).trans rfl
 have a1 : w7.cell? ⟨B2, 1, none⟩ = some (I sh) := (cell_of_row _ _ 1 _ _ _ (S6.out.nth 0 rfl)).trans rfl
 have a6 : w7.cell? ⟨w.heap.size + 1, 6, none⟩ = some (.int .u8 b) := (cell_of_row _ _ 6 _ _ _ (S6.out.nth 3 rfl)).trans rfl
 go_wp2_with fail
 refine (CA.out _).mono ?_
 rintro e w8 ⟨rfl, hb⟩
 have S7 := Lib.hid (S6.out.below hb)
 clear hb S6 CA a0 a1 a6
 go_upto_region 17 with fail
 have a4 : w8.cell? ⟨w.heap.size + 1, 4, none⟩ = some (I q.lo) := (cell_of_row _ _ 4 _ _ _ (S7.out.nth 3 rfl)).trans rfl
 have a5 : w8.cell? ⟨w.heap.size + 1, 5, none⟩ = some (I q.hi) := (cell_of_row _ _ 5 _ _ _ (S7.out.nth 3 rfl)).trans rfl
 go_wp2_with (with_reducible show wpList _ _ _ _ _ _; refine wpList_load_row9 rfl 27 _ rfl w.heap.size rfl (mdA m) _ _ _ (S7.out.nth 4 rfl) Tryz.underlying27 rfl (by kernel_rfl) ?_)
 refine (C3.out _).mono ?_
 rintro e w9 ⟨rfl, hb⟩
 have S8 := Lib.hid (S7.out.below hb)
 clear hb S7 C3 a4 a5
 have b1 := HBB.out.1
 have b2 := HBB.out.2.1
 have b3 := HBB.out.2.2
 go_wp2_with fail
 refine (KF.out _).mono ?_
 rintro e wk ⟨rfl, hb⟩
 have SK := Lib.hid (show StL w _ wk from by first | exact S8.out.below hb | exact S8.out.below (nc_one hb))
 clear hb
 go_wp2_with fail
 refine (KQ.out _).mono ?_
 rintro e wq ⟨rfl, hb⟩
 have SQ := Lib.hid (SK.out.below hb)
 clear hb SK
 go_wp2_with fail
 go_ret
 exact ⟨rfl, SQ.out.1⟩
end Go.Proofs.YtliolnfcgaflcaaGreat.Un
