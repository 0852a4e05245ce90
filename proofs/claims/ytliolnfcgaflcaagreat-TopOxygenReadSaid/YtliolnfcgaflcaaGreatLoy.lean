/- The law TopOxygenRead: its walk. -/
import Derived.Test.YtliolnfcgaflcaaGreatLtf
import Derived.Test.YtliolnfcgaflcaaGreatTqf
import Derived.Test.YtliolnfcgaflcaaGreatOpl
import Derived.Test.YtliolnfcgaflcaaGreatRo
namespace Go.Proofs.YtliolnfcgaflcaaGreat.Un
open Go.RowKit
set_option maxRecDepth 100000 in
set_option maxHeartbeats 8000000 in
theorem topOxygenRead_any (A : Option Addr) (c : Nat) (l : List Gag) (HA : Option Addr) (hc : Nat) (hl : List Hst) (g day : Int) (x q : Rng) (b : Int) (w : World) (hx : Rd w w.heap.size 6 A l.length (rG l)) (hh : Rd w w.heap.size 11 HA hl.length (rH hl)) (hb : 0 ≤ b ∧ b ≤ 255) :
 Calls Tryz.prog 4 #[.slice A l.length c, .slice HA hl.length hc, .agg (rdA g day x q b)] w fun e w' => e = .returned (.bool true) ∧ Below w.heap.size w w' := by
 have KF := Lib.hid flat_top
 have KQ := Lib.hid quiet_any
 have HRD : Hid (∀ V, Below w.heap.size w V → Rd V w.heap.size 6 A l.length (rG l)) := fun V hV => hx.below hV
 have HRH : Hid (∀ V, Below w.heap.size w V → Rd V w.heap.size 11 HA hl.length (rH hl)) := fun V hV => hh.below hV
 have HB := Lib.hid hb
 obtain ⟨i3, hi3, jz0, jz1, jz2⟩ := info_parts gag9_info
 obtain ⟨j3, hj3, kz0, kz1, kz2⟩ := info_parts hst_info'
 clear hx hb hh
 obtain ⟨W, hW⟩ : ∃ W, W = (w.alloc (.cells #[I g, I day, I x.lo, I x.hi, I q.lo, I q.hi, .int .u8 b] 29)) := ⟨_, rfl⟩
 have rowW0 : W.heap[w.heap.size]? = some (.cells #[I g, I day, I x.lo, I x.hi, I q.lo, I q.hi, .int .u8 b] 29 (0, 0)) := by rw [hW]; exact heap_last _ _ _ rfl
 have yW00 := ovr_cell (W := W) (b := w.heap.size) (o := 0) (v := I g) (by rw [cell_of_row _ _ _ _ _ _ rowW0]; rfl)
 have yW01 := ovr_cell (W := W) (b := w.heap.size) (o := 1) (v := I day) (by rw [cell_of_row _ _ _ _ _ _ rowW0]; rfl)
 have yW02 := ovr_cell (W := W) (b := w.heap.size) (o := 2) (v := I x.lo) (by rw [cell_of_row _ _ _ _ _ _ rowW0]; rfl)
 have yW03 := ovr_cell (W := W) (b := w.heap.size) (o := 3) (v := I x.hi) (by rw [cell_of_row _ _ _ _ _ _ rowW0]; rfl)
 have yW04 := ovr_cell (W := W) (b := w.heap.size) (o := 4) (v := I q.lo) (by rw [cell_of_row _ _ _ _ _ _ rowW0]; rfl)
 have yW05 := ovr_cell (W := W) (b := w.heap.size) (o := 5) (v := I q.hi) (by rw [cell_of_row _ _ _ _ _ _ rowW0]; rfl)
 have yW06 := ovr_cell (W := W) (b := w.heap.size) (o := 6) (v := .int .u8 b) (by rw [cell_of_row _ _ _ _ _ _ rowW0]; rfl)
 have RrowW0 := Lib.hid (ovr_row rowW0)
 clear rowW0
 have HUW : Hid (∀ u, Below w.heap.size w (ovr W u)) := U1 hW
 have HW := Lib.hid hW
 clear hW
 go_enter Tryz.func4, Tryz.ntmps4
 go_upto_region 1 with (fail)
 rw [← HW.out]
 obtain ⟨u0, hu0⟩ := ovr_self W
 rw [hu0]
 clear hu0
 have S0 : Hid (StL w [(w.heap.size, rdA g day x q b, 29)] (ovr W u0)) := ⟨HUW.out u0, fun y hy => by
  rcases List.mem_cons.1 hy with rfl | hy
  · exact RrowW0.out u0
  cases hy⟩
 refine name_w fun V hV => ?_
 rw [← hV] at S0
 clear hV HUW RrowW0 HW yW00 yW01 yW02 yW03 yW04 yW05 yW06
 have e2 : V.cell? ⟨w.heap.size, 2, none⟩ = some (I x.lo) := (cell_of_row _ _ 2 _ _ _ S0.out.hd).trans rfl
 have e3 : V.cell? ⟨w.heap.size, 3, none⟩ = some (I x.hi) := (cell_of_row _ _ 3 _ _ _ S0.out.hd).trans rfl
 have e6 : V.cell? ⟨w.heap.size, 6, none⟩ = some (.int .u8 b) := (cell_of_row _ _ 6 _ _ _ S0.out.hd).trans rfl
 have CP := Lib.hid fun U => point_any x b U HB.out
 rcases hp : ptB x with _ | _
 case false =>
  rw [hp] at CP
  simp only [Bool.false_eq_true, if_false] at CP
  clear hp
  go_wp2_with fail
  refine (CP.out _).mono ?_
  rintro e w1 ⟨rfl, hb⟩
  have S1 := Lib.hid (S0.out.below hb)
  clear hb S0 CP e2 e3 e6
  go_upto_region 2 with fail
  have S2 := Lib.hid (S1.out.below (U := w1.alloc (.cells #[I 0, I 0] 24)) ((Below.refl _ _).alloc (Nat.le_refl _) _))
  by_cases c1 : l.length ≤ 40
  case neg =>
   have d0 : decide ((40 : Int) < (l.length : Int)) = true := decide_eq_true (by omega)
   clear c1
   go_wp2_with fail
   refine (KF.out _).mono ?_
   rintro e wk ⟨rfl, hb⟩
   have SK := Lib.hid (show StL w _ wk from by first | exact S2.out.below hb | exact S2.out.below (nc_one hb))
   clear hb
   go_wp2_with fail
   refine (KQ.out _).mono ?_
   rintro e wq ⟨rfl, hb⟩
   have SQ := Lib.hid (SK.out.below hb)
   clear hb SK
   go_wp2_with fail
   go_ret
   exact ⟨rfl, SQ.out.1⟩
  have d0 : decide ((40 : Int) < (l.length : Int)) = false := decide_eq_false (by omega)
  by_cases c2 : hl.length ≤ 12
  case neg =>
   have d1 : decide ((12 : Int) < (hl.length : Int)) = true := decide_eq_true (by omega)
   clear c1 c2
   go_wp2_with fail
   refine (KF.out _).mono ?_
   rintro e wk ⟨rfl, hb⟩
   have SK := Lib.hid (show StL w _ wk from by first | exact S2.out.below hb | exact S2.out.below (nc_one hb))
   clear hb
   go_wp2_with fail
   refine (KQ.out _).mono ?_
   rintro e wq ⟨rfl, hb⟩
   have SQ := Lib.hid (SK.out.below hb)
   clear hb SK
   go_wp2_with fail
   go_ret
   exact ⟨rfl, SQ.out.1⟩
  have d1 : decide ((12 : Int) < (hl.length : Int)) = false := decide_eq_false (by omega)
  clear c1 c2
  go_wp2_with fail
  refine (KF.out _).mono ?_
  rintro e wk ⟨rfl, hb⟩
  have SK := Lib.hid (show StL w _ wk from by first | exact S2.out.below hb | exact S2.out.below (nc_one hb))
  clear hb
  go_wp2_with fail
  refine (KQ.out _).mono ?_
  rintro e wq ⟨rfl, hb⟩
  have SQ := Lib.hid (SK.out.below hb)
  clear hb SK
  go_wp2_with fail
  go_ret
  exact ⟨rfl, SQ.out.1⟩
 rw [hp] at CP
 simp only [if_true] at CP
 have HPT := Lib.hid (spanB_iff.1 hp)
 clear hp
 go_wp2_with fail
 refine (CP.out _).mono ?_
 rintro e w1 ⟨rfl, hb⟩
 have S1 := Lib.hid (S0.out.below hb)
 clear hb S0 CP e2 e3 e6
 obtain ⟨n, hn⟩ : ∃ n, atP x b = n := ⟨_, rfl⟩
 have hnx := atP_in (r := x) (b := b) (by have := HPT.out; omega) HB.out
 rw [hn] at hnx ⊢
 have HNX := Lib.hid hnx
 clear hn hnx
 go_upto_region 2 with fail
 obtain ⟨P1, hP1⟩ : ∃ q, q = w1.heap.size := ⟨_, rfl⟩
 obtain ⟨X1, hX1⟩ : ∃ Z, Z = w1.alloc (.cells #[I n, I n] 24) := ⟨_, rfl⟩
 have S2 : Hid (StL w [(P1, #[I n, I n], 24), (w.heap.size, rdA g day x q b, 29)] X1) := by
  refine StL.cons (S1.out.below (by rw [hX1]; exact (Below.refl _ _).alloc (Nat.le_refl _) _)) ?_
  rw [hX1]
  exact heap_last _ _ _ hP1
 rw [← hP1, ← hX1]
 clear hP1 hX1 S1
 by_cases c1 : l.length ≤ 40
 case neg =>
  have d0 : decide ((40 : Int) < (l.length : Int)) = true := decide_eq_true (by omega)
  clear c1
  go_wp2_with fail
  refine (KF.out _).mono ?_
  rintro e wk ⟨rfl, hb⟩
  have SK := Lib.hid (show StL w _ wk from by first | exact S2.out.below hb | exact S2.out.below (nc_one hb))
  clear hb
  go_wp2_with fail
  refine (KQ.out _).mono ?_
  rintro e wq ⟨rfl, hb⟩
  have SQ := Lib.hid (SK.out.below hb)
  clear hb SK
  go_wp2_with fail
  go_ret
  exact ⟨rfl, SQ.out.1⟩
 have d0 : decide ((40 : Int) < (l.length : Int)) = false := decide_eq_false (by omega)
 by_cases c2 : hl.length ≤ 12
 case neg =>
  have d1 : decide ((12 : Int) < (hl.length : Int)) = true := decide_eq_true (by omega)
  clear c1 c2
  go_wp2_with fail
  refine (KF.out _).mono ?_
  rintro e wk ⟨rfl, hb⟩
  have SK := Lib.hid (show StL w _ wk from by first | exact S2.out.below hb | exact S2.out.below (nc_one hb))
  clear hb
  go_wp2_with fail
  refine (KQ.out _).mono ?_
  rintro e wq ⟨rfl, hb⟩
  have SQ := Lib.hid (SK.out.below hb)
  clear hb SK
  go_wp2_with fail
  go_ret
  exact ⟨rfl, SQ.out.1⟩
 have d1 : decide ((12 : Int) < (hl.length : Int)) = false := decide_eq_false (by omega)
 have HC := Lib.hid c1
 have HL := Lib.hid c2
 clear c1 c2
 go_upto_region 4 with fail
 clear d0 d1
 refine (tr_parts (trF l g day x)).elim fun tl h1 => h1.elim fun th h2 => h2.elim fun p h3 => h3.elim fun te hq => ?_
 clear h1 h2 h3
 refine (tr_parts (trF l g day ⟨n, n⟩)).elim fun sl h1 => h1.elim fun sh h2 => h2.elim fun p2 h3 => h3.elim fun se hs => ?_
 clear h1 h2 h3
 have CT : Hid (∀ V A c, Rd V V.heap.size 6 A l.length (rG l) → Calls Tryz.prog 8 #[.slice A l.length c, I g, I day, .agg #[I x.lo, I x.hi]] V (RetTy V (⟨tl, th⟩, p, te))) := fun V A c h => by rw [← hq]; exact traceY_any l g day x A c V V.heap.size (Nat.le_refl _) h
 have CT2 : Hid (∀ V A c, Rd V V.heap.size 6 A l.length (rG l) → Calls Tryz.prog 8 #[.slice A l.length c, I g, I day, .agg #[I n, I n]] V (RetTy V (⟨sl, sh⟩, p2, se))) := fun V A c h => by rw [← hs]; exact traceY_any l g day ⟨n, n⟩ A c V V.heap.size (Nat.le_refl _) h
 have HQ := Lib.hid hq
 have HS := Lib.hid hs
 have HSUB : Hid (te = 0 → se = 0 ∧ Sub ⟨sl, sh⟩ ⟨tl, th⟩) := fun h => by
  have h1 := trF_sub (l := l) (g := g) (day := day) (X := x) (x := ⟨n, n⟩) (by rw [HQ.out]; exact h) ⟨HNX.out.1, Int.le_refl _, HNX.out.2⟩
  rw [HQ.out, HS.out] at h1
  exact h1
 clear hq hs
 have g0 : ∀ u, (ovr X1 u).cell? ⟨w.heap.size, 0, none⟩ = some (I g) := cell_row9 S2.out.tail.hd (j := 0) rfl
 have g1 : ∀ u, (ovr X1 u).cell? ⟨w.heap.size, 1, none⟩ = some (I day) := cell_row9 S2.out.tail.hd (j := 1) rfl
 have g2 : ∀ u, (ovr X1 u).cell? ⟨w.heap.size, 2, none⟩ = some (I x.lo) := cell_row9 S2.out.tail.hd (j := 2) rfl
 have g3 : ∀ u, (ovr X1 u).cell? ⟨w.heap.size, 3, none⟩ = some (I x.hi) := cell_row9 S2.out.tail.hd (j := 3) rfl
 have HX1 : Hid (∀ z, Below w.heap.size w (ovr X1 z)) := fun z => (S2.out.below (ovr_below X1 z)).1
 refine Dl.wp_region_late 15 [12, 13] (fun j => if j = 0 then some Emp else if j = 2 then some (SlAm X1.heap.size 6 l.length (rG l)) else if j = 9 then some (TrAt9 tl th p te) else if j = 14 then some (NewAt X1 #[I 0, I 0] 24) else none) (by kernel_rfl) (by kernel_rfl) (by kernel_rfl) (by kernel_rfl) [14] (E := 24)
  ⟨by kernel_rfl, alloc_rng, fun j hj => by simp only [List.mem_cons, List.not_mem_nil, or_false] at hj; rcases hj with rfl <;> exact ⟨_, _, _, rfl⟩⟩ (by kernel_rfl) (fun i hi => by simp only [List.mem_cons, List.not_mem_nil, or_false] at hi; rcases hi with rfl | rfl <;> rfl) (fun c a d v w h => by cases d <;> exact h) ?_
 simp only [List.take_succ_cons, List.take_zero, List.drop_succ_cons, List.drop_zero]
 refine Dk.wpG_make Emp rfl rfl (fun w' hw' _ => ?_) (fun u hu => ?_)
 · go_simp
   exact emp_grow w'
 obtain ⟨_, _, b0, rfl⟩ := hu
 simp only [Act.put, List.setIfInBounds_toArray, List.set_cons_zero, List.set_cons_succ]
 repeat (refine Dk.wpG_one rfl rfl rfl ?_; intro K hK; go_big_quiet_op; go_big_quiet_on)
 refine Dk.wpG_make (SlAm X1.heap.size 6 l.length (rG l)) rfl rfl (fun w' hw' _ => ?_) (fun u hu => ?_)
 · obtain ⟨z, rfl⟩ := hw'
   exact app_growM _ _ 22 rfl 71 i3 _ 6 48 Tryz.underlying22 hi3 jz0 jz1 jz2 rfl (by decide) b0 rfl A l.length c rfl (rG l) ((HRD.out _ (HX1.out z)).more (HX1.out z).size) (by have := HC.out; omega) (by decide) (ovr_below X1 z).size
 obtain ⟨_, _, A2, c2, rfl, _, _, _⟩ := hu
 simp only [Act.put, List.setIfInBounds_toArray, List.set_cons_zero, List.set_cons_succ]
 repeat (refine Dk.wpG_one rfl rfl rfl ?_; intro K hK; go_big_quiet_op; go_big_quiet_on)
 refine Dk.wpG_make (TrAt9 tl th p te) rfl rfl (fun w' hw' hk => ?_) (fun u hu => ?_)
 · have q1 := hk ⟨2, .data⟩ (by simp) rfl _ 47 _ rfl rfl rfl (by simp) rfl
   go_simp
   exact tr_grow (CT.out _ _ _ q1.now.at9)
 obtain ⟨_, _, PA1, pc1, rfl, _⟩ := hu
 simp only [Act.put, List.setIfInBounds_toArray, List.set_cons_zero, List.set_cons_succ]
 repeat (refine Dk.wpG_one rfl rfl rfl ?_; intro K hK; go_big_quiet_op; go_big_quiet_on)
 refine Dk.wpG_make (NewAt X1 #[I 0, I 0] 24) rfl rfl (fun w' hw' _ => ?_) (fun u hu => ?_)
 · go_simp
   exact new_grow hw'
 obtain ⟨_, _, B1, rfl, _, _⟩ := hu
 simp only [Act.put, List.setIfInBounds_toArray, List.set_cons_zero, List.set_cons_succ]
 refine Dk.wpG_nil (fun w5 hw5 hG => ?_)
 have hn1 := (Box.now hG.2).at
 clear hG
 refine Dl.wpTailH_cons ?_
 refine wp_store_row 24 _ _ rfl B1 rfl _ _ hn1.1 #[I tl, I th] rfl (one2 rfl rfl) rfl (by kernel_rfl) ?_
 have hcl := below_setRow hw5.le hn1.2 #[I tl, I th]
 refine ⟨Cl.of hcl, ?_⟩
 refine Dl.wpTailH_cons ?_
 refine wp_assign _ (.slice PA1 p.length pc1) rfl rfl ?_
 refine ⟨Cl.of hcl, ?_⟩
 refine Dl.wpTailH_cons ?_
 refine wp_assign _ (I te) rfl rfl ?_
 refine ⟨Cl.of hcl, ?_⟩
 refine Dl.wpTailH_nil ?_
 simp only [Act.put]
 have S3 := Lib.hid ((S2.out.below hcl).cons (setRow_same (cs' := #[I tl, I th]) hn1.1))
 obtain ⟨X2, hX2⟩ : ∃ X2, X2 = w5.setRow B1 #[I tl, I th] := ⟨_, rfl⟩
 rw [← hX2] at S3 ⊢
 clear hX2 hcl hn1 hw5 HX1
 clear g0 g1 g2 g3 CT S2
 go_upto_region 5 with fail
 have g0 : ∀ u, (ovr X2 u).cell? ⟨w.heap.size, 0, none⟩ = some (I g) := cell_row9 S3.out.tail.tail.hd (j := 0) rfl
 have g1 : ∀ u, (ovr X2 u).cell? ⟨w.heap.size, 1, none⟩ = some (I day) := cell_row9 S3.out.tail.tail.hd (j := 1) rfl
 have g2 : ∀ u, (ovr X2 u).cell? ⟨P1, 0, none⟩ = some (I n) := cell_row9 S3.out.tail.hd (j := 0) rfl
 have g3 : ∀ u, (ovr X2 u).cell? ⟨P1, 1, none⟩ = some (I n) := cell_row9 S3.out.tail.hd (j := 1) rfl
 have HX2 : Hid (∀ z, Below w.heap.size w (ovr X2 z)) := fun z => (S3.out.below (ovr_below X2 z)).1
 refine Dl.wp_region_late 14 [11, 12] (fun j => if j = 0 then some Emp else if j = 2 then some (SlAm X2.heap.size 6 l.length (rG l)) else if j = 8 then some (TrAt9 sl sh p2 se) else if j = 13 then some (NewAt X2 #[I 0, I 0] 24) else none) (by kernel_rfl) (by kernel_rfl) (by kernel_rfl) (by kernel_rfl) [13] (E := 24)
  ⟨by kernel_rfl, alloc_rng, fun j hj => by simp only [List.mem_cons, List.not_mem_nil, or_false] at hj; rcases hj with rfl <;> exact ⟨_, _, _, rfl⟩⟩ (by kernel_rfl) (fun i hi => by simp only [List.mem_cons, List.not_mem_nil, or_false] at hi; rcases hi with rfl | rfl <;> rfl) (fun c a d v w h => by cases d <;> exact h) ?_
 simp only [List.take_succ_cons, List.take_zero, List.drop_succ_cons, List.drop_zero]
 refine Dk.wpG_make Emp rfl rfl (fun w' hw' _ => ?_) (fun u hu => ?_)
 · go_simp
   exact emp_grow w'
 obtain ⟨_, _, b0, rfl⟩ := hu
 simp only [Act.put, List.setIfInBounds_toArray, List.set_cons_zero, List.set_cons_succ]
 repeat (refine Dk.wpG_one rfl rfl rfl ?_; intro K hK; go_big_quiet_op; go_big_quiet_on)
 refine Dk.wpG_make (SlAm X2.heap.size 6 l.length (rG l)) rfl rfl (fun w' hw' _ => ?_) (fun u hu => ?_)
 · obtain ⟨z, rfl⟩ := hw'
   exact app_growM _ _ 22 rfl 71 i3 _ 6 48 Tryz.underlying22 hi3 jz0 jz1 jz2 rfl (by decide) b0 rfl A l.length c rfl (rG l) ((HRD.out _ (HX2.out z)).more (HX2.out z).size) (by have := HC.out; omega) (by decide) (ovr_below X2 z).size
 obtain ⟨_, _, A2, c2, rfl, _, _, _⟩ := hu
 simp only [Act.put, List.setIfInBounds_toArray, List.set_cons_zero, List.set_cons_succ]
 repeat (refine Dk.wpG_one rfl rfl rfl ?_; intro K hK; go_big_quiet_op; go_big_quiet_on)
 refine Dk.wpG_make (TrAt9 sl sh p2 se) rfl rfl (fun w' hw' hk => ?_) (fun u hu => ?_)
 · have q1 := hk ⟨2, .data⟩ (by simp) rfl _ 61 _ rfl rfl rfl (by simp) rfl
   go_simp
   exact tr_grow (CT2.out _ _ _ q1.now.at9)
 obtain ⟨_, _, PA2, pc2, rfl, _⟩ := hu
 simp only [Act.put, List.setIfInBounds_toArray, List.set_cons_zero, List.set_cons_succ]
 repeat (refine Dk.wpG_one rfl rfl rfl ?_; intro K hK; go_big_quiet_op; go_big_quiet_on)
 refine Dk.wpG_make (NewAt X2 #[I 0, I 0] 24) rfl rfl (fun w' hw' _ => ?_) (fun u hu => ?_)
 · go_simp
   exact new_grow hw'
 obtain ⟨_, _, B2, rfl, _, _⟩ := hu
 simp only [Act.put, List.setIfInBounds_toArray, List.set_cons_zero, List.set_cons_succ]
 refine Dk.wpG_nil (fun w5 hw5 hG => ?_)
 have hn1 := (Box.now hG.2).at
 clear hG
 refine Dl.wpTailH_cons ?_
 refine wp_store_row 24 _ _ rfl B2 rfl _ _ hn1.1 #[I sl, I sh] rfl (one2 rfl rfl) rfl (by kernel_rfl) ?_
 have hcl := below_setRow hw5.le hn1.2 #[I sl, I sh]
 refine ⟨Cl.of hcl, ?_⟩
 refine Dl.wpTailH_cons ?_
 refine wp_assign _ (.slice PA2 p2.length pc2) rfl rfl ?_
 refine ⟨Cl.of hcl, ?_⟩
 refine Dl.wpTailH_cons ?_
 refine wp_assign _ (I se) rfl rfl ?_
 refine ⟨Cl.of hcl, ?_⟩
 refine Dl.wpTailH_nil ?_
 simp only [Act.put]
 have S4 := Lib.hid ((S3.out.below hcl).cons (setRow_same (cs' := #[I sl, I sh]) hn1.1))
 obtain ⟨X3, hX3⟩ : ∃ X3, X3 = w5.setRow B2 #[I sl, I sh] := ⟨_, rfl⟩
 rw [← hX3] at S4 ⊢
 clear hX3 hcl hn1 hw5 HX2
 clear g0 g1 g2 g3 CT2 S3
 by_cases hte : te = 0
 case neg =>
  have q0 : (te != 0) = true := by simpa using hte
  clear hte
  go_wp2_with fail
  refine (KF.out _).mono ?_
  rintro e wk ⟨rfl, hb⟩
  have SK := Lib.hid (show StL w _ wk from by first | exact S4.out.below hb | exact S4.out.below (nc_one hb))
  clear hb
  go_wp2_with fail
  refine (KQ.out _).mono ?_
  rintro e wq ⟨rfl, hb⟩
  have SQ := Lib.hid (SK.out.below hb)
  clear hb SK
  go_wp2_with fail
  go_ret
  exact ⟨rfl, SQ.out.1⟩
 subst hte
 obtain ⟨hse, hsub⟩ := HSUB.out rfl
 subst hse
 have HSB := Lib.hid hsub
 clear hsub HSUB
 have a0 : X3.cell? ⟨B2, 0, none⟩ = some (I sl) := (cell_of_row _ _ 0 _ _ _ (S4.out.nth 0 rfl)).trans rfl
 have a1 : X3.cell? ⟨B2, 1, none⟩ = some (I sh) := (cell_of_row _ _ 1 _ _ _ (S4.out.nth 0 rfl)).trans rfl
 have a2 : X3.cell? ⟨B1, 0, none⟩ = some (I tl) := (cell_of_row _ _ 0 _ _ _ (S4.out.nth 1 rfl)).trans rfl
 have a3 : X3.cell? ⟨B1, 1, none⟩ = some (I th) := (cell_of_row _ _ 1 _ _ _ (S4.out.nth 1 rfl)).trans rfl
 have d1 : decide (sl < tl) = false := decide_eq_false (by have := HSB.out.lo; simp only at this; omega)
 have d2 : decide (th < sh) = false := decide_eq_false (by have := HSB.out.hi; simp only at this; omega)
 go_upto_region 10 with fail
 clear d1 d2 a0 a1 a2 a3
 have a6 : X3.cell? ⟨w.heap.size, 6, none⟩ = some (.int .u8 b) := (cell_of_row _ _ 6 _ _ _ (S4.out.nth 3 rfl)).trans rfl
 obtain ⟨k, hk, hkb⟩ : ∃ k : Nat, k < 5 ∧ b.tmod 5 = (k : Int) := by
  have h0 := HB.out
  have h1 : b.tmod 5 = b % 5 := Int.tmod_eq_emod_of_nonneg h0.1
  exact ⟨(b % 5).toNat, by omega, by omega⟩
 have H2K : Hid ((0 : Int) < 2 ^ k ∧ (2 : Int) ^ k ≤ 31) := by
  have : ∀ q : Fin 5, (0 : Int) < 2 ^ (q : Nat) ∧ (2 : Int) ^ (q : Nat) ≤ 31 := by decide
  exact this ⟨k, hk⟩
 have HSH : ∀ X : World, Sem.run Tryz.prog (Op.shift BinOp.shl IntKind.u8 1 IntKind.u8 (b.tmod 5)) X = .ok (.int .u8 (2 ^ k)) X := by
  intro X
  rw [hkb]
  have h5 : k = 0 ∨ k = 1 ∨ k = 2 ∨ k = 3 ∨ k = 4 := by omega
  rcases h5 with rfl | rfl | rfl | rfl | rfl <;> rfl
 have HK := Lib.hid hk
 clear hk hkb
 go_upto_region 11 with (rw [HSH])
 clear HSH a6
 obtain ⟨⟨⟨a1, a2⟩, ⟨b1, b2⟩, er⟩, ha⟩ : ∃ z, anF hl ⟨tl, th⟩ (2 ^ k) = z := ⟨_, rfl⟩
 obtain ⟨⟨⟨v1, v2⟩, ⟨v3, v4⟩, er2⟩, hc2⟩ : ∃ z, anF hl ⟨sl, sh⟩ (2 ^ k) = z := ⟨_, rfl⟩
 have CA : Hid (∀ V A' c', Rd V V.heap.size 11 A' hl.length (rH hl) → Calls Tryz.prog 11 #[.slice A' hl.length c', .agg #[I tl, I th], .int .u8 (2 ^ k)] V fun e w' => e = .returned (.tuple #[.agg #[I a1, I a2], .agg #[I b1, I b2], I er]) ∧ Below V.heap.size V w') := fun V A' c' h => by
  have := anneal_any A' c' hl ⟨tl, th⟩ (2 ^ k) V V.heap.size (by have := HL.out; omega) (Nat.le_refl _) h (Int.le_of_lt H2K.out.1)
  rw [ha] at this
  exact this
 have CB : Hid (∀ V A' c', Rd V V.heap.size 11 A' hl.length (rH hl) → Calls Tryz.prog 11 #[.slice A' hl.length c', .agg #[I sl, I sh], .int .u8 (2 ^ k)] V fun e w' => e = .returned (.tuple #[.agg #[I v1, I v2], .agg #[I v3, I v4], I er2]) ∧ Below V.heap.size V w') := fun V A' c' h => by
  have := anneal_any A' c' hl ⟨sl, sh⟩ (2 ^ k) V V.heap.size (by have := HL.out; omega) (Nat.le_refl _) h (Int.le_of_lt H2K.out.1)
  rw [hc2] at this
  exact this
 have HAA : Hid (er ≠ 0 → a1 = 0 ∧ a2 = 0 ∧ b1 = 0 ∧ b2 = 0) := fun hne => by
  by_cases he : anE hl ⟨tl, th⟩ (2 ^ k) = 0
  · obtain ⟨h1, h2⟩ := ae_ok (by have := HL.out; omega) he
    have h9 := an_one HK.out h1 h2 (by have := HL.out; omega)
    rw [ha] at h9
    injection h9 with h3 h4
    injection h4 with h4 h5
    exact absurd h5 hne
  · have h9 := an_err he
    rw [ha] at h9
    injection h9 with h3 h4
    injection h4 with h4 h5
    injection h3 with h3 h6
    injection h4 with h4 h7
    exact ⟨h3, h6, h4, h7⟩
 have HAB : Hid (er = 0 → er2 = 0 ∧ (a1 ≤ v1 ∧ v2 ≤ a2) ∧ b1 ≤ v3 ∧ v4 ≤ b2) := fun hz => by
  have he : anE hl ⟨tl, th⟩ (2 ^ k) = 0 := by
   by_cases he : anE hl ⟨tl, th⟩ (2 ^ k) = 0
   · exact he
   · have h9 := an_err he
     rw [ha] at h9
     injection h9 with h3 h4
     injection h4 with h4 h5
     exact absurd (h5.symm.trans hz) he
  obtain ⟨h1, h2⟩ := ae_ok (by have := HL.out; omega) he
  have h9 := an_one HK.out h1 h2 (by have := HL.out; omega)
  have h8 := an_one HK.out h1 (sub_span h2 HSB.out) (by have := HL.out; omega)
  rw [ha] at h9
  rw [hc2] at h8
  injection h9 with h3 h4
  injection h4 with h4 h5
  injection h8 with h13 h14
  injection h14 with h14 h15
  have h7 := an_sub h1 HK.out h2 HSB.out
  rw [← h3, ← h4, ← h13, ← h14] at h7
  exact ⟨h15, h7⟩
 clear ha hc2 HSB
 have HVY : Hid (∀ z, Below w.heap.size w (ovr X3 z)) := fun z => (S4.out.below (ovr_below X3 z)).1
 have g0 : ∀ u, (ovr X3 u).cell? ⟨B1, 0, none⟩ = some (I tl) := cell_row9 (S4.out.nth 1 rfl) (j := 0) rfl
 have g1 : ∀ u, (ovr X3 u).cell? ⟨B1, 1, none⟩ = some (I th) := cell_row9 (S4.out.nth 1 rfl) (j := 1) rfl
 refine Dl.wp_region_late 12 [8, 9] (fun j => if j = 0 then some Emp else if j = 2 then some (SlAt X3.heap.size 11 hl.length (rH hl)) else if j = 5 then some (fun u _ => u = .tuple #[.agg #[I a1, I a2], .agg #[I b1, I b2], I er]) else if j = 10 then some (NewAt X3 #[I 0, I 0] 24) else if j = 11 then some (NewAt X3 #[I 0, I 0] 24) else none) (by kernel_rfl) (by kernel_rfl) (by kernel_rfl) (by kernel_rfl) [10, 11] (E := 24)
  ⟨by kernel_rfl, alloc_rng, fun j hj => by simp only [List.mem_cons, List.not_mem_nil, or_false] at hj; rcases hj with rfl | rfl <;> exact ⟨_, _, _, rfl⟩⟩ (by kernel_rfl) (fun i hi => by simp only [List.mem_cons, List.not_mem_nil, or_false] at hi; rcases hi with rfl | rfl <;> rfl) (fun c a d v w h => by cases d <;> exact h) ?_
 simp only [List.take_succ_cons, List.take_zero, List.drop_succ_cons, List.drop_zero]
 refine Dk.wpG_make Emp rfl rfl (fun w' hw' _ => ?_) (fun u hu => ?_)
 · go_simp
   exact emp_grow w'
 obtain ⟨_, _, b0, rfl⟩ := hu
 simp only [Act.put, List.setIfInBounds_toArray, List.set_cons_zero, List.set_cons_succ]
 repeat (refine Dk.wpG_one rfl rfl rfl ?_; intro K hK; go_big_quiet_op; go_big_quiet_on)
 skip
 refine Dk.wpG_make (SlAt X3.heap.size 11 hl.length (rH hl)) rfl rfl (fun w' hw' _ => ?_) (fun u hu => ?_)
 · obtain ⟨x, rfl⟩ := hw'
   exact app_grow _ _ 42 rfl 83 j3 _ 11 88 Tryz.underlying42 hj3 kz0 kz1 kz2 rfl (by decide) b0 rfl HA hl.length hc rfl (rH hl) ((HRH.out _ (HVY.out x)).more (HVY.out x).size) (by have := HL.out; omega) (by decide) (ovr_below X3 x).size
 obtain ⟨_, _, A2, c2, rfl, _, _, _⟩ := hu
 simp only [Act.put, List.setIfInBounds_toArray, List.set_cons_zero, List.set_cons_succ]
 repeat (refine Dk.wpG_one rfl rfl rfl ?_; intro K hK; go_big_quiet_op; go_big_quiet_on)
 skip
 refine Dk.wpG_make (fun u _ => u = .tuple #[.agg #[I a1, I a2], .agg #[I b1, I b2], I er]) rfl rfl (fun w' hw' hk => ?_) (fun u hu => ?_)
 · have hk2 := hk ⟨2, .data⟩ (by simp) rfl _ 100 _ rfl rfl rfl (Nat.lt_of_lt_of_eq (by decide : 100 < 169) rfl) rfl
   obtain ⟨A3, c3, he, _, hr, _⟩ := hk2.now
   obtain ⟨rfl, rfl⟩ : A2 = A3 ∧ c2 = c3 := by
    injection he with e1 e2 e3
    exact ⟨e1, e3⟩
   go_simp
   exact call_grow (CA.out w' A2 c2 hr)
 obtain ⟨_, _, rfl⟩ := hu
 simp only [Act.put, List.setIfInBounds_toArray, List.set_cons_zero, List.set_cons_succ]
 repeat (refine Dk.wpG_one rfl rfl rfl ?_; intro K hK; go_big_quiet_op; go_big_quiet_on)
 refine Dk.wpG_make (NewAt X3 #[I 0, I 0] 24) rfl rfl (fun w' hw' _ => ?_) (fun u hu => ?_)
 · go_simp
   exact new_grow hw'
 obtain ⟨_, _, pb, rfl, _, _⟩ := hu
 simp only [Act.put, List.setIfInBounds_toArray, List.set_cons_zero, List.set_cons_succ]
 refine Dk.wpG_new (NewAt X3 #[I 0, I 0] 24) rfl rfl (by simp) ⟨_, _, rfl, rfl, by simp⟩ (fun w' hw' _ => ?_) (fun u hu hne => ?_)
 · go_simp
   exact new_grow hw'
 obtain ⟨_, _, qb, rfl, _, _⟩ := hu
 have hpq := Dk.ptr_ne (hne 10 _ 16 (by omega) rfl (by simp) rfl (by simp))
 simp only [Act.put, List.setIfInBounds_toArray, List.set_cons_zero, List.set_cons_succ]
 refine Dk.wpG_nil (fun w5 hw5 hG => ?_)
 have hn1 := (Box.now hG.1.2).at
 have hn2 := (Box.now hG.2).at
 clear hG hne
 refine Dl.wpTailH_cons ?_
 refine wp_store_row 24 _ _ rfl pb rfl _ _ hn1.1 #[I a1, I a2] rfl (one2 rfl rfl) rfl (by kernel_rfl) ?_
 have hc1 := below_setRow hw5.le hn1.2 #[I a1, I a2]
 refine ⟨Cl.of hc1, ?_⟩
 refine Dl.wpTailH_cons ?_
 refine wp_store_row 24 _ _ rfl qb rfl _ _ ((setRow_other (Ne.symm hpq)).trans hn2.1) #[I b1, I b2] rfl (one2 rfl rfl) rfl (by kernel_rfl) ?_
 have hc2 := below_setRow hc1 hn2.2 #[I b1, I b2]
 refine ⟨Cl.of hc2, ?_⟩
 refine Dl.wpTailH_cons ?_
 refine wp_assign _ (I er) rfl rfl ?_
 refine ⟨Cl.of hc2, ?_⟩
 refine Dl.wpTailH_nil ?_
 simp only [Act.put]
 obtain ⟨V4, hV4⟩ : ∃ V4, V4 = (w5.setRow pb #[I a1, I a2]).setRow qb #[I b1, I b2] := ⟨_, rfl⟩
 have rq : V4.heap[qb]? = some (.cells #[I b1, I b2] 24 (0, 0)) := by rw [hV4]; exact setRow_same ((setRow_other (Ne.symm hpq)).trans hn2.1)
 have rp : V4.heap[pb]? = some (.cells #[I a1, I a2] 24 (0, 0)) := by rw [hV4, setRow_other hpq]; exact setRow_same hn1.1
 have hbV4 : Below X3.heap.size X3 V4 := by rw [hV4]; exact hc2
 rw [← hV4]
 clear hV4 hn1 hn2 hw5 hpq hc1 hc2
 have S5 := Lib.hid (((S4.out.below hbV4).cons rp).cons rq)
 clear S4 CA g0 g1 hbV4 rp rq HVY
 by_cases hte : er = 0
 case neg =>
  obtain ⟨rfl, rfl, rfl, rfl⟩ := HAA.out hte
  have q0 : (er != 0) = true := by simpa using hte
  clear hte HAA HAB CB
  have a0 : V4.cell? ⟨qb, 0, none⟩ = some (I 0) := (cell_of_row _ _ 0 _ _ _ (S5.out.nth 0 rfl)).trans rfl
  have a1 : V4.cell? ⟨qb, 1, none⟩ = some (I 0) := (cell_of_row _ _ 1 _ _ _ (S5.out.nth 0 rfl)).trans rfl
  have a2 : V4.cell? ⟨pb, 0, none⟩ = some (I 0) := (cell_of_row _ _ 0 _ _ _ (S5.out.nth 1 rfl)).trans rfl
  have a3 : V4.cell? ⟨pb, 1, none⟩ = some (I 0) := (cell_of_row _ _ 1 _ _ _ (S5.out.nth 1 rfl)).trans rfl
  go_wp2_with fail
  refine (KF.out _).mono ?_
  rintro e wk ⟨rfl, hb⟩
  have SK := Lib.hid (show StL w _ wk from by first | exact S5.out.below hb | exact S5.out.below (nc_one hb))
  clear hb
  go_wp2_with fail
  refine (KQ.out _).mono ?_
  rintro e wq ⟨rfl, hb⟩
  have SQ := Lib.hid (SK.out.below hb)
  clear hb SK
  go_wp2_with fail
  go_ret
  exact ⟨rfl, SQ.out.1⟩
 subst hte
 obtain ⟨h1, h2⟩ := HAB.out rfl
 subst h1
 have HIN := Lib.hid h2
 clear h2 HAA HAB
 go_upto_region 14 with fail
 have HVY : Hid (∀ z, Below w.heap.size w (ovr V4 z)) := fun z => (S5.out.below (ovr_below V4 z)).1
 have g0 : ∀ u, (ovr V4 u).cell? ⟨B2, 0, none⟩ = some (I sl) := cell_row9 (S5.out.nth 2 rfl) (j := 0) rfl
 have g1 : ∀ u, (ovr V4 u).cell? ⟨B2, 1, none⟩ = some (I sh) := cell_row9 (S5.out.nth 2 rfl) (j := 1) rfl
 refine Dl.wp_region_late 12 [8, 9] (fun j => if j = 0 then some Emp else if j = 2 then some (SlAt V4.heap.size 11 hl.length (rH hl)) else if j = 5 then some (fun u _ => u = .tuple #[.agg #[I v1, I v2], .agg #[I v3, I v4], I 0]) else if j = 10 then some (NewAt V4 #[I 0, I 0] 24) else if j = 11 then some (NewAt V4 #[I 0, I 0] 24) else none) (by kernel_rfl) (by kernel_rfl) (by kernel_rfl) (by kernel_rfl) [10, 11] (E := 24)
  ⟨by kernel_rfl, alloc_rng, fun j hj => by simp only [List.mem_cons, List.not_mem_nil, or_false] at hj; rcases hj with rfl | rfl <;> exact ⟨_, _, _, rfl⟩⟩ (by kernel_rfl) (fun i hi => by simp only [List.mem_cons, List.not_mem_nil, or_false] at hi; rcases hi with rfl | rfl <;> rfl) (fun c a d v w h => by cases d <;> exact h) ?_
 simp only [List.take_succ_cons, List.take_zero, List.drop_succ_cons, List.drop_zero]
 refine Dk.wpG_make Emp rfl rfl (fun w' hw' _ => ?_) (fun u hu => ?_)
 · go_simp
   exact emp_grow w'
 obtain ⟨_, _, b0, rfl⟩ := hu
 simp only [Act.put, List.setIfInBounds_toArray, List.set_cons_zero, List.set_cons_succ]
 repeat (refine Dk.wpG_one rfl rfl rfl ?_; intro K hK; go_big_quiet_op; go_big_quiet_on)
 skip
 refine Dk.wpG_make (SlAt V4.heap.size 11 hl.length (rH hl)) rfl rfl (fun w' hw' _ => ?_) (fun u hu => ?_)
 · obtain ⟨x, rfl⟩ := hw'
   exact app_grow _ _ 42 rfl 83 j3 _ 11 88 Tryz.underlying42 hj3 kz0 kz1 kz2 rfl (by decide) b0 rfl HA hl.length hc rfl (rH hl) ((HRH.out _ (HVY.out x)).more (HVY.out x).size) (by have := HL.out; omega) (by decide) (ovr_below V4 x).size
 obtain ⟨_, _, A2, c2, rfl, _, _, _⟩ := hu
 simp only [Act.put, List.setIfInBounds_toArray, List.set_cons_zero, List.set_cons_succ]
 repeat (refine Dk.wpG_one rfl rfl rfl ?_; intro K hK; go_big_quiet_op; go_big_quiet_on)
 skip
 refine Dk.wpG_make (fun u _ => u = .tuple #[.agg #[I v1, I v2], .agg #[I v3, I v4], I 0]) rfl rfl (fun w' hw' hk => ?_) (fun u hu => ?_)
 · have hk2 := hk ⟨2, .data⟩ (by simp) rfl _ 126 _ rfl rfl rfl (Nat.lt_of_lt_of_eq (by decide : 126 < 169) rfl) rfl
   obtain ⟨A3, c3, he, _, hr, _⟩ := hk2.now
   obtain ⟨rfl, rfl⟩ : A2 = A3 ∧ c2 = c3 := by
    injection he with e1 e2 e3
    exact ⟨e1, e3⟩
   go_simp
   exact call_grow (CB.out w' A2 c2 hr)
 obtain ⟨_, _, rfl⟩ := hu
 simp only [Act.put, List.setIfInBounds_toArray, List.set_cons_zero, List.set_cons_succ]
 repeat (refine Dk.wpG_one rfl rfl rfl ?_; intro K hK; go_big_quiet_op; go_big_quiet_on)
 refine Dk.wpG_make (NewAt V4 #[I 0, I 0] 24) rfl rfl (fun w' hw' _ => ?_) (fun u hu => ?_)
 · go_simp
   exact new_grow hw'
 obtain ⟨_, _, pb2, rfl, _, _⟩ := hu
 simp only [Act.put, List.setIfInBounds_toArray, List.set_cons_zero, List.set_cons_succ]
 refine Dk.wpG_new (NewAt V4 #[I 0, I 0] 24) rfl rfl (by simp) ⟨_, _, rfl, rfl, by simp⟩ (fun w' hw' _ => ?_) (fun u hu hne => ?_)
 · go_simp
   exact new_grow hw'
 obtain ⟨_, _, qb2, rfl, _, _⟩ := hu
 have hpq := Dk.ptr_ne (hne 10 _ 18 (by omega) rfl (by simp) rfl (by simp))
 simp only [Act.put, List.setIfInBounds_toArray, List.set_cons_zero, List.set_cons_succ]
 refine Dk.wpG_nil (fun w5 hw5 hG => ?_)
 have hn1 := (Box.now hG.1.2).at
 have hn2 := (Box.now hG.2).at
 clear hG hne
 refine Dl.wpTailH_cons ?_
 refine wp_store_row 24 _ _ rfl pb2 rfl _ _ hn1.1 #[I v1, I v2] rfl (one2 rfl rfl) rfl (by kernel_rfl) ?_
 have hc1 := below_setRow hw5.le hn1.2 #[I v1, I v2]
 refine ⟨Cl.of hc1, ?_⟩
 refine Dl.wpTailH_cons ?_
 refine wp_store_row 24 _ _ rfl qb2 rfl _ _ ((setRow_other (Ne.symm hpq)).trans hn2.1) #[I v3, I v4] rfl (one2 rfl rfl) rfl (by kernel_rfl) ?_
 have hc2 := below_setRow hc1 hn2.2 #[I v3, I v4]
 refine ⟨Cl.of hc2, ?_⟩
 refine Dl.wpTailH_cons ?_
 refine wp_assign _ (I 0) rfl rfl ?_
 refine ⟨Cl.of hc2, ?_⟩
 refine Dl.wpTailH_nil ?_
 simp only [Act.put]
 obtain ⟨V5, hV5⟩ : ∃ V5, V5 = (w5.setRow pb2 #[I v1, I v2]).setRow qb2 #[I v3, I v4] := ⟨_, rfl⟩
 have rq : V5.heap[qb2]? = some (.cells #[I v3, I v4] 24 (0, 0)) := by rw [hV5]; exact setRow_same ((setRow_other (Ne.symm hpq)).trans hn2.1)
 have rp : V5.heap[pb2]? = some (.cells #[I v1, I v2] 24 (0, 0)) := by rw [hV5, setRow_other hpq]; exact setRow_same hn1.1
 have hbV5 : Below V4.heap.size V4 V5 := by rw [hV5]; exact hc2
 rw [← hV5]
 clear hV5 hn1 hn2 hw5 hpq hc1 hc2
 have S6 := Lib.hid (((S5.out.below hbV5).cons rp).cons rq)
 clear S5 CB g0 g1 hbV5 rp rq HVY
 have a0 : V5.cell? ⟨qb2, 0, none⟩ = some (I v3) := (cell_of_row _ _ 0 _ _ _ (S6.out.nth 0 rfl)).trans rfl
 have a1' : V5.cell? ⟨qb2, 1, none⟩ = some (I v4) := (cell_of_row _ _ 1 _ _ _ (S6.out.nth 0 rfl)).trans rfl
 have a2' : V5.cell? ⟨pb2, 0, none⟩ = some (I v1) := (cell_of_row _ _ 0 _ _ _ (S6.out.nth 1 rfl)).trans rfl
 have a3 : V5.cell? ⟨pb2, 1, none⟩ = some (I v2) := (cell_of_row _ _ 1 _ _ _ (S6.out.nth 1 rfl)).trans rfl
 have a4 : V5.cell? ⟨qb, 0, none⟩ = some (I b1) := (cell_of_row _ _ 0 _ _ _ (S6.out.nth 2 rfl)).trans rfl
 have a5 : V5.cell? ⟨qb, 1, none⟩ = some (I b2) := (cell_of_row _ _ 1 _ _ _ (S6.out.nth 2 rfl)).trans rfl
 have a6 : V5.cell? ⟨pb, 0, none⟩ = some (I a1) := (cell_of_row _ _ 0 _ _ _ (S6.out.nth 3 rfl)).trans rfl
 have a7 : V5.cell? ⟨pb, 1, none⟩ = some (I a2) := (cell_of_row _ _ 1 _ _ _ (S6.out.nth 3 rfl)).trans rfl
 have k1 : decide (a1 ≤ v1) = true := decide_eq_true HIN.out.1.1
 have k2 : decide (v2 ≤ a2) = true := decide_eq_true HIN.out.1.2
 have k3 : decide (b1 ≤ v3) = true := decide_eq_true HIN.out.2.1
 have k4 : decide (v4 ≤ b2) = true := decide_eq_true HIN.out.2.2
 go_wp2_with fail
 refine (KF.out _).mono ?_
 rintro e wk ⟨rfl, hb⟩
 have SK := Lib.hid (show StL w _ wk from by first | exact S6.out.below hb | exact S6.out.below (nc_one hb))
 clear hb
 go_wp2_with fail
 refine (KQ.out _).mono ?_
 rintro e wq ⟨rfl, hb⟩
 have SQ := Lib.hid (SK.out.below hb)
 clear hb SK
 go_wp2_with fail
 go_ret
 exact ⟨rfl, SQ.out.1⟩
end Go.Proofs.YtliolnfcgaflcaaGreat.Un
