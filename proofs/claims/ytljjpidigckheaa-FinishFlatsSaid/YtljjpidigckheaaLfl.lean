/- The law FinishFlats: its walk. -/
import Derived.Test.YtljjpidigckheaaRp9
import Derived.Test.YtljjpidigckheaaRff
import Derived.Test.YtljjpidigckheaaFlr
import Derived.Test.YtljjpidigckheaaQas2
namespace Go.Proofs.Ytljjpidigckheaa.Un
open Go.RowKit
theorem fl_same (a b c d : Int) : (a == a && b == b && (c == c && d == d)) = true := by simp
set_option maxRecDepth 100000 in
set_option maxHeartbeats 8000000 in
theorem finishFlats_any (x : Sht) (A : Option Addr) (n : Nat) (w : World) (hm : x.s.length ≤ n ∧ n ≤ maxLen) (hx : Rd w w.heap.size 2 A x.s.length (rR x.s)) :
 Calls Try.prog 6 #[.agg (shA x A n)] w fun e w' => e = .returned (.bool true) ∧ Below w.heap.size w w' := by
 have KN := Lib.hid known_any
 have HRD : Hid (∀ V, Below w.heap.size w V → Rd V w.heap.size 2 A x.s.length (rR x.s) ∧ w.heap.size ≤ V.heap.size) := fun V hV => ⟨hx.below hV, hV.size⟩
 have HM1 : Hid (x.s.length ≤ maxLen) := Nat.le_trans hm.1 hm.2
 clear hx hm
 obtain ⟨W, hW⟩ : ∃ W, W = (w.alloc (.cells #[I x.w, I x.h, I x.c.lo, I x.c.hi, .slice A x.s.length n] 37)) := ⟨_, rfl⟩
 have rowW0 : W.heap[w.heap.size]? = some (.cells #[I x.w, I x.h, I x.c.lo, I x.c.hi, .slice A x.s.length n] 37 (0, 0)) := by rw [hW]; exact heap_last _ _ _ rfl
 have yW00 := ovr_cell (W := W) (b := w.heap.size) (o := 0) (v := I x.w) (by rw [cell_of_row _ _ _ _ _ _ rowW0]; rfl)
 have yW01 := ovr_cell (W := W) (b := w.heap.size) (o := 1) (v := I x.h) (by rw [cell_of_row _ _ _ _ _ _ rowW0]; rfl)
 have yW02 := ovr_cell (W := W) (b := w.heap.size) (o := 2) (v := I x.c.lo) (by rw [cell_of_row _ _ _ _ _ _ rowW0]; rfl)
 have yW03 := ovr_cell (W := W) (b := w.heap.size) (o := 3) (v := I x.c.hi) (by rw [cell_of_row _ _ _ _ _ _ rowW0]; rfl)
 have yW04 := ovr_cell (W := W) (b := w.heap.size) (o := 4) (v := .slice A x.s.length n) (by rw [cell_of_row _ _ _ _ _ _ rowW0]; rfl)
 have RrowW0 := Lib.hid (ovr_row rowW0)
 clear rowW0
 have HUW : Hid (∀ u, Below w.heap.size w (ovr W u)) := U1 hW
 have HW := Lib.hid hW
 clear hW
 go_enter Try.func6, Try.ntmps6
 go_upto_region 1 with (fail)
 rw [← HW.out]
 obtain ⟨u0, hu0⟩ := ovr_self W
 rw [hu0]
 clear hu0
 by_cases c1 : x.s.length ≤ 20
 case neg =>
  have d0 : decide ((20 : Int) < (x.s.length : Int)) = true := decide_eq_true (by omega)
  clear c1
  go_wp2_with fail
  refine (KN.out _).mono ?_
  rintro e w1 ⟨rfl, hb1⟩
  obtain ⟨uk, rfl⟩ := ovr_next hb1
  clear hb1
  go_wp2_with fail
  go_ret
  exact ⟨rfl, HUW.out _⟩
 have d0 : decide ((20 : Int) < (x.s.length : Int)) = false := decide_eq_false (by omega)
 have HC := Lib.hid c1
 clear c1
 go_upto_region 3 with fail
 have S0 : Hid (StL w [(w.heap.size, shA x A n, 37)] (ovr W u0)) := ⟨HUW.out u0, fun y hy => by
  rcases List.mem_cons.1 hy with rfl | hy
  · exact RrowW0.out u0
  cases hy⟩
 refine name_w fun V hV => ?_
 rw [← hV] at S0
 clear hV HUW RrowW0 d0
 have CO := Lib.hid (ownSheet_any x A n V w.heap.size (by have := HC.out; omega) S0.out.1.size (HRD.out _ S0.out.1).1)
 obtain ⟨f1, S1, T1, f2, S2, T2, pe, hq, hnz, hbad, hgood⟩ := flF_parts x
 have HBAD := Lib.hid hbad
 have HGOOD := Lib.hid hgood
 have CF : Hid (∀ V A2 c2, (x.s.length ≤ c2 ∧ c2 ≤ maxLen) → Rd V V.heap.size 2 A2 x.s.length (rR x.s) → Calls Try.prog 32 #[.agg (shA x A2 c2)] V (RetFF V ((f1, (S1, T1)), (f2, (S2, T2)), pe))) := fun V A2 c2 h r => by rw [← hq]; exact flatness0_any x A2 c2 V V.heap.size h (Nat.le_refl _) r
 clear hq hnz hbad hgood
 go_wp2_with (with_reducible show wpList _ _ _ _ _ _; refine wpList_load_row9 rfl 37 _ rfl w.heap.size rfl (shA x A n) _ _ _ S0.out.hd Try.underlying37 rfl (by kernel_rfl) ?_)
 refine CO.out.mono ?_
 rintro e w1 ⟨A2, c2, rfl, h1, hr, hb1⟩
 have SA := Lib.hid (S0.out.below hb1)
 have CF1 := Lib.hid (CF.out w1 A2 c2 h1 hr)
 clear h1 hr hb1 CO CF S0
 go_wp2_with fail
 refine CF1.out.mono ?_
 rintro e w2 ⟨v1, v2, rfl, ⟨A3, m3, C3, n3, rfl, _, _, ⟨q1, q2⟩, _, _⟩, ⟨A4, m4, C4, n4, rfl, _, _, ⟨q3, q4⟩, _, _⟩, hb2⟩
 have SB := Lib.hid (SA.out.below hb2)
 have RB : Hid (FfR S1 T1 S2 T2 A3 C3 A4 C4 w2) := ⟨q1, q2, q3, q4⟩
 clear hb2 CF1 SA q1 q2 q3 q4
 go_upto_region 4 with fail
 obtain ⟨PB, hPB⟩ : ∃ q, q = w2.heap.size := ⟨_, rfl⟩
 obtain ⟨QB, hQB⟩ : ∃ q, q = w2.heap.size + 1 := ⟨_, rfl⟩
 obtain ⟨Z, hZ⟩ : ∃ Z, Z = (w2.alloc (.cells (flB f1 S1 T1 A3 C3 m3 n3) 60)).alloc (.cells (flB f2 S2 T2 A4 C4 m4 n4) 60) := ⟨_, rfl⟩
 have hbZ : Below w2.heap.size w2 Z := by rw [hZ]; exact ((Below.refl _ _).alloc (Nat.le_refl _) _).alloc (by simp) _
 have SZ : Hid (StL w [(QB, flB f2 S2 T2 A4 C4 m4 n4, 60), (PB, flB f1 S1 T1 A3 C3 m3 n3, 60), (w.heap.size, shA x A n, 37)] Z) := by
  refine StL.cons (StL.cons (SB.out.below hbZ) ?_) ?_
  · rw [hZ]
    exact heap_before (heap_last _ _ _ hPB)
  · rw [hZ]
    exact heap_last _ _ _ (by simp [hQB])
 have RZ := Lib.hid (RB.out.below hbZ)
 rw [← hQB, ← hPB, ← hZ]
 clear hZ hPB hQB hbZ SB RB
 have CR := Lib.hid (refSheet_any x A n Z w.heap.size (HRD.out _ SZ.out.1).2 (HRD.out _ SZ.out.1).1 HM1.out)
 rcases ho : okSh x with _ | _
 case false =>
  rw [ho] at CR
  obtain ⟨e1, e2, e3, e4, e5⟩ := HBAD.out ho
  subst e1 e2 e3 e4 e5
  clear ho
  go_wp2_with (with_reducible show wpList _ _ _ _ _ _; refine wpList_load_row9 rfl 37 _ rfl w.heap.size rfl (shA x A n) _ _ _ SZ.out.tail.tail.hd Try.underlying37 rfl (by kernel_rfl) ?_)
  refine CR.out.mono ?_
  rintro e w6 ⟨rfl, hb⟩
  have SY := Lib.hid (SZ.out.below hb)
  clear hb CR SZ
  have z0 : w6.cell? ⟨PB, 0, none⟩ = some (I 0) := (cell_of_row _ _ 0 _ _ _ SY.out.tail.hd).trans rfl
  have z1 : w6.cell? ⟨PB, 1, none⟩ = some (I 0) := (cell_of_row _ _ 1 _ _ _ SY.out.tail.hd).trans rfl
  have z2 : w6.cell? ⟨PB, 2, none⟩ = some (.slice A3 0 m3) := (cell_of_row _ _ 2 _ _ _ SY.out.tail.hd).trans rfl
  have z3 : w6.cell? ⟨QB, 0, none⟩ = some (I 0) := (cell_of_row _ _ 0 _ _ _ SY.out.hd).trans rfl
  have z4 : w6.cell? ⟨QB, 1, none⟩ = some (I 0) := (cell_of_row _ _ 1 _ _ _ SY.out.hd).trans rfl
  have z5 : w6.cell? ⟨QB, 2, none⟩ = some (.slice A4 0 m4) := (cell_of_row _ _ 2 _ _ _ SY.out.hd).trans rfl
  go_wp2_with fail
  refine (KN.out _).mono ?_
  rintro e wk ⟨rfl, hb⟩
  have SK := Lib.hid (SY.out.below hb)
  clear hb
  go_wp2_with fail
  go_ret
  exact ⟨rfl, SK.out.1⟩
 case true =>
  rw [ho] at CR
  have HO := Lib.hid ho
  obtain ⟨e5, e1, e2, e6⟩ := HGOOD.out ho
  subst e5
  have HG := Lib.hid e6
  have CRF : Hid (∀ V, Below w.heap.size w V → Calls Try.prog 29 #[.agg (shA x A n)] V (RetF9 V f1 f2)) := fun V hV => by rw [e1, e2]; exact refFlatness_any x A n V w.heap.size HO.out (HRD.out V hV).2 (HRD.out V hV).1
  clear ho e1 e2 e6
  go_wp2_with (with_reducible show wpList _ _ _ _ _ _; refine wpList_load_row9 rfl 37 _ rfl w.heap.size rfl (shA x A n) _ _ _ SZ.out.tail.tail.hd Try.underlying37 rfl (by kernel_rfl) ?_)
  refine CR.out.mono ?_
  rintro e w6 ⟨rfl, hb⟩
  have SY := Lib.hid (SZ.out.below hb)
  have RY := Lib.hid (RZ.out.below hb)
  have CRG := Lib.hid (CRF.out w6 SY.out.1)
  clear hb CR SZ RZ CRF
  go_wp2_with (with_reducible show wpList _ _ _ _ _ _; refine wpList_load_row9 rfl 37 _ rfl w.heap.size rfl (shA x A n) _ _ _ SY.out.tail.tail.hd Try.underlying37 rfl (by kernel_rfl) ?_)
  refine CRG.out.mono ?_
  rintro e w7 ⟨rfl, hb⟩
  have SX := Lib.hid (SY.out.below hb)
  have RX := Lib.hid (RY.out.below hb)
  clear hb CRG SY RY
  go_upto_region 7 with fail
  obtain ⟨PC, hPC⟩ : ∃ q, q = w7.heap.size := ⟨_, rfl⟩
  obtain ⟨QC, hQC⟩ : ∃ q, q = w7.heap.size + 1 := ⟨_, rfl⟩
  obtain ⟨Y, hY⟩ : ∃ Z, Z = (w7.alloc (.cells #[I f1.n, I f1.d] 49)).alloc (.cells #[I f2.n, I f2.d] 49) := ⟨_, rfl⟩
  have hbY : Below w7.heap.size w7 Y := by rw [hY]; exact ((Below.refl _ _).alloc (Nat.le_refl _) _).alloc (by simp) _
  have SW : Hid (StL w [(QC, #[I f2.n, I f2.d], 49), (PC, #[I f1.n, I f1.d], 49), (QB, flB f2 S2 T2 A4 C4 m4 n4, 60), (PB, flB f1 S1 T1 A3 C3 m3 n3, 60), (w.heap.size, shA x A n, 37)] Y) := by
   refine StL.cons (StL.cons (SX.out.below hbY) ?_) ?_
   · rw [hY]
     exact heap_before (heap_last _ _ _ hPC)
   · rw [hY]
     exact heap_last _ _ _ (by simp [hQC])
  have RW := Lib.hid (RX.out.below hbY)
  rw [← hQC, ← hPC, ← hY]
  clear hY hPC hQC hbY SX RX
  have z0 : Y.cell? ⟨PB, 0, none⟩ = some (I f1.n) := (cell_of_row _ _ 0 _ _ _ SW.out.tail.tail.tail.hd).trans rfl
  have z1 : Y.cell? ⟨PB, 1, none⟩ = some (I f1.d) := (cell_of_row _ _ 1 _ _ _ SW.out.tail.tail.tail.hd).trans rfl
  have z2 : Y.cell? ⟨QB, 0, none⟩ = some (I f2.n) := (cell_of_row _ _ 0 _ _ _ SW.out.tail.tail.hd).trans rfl
  have z3 : Y.cell? ⟨QB, 1, none⟩ = some (I f2.d) := (cell_of_row _ _ 1 _ _ _ SW.out.tail.tail.hd).trans rfl
  have z4 : Y.cell? ⟨PC, 0, none⟩ = some (I f1.n) := (cell_of_row _ _ 0 _ _ _ SW.out.tail.hd).trans rfl
  have z5 : Y.cell? ⟨PC, 1, none⟩ = some (I f1.d) := (cell_of_row _ _ 1 _ _ _ SW.out.tail.hd).trans rfl
  have z6 : Y.cell? ⟨QC, 0, none⟩ = some (I f2.n) := (cell_of_row _ _ 0 _ _ _ SW.out.hd).trans rfl
  have z7 : Y.cell? ⟨QC, 1, none⟩ = some (I f2.d) := (cell_of_row _ _ 1 _ _ _ SW.out.hd).trans rfl
  have x0 : Y.cell? ⟨w.heap.size, 0, none⟩ = some (I x.w) := (cell_of_row _ _ 0 _ _ _ SW.out.tail.tail.tail.tail.hd).trans rfl
  have x1 : Y.cell? ⟨w.heap.size, 1, none⟩ = some (I x.h) := (cell_of_row _ _ 1 _ _ _ SW.out.tail.tail.tail.tail.hd).trans rfl
  have x2 : Y.cell? ⟨w.heap.size, 2, none⟩ = some (I x.c.lo) := (cell_of_row _ _ 2 _ _ _ SW.out.tail.tail.tail.tail.hd).trans rfl
  have x3 : Y.cell? ⟨w.heap.size, 3, none⟩ = some (I x.c.hi) := (cell_of_row _ _ 3 _ _ _ SW.out.tail.tail.tail.tail.hd).trans rfl
  have x4 : Y.cell? ⟨w.heap.size, 4, none⟩ = some (.slice A x.s.length n) := (cell_of_row _ _ 4 _ _ _ SW.out.tail.tail.tail.tail.hd).trans rfl
  have x5 : Y.cell? ⟨PB, 2, none⟩ = some (.slice A3 S1.length m3) := (cell_of_row _ _ 2 _ _ _ SW.out.tail.tail.tail.hd).trans rfl
  have x6 : Y.cell? ⟨PB, 3, none⟩ = some (.slice C3 T1.length n3) := (cell_of_row _ _ 3 _ _ _ SW.out.tail.tail.tail.hd).trans rfl
  have CP := Lib.hid (refProves_any x f1 S1 T1 false A n A3 C3 m3 n3 Y Y.heap.size HO.out (Nat.le_refl _) ((HRD.out _ SW.out.1).1.more (HRD.out _ SW.out.1).2) RW.out.s1 RW.out.t1 (by have := HG.out.2.2.1; unfold maxLen; omega))
  rw [HG.out.1] at CP
  go_wp2_with fail
  refine CP.out.mono ?_
  rintro e w8 ⟨rfl, hb⟩
  have SV := Lib.hid (SW.out.below hb)
  have RV := Lib.hid (RW.out.below hb)
  clear hb CP SW RW z0 z1 z2 z3 z4 z5 z6 z7 x0 x1 x2 x3 x4 x5 x6
  have x0 : w8.cell? ⟨w.heap.size, 0, none⟩ = some (I x.w) := (cell_of_row _ _ 0 _ _ _ SV.out.tail.tail.tail.tail.hd).trans rfl
  have x1 : w8.cell? ⟨w.heap.size, 1, none⟩ = some (I x.h) := (cell_of_row _ _ 1 _ _ _ SV.out.tail.tail.tail.tail.hd).trans rfl
  have x2 : w8.cell? ⟨w.heap.size, 2, none⟩ = some (I x.c.lo) := (cell_of_row _ _ 2 _ _ _ SV.out.tail.tail.tail.tail.hd).trans rfl
  have x3 : w8.cell? ⟨w.heap.size, 3, none⟩ = some (I x.c.hi) := (cell_of_row _ _ 3 _ _ _ SV.out.tail.tail.tail.tail.hd).trans rfl
  have x4 : w8.cell? ⟨w.heap.size, 4, none⟩ = some (.slice A x.s.length n) := (cell_of_row _ _ 4 _ _ _ SV.out.tail.tail.tail.tail.hd).trans rfl
  have x5 : w8.cell? ⟨QB, 0, none⟩ = some (I f2.n) := (cell_of_row _ _ 0 _ _ _ SV.out.tail.tail.hd).trans rfl
  have x6 : w8.cell? ⟨QB, 1, none⟩ = some (I f2.d) := (cell_of_row _ _ 1 _ _ _ SV.out.tail.tail.hd).trans rfl
  have x7 : w8.cell? ⟨QB, 2, none⟩ = some (.slice A4 S2.length m4) := (cell_of_row _ _ 2 _ _ _ SV.out.tail.tail.hd).trans rfl
  have x8 : w8.cell? ⟨QB, 3, none⟩ = some (.slice C4 T2.length n4) := (cell_of_row _ _ 3 _ _ _ SV.out.tail.tail.hd).trans rfl
  have CP := Lib.hid (refProves_any x f2 S2 T2 true A n A4 C4 m4 n4 w8 w8.heap.size HO.out (Nat.le_refl _) ((HRD.out _ SV.out.1).1.more (HRD.out _ SV.out.1).2) RV.out.s2 RV.out.t2 (by have := HG.out.2.2.2; unfold maxLen; omega))
  rw [HG.out.2.1] at CP
  go_wp2_with fail
  refine CP.out.mono ?_
  rintro e w9 ⟨rfl, hb⟩
  have SU := Lib.hid (SV.out.below hb)
  clear hb CP SV RV x0 x1 x2 x3 x4 x5 x6 x7 x8
  go_wp2_with fail
  refine (KN.out _).mono ?_
  rintro e wk ⟨rfl, hb⟩
  have SK := Lib.hid (SU.out.below hb)
  clear hb
  go_wp2_with fail
  go_ret
  exact ⟨rfl, SK.out.1⟩
end Go.Proofs.Ytljjpidigckheaa.Un
