/- The law FinishSheets: its walk. -/
import Derived.Test.YtljjpidigckheaaNd
import Derived.Test.YtljjpidigckheaaOa
import Derived.Test.YtljjpidigckheaaOb
namespace Go.Proofs.Ytljjpidigckheaa.Un
open Go.RowKit
theorem RetOs.go {w w' : World} {x : Sht} {e : Ending} (h : RetOs w x e w') : ∃ A c, e = .returned (.agg (shA x A c)) ∧ (x.s.length ≤ c ∧ c ≤ maxLen) ∧ Rd w' w'.heap.size 2 A x.s.length (rR x.s) ∧ Below w.heap.size w w' := h
theorem StL.hd {w V : World} {L : List (Nat × Array Value × TypeId)} {b : Nat} {cs : Array Value} {t : TypeId} (h : StL w ((b, cs, t) :: L) V) : V.heap[b]? = some (.cells cs t (0, 0)) := h.2 _ (.head _)
theorem StL.rd {w V : World} {L : List (Nat × Array Value × TypeId)} {B sz n : Nat} {A : Option Addr} {g : Nat → Nat → Value} (h : StL w L V) (hB : B ≤ w.heap.size) (hx : Rd w B sz A n g) : Rd V B sz A n g ∧ B ≤ V.heap.size := ⟨hx.below (h.1.mono hB), Nat.le_trans hB h.1.size⟩
set_option maxRecDepth 100000 in
set_option maxHeartbeats 8000000 in
theorem finishSheets_any (x : Sht) (A : Option Addr) (n : Nat) (w : World) (hm : x.s.length ≤ n ∧ n ≤ maxLen) (hx : Rd w w.heap.size 2 A x.s.length (rR x.s)) :
    Calls Try.prog 4 #[.agg (shA x A n)] w fun e w' => e = .returned (.bool true) ∧ Below w.heap.size w w' := by
  have KN := Lib.hid known_any
  have HRD : Hid (∀ (L : List (Nat × Array Value × TypeId)) V, StL w L V → Rd V w.heap.size 2 A x.s.length (rR x.s) ∧ w.heap.size ≤ V.heap.size) := fun L V h => h.rd (Nat.le_refl _) hx
  have HM := Lib.hid hm
  have hm1 : x.s.length ≤ maxLen := Nat.le_trans hm.1 hm.2
  clear hx hm
  obtain ⟨W, hW⟩ : ∃ W, W = (w.alloc (.cells #[I x.w, I x.h, I x.c.lo, I x.c.hi, .slice A x.s.length n] 37)) := ⟨_, rfl⟩
  have rowW0 : W.heap[w.heap.size]? = some (.cells #[I x.w, I x.h, I x.c.lo, I x.c.hi, .slice A x.s.length n] 37 (0, 0)) := by rw [hW]; exact heap_last _ _ _ rfl
  have yW00 := ovr_cell (W := W) (b := w.heap.size) (o := 0) (v := I x.w) (by rw [cell_of_row _ _ _ _ _ _ rowW0]; rfl)
  have yW01 := ovr_cell (W := W) (b := w.heap.size) (o := 1) (v := I x.h) (by rw [cell_of_row _ _ _ _ _ _ rowW0]; rfl)
  have yW02 := ovr_cell (W := W) (b := w.heap.size) (o := 2) (v := I x.c.lo) (by rw [cell_of_row _ _ _ _ _ _ rowW0]; rfl)
  have yW03 := ovr_cell (W := W) (b := w.heap.size) (o := 3) (v := I x.c.hi) (by rw [cell_of_row _ _ _ _ _ _ rowW0]; rfl)
  have yW04 := ovr_cell (W := W) (b := w.heap.size) (o := 4) (v := .slice A x.s.length n) (by rw [cell_of_row _ _ _ _ _ _ rowW0]; rfl)
  have RrowW0 := Lib.hid (ovr_row rowW0)
  clear rowW0
  have HUW : Hid (∀ u, Below w.heap.size w (ovr W u)) := U1 hW
  have HW := Lib.hid hW
  clear hW
  go_enter Try.func4, Try.ntmps4
  go_upto_region 1 with (fail)
  rw [← HW.out]
  obtain ⟨u0, hu0⟩ := ovr_self W
  rw [hu0]
  clear hu0
  have S0 : Hid (StL w [(w.heap.size, shA x A n, 37)] (ovr W u0)) := ⟨HUW.out u0, fun y hy => by
    rcases List.mem_cons.1 hy with rfl | hy
    · exact RrowW0.out u0
    · cases hy⟩
  by_cases h50 : x.s.length ≤ 50
  case neg =>
    have d0 : decide ((50 : Int) < (x.s.length : Int)) = true := decide_eq_true (by omega)
    clear S0 h50
    go_wp2_with fail
    refine (KN.out _).mono ?_
    rintro e w1 ⟨rfl, hb1⟩
    obtain ⟨uk, rfl⟩ := ovr_next hb1
    clear hb1
    go_wp2_with fail
    go_ret
    exact ⟨rfl, HUW.out _⟩
  have d0 : decide ((50 : Int) < (x.s.length : Int)) = false := decide_eq_false (by omega)
  have CO : Hid (∀ L V, StL w L V → Calls Try.prog 22 #[.agg (shA x A n)] V (RetOs V x)) := fun L V h => ownSheet_any x A n V w.heap.size (by omega) (HRD.out L V h).2 (HRD.out L V h).1
  clear h50
  go_upto_region 3 with fail
  refine name_w fun V0 hV0 => ?_
  rw [← hV0] at S0
  clear hV0 HUW RrowW0 d0
  go_wp2_with (with_reducible show wpList _ _ _ _ _ _; refine wpList_load_row9 rfl 37 _ rfl w.heap.size rfl (shA x A n) _ _ _ S0.out.hd Try.underlying37 rfl (by kernel_rfl) ?_)
  refine (CO.out _ _ S0.out).mono ?_
  rintro e w1 ⟨A1, c1, rfl, hc1, hr1, hb⟩
  have S1 := Lib.hid (S0.out.below hb)
  have CC := Lib.hid (checkSheet_any x A1 c1 w1 w1.heap.size (Nat.le_refl _) hr1)
  clear hc1 hr1 hb S0
  go_wp2_with fail
  refine CC.out.mono ?_
  rintro e w2 ⟨rfl, hb⟩
  have S2 := Lib.hid (S1.out.below hb)
  clear hb S1 CC
  go_wp2_with (with_reducible show wpList _ _ _ _ _ _; refine wpList_load_row9 rfl 37 _ rfl w.heap.size rfl (shA x A n) _ _ _ S2.out.hd Try.underlying37 rfl (by kernel_rfl) ?_)
  refine (CO.out _ _ S2.out).mono ?_
  rintro e w3 ⟨A2, c2, rfl, hc, hr, hb⟩
  have S3 := Lib.hid (S2.out.below hb)
  have CT := Lib.hid (thickness_any x A2 c2 w3 w3.heap.size hc (Nat.le_refl _) hr)
  clear hc hr hb S2
  go_wp2_with fail
  refine CT.out.mono ?_
  rintro e w4 ⟨rfl, hb⟩
  have S4 := Lib.hid (S3.out.below hb)
  clear hb S3 CT
  obtain ⟨tl, th, te, hth⟩ : ∃ tl th te, thF x = (⟨tl, th⟩, te) := ⟨_, _, _, rfl⟩
  rw [hth]
  have HTH := Lib.hid hth
  clear hth
  go_upto_region 5 with (with_reducible show wpList _ _ _ _ _ _; refine wpList_store_row rfl 24 _ _ rfl w4.heap.size rfl _ _ (heap_last _ _ _ rfl) #[I tl, I th] rfl (one2 rfl rfl) rfl (by kernel_rfl) ?_)
  have S5 := Lib.hid (S4.out.put #[I 0, I 0] #[I tl, I th] 24)
  refine name_w fun V5 hV5 => ?_
  rw [← hV5] at S5
  obtain ⟨b4, hb4⟩ : ∃ z, z = w4.heap.size := ⟨_, rfl⟩
  rw [← hb4] at S5 ⊢
  clear hV5 hb4 S4
  go_wp2_with (with_reducible show wpList _ _ _ _ _ _; refine wpList_load_row9 rfl 37 _ rfl w.heap.size rfl (shA x A n) _ _ _ S5.out.tail.hd Try.underlying37 rfl (by kernel_rfl) ?_)
  refine (CO.out _ _ S5.out).mono ?_
  rintro e w6 ⟨A6, c6, rfl, hc, hr, hb⟩
  have S6 := Lib.hid (S5.out.below hb)
  have CV := Lib.hid (variation_any x A6 c6 w6 w6.heap.size (Nat.le_refl _) hr)
  clear hc hr hb S5
  go_wp2_with fail
  refine CV.out.mono ?_
  rintro e w7 ⟨rfl, hb⟩
  have S7 := Lib.hid (S6.out.below hb)
  clear hb S6 CV
  obtain ⟨vl, vh, va, vb, hva⟩ : ∃ vl vh va vb, va9 x = ⟨vl, vh, va, vb⟩ := ⟨_, _, _, _, rfl⟩
  rw [hva]
  have HVA := Lib.hid hva
  clear hva
  obtain ⟨ve, hve⟩ : ∃ z, vaE x = z := ⟨_, rfl⟩
  rw [hve]
  have HVE := Lib.hid hve
  clear hve
  go_upto_region 6 with (with_reducible show wpList _ _ _ _ _ _; refine wpList_store_row rfl 24 _ _ rfl w7.heap.size rfl _ _ (heap_last _ _ _ rfl) #[I vl, I vh] rfl (one2 rfl rfl) rfl (by kernel_rfl) ?_)
  have S8 := Lib.hid (S7.out.put #[I 0, I 0] #[I vl, I vh] 24)
  refine name_w fun V8 hV8 => ?_
  rw [← hV8] at S8
  obtain ⟨b6, hb6⟩ : ∃ z, z = w7.heap.size := ⟨_, rfl⟩
  rw [← hb6] at S8 ⊢
  clear hV8 hb6 S7
  have CR := Lib.hid (refSheet_any x A n V8 w.heap.size (HRD.out _ _ S8.out).2 (HRD.out _ _ S8.out).1 hm1)
  rcases ho : okSh x with _ | _
  case false =>
    rw [ho] at CR
    have e1 : thF x = (⟨0, 0⟩, 2) := by unfold thF; rw [ho]; rfl
    have e2 : va9 x = ⟨0, 0, 0, 0⟩ := by unfold va9; rw [ho]; rfl
    have e3 : vaE x = 2 := by unfold vaE; rw [ho]; rfl
    rw [HTH.out] at e1
    rw [HVA.out] at e2
    rw [HVE.out] at e3
    injection e1 with e1 e4
    injection e1 with e1 e5
    injection e2 with e6 e7 e8 e9
    subst e1 e3 e4 e5 e6 e7 e8 e9
    rw [er9_f]
    clear ho HTH HVA HVE
    go_wp2_with (with_reducible show wpList _ _ _ _ _ _; refine wpList_load_row9 rfl 37 _ rfl w.heap.size rfl (shA x A n) _ _ _ S8.out.tail.tail.hd Try.underlying37 rfl (by kernel_rfl) ?_)
    refine CR.out.mono ?_
    rintro e w9 ⟨rfl, hb⟩
    have S9 := Lib.hid (S8.out.below hb)
    clear hb CR S8
    have k1 := S9.out.hd
    have k2 := S9.out.tail.hd
    have a1 : w9.cell? ⟨b6, 0, none⟩ = some (I 0) := (cell_of_row _ _ _ _ _ _ k1).trans rfl
    have a2 : w9.cell? ⟨b6, 1, none⟩ = some (I 0) := (cell_of_row _ _ _ _ _ _ k1).trans rfl
    have a3 : w9.cell? ⟨b4, 0, none⟩ = some (I 0) := (cell_of_row _ _ _ _ _ _ k2).trans rfl
    have a4 : w9.cell? ⟨b4, 1, none⟩ = some (I 0) := (cell_of_row _ _ _ _ _ _ k2).trans rfl
    clear k1 k2
    go_wp2_with fail
    refine (KN.out _).mono ?_
    rintro e wk ⟨rfl, hb⟩
    have SK := Lib.hid (S9.out.below hb)
    clear hb S9
    go_wp2_with fail
    go_ret
    exact ⟨rfl, SK.out.1⟩
  case true =>
    rw [ho] at CR
    have HO := Lib.hid ho
    have e1 : thF x = (th9 x, 0) := by unfold thF; rw [ho]; rfl
    have e3 : vaE x = 0 := by unfold vaE; rw [ho]; rfl
    rw [HTH.out] at e1
    rw [HVE.out] at e3
    injection e1 with e1 e4
    have HT9 := Lib.hid e1
    subst e3 e4
    rw [er9_t]
    clear ho HTH HVE e1
    go_wp2_with (with_reducible show wpList _ _ _ _ _ _; refine wpList_load_row9 rfl 37 _ rfl w.heap.size rfl (shA x A n) _ _ _ S8.out.tail.tail.hd Try.underlying37 rfl (by kernel_rfl) ?_)
    refine CR.out.mono ?_
    rintro e w9 ⟨rfl, hb⟩
    have S9 := Lib.hid (S8.out.below hb)
    clear hb CR S8
    have CV := Lib.hid (refVariation_any x A n w9 w.heap.size HO.out (HRD.out _ _ S9.out).2 (HRD.out _ _ S9.out).1)
    rw [HVA.out] at CV
    go_wp2_with (with_reducible show wpList _ _ _ _ _ _; refine wpList_load_row9 rfl 37 _ rfl w.heap.size rfl (shA x A n) _ _ _ S9.out.tail.tail.hd Try.underlying37 rfl (by kernel_rfl) ?_)
    refine CV.out.mono ?_
    rintro e w10 ⟨rfl, hb⟩
    have S10 := Lib.hid (S9.out.below hb)
    clear hb CV S9
    go_upto_region 9 with (with_reducible show wpList _ _ _ _ _ _; refine wpList_store_row rfl 24 _ _ rfl w10.heap.size rfl _ _ (heap_last _ _ _ rfl) #[I vl, I vh] rfl (one2 rfl rfl) rfl (by kernel_rfl) ?_)
    have S11 := Lib.hid (S10.out.put #[I 0, I 0] #[I vl, I vh] 24)
    refine name_w fun X hX => ?_
    rw [← hX] at S11
    obtain ⟨b10, hb10⟩ : ∃ z, z = w10.heap.size := ⟨_, rfl⟩
    rw [← hb10] at S11 ⊢
    clear hX hb10 S10
    have k1 := S11.out.hd
    have k2 := S11.out.tail.hd
    have k3 := S11.out.tail.tail.hd
    have k4 := S11.out.tail.tail.tail.hd
    have a1 : ∀ u, (ovr X u).cell? ⟨b10, 0, none⟩ = some (I vl) := cell_row9 k1 (j := 0) rfl
    have a2 : ∀ u, (ovr X u).cell? ⟨b10, 1, none⟩ = some (I vh) := cell_row9 k1 (j := 1) rfl
    have a3 : ∀ u, (ovr X u).cell? ⟨b6, 0, none⟩ = some (I vl) := cell_row9 k2 (j := 0) rfl
    have a4 : ∀ u, (ovr X u).cell? ⟨b6, 1, none⟩ = some (I vh) := cell_row9 k2 (j := 1) rfl
    have a5 : ∀ u, (ovr X u).cell? ⟨b4, 0, none⟩ = some (I tl) := cell_row9 k3 (j := 0) rfl
    have a6 : ∀ u, (ovr X u).cell? ⟨b4, 1, none⟩ = some (I th) := cell_row9 k3 (j := 1) rfl
    have a7 : ∀ u, (ovr X u).cell? ⟨w.heap.size, 0, none⟩ = some (I x.w) := cell_row9 k4 (j := 0) rfl
    have a8 : ∀ u, (ovr X u).cell? ⟨w.heap.size, 1, none⟩ = some (I x.h) := cell_row9 k4 (j := 1) rfl
    have a9 : ∀ u, (ovr X u).cell? ⟨w.heap.size, 2, none⟩ = some (I x.c.lo) := cell_row9 k4 (j := 2) rfl
    have a10 : ∀ u, (ovr X u).cell? ⟨w.heap.size, 3, none⟩ = some (I x.c.hi) := cell_row9 k4 (j := 3) rfl
    have a11 : ∀ u, (ovr X u).cell? ⟨w.heap.size, 4, none⟩ = some (.slice A x.s.length n) := cell_row9 k4 (j := 4) rfl
    have CT : Hid (∀ u, Calls Try.prog 27 #[.agg (shA x A n)] (ovr X u) fun e w' => e = .returned (.agg #[I tl, I th]) ∧ Below (ovr X u).heap.size (ovr X u) w') := Lib.hid fun u => by
      have h := refThickness_any x A n (ovr X u) w.heap.size (HRD.out _ _ (S11.out.below (ovr_below X u))).2 (HRD.out _ _ (S11.out.below (ovr_below X u))).1 HO.out
      rw [← HT9.out] at h
      exact h
    clear k1 k2 k3 k4
    refine Gg.wp_region_make (fun j => if j = 13 then some (fun u _ => u = .agg #[I tl, I th]) else if j = 32 then some (fun u _ => u = .bool true) else none) (by kernel_rfl) (by kernel_rfl) (by kernel_rfl) ?_
    repeat (first | (refine Gg.wpG_one rfl rfl rfl ?_; intro K hK; go_big_quiet_op; go_big_quiet_on) | (refine Gg.wpG_skip rfl ?_; simp only [Act.put, List.setIfInBounds_toArray, List.set_cons_zero, List.set_cons_succ]))
    refine Gg.wpG_make (fun u _ => u = .agg #[I tl, I th]) rfl rfl (fun w' hw' hk => ?_) (fun u hu => ?_)
    · obtain ⟨z, rfl⟩ := hw'
      go_simp
      exact call_grow (CT.out z)
    obtain ⟨_, _, rfl⟩ := hu
    simp only [Act.put, List.setIfInBounds_toArray, List.set_cons_zero, List.set_cons_succ]
    repeat (first | (refine Gg.wpG_one rfl rfl rfl ?_; intro K hK; go_big_quiet_op; go_big_quiet_on) | (refine Gg.wpG_skip rfl ?_; simp only [Act.put, List.setIfInBounds_toArray, List.set_cons_zero, List.set_cons_succ]))
    refine Gg.wpG_make (fun u _ => u = .bool true) rfl rfl (fun w' hw' hk => ?_) (fun u hu => ?_)
    · go_simp
      exact call_grow (KN.out w')
    obtain ⟨_, _, rfl⟩ := hu
    simp only [Act.put, List.setIfInBounds_toArray, List.set_cons_zero, List.set_cons_succ]
    repeat (first | (refine Gg.wpG_one rfl rfl rfl ?_; intro K hK; go_big_quiet_op; go_big_quiet_on) | (refine Gg.wpG_skip rfl ?_; simp only [Act.put, List.setIfInBounds_toArray, List.set_cons_zero, List.set_cons_succ]))
    refine Gg.wpG_nil (fun w5 hw5 hG => ?_)
    have S12 := Lib.hid (S11.out.below hw5.le)
    clear hG hw5 S11
    go_wp2_with fail
    go_ret
    exact ⟨rfl, S12.out.1⟩
end Go.Proofs.Ytljjpidigckheaa.Un
