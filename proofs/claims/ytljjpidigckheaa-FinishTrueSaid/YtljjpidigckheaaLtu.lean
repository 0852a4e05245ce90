/- The law FinishTrue: its walk. -/
import Derived.Test.YtljjpidigckheaaLtm
import Derived.Test.YtljjpidigckheaaNd
import Derived.Test.YtljjpidigckheaaTt
import Derived.Test.YtljjpidigckheaaPck
namespace Go.Proofs.Ytljjpidigckheaa.Un
open Go.RowKit
theorem StL.hd {w V : World} {L : List (Nat × Array Value × TypeId)} {b : Nat} {cs : Array Value} {t : TypeId} (h : StL w ((b, cs, t) :: L) V) : V.heap[b]? = some (.cells cs t (0, 0)) := h.2 _ (.head _)
theorem trF_no {l : List Gag} {g day : Int} {x : Rng} (h : (trF l g day x).2.2 ≠ 0) : (trF l g day x).1 = ⟨0, 0⟩ ∧ (trF l g day x).2.1 = [] := by
  unfold trF at h ⊢
  split at h
  · rename_i h1
    rw [if_pos h1]
    split at h
    · rename_i h2
      rw [if_pos h2]
      exact ⟨rfl, rfl⟩
    · rename_i h2
      rw [if_neg h2]
      split at h
      · rename_i h3
        rw [if_pos h3]
        exact ⟨rfl, rfl⟩
      · rename_i h3
        rw [if_neg h3]
        split at h
        · exact absurd rfl h
        · rename_i h4
          rw [if_neg h4]
          exact ⟨rfl, rfl⟩
  · rename_i h1
    rw [if_neg h1]
    exact ⟨rfl, rfl⟩
set_option maxRecDepth 100000 in
set_option maxHeartbeats 8000000 in
theorem finishTrue_any (A : Option Addr) (c : Nat) (l : List Gag) (g day : Int) (x : Rng) (H : Option Addr) (hn : Nat) (tr : List Int) (w : World) (hx : Rd w w.heap.size 6 A l.length (rG l)) (ht : Rd w w.heap.size 1 H tr.length (rH tr)) (h16 : Is16 tr) :
    Calls Try.prog 15 #[.slice A l.length c, .agg #[I g, I day, I x.lo, I x.hi], .slice H tr.length hn] w fun e w' => e = .returned (.bool true) ∧ Below w.heap.size w w' := by
  have KN := Lib.hid known_any
  have HRD : Hid (∀ V, Below w.heap.size w V → Rd V w.heap.size 6 A l.length (rG l)) := fun V hV => hx.below hV
  have HI6 := Lib.hid h16
  have CP : Hid (∀ V (i : Int) (k : Nat), i = (k : Int) → Below w.heap.size w V → Calls Try.prog 43 #[.slice H tr.length hn, I i] V fun e w' => e = .returned (H16 (at0 tr k)) ∧ Below V.heap.size V w') := fun V i k hi hV => by
    subst hi
    exact pick_any tr k H hn V w.heap.size (ht.below hV)
  obtain ⟨i3, hi3, jz0, jz1, jz2⟩ := info_parts gag9_info
  clear hx ht h16
  obtain ⟨W, hW⟩ : ∃ W, W = (w.alloc (.cells #[I g, I day, I x.lo, I x.hi] 26)) := ⟨_, rfl⟩
  have rowW0 : W.heap[w.heap.size]? = some (.cells #[I g, I day, I x.lo, I x.hi] 26 (0, 0)) := by rw [hW]; exact heap_last _ _ _ rfl
  have yW00 := ovr_cell (W := W) (b := w.heap.size) (o := 0) (v := I g) (by rw [cell_of_row _ _ _ _ _ _ rowW0]; rfl)
  have yW01 := ovr_cell (W := W) (b := w.heap.size) (o := 1) (v := I day) (by rw [cell_of_row _ _ _ _ _ _ rowW0]; rfl)
  have yW02 := ovr_cell (W := W) (b := w.heap.size) (o := 2) (v := I x.lo) (by rw [cell_of_row _ _ _ _ _ _ rowW0]; rfl)
  have yW03 := ovr_cell (W := W) (b := w.heap.size) (o := 3) (v := I x.hi) (by rw [cell_of_row _ _ _ _ _ _ rowW0]; rfl)
  have RrowW0 := Lib.hid (ovr_row rowW0)
  clear rowW0
  have HUW : Hid (∀ u, Below w.heap.size w (ovr W u)) := U1 hW
  have HW := Lib.hid hW
  clear hW
  go_enter Try.func15, Try.ntmps15
  go_upto_region 1 with (fail)
  rw [← HW.out]
  obtain ⟨u0, hu0⟩ := ovr_self W
  rw [hu0]
  clear hu0
  by_cases c1 : l.length ≤ 30
  case neg =>
    have d0 : decide ((30 : Int) < (l.length : Int)) = true := decide_eq_true (by omega)
    clear c1
    go_wp2_with fail
    refine (KN.out _).mono ?_
    rintro e w1 ⟨rfl, hb1⟩
    obtain ⟨uk, rfl⟩ := ovr_next hb1
    clear hb1
    go_wp2_with fail
    go_ret
    exact ⟨rfl, HUW.out _⟩
  have d0 : decide ((30 : Int) < (l.length : Int)) = false := decide_eq_false (by omega)
  have HC : Hid (l.length ≤ 30) := c1
  clear c1
  go_upto_region 3 with fail
  have S0 : Hid (StL w [(w.heap.size, #[I g, I day, I x.lo, I x.hi], 26)] (ovr W u0)) := ⟨HUW.out u0, fun y hy => by
    rcases List.mem_cons.1 hy with rfl | hy
    · exact RrowW0.out u0
    cases hy⟩
  refine name_w fun V hV => ?_
  rw [← hV] at S0
  clear hV HUW RrowW0 d0
  refine (tr_parts (trF l g day x)).elim fun tl h1 => h1.elim fun th h2 => h2.elim fun p h3 => h3.elim fun te hq => ?_
  clear h1 h2 h3
  have CT : Hid (∀ V A c, Rd V V.heap.size 6 A l.length (rG l) → Calls Try.prog 18 #[.slice A l.length c, I g, I day, .agg #[I x.lo, I x.hi]] V (RetTy V (⟨tl, th⟩, p, te))) := fun V A c h => by rw [← hq]; exact traceY_any l g day x A c V V.heap.size (Nat.le_refl _) h
  have HQ := Lib.hid hq
  have HPL : Hid (p.length ≤ 31) := by
    show _ ≤ _
    have h1 : p = (trF l g day x).2.1 := by rw [hq]
    rw [h1]
    exact trF_len l g day x
  clear hq
  have r0 := S0.out.hd
  have f1 : ∀ u, (ovr V u).cell? ⟨w.heap.size, 0, none⟩ = some (I g) := cell_row9 r0 (j := 0) rfl
  have f2 : ∀ u, (ovr V u).cell? ⟨w.heap.size, 1, none⟩ = some (I day) := cell_row9 r0 (j := 1) rfl
  have f3 : ∀ u, (ovr V u).cell? ⟨w.heap.size, 2, none⟩ = some (I x.lo) := cell_row9 r0 (j := 2) rfl
  have f4 : ∀ u, (ovr V u).cell? ⟨w.heap.size, 3, none⟩ = some (I x.hi) := cell_row9 r0 (j := 3) rfl
  clear r0
  have HV : Hid (∀ z, Below w.heap.size w (ovr V z)) := fun z => (S0.out.below (ovr_below V z)).1
  refine Dl.wp_region_late 15 [12, 13] (fun j => if j = 0 then some Emp else if j = 2 then some (SlAm V.heap.size 6 l.length (rG l)) else if j = 9 then some (TrAt9 tl th p te) else if j = 14 then some (NewAt V #[I 0, I 0] 24) else none) (by kernel_rfl) (by kernel_rfl) (by kernel_rfl) (by kernel_rfl) [14] (E := 24)
    ⟨by kernel_rfl, alloc_rng, fun j hj => by simp only [List.mem_cons, List.not_mem_nil, or_false] at hj; rcases hj with rfl <;> exact ⟨_, _, _, rfl⟩⟩ (by kernel_rfl) (fun i hi => by simp only [List.mem_cons, List.not_mem_nil, or_false] at hi; rcases hi with rfl | rfl <;> rfl) (fun c a d v w h => by cases d <;> exact h) ?_
  simp only [List.take_succ_cons, List.take_zero, List.drop_succ_cons, List.drop_zero]
  refine Dk.wpG_make Emp rfl rfl (fun w' hw' _ => ?_) (fun u hu => ?_)
  · go_simp
    exact emp_grow w'
  obtain ⟨_, _, b0, rfl⟩ := hu
  simp only [Act.put, List.setIfInBounds_toArray, List.set_cons_zero, List.set_cons_succ]
  repeat (refine Dk.wpG_one rfl rfl rfl ?_; intro K hK; go_big_quiet_op; go_big_quiet_on)
  refine Dk.wpG_make (SlAm V.heap.size 6 l.length (rG l)) rfl rfl (fun w' hw' _ => ?_) (fun u hu => ?_)
  · obtain ⟨z, rfl⟩ := hw'
    exact app_growM _ _ 22 rfl 108 i3 _ 6 48 Try.underlying22 hi3 jz0 jz1 jz2 rfl (by decide) b0 rfl A l.length c rfl (rG l) ((HRD.out _ (HV.out z)).more (HV.out z).size) (by have := HC.out; omega) (by decide) (ovr_below V z).size
  obtain ⟨_, _, A2, c2, rfl, _, _, _⟩ := hu
  simp only [Act.put, List.setIfInBounds_toArray, List.set_cons_zero, List.set_cons_succ]
  repeat (refine Dk.wpG_one rfl rfl rfl ?_; intro K hK; go_big_quiet_op; go_big_quiet_on)
  refine Dk.wpG_make (TrAt9 tl th p te) rfl rfl (fun w' hw' hk => ?_) (fun u hu => ?_)
  · have q1 := hk ⟨2, .data⟩ (by simp) rfl _ 25 _ rfl rfl rfl (by simp) rfl
    go_simp
    exact tr_grow (CT.out _ _ _ q1.now.at9)
  obtain ⟨_, _, P1, pc1, rfl, _⟩ := hu
  simp only [Act.put, List.setIfInBounds_toArray, List.set_cons_zero, List.set_cons_succ]
  repeat (refine Dk.wpG_one rfl rfl rfl ?_; intro K hK; go_big_quiet_op; go_big_quiet_on)
  refine Dk.wpG_make (NewAt V #[I 0, I 0] 24) rfl rfl (fun w' hw' _ => ?_) (fun u hu => ?_)
  · go_simp
    exact new_grow hw'
  obtain ⟨_, _, B1, rfl, _, _⟩ := hu
  simp only [Act.put, List.setIfInBounds_toArray, List.set_cons_zero, List.set_cons_succ]
  refine Dk.wpG_nil (fun w5 hw5 hG => ?_)
  have hn1 := (Box.now hG.2).at
  have hpa := (Box.now hG.1.2).at
  clear hG
  refine Dl.wpTailH_cons ?_
  refine wp_store_row 24 _ _ rfl B1 rfl _ _ hn1.1 #[I tl, I th] rfl (one2 rfl rfl) rfl (by kernel_rfl) ?_
  have hcl := below_setRow hw5.le hn1.2 #[I tl, I th]
  refine ⟨Cl.of hcl, ?_⟩
  refine Dl.wpTailH_cons ?_
  refine wp_assign _ (.slice P1 p.length pc1) rfl rfl ?_
  refine ⟨Cl.of hcl, ?_⟩
  refine Dl.wpTailH_cons ?_
  refine wp_assign _ (I te) rfl rfl ?_
  refine ⟨Cl.of hcl, ?_⟩
  refine Dl.wpTailH_nil ?_
  simp only [Act.put]
  have S1 := Lib.hid ((S0.out.below hcl).cons (setRow_same (cs' := #[I tl, I th]) hn1.1))
  have HP1 := Lib.hid (hpa.set hn1.1 (by decide) #[I tl, I th])
  obtain ⟨X1, hX1⟩ : ∃ X1, X1 = w5.setRow B1 #[I tl, I th] := ⟨_, rfl⟩
  rw [← hX1] at S1 HP1 ⊢
  have HBCL : Hid (Below V.heap.size V X1) := by rw [hX1]; exact hcl
  clear hX1 hcl hn1 hpa hw5 HV
  go_upto_region 4 with fail
  clear f1 f2 f3 f4
  by_cases hte : te = 0
  case neg =>
    as_aux_lemma =>
      have h1 := trF_no (l := l) (g := g) (day := day) (x := x) (by rw [HQ.out]; exact hte)
      rw [HQ.out] at h1
      obtain ⟨h1, h2⟩ := h1
      injection h1 with h1 h3
      have h2 : p = [] := h2
      subst h1 h2 h3
      have q0 : (te != 0) = true := by simpa using hte
      have k1 := S1.out.hd
      have a1 : X1.cell? ⟨B1, 0, none⟩ = some (I 0) := (cell_of_row _ _ _ _ _ _ k1).trans rfl
      have a2 : X1.cell? ⟨B1, 1, none⟩ = some (I 0) := (cell_of_row _ _ _ _ _ _ k1).trans rfl
      clear k1 hte HP1
      go_wp2_with fail
      refine (KN.out _).mono ?_
      rintro e wk ⟨rfl, hb⟩
      have SK := Lib.hid (S1.out.below hb)
      clear hb
      go_wp2_with fail
      go_ret
      exact ⟨rfl, SK.out.1⟩
  subst hte
  have HOK := Lib.hid (trF_ok (l := l) (g := g) (day := day) (x := x) (by rw [HQ.out]))
  have HPE : Hid (path9 l g = p ∧ (trK l p x p.length).1 = ⟨tl, th⟩) := by
    have h := HOK.out.2.2.2.2.2.2
    rw [HQ.out] at h
    injection h with h1 h2
    injection h2 with h2 _
    show _ ∧ _
    rw [h2]
    exact ⟨rfl, h1.symm⟩
  have HPI : Hid (∀ k, k < p.length → 0 ≤ at0 p k ∧ at0 p k < (l.length : Int) ∧ at0 p k = itr l g k ∧ day ≤ (at0 l (itr l g k).toNat).u) := by
    have h := HOK.out.2.2.2.1
    rw [HPE.out.1] at h
    exact h
  have HEND : Hid (itr l g p.length = -1 ∧ (trK l p x p.length).2 = 0) := by
    have h := HOK.out.2.2.2.2
    rw [HPE.out.1] at h
    exact ⟨h.1, h.2.1⟩
  have HXS : Hid (-1000000000000000 ≤ x.lo ∧ x.lo ≤ x.hi ∧ x.hi ≤ 1000000000000000) := spn9_iff.1 HOK.out.2.1
  obtain ⟨n0, hn0⟩ : ∃ v, plc x (at0 tr 0) = v := ⟨_, rfl⟩
  have HN0 : Hid (x.lo ≤ n0 ∧ n0 ≤ x.hi) := by show _ ∧ _; rw [← hn0]; exact plc_in HXS.out.2.1
  have CX0 : Hid (∀ V, Calls Try.prog 42 #[.agg #[I x.lo, I x.hi], H16 (at0 tr 0)] V fun e w' => e = .returned (I n0) ∧ Below V.heap.size V w') := fun V => by rw [← hn0]; exact place_any x _ V (HI6.out 0)
  refine (tr_parts (trF l g day ⟨n0, n0⟩)).elim fun ol h1 => h1.elim fun oh h2 => h2.elim fun p2 h3 => h3.elim fun oe hq2 => ?_
  clear h1 h2 h3
  have hsub := trF_sub (l := l) (g := g) (day := day) (X := x) (x := ⟨n0, n0⟩) (by rw [HQ.out]) ⟨HN0.out.1, Int.le_refl _, HN0.out.2⟩
  have CT2 : Hid (∀ V A c, Rd V V.heap.size 6 A l.length (rG l) → Calls Try.prog 18 #[.slice A l.length c, I g, I day, .agg #[I n0, I n0]] V (RetTy V (⟨ol, oh⟩, p2, oe))) := fun V A c h => by rw [← hq2]; exact traceY_any l g day ⟨n0, n0⟩ A c V V.heap.size (Nat.le_refl _) h
  rw [hq2, HQ.out] at hsub
  obtain ⟨hoe, hsl, _, hsh⟩ := hsub
  have hoe : oe = 0 := hoe
  subst hoe
  have HSUB : Hid (tl ≤ ol ∧ oh ≤ th) := ⟨hsl, hsh⟩
  clear hsl hsh hq2 hn0
  have q0 : ((0 : Int) != 0) = false := rfl
  go_upto_region 6 with fail
  have r0 := S1.out.tail.hd
  have f1 : ∀ u, (ovr X1 u).cell? ⟨w.heap.size, 0, none⟩ = some (I g) := cell_row9 r0 (j := 0) rfl
  have f2 : ∀ u, (ovr X1 u).cell? ⟨w.heap.size, 1, none⟩ = some (I day) := cell_row9 r0 (j := 1) rfl
  have f3 : ∀ u, (ovr X1 u).cell? ⟨w.heap.size, 2, none⟩ = some (I x.lo) := cell_row9 r0 (j := 2) rfl
  have f4 : ∀ u, (ovr X1 u).cell? ⟨w.heap.size, 3, none⟩ = some (I x.hi) := cell_row9 r0 (j := 3) rfl
  clear r0
  refine Gg.wp_region_make (fun j => if j = 3 then some (fun u _ => u = H16 (at0 tr 0)) else if j = 4 then some (fun u _ => u = I n0) else none) (by kernel_rfl) (by kernel_rfl) (by kernel_rfl) ?_
  repeat (first | (refine Gg.wpG_one rfl rfl rfl ?_; intro K hK; go_big_quiet_op; go_big_quiet_on) | (refine Gg.wpG_skip rfl ?_; simp only [Act.put, List.setIfInBounds_toArray, List.set_cons_zero, List.set_cons_succ]))
  refine Gg.wpG_make (fun u _ => u = H16 (at0 tr 0)) rfl rfl (fun w' hw' hk => ?_) (fun u hu => ?_)
  · obtain ⟨z, rfl⟩ := hw'
    go_simp
    exact call_grow (CP.out _ 0 0 rfl (S1.out.below (ovr_below X1 z)).1)
  obtain ⟨_, _, rfl⟩ := hu
  simp only [Act.put, List.setIfInBounds_toArray, List.set_cons_zero, List.set_cons_succ]
  repeat (first | (refine Gg.wpG_one rfl rfl rfl ?_; intro K hK; go_big_quiet_op; go_big_quiet_on) | (refine Gg.wpG_skip rfl ?_; simp only [Act.put, List.setIfInBounds_toArray, List.set_cons_zero, List.set_cons_succ]))
  refine Gg.wpG_make (fun u _ => u = I n0) rfl rfl (fun w' hw' hk => ?_) (fun u hu => ?_)
  · go_simp
    exact call_grow (CX0.out w')
  obtain ⟨_, _, rfl⟩ := hu
  simp only [Act.put, List.setIfInBounds_toArray, List.set_cons_zero, List.set_cons_succ]
  repeat (first | (refine Gg.wpG_one rfl rfl rfl ?_; intro K hK; go_big_quiet_op; go_big_quiet_on) | (refine Gg.wpG_skip rfl ?_; simp only [Act.put, List.setIfInBounds_toArray, List.set_cons_zero, List.set_cons_succ]))
  refine Gg.wpG_nil (fun w5 hw5 hG => ?_)
  have S2 := Lib.hid (S1.out.below hw5.le)
  have HP2 := Lib.hid (HP1.out.later hw5.le)
  clear hG hw5 S1 HP1 f1 f2 f3 f4 CX0
  go_upto_region 7 with fail
  refine name_w fun V7 hV7 => ?_
  rw [← hV7] at S2 HP2
  clear hV7
  have r0 := S2.out.tail.hd
  have f1 : ∀ u, (ovr V7 u).cell? ⟨w.heap.size, 0, none⟩ = some (I g) := cell_row9 r0 (j := 0) rfl
  have f2 : ∀ u, (ovr V7 u).cell? ⟨w.heap.size, 1, none⟩ = some (I day) := cell_row9 r0 (j := 1) rfl
  have f3 : ∀ u, (ovr V7 u).cell? ⟨w.heap.size, 2, none⟩ = some (I x.lo) := cell_row9 r0 (j := 2) rfl
  have f4 : ∀ u, (ovr V7 u).cell? ⟨w.heap.size, 3, none⟩ = some (I x.hi) := cell_row9 r0 (j := 3) rfl
  clear r0
  have HV7 : Hid (∀ z, Below w.heap.size w (ovr V7 z)) := fun z => (S2.out.below (ovr_below V7 z)).1
  refine Dl.wp_region_late 16 [13, 14] (fun j => if j = 0 then some Emp else if j = 2 then some (SlAm V7.heap.size 6 l.length (rG l)) else if j = 10 then some (TrAt9 ol oh p2 0) else if j = 15 then some (NewAt V7 #[I 0, I 0] 24) else none) (by kernel_rfl) (by kernel_rfl) (by kernel_rfl) (by kernel_rfl) [15] (E := 24)
    ⟨by kernel_rfl, alloc_rng, fun j hj => by simp only [List.mem_cons, List.not_mem_nil, or_false] at hj; rcases hj with rfl <;> exact ⟨_, _, _, rfl⟩⟩ (by kernel_rfl) (fun i hi => by simp only [List.mem_cons, List.not_mem_nil, or_false] at hi; rcases hi with rfl | rfl <;> rfl) (fun c a d v w h => by cases d <;> exact h) ?_
  simp only [List.take_succ_cons, List.take_zero, List.drop_succ_cons, List.drop_zero]
  refine Dk.wpG_make Emp rfl rfl (fun w' hw' _ => ?_) (fun u hu => ?_)
  · go_simp
    exact emp_grow w'
  obtain ⟨_, _, b0, rfl⟩ := hu
  simp only [Act.put, List.setIfInBounds_toArray, List.set_cons_zero, List.set_cons_succ]
  repeat (refine Dk.wpG_one rfl rfl rfl ?_; intro K hK; go_big_quiet_op; go_big_quiet_on)
  refine Dk.wpG_make (SlAm V7.heap.size 6 l.length (rG l)) rfl rfl (fun w' hw' _ => ?_) (fun u hu => ?_)
  · obtain ⟨z, rfl⟩ := hw'
    exact app_growM _ _ 22 rfl 108 i3 _ 6 48 Try.underlying22 hi3 jz0 jz1 jz2 rfl (by decide) b0 rfl A l.length c rfl (rG l) ((HRD.out _ (HV7.out z)).more (HV7.out z).size) (by have := HC.out; omega) (by decide) (ovr_below V7 z).size
  obtain ⟨_, _, A2, c2, rfl, _, _, _⟩ := hu
  simp only [Act.put, List.setIfInBounds_toArray, List.set_cons_zero, List.set_cons_succ]
  repeat (refine Dk.wpG_one rfl rfl rfl ?_; intro K hK; go_big_quiet_op; go_big_quiet_on)
  refine Dk.wpG_make (TrAt9 ol oh p2 0) rfl rfl (fun w' hw' hk => ?_) (fun u hu => ?_)
  · have q1 := hk ⟨2, .data⟩ (by simp) rfl _ 59 _ rfl rfl rfl (by simp) rfl
    go_simp
    exact tr_grow (CT2.out _ _ _ q1.now.at9)
  obtain ⟨_, _, P2, pc2, rfl, _⟩ := hu
  simp only [Act.put, List.setIfInBounds_toArray, List.set_cons_zero, List.set_cons_succ]
  repeat (refine Dk.wpG_one rfl rfl rfl ?_; intro K hK; go_big_quiet_op; go_big_quiet_on)
  refine Dk.wpG_make (NewAt V7 #[I 0, I 0] 24) rfl rfl (fun w' hw' _ => ?_) (fun u hu => ?_)
  · go_simp
    exact new_grow hw'
  obtain ⟨_, _, B2, rfl, _, _⟩ := hu
  simp only [Act.put, List.setIfInBounds_toArray, List.set_cons_zero, List.set_cons_succ]
  refine Dk.wpG_nil (fun w5 hw5 hG => ?_)
  have hn1 := (Box.now hG.2).at
  have hpa := (Box.now hG.1.2).at
  clear hG
  refine Dl.wpTailH_cons ?_
  refine wp_store_row 24 _ _ rfl B2 rfl _ _ hn1.1 #[I ol, I oh] rfl (one2 rfl rfl) rfl (by kernel_rfl) ?_
  have hcl := below_setRow hw5.le hn1.2 #[I ol, I oh]
  refine ⟨Cl.of hcl, ?_⟩
  refine Dl.wpTailH_cons ?_
  refine wp_assign _ (.slice P2 p2.length pc2) rfl rfl ?_
  refine ⟨Cl.of hcl, ?_⟩
  refine Dl.wpTailH_cons ?_
  refine wp_assign _ (I 0) rfl rfl ?_
  refine ⟨Cl.of hcl, ?_⟩
  refine Dl.wpTailH_nil ?_
  simp only [Act.put]
  have S3 := Lib.hid ((S2.out.below hcl).cons (setRow_same (cs' := #[I ol, I oh]) hn1.1))
  have HPX := Lib.hid (hpa.set hn1.1 (by decide) #[I ol, I oh])
  obtain ⟨X2, hX2⟩ : ∃ X2, X2 = w5.setRow B2 #[I ol, I oh] := ⟨_, rfl⟩
  rw [← hX2] at S3 HPX ⊢
  have HBCL : Hid (Below V7.heap.size V7 X2) := by rw [hX2]; exact hcl
  clear hX2 hcl hn1 hpa hw5 HV7
  have HP3 : Hid (RdY X2 3 1 P1 p.length (rI p)) := HP2.out.later HBCL.out
  go_upto_region 8 with fail
  clear f1 f2 f3 f4 HPX S2 HP2 HBCL
  have k1 := S3.out.hd
  have k2 := S3.out.tail.hd
  have a1 : X2.cell? ⟨B2, 0, none⟩ = some (I ol) := (cell_of_row _ _ _ _ _ _ k1).trans rfl
  have a2 : X2.cell? ⟨B2, 1, none⟩ = some (I oh) := (cell_of_row _ _ _ _ _ _ k1).trans rfl
  have a3 : X2.cell? ⟨B1, 0, none⟩ = some (I tl) := (cell_of_row _ _ _ _ _ _ k2).trans rfl
  have a4 : X2.cell? ⟨B1, 1, none⟩ = some (I th) := (cell_of_row _ _ _ _ _ _ k2).trans rfl
  have d1 : decide (ol < tl) = false := decide_eq_false (by have := HSUB.out; omega)
  have d2 : decide (th < oh) = false := decide_eq_false (by have := HSUB.out; omega)
  clear k1 k2
  go_wp2_with fail
  clear a1 a2 a3 a4 d1 d2
  go_loopw [14, 10, 11] (fun iv nv gv wr => ∃ i : Nat, i ≤ p.length ∧ iv = .int .i64 i ∧ nv = I (frN l p tr n0 i) ∧ gv = I (itr l g i) ∧ Below X2.heap.size X2 wr) (fun iv _ _ _ => p.length - (intOf iv).toNat)
  case atStart => exact ⟨0, Nat.zero_le _, rfl, rfl, rfl, Below.refl _ _⟩
  case round =>
    obtain ⟨i, hi, rfl, rfl, rfl, hbz⟩ := hrel
    rename World => Z
    have HBZ := Lib.hid hbz
    have S := Lib.hid (S3.out.below hbz)
    have HP := Lib.hid (HP3.out.later hbz)
    clear hbz
    by_cases hlt : i < p.length
    case neg =>
      as_aux_lemma =>
        obtain rfl : i = p.length := by omega
        have ki : decide ((p.length : Int) < (p.length : Int)) = false := decide_eq_false (by omega)
        have he1 := HEND.out.1
        have hin := fr_in (l := l) (p := p) (tr := tr) (X := x) (n := n0) HOK.out.1 (fun k hk => ⟨(HPI.out k hk).1, (HPI.out k hk).2.1⟩) HN0.out HEND.out.2 p.length (Nat.le_refl _)
        rw [HPE.out.2] at hin
        rw [he1]
        obtain ⟨N9, hN9⟩ : ∃ v, frN l p tr n0 p.length = v := ⟨_, rfl⟩
        rw [hN9] at hin ⊢
        have CH : Hid (∀ V, Calls Try.prog 44 #[.agg #[I tl, I th], I N9] V fun e w' => e = .returned (.bool true) ∧ Below V.heap.size V w') := fun V => by
          have h := has9_any ⟨tl, th⟩ N9 V
          rw [hasB_iff.2 hin] at h
          exact h
        have k2 := S.out.tail.hd
        have a3 : Z.cell? ⟨B1, 0, none⟩ = some (I tl) := (cell_of_row _ _ _ _ _ _ k2).trans rfl
        have a4 : Z.cell? ⟨B1, 1, none⟩ = some (I th) := (cell_of_row _ _ _ _ _ _ k2).trans rfl
        have q1 : ((-1 : Int) == -1) = true := rfl
        clear k2 he1 hN9 hin hi hlt
        go_wp2_with fail
        refine (CH.out _).mono ?_
        rintro e w9 ⟨rfl, hb⟩
        have S9 := Lib.hid (S.out.below hb)
        clear hb a3 a4
        go_wp2_with fail
        refine (KN.out _).mono ?_
        rintro e wk ⟨rfl, hb⟩
        have SK := Lib.hid (S9.out.below hb)
        clear hb
        go_wp2_with fail
        go_ret
        exact ⟨rfl, SK.out.1⟩
    have HLT := Lib.hid hlt
    have ki : decide ((i : Int) < (p.length : Int)) = true := decide_eq_true (by omega)
    have kl : i < p.length := hlt
    have i31 : i ≤ 31 := by have := HPL.out; omega
    obtain ⟨h1, h2, h3, h4⟩ := HPI.out i hlt
    have hst := fr_step (l := l) (p := p) (tr := tr) (X := x) (n := n0) HOK.out.1 (fun k hk => ⟨(HPI.out k hk).1, (HPI.out k hk).2.1⟩) HN0.out HEND.out.2 hlt
    have hin := fr_in (l := l) (p := p) (tr := tr) (X := x) (n := n0) HOK.out.1 (fun k hk => ⟨(HPI.out k hk).1, (HPI.out k hk).2.1⟩) HN0.out HEND.out.2 i (by omega)
    have hnb := fr_bd HXS.out HEND.out.2 i (by omega)
    have HNX : Hid (frN l p tr n0 (i + 1) = (mdF (frN l p tr n0 i) (plc (at0 l (at0 p i).toNat).f (at0 tr (3 * i + 1))) 1000000 (1 + at0 tr (3 * i + 2) % 3)).1 + plc (at0 l (at0 p i).toNat).o (at0 tr (3 * i + 3))) := rfl
    have HGX : Hid (itr l g (i + 1) = (at0 l (itr l g i).toNat).by_) := rfl
    obtain ⟨k, hk⟩ : ∃ k : Nat, itr l g i = k := ⟨(itr l g i).toNat, by omega⟩
    rw [hk] at h3 h4 HGX ⊢
    rw [h3] at hst HNX
    rw [Int.toNat_natCast] at h4 hst HNX HGX
    have hkl : k < l.length := by omega
    have k30 : k ≤ 30 := by have := HC.out; omega
    have hgi := gag_in HOK.out.1 hkl
    obtain ⟨pb, po, hP1, _, e1⟩ := rd_int9 HP.out.1 hlt
    rw [h3] at e1
    subst hP1
    obtain ⟨gb, go, rfl, _, g0, g1, g2, g3, g4, g5⟩ := rd_gag (HRD.out Z S.out.1) hkl
    obtain ⟨r, hr⟩ : ∃ r, at0 l k = r := ⟨_, rfl⟩
    rw [hr] at g0 g1 g2 g3 g4 g5 hst HNX HGX h4 hgi
    have d1 : decide ((k : Int) < 0) = false := decide_eq_false (by omega)
    have d2 : decide ((l.length : Int) ≤ (k : Int)) = false := decide_eq_false (by omega)
    have d5 : decide (l.length ≤ k) = false := decide_eq_false (by omega)
    have d3 : decide (r.u < day) = false := decide_eq_false (by omega)
    have d4 : ((k : Int) != (k : Int)) = false := bne_self_eq_false _
    have kll : k < l.length := hkl
    obtain ⟨nn, hnn⟩ : ∃ v, frN l p tr n0 i = v := ⟨_, rfl⟩
    rw [hnn] at hst HNX hin ⊢
    obtain ⟨t1, ht1⟩ : ∃ v, at0 tr (3 * i + 1) = v := ⟨_, rfl⟩
    obtain ⟨t2, ht2⟩ : ∃ v, at0 tr (3 * i + 2) = v := ⟨_, rfl⟩
    obtain ⟨t3, ht3⟩ : ∃ v, at0 tr (3 * i + 3) = v := ⟨_, rfl⟩
    have CP1 : Hid (∀ V, Below w.heap.size w V → Calls Try.prog 43 #[.slice H tr.length hn, I (3 * (i : Int) + 1)] V fun e w' => e = .returned (H16 t1) ∧ Below V.heap.size V w') := fun V hV => by rw [← ht1]; exact CP.out V _ (3 * i + 1) (by omega) hV
    have CP2 : Hid (∀ V, Below w.heap.size w V → Calls Try.prog 43 #[.slice H tr.length hn, I (3 * (i : Int) + 2)] V fun e w' => e = .returned (H16 t2) ∧ Below V.heap.size V w') := fun V hV => by rw [← ht2]; exact CP.out V _ (3 * i + 2) (by omega) hV
    have CP3 : Hid (∀ V, Below w.heap.size w V → Calls Try.prog 43 #[.slice H tr.length hn, I (3 * (i : Int) + 3)] V fun e w' => e = .returned (H16 t3) ∧ Below V.heap.size V w') := fun V hV => by rw [← ht3]; exact CP.out V _ (3 * i + 3) (by omega) hV
    have b1 := HI6.out (3 * i + 1)
    have b2 := HI6.out (3 * i + 2)
    have b3 := HI6.out (3 * i + 3)
    rw [ht1] at b1 hst HNX
    rw [ht2] at b2 hst HNX
    rw [ht3] at b3 HNX
    obtain ⟨ff, hff⟩ : ∃ v, plc r.f t1 = v := ⟨_, rfl⟩
    obtain ⟨oo, hoo⟩ : ∃ v, plc r.o t3 = v := ⟨_, rfl⟩
    have CF : Hid (∀ V, Calls Try.prog 42 #[.agg #[I r.f.lo, I r.f.hi], H16 t1] V fun e w' => e = .returned (I ff) ∧ Below V.heap.size V w') := fun V => by rw [← hff]; exact place_any r.f t1 V b1
    have COO : Hid (∀ V, Calls Try.prog 42 #[.agg #[I r.o.lo, I r.o.hi], H16 t3] V fun e w' => e = .returned (I oo) ∧ Below V.heap.size V w') := fun V => by rw [← hoo]; exact place_any r.o t3 V b3
    have hfb := plc_in (r := r.f) (b := t1) (by have := hgi.1; omega)
    have hob := plc_in (r := r.o) (b := t3) (by have := hgi.2; omega)
    rw [hff] at hst HNX hfb
    rw [hoo] at HNX hob
    obtain ⟨tn, rfl⟩ : ∃ v : Nat, t2 = v := ⟨t2.toNat, by omega⟩
    obtain ⟨rr, hrr⟩ : ∃ v : Nat, tn % 3 = v := ⟨_, rfl⟩
    have hr3 : rr < 3 := by omega
    have m1 : (tn : Int).tmod 3 = (rr : Int) := by rw [← hrr]; rfl
    have m2 : (tn : Int) % 3 = (rr : Int) := by omega
    have m3 : IntKind.u16.wrap (rr : Int) = (rr : Int) := IntWalk.u16_in _ (by omega)
    have m4 : IntKind.u16.wrap (1 + (rr : Int)) = 1 + (rr : Int) := IntWalk.u16_in _ (by omega)
    have m5 : IntKind.u8.wrap (1 + (rr : Int)) = 1 + (rr : Int) := IntWalk.u8_in _ (by omega)
    rw [m2] at hst HNX
    refine (md_parts (mdF nn ff 1000000 (1 + (rr : Int)))).elim fun md i1 => i1.elim fun mr i2 => i2.elim fun me hmd => ?_
    clear i1 i2
    rw [hmd] at hst HNX
    obtain ⟨hs1, hs2⟩ := hst
    have hs1 : me = 0 := hs1
    have hs2 : -1000000000000000 ≤ md ∧ md ≤ 1000000000000000 := hs2
    subst hs1
    have CM : Hid (∀ V, Calls Try.prog 46 #[I nn, I ff, I 1000000, .int .u8 (1 + (rr : Int))] V fun e w' => e = .returned (.tuple #[I md, I mr, I 0]) ∧ Below V.heap.size V w') := fun V => by
      have h := muldiv_any nn ff 1000000 (1 + (rr : Int)) V (by omega) (by have := hgi.1; omega) (by omega)
      rw [hmd] at h
      exact h
    have kx : IntKind.i64.wrap (md + oo) = md + oo := IntWalk.i64_in _ (by have := hgi.2; omega)
    have HGR : Hid (at0 l k = r) := hr
    have HKL := Lib.hid hkl
    clear h1 h2 h3 h4 hin hnb hk hkl hgi hr hnn ht1 ht2 ht3 b1 b2 b3 hff hoo hfb hob hrr hr3 hmd hs2 hi hlt
    go_upto_region 13 with fail
    have r0 := S.out.tail.tail.hd
    have v1 : ∀ u, (ovr Z u).cell? ⟨w.heap.size, 1, none⟩ = some (I day) := cell_row9 r0 (j := 1) rfl
    have v2 := ovr_cell e1
    have v3 := ovr_cell g5
    clear r0 e1 g0 g1 g2 g3 g4 g5
    refine Gg.wp_region_make (fun _ => none) (by kernel_rfl) (by kernel_rfl) (by kernel_rfl) ?_
    repeat (first | (refine Gg.wpG_one rfl rfl rfl ?_; intro K hK; go_big_quiet_op; go_big_quiet_on) | (refine Gg.wpG_skip rfl ?_; simp only [Act.put, List.setIfInBounds_toArray, List.set_cons_zero, List.set_cons_succ]))
    refine Gg.wpG_nil (fun w5 hw5 hG => ?_)
    have S5 := Lib.hid (S.out.below hw5.le)
    have HB5 := Lib.hid (HBZ.out.trans (hw5.le.mono HBZ.out.size))
    clear hG hw5 S HBZ v1 v2 v3
    rename World => Z5
    go_upto_region 15 with fail
    obtain ⟨gb', go', hgo, _, g0, g1, g2, g3, g4, g5⟩ := rd_gag (HRD.out Z5 S5.out.1) HKL.out
    obtain ⟨rfl, rfl⟩ : gb = gb' ∧ go = go' := by
      injection hgo with hgo
      injection hgo with h1 h2
      exact ⟨h1, h2⟩
    rw [HGR.out] at g0 g1 g2 g3 g4 g5
    clear hgo
    have v1 := ovr_cell g1
    have v2 := ovr_cell g2
    clear g0 g1 g2 g3 g4 g5
    refine Gg.wp_region_make (fun j => if j = 10 then some (fun u _ => u = H16 t1) else if j = 11 then some (fun u _ => u = I ff) else if j = 16 then some (fun u _ => u = H16 (tn : Int)) else if j = 20 then some (fun u _ => u = .tuple #[I md, I mr, I 0]) else none) (by kernel_rfl) (by kernel_rfl) (by kernel_rfl) ?_
    repeat (first | (refine Gg.wpG_one rfl rfl rfl ?_; intro K hK; go_big_quiet_op; go_big_quiet_on) | (refine Gg.wpG_skip rfl ?_; simp only [Act.put, List.setIfInBounds_toArray, List.set_cons_zero, List.set_cons_succ]))
    refine Gg.wpG_make (fun u _ => u = H16 t1) rfl rfl (fun w' hw' hk => ?_) (fun u hu => ?_)
    · obtain ⟨z, rfl⟩ := hw'
      go_simp
      exact call_grow (CP1.out _ (S5.out.below (ovr_below Z5 z)).1)
    obtain ⟨_, _, rfl⟩ := hu
    simp only [Act.put, List.setIfInBounds_toArray, List.set_cons_zero, List.set_cons_succ]
    repeat (first | (refine Gg.wpG_one rfl rfl rfl ?_; intro K hK; go_big_quiet_op; go_big_quiet_on) | (refine Gg.wpG_skip rfl ?_; simp only [Act.put, List.setIfInBounds_toArray, List.set_cons_zero, List.set_cons_succ]))
    refine Gg.wpG_make (fun u _ => u = I ff) rfl rfl (fun w' hw' hk => ?_) (fun u hu => ?_)
    · go_simp
      exact call_grow (CF.out w')
    obtain ⟨_, _, rfl⟩ := hu
    simp only [Act.put, List.setIfInBounds_toArray, List.set_cons_zero, List.set_cons_succ]
    repeat (first | (refine Gg.wpG_one rfl rfl rfl ?_; intro K hK; go_big_quiet_op; go_big_quiet_on) | (refine Gg.wpG_skip rfl ?_; simp only [Act.put, List.setIfInBounds_toArray, List.set_cons_zero, List.set_cons_succ]))
    refine Gg.wpG_make (fun u _ => u = H16 (tn : Int)) rfl rfl (fun w' hw' hk => ?_) (fun u hu => ?_)
    · obtain ⟨z, rfl⟩ := hw'
      go_simp
      exact call_grow (CP2.out _ (S5.out.below (ovr_below Z5 z)).1)
    obtain ⟨_, _, rfl⟩ := hu
    simp only [Act.put, List.setIfInBounds_toArray, List.set_cons_zero, List.set_cons_succ]
    repeat (first | (refine Gg.wpG_one rfl rfl rfl ?_; intro K hK; go_big_quiet_op; go_big_quiet_on) | (refine Gg.wpG_skip rfl ?_; simp only [Act.put, List.setIfInBounds_toArray, List.set_cons_zero, List.set_cons_succ]))
    refine Gg.wpG_make (fun u _ => u = .tuple #[I md, I mr, I 0]) rfl rfl (fun w' hw' hk => ?_) (fun u hu => ?_)
    · go_simp
      exact call_grow (CM.out w')
    obtain ⟨_, _, rfl⟩ := hu
    simp only [Act.put, List.setIfInBounds_toArray, List.set_cons_zero, List.set_cons_succ]
    repeat (first | (refine Gg.wpG_one rfl rfl rfl ?_; intro K hK; go_big_quiet_op; go_big_quiet_on) | (refine Gg.wpG_skip rfl ?_; simp only [Act.put, List.setIfInBounds_toArray, List.set_cons_zero, List.set_cons_succ]))
    refine Gg.wpG_nil (fun w5 hw5 hG => ?_)
    have S6 := Lib.hid (S5.out.below hw5.le)
    have HB6 := Lib.hid (HB5.out.trans (hw5.le.mono HB5.out.size))
    clear hG hw5 S5 HB5 v1 v2
    rename World => Z6
    go_upto_region 18 with fail
    obtain ⟨gb', go', hgo, _, g0, g1, g2, g3, g4, g5⟩ := rd_gag (HRD.out Z6 S6.out.1) HKL.out
    obtain ⟨rfl, rfl⟩ : gb = gb' ∧ go = go' := by
      injection hgo with hgo
      injection hgo with h1 h2
      exact ⟨h1, h2⟩
    rw [HGR.out] at g0 g1 g2 g3 g4 g5
    clear hgo
    have v1 := ovr_cell g3
    have v2 := ovr_cell g4
    have v3 := ovr_cell g0
    clear g0 g1 g2 g3 g4 g5
    refine Gg.wp_region_make (fun j => if j = 10 then some (fun u _ => u = H16 t3) else if j = 11 then some (fun u _ => u = I oo) else none) (by kernel_rfl) (by kernel_rfl) (by kernel_rfl) ?_
    repeat (first | (refine Gg.wpG_one rfl rfl rfl ?_; intro K hK; go_big_quiet_op; go_big_quiet_on) | (refine Gg.wpG_skip rfl ?_; simp only [Act.put, List.setIfInBounds_toArray, List.set_cons_zero, List.set_cons_succ]))
    refine Gg.wpG_make (fun u _ => u = H16 t3) rfl rfl (fun w' hw' hk => ?_) (fun u hu => ?_)
    · obtain ⟨z, rfl⟩ := hw'
      go_simp
      exact call_grow (CP3.out _ (S6.out.below (ovr_below Z6 z)).1)
    obtain ⟨_, _, rfl⟩ := hu
    simp only [Act.put, List.setIfInBounds_toArray, List.set_cons_zero, List.set_cons_succ]
    repeat (first | (refine Gg.wpG_one rfl rfl rfl ?_; intro K hK; go_big_quiet_op; go_big_quiet_on) | (refine Gg.wpG_skip rfl ?_; simp only [Act.put, List.setIfInBounds_toArray, List.set_cons_zero, List.set_cons_succ]))
    refine Gg.wpG_make (fun u _ => u = I oo) rfl rfl (fun w' hw' hk => ?_) (fun u hu => ?_)
    · go_simp
      exact call_grow (COO.out w')
    obtain ⟨_, _, rfl⟩ := hu
    simp only [Act.put, List.setIfInBounds_toArray, List.set_cons_zero, List.set_cons_succ]
    repeat (first | (refine Gg.wpG_one rfl rfl rfl ?_; intro K hK; go_big_quiet_op; go_big_quiet_on) | (refine Gg.wpG_skip rfl ?_; simp only [Act.put, List.setIfInBounds_toArray, List.set_cons_zero, List.set_cons_succ]))
    refine Gg.wpG_nil (fun w5 hw5 hG => ?_)
    have HB7 := Lib.hid (HB6.out.trans (hw5.le.mono HB6.out.size))
    clear hG hw5 S6 HB6 v1 v2 v3
    go_wp2_with fail
    go_roundw
    case rel => exact ⟨i + 1, HLT.out, by go_num, by rw [HNX.out], by rw [HGX.out], HB7.out⟩
    case measure => have := HLT.out; simp [intOf]; omega
end Go.Proofs.Ytljjpidigckheaa.Un
