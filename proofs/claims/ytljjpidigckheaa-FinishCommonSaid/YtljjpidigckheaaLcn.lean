/- The law FinishCommon: its walk. -/
import Derived.Test.YtljjpidigckheaaCmn
import Derived.Test.YtljjpidigckheaaOsh
namespace Go.Proofs.Ytljjpidigckheaa.Un
open Go.RowKit
def RmAt (y : Sht) (er : Int) (u : Value) (w : World) : Prop := ∃ A c, u = .tuple #[.agg (shA y A c), I er] ∧ (y.s.length ≤ c ∧ c ≤ maxLen) ∧ Rd w w.heap.size 2 A y.s.length (rR y.s)
theorem rm_grow {P : Program} {f : FuncId} {args : Array Value} {w : World} {y : Sht} {er : Int} (h : Calls P f args w (RetRm w y er)) : Calls P f args w fun e w' => ∃ u, e = .returned u ∧ Le w w' ∧ Box (RmAt y er) u w' :=
  h.mono fun _ _ ⟨A, c, he, h1, hr, hb⟩ => ⟨_, he, hb, fun _ hl => ⟨A, c, rfl, h1, (hr.below hl).more hl.size⟩⟩
theorem RmAt.at {y : Sht} {er : Int} {A : Option Addr} {c : Nat} {w : World} (h : RmAt y er (.tuple #[.agg (shA y A c), I er]) w) : (y.s.length ≤ c ∧ c ≤ maxLen) ∧ Rd w w.heap.size 2 A y.s.length (rR y.s) := by
  obtain ⟨A', c', hu, hn, hr⟩ := h
  obtain ⟨e1, e2⟩ : A = A' ∧ c = c' := by simpa [shA] using hu
  subst e1 e2
  exact ⟨hn, hr⟩
theorem rd_one9 {w : World} {b : Nat} {r : Rmv} {t : TypeId} (h : w.heap[b]? = some (.cells #[I r.k, I r.a.lo, I r.a.hi, I r.s] t (0, 0))) : Rd w w.heap.size 4 (some ⟨b, 0, none⟩) [r].length (rV [r]) := fun _ => ⟨b, 0, rfl, lt_of_row h, fun k hk j hj => by
  obtain rfl : k = 0 := by simpa using hk
  rw [cell_of_row _ _ _ _ _ _ h]
  match j, hj with
  | 0, _ => rfl
  | 1, _ => rfl
  | 2, _ => rfl
  | 3, _ => rfl⟩
theorem rm_len {x : Sht} {l : List Rmv} {er : Int} {y : Sht} (h1 : rmEr x l = er) (h2 : rmX x l = y) : y.s = [] ∨ 4 ≤ y.s.length := by
  by_cases h : er = 0
  · right
    rw [← h2]
    exact sh_len (rm_sheet (h1.trans h))
  · left
    have := rm_ne h1 h
    rw [h2] at this
    rw [this]
set_option maxRecDepth 100000 in
set_option maxHeartbeats 8000000 in
theorem finishCommon_any (x : Sht) (A : Option Addr) (n : Nat) (am : Rng) (sp : Int) (w : World) (hm : x.s.length ≤ n ∧ n ≤ maxLen) (hx : Rd w w.heap.size 2 A x.s.length (rR x.s)) (hsp : 0 ≤ sp ∧ sp ≤ 255) :
    Calls Try.prog 11 #[.agg (shA x A n), .agg #[I am.lo, I am.hi], .int .u8 sp] w fun e w' => e = .returned (.bool true) ∧ Below w.heap.size w w' := by
  have KN := Lib.hid known_any
  have HRD : Hid (∀ (L : List (Nat × Array Value × TypeId)) V, StL w L V → Rd V w.heap.size 2 A x.s.length (rR x.s) ∧ w.heap.size ≤ V.heap.size) := fun L V h => h.rd (Nat.le_refl _) hx
  have HM := Lib.hid hm
  have HSP := Lib.hid hsp
  clear hx hm hsp
  obtain ⟨W, hW⟩ : ∃ W, W = ((w.alloc (.cells #[I x.w, I x.h, I x.c.lo, I x.c.hi, .slice A x.s.length n] 37)).alloc (.cells #[I am.lo, I am.hi] 24)) := ⟨_, rfl⟩
  have rowW0 : W.heap[w.heap.size]? = some (.cells #[I x.w, I x.h, I x.c.lo, I x.c.hi, .slice A x.s.length n] 37 (0, 0)) := by rw [hW]; exact heap_before (heap_last _ _ _ rfl)
  have yW00 := ovr_cell (W := W) (b := w.heap.size) (o := 0) (v := I x.w) (by rw [cell_of_row _ _ _ _ _ _ rowW0]; rfl)
  have yW01 := ovr_cell (W := W) (b := w.heap.size) (o := 1) (v := I x.h) (by rw [cell_of_row _ _ _ _ _ _ rowW0]; rfl)
  have yW02 := ovr_cell (W := W) (b := w.heap.size) (o := 2) (v := I x.c.lo) (by rw [cell_of_row _ _ _ _ _ _ rowW0]; rfl)
  have yW03 := ovr_cell (W := W) (b := w.heap.size) (o := 3) (v := I x.c.hi) (by rw [cell_of_row _ _ _ _ _ _ rowW0]; rfl)
  have yW04 := ovr_cell (W := W) (b := w.heap.size) (o := 4) (v := .slice A x.s.length n) (by rw [cell_of_row _ _ _ _ _ _ rowW0]; rfl)
  have RrowW0 := Lib.hid (ovr_row rowW0)
  clear rowW0
  have rowW1 : W.heap[w.heap.size + 1]? = some (.cells #[I am.lo, I am.hi] 24 (0, 0)) := by rw [hW]; exact heap_last _ _ _ (by simp)
  have yW10 := ovr_cell (W := W) (b := w.heap.size + 1) (o := 0) (v := I am.lo) (by rw [cell_of_row _ _ _ _ _ _ rowW1]; rfl)
  have yW11 := ovr_cell (W := W) (b := w.heap.size + 1) (o := 1) (v := I am.hi) (by rw [cell_of_row _ _ _ _ _ _ rowW1]; rfl)
  have RrowW1 := Lib.hid (ovr_row rowW1)
  clear rowW1
  have HUW : Hid (∀ u, Below w.heap.size w (ovr W u)) := U2 hW
  have HW := Lib.hid hW
  clear hW
  go_enter Try.func11, Try.ntmps11
  go_upto_region 1 with (fail)
  rw [← HW.out]
  obtain ⟨u0, hu0⟩ := ovr_self W
  rw [hu0]
  clear hu0
  by_cases h16 : x.s.length ≤ 16
  case neg =>
    have d0 : decide ((16 : Int) < (x.s.length : Int)) = true := decide_eq_true (by omega)
    clear h16
    go_wp2_with fail
    refine (KN.out _).mono ?_
    rintro e w1 ⟨rfl, hb1⟩
    obtain ⟨uk, rfl⟩ := ovr_next hb1
    clear hb1
    go_wp2_with fail
    go_ret
    exact ⟨rfl, HUW.out _⟩
  have d0 : decide ((16 : Int) < (x.s.length : Int)) = false := decide_eq_false (by omega)
  have CO : Hid (∀ L V, StL w L V → Calls Try.prog 22 #[.agg (shA x A n)] V (RetOs V x)) := fun L V h => ownSheet_any x A n V w.heap.size (by omega) (HRD.out L V h).2 (HRD.out L V h).1
  clear h16
  go_upto_region 3 with fail
  have S0 : Hid (StL w [(w.heap.size + 1, #[I am.lo, I am.hi], 24), (w.heap.size, shA x A n, 37)] (ovr W u0)) := ⟨HUW.out u0, fun y hy => by
    rcases List.mem_cons.1 hy with rfl | hy
    · exact RrowW1.out u0
    rcases List.mem_cons.1 hy with rfl | hy
    · exact RrowW0.out u0
    cases hy⟩
  refine name_w fun V hV => ?_
  rw [← hV] at S0
  clear hV HUW RrowW0 RrowW1 d0
  obtain ⟨y, er, hy1, hy2⟩ : ∃ y er, rmX x [⟨3, am, 0⟩] = y ∧ rmEr x [⟨3, am, 0⟩] = er := ⟨_, _, rfl, rfl⟩
  obtain ⟨z, ez, hz1, hz2⟩ : ∃ z ez, rmX x [⟨3, am, sp⟩] = z ∧ rmEr x [⟨3, am, sp⟩] = ez := ⟨_, _, rfl, rfl⟩
  have HRY : Hid (rmX x [⟨3, am, 0⟩] = y ∧ rmEr x [⟨3, am, 0⟩] = er) := ⟨hy1, hy2⟩
  have HRZ : Hid (rmX x [⟨3, am, sp⟩] = z ∧ rmEr x [⟨3, am, sp⟩] = ez) := ⟨hz1, hz2⟩
  clear hy1 hy2 hz1 hz2
  have f0 : ∀ u, (ovr V u).cell? ⟨w.heap.size, 0, none⟩ = some (I x.w) := cell_row9 (S0.out.tail.hd) (j := 0) rfl
  have f1 : ∀ u, (ovr V u).cell? ⟨w.heap.size, 1, none⟩ = some (I x.h) := cell_row9 (S0.out.tail.hd) (j := 1) rfl
  have f2 : ∀ u, (ovr V u).cell? ⟨w.heap.size, 2, none⟩ = some (I x.c.lo) := cell_row9 (S0.out.tail.hd) (j := 2) rfl
  have f3 : ∀ u, (ovr V u).cell? ⟨w.heap.size, 3, none⟩ = some (I x.c.hi) := cell_row9 (S0.out.tail.hd) (j := 3) rfl
  have f4 : ∀ u, (ovr V u).cell? ⟨w.heap.size, 4, none⟩ = some (.slice A x.s.length n) := cell_row9 (S0.out.tail.hd) (j := 4) rfl
  have f5 : ∀ u, (ovr V u).cell? ⟨w.heap.size + 1, 0, none⟩ = some (I am.lo) := cell_row9 (S0.out.hd) (j := 0) rfl
  have f6 : ∀ u, (ovr V u).cell? ⟨w.heap.size + 1, 1, none⟩ = some (I am.hi) := cell_row9 (S0.out.hd) (j := 1) rfl
  have HV : Hid (∀ z, Calls Try.prog 22 #[.agg (shA x A n)] (ovr V z) (RetOs (ovr V z) x)) := fun z => CO.out _ _ (S0.out.below (ovr_below V z))
  refine Dl.wp_region_late 10 [8] (fun j => if j = 1 then some (ShAt x) else if j = 4 then some (SlN V #[I 3, I am.lo, I am.hi, I 0] 88 1) else if j = 5 then some (RmAt y er) else if j = 9 then some (NewAt V #[I 0, I 0, I 0, I 0, .slice none 0 0] 37) else none) (by kernel_rfl) (by kernel_rfl) (by kernel_rfl) (by kernel_rfl) [9] (E := 37)
    ⟨by kernel_rfl, alloc_sht, fun j hj => by simp only [List.mem_cons, List.not_mem_nil, or_false] at hj; rcases hj with rfl <;> exact ⟨_, _, _, rfl⟩⟩ (by kernel_rfl) (fun i hi => by simp only [List.mem_cons, List.not_mem_nil, or_false] at hi; rcases hi with rfl <;> rfl) (fun c a d v w h => by cases d <;> exact h) ?_
  simp only [List.take_succ_cons, List.take_zero, List.drop_succ_cons, List.drop_zero]
  repeat (refine Dk.wpG_one rfl rfl rfl ?_; intro K hK; go_big_quiet_op; go_big_quiet_on)
  refine Dk.wpG_make (ShAt x) rfl rfl (fun w' hw' _ => ?_) (fun u hu => ?_)
  · obtain ⟨z, rfl⟩ := hw'
    go_simp
    exact os_grow (HV.out z)
  obtain ⟨_, _, A2, c2, rfl, _, _⟩ := hu
  simp only [Act.put, List.setIfInBounds_toArray, List.set_cons_zero, List.set_cons_succ]
  repeat (refine Dk.wpG_one rfl rfl rfl ?_; intro K hK; go_big_quiet_op; go_big_quiet_on)
  refine Dk.wpG_make (SlN V #[I 3, I am.lo, I am.hi, I 0] 88 1) rfl rfl (fun w' hw' _ => ?_) (fun u hu => ?_)
  · go_simp
    exact sln_grow hw'
  obtain ⟨_, _, b4, rfl, _, _⟩ := hu
  simp only [Act.put, List.setIfInBounds_toArray, List.set_cons_zero, List.set_cons_succ]
  repeat (refine Dk.wpG_one rfl rfl rfl ?_; intro K hK; go_big_quiet_op; go_big_quiet_on)
  refine Dk.wpG_make (RmAt y er) rfl rfl (fun w' hw' hk => ?_) (fun u hu => ?_)
  · have q1 := (hk ⟨1, .data⟩ (by simp) rfl _ 36 _ rfl rfl rfl (by simp) rfl).now.at
    have q2 := (hk ⟨4, .data⟩ (by simp) rfl _ 39 _ rfl rfl rfl (by simp) rfl).now.at
    go_simp
    have hc := remove_any x A2 c2 [⟨3, am, 0⟩] (some ⟨b4, 0, none⟩) 1 w' w'.heap.size q1.1 (Nat.le_refl _) q1.2 (rd_one9 q2.1) (by simp)
    rw [HRY.out.1, HRY.out.2] at hc
    exact rm_grow hc
  obtain ⟨_, _, SY, cy, rfl, _⟩ := hu
  simp only [Act.put, List.setIfInBounds_toArray, List.set_cons_zero, List.set_cons_succ]
  repeat (refine Dk.wpG_one rfl rfl rfl ?_; intro K hK; go_big_quiet_op; go_big_quiet_on)
  refine Dk.wpG_make (NewAt V #[I 0, I 0, I 0, I 0, .slice none 0 0] 37) rfl rfl (fun w' hw' _ => ?_) (fun u hu => ?_)
  · go_simp
    exact new_grow hw'
  obtain ⟨_, _, PY, rfl, _, _⟩ := hu
  simp only [Act.put, List.setIfInBounds_toArray, List.set_cons_zero, List.set_cons_succ]
  refine Dk.wpG_nil (fun w5 hw5 hG => ?_)
  have hn1 := (Box.now hG.2).at
  have hra := (Box.now hG.1.2).at
  clear hG
  refine Dl.wpTailH_cons ?_
  refine wp_store_row 37 _ _ rfl PY rfl _ _ hn1.1 (shA y SY cy) rfl (by intro u hu; simp at hu; rcases hu with rfl | rfl | rfl | rfl | rfl <;> rfl) rfl (by kernel_rfl) ?_
  have hcl := below_setRow hw5.le hn1.2 (shA y SY cy)
  refine ⟨Cl.of hcl, ?_⟩
  refine Dl.wpTailH_cons ?_
  refine wp_assign _ (I er) rfl rfl ?_
  refine ⟨Cl.of hcl, ?_⟩
  refine Dl.wpTailH_nil ?_
  simp only [Act.put, List.setIfInBounds_toArray, List.set_cons_zero, List.set_cons_succ]
  have S1 := Lib.hid ((S0.out.below hcl).cons (setRow_same (cs' := shA y SY cy) hn1.1))
  have HSY : Hid ((y.s.length ≤ cy ∧ cy ≤ maxLen) ∧ Rd (w5.setRow PY (shA y SY cy)) (w5.setRow PY (shA y SY cy)).heap.size 2 SY y.s.length (rR y.s)) := ⟨hra.1, by
    rcases rm_len HRY.out.2 HRY.out.1 with h | h
    · rw [h]; exact Rd.nil
    · exact rd_big hra.2 hn1.1 (by simp; omega) _⟩
  have HB1 := Lib.hid hcl
  obtain ⟨X1, hX1⟩ : ∃ X1, X1 = w5.setRow PY (shA y SY cy) := ⟨_, rfl⟩
  rw [← hX1] at S1 HSY HB1 ⊢
  clear hX1 hcl hn1 hra hw5 HV f0 f1 f2 f3 f4 f5 f6
  go_upto_region 4 with fail
  have k5 : IntKind.i64.wrap sp = sp := IntWalk.i64_in _ (by have := HSP.out; omega)
  have k6 : wrap64 sp = sp := by unfold wrap64; have := HSP.out; omega
  have f0 : ∀ u, (ovr X1 u).cell? ⟨w.heap.size, 0, none⟩ = some (I x.w) := cell_row9 (S1.out.tail.tail.hd) (j := 0) rfl
  have f1 : ∀ u, (ovr X1 u).cell? ⟨w.heap.size, 1, none⟩ = some (I x.h) := cell_row9 (S1.out.tail.tail.hd) (j := 1) rfl
  have f2 : ∀ u, (ovr X1 u).cell? ⟨w.heap.size, 2, none⟩ = some (I x.c.lo) := cell_row9 (S1.out.tail.tail.hd) (j := 2) rfl
  have f3 : ∀ u, (ovr X1 u).cell? ⟨w.heap.size, 3, none⟩ = some (I x.c.hi) := cell_row9 (S1.out.tail.tail.hd) (j := 3) rfl
  have f4 : ∀ u, (ovr X1 u).cell? ⟨w.heap.size, 4, none⟩ = some (.slice A x.s.length n) := cell_row9 (S1.out.tail.tail.hd) (j := 4) rfl
  have f5 : ∀ u, (ovr X1 u).cell? ⟨w.heap.size + 1, 0, none⟩ = some (I am.lo) := cell_row9 (S1.out.tail.hd) (j := 0) rfl
  have f6 : ∀ u, (ovr X1 u).cell? ⟨w.heap.size + 1, 1, none⟩ = some (I am.hi) := cell_row9 (S1.out.tail.hd) (j := 1) rfl
  have HX1 : Hid (∀ z, Calls Try.prog 22 #[.agg (shA x A n)] (ovr X1 z) (RetOs (ovr X1 z) x)) := fun z => CO.out _ _ (S1.out.below (ovr_below X1 z))
  refine Dl.wp_region_late 12 [10] (fun j => if j = 1 then some (ShAt x) else if j = 6 then some (SlN X1 #[I 3, I am.lo, I am.hi, I sp] 88 1) else if j = 7 then some (RmAt z ez) else if j = 11 then some (NewAt X1 #[I 0, I 0, I 0, I 0, .slice none 0 0] 37) else none) (by kernel_rfl) (by kernel_rfl) (by kernel_rfl) (by kernel_rfl) [11] (E := 37)
    ⟨by kernel_rfl, alloc_sht, fun j hj => by simp only [List.mem_cons, List.not_mem_nil, or_false] at hj; rcases hj with rfl <;> exact ⟨_, _, _, rfl⟩⟩ (by kernel_rfl) (fun i hi => by simp only [List.mem_cons, List.not_mem_nil, or_false] at hi; rcases hi with rfl <;> rfl) (fun c a d v w h => by cases d <;> exact h) ?_
  simp only [List.take_succ_cons, List.take_zero, List.drop_succ_cons, List.drop_zero]
  repeat (refine Dk.wpG_one rfl rfl rfl ?_; intro K hK; go_big_quiet_op; go_big_quiet_on)
  refine Dk.wpG_make (ShAt x) rfl rfl (fun w' hw' _ => ?_) (fun u hu => ?_)
  · obtain ⟨z, rfl⟩ := hw'
    go_simp
    exact os_grow (HX1.out z)
  obtain ⟨_, _, A2, c2, rfl, _, _⟩ := hu
  simp only [Act.put, List.setIfInBounds_toArray, List.set_cons_zero, List.set_cons_succ]
  repeat (refine Dk.wpG_one rfl rfl rfl ?_; intro K hK; go_big_quiet_op; go_big_quiet_on)
  refine Dk.wpG_make (SlN X1 #[I 3, I am.lo, I am.hi, I sp] 88 1) rfl rfl (fun w' hw' _ => ?_) (fun u hu => ?_)
  · go_simp
    exact sln_grow hw'
  obtain ⟨_, _, b4, rfl, _, _⟩ := hu
  simp only [Act.put, List.setIfInBounds_toArray, List.set_cons_zero, List.set_cons_succ]
  repeat (refine Dk.wpG_one rfl rfl rfl ?_; intro K hK; go_big_quiet_op; go_big_quiet_on)
  refine Dk.wpG_make (RmAt z ez) rfl rfl (fun w' hw' hk => ?_) (fun u hu => ?_)
  · have q1 := (hk ⟨1, .data⟩ (by simp) rfl _ 45 _ rfl rfl rfl (by simp) rfl).now.at
    have q2 := (hk ⟨6, .data⟩ (by simp) rfl _ 50 _ rfl rfl rfl (by simp) rfl).now.at
    go_simp
    have hc := remove_any x A2 c2 [⟨3, am, sp⟩] (some ⟨b4, 0, none⟩) 1 w' w'.heap.size q1.1 (Nat.le_refl _) q1.2 (rd_one9 q2.1) (by simp)
    rw [HRZ.out.1, HRZ.out.2] at hc
    exact rm_grow hc
  obtain ⟨_, _, SZ, cz, rfl, _⟩ := hu
  simp only [Act.put, List.setIfInBounds_toArray, List.set_cons_zero, List.set_cons_succ]
  repeat (refine Dk.wpG_one rfl rfl rfl ?_; intro K hK; go_big_quiet_op; go_big_quiet_on)
  refine Dk.wpG_make (NewAt X1 #[I 0, I 0, I 0, I 0, .slice none 0 0] 37) rfl rfl (fun w' hw' _ => ?_) (fun u hu => ?_)
  · go_simp
    exact new_grow hw'
  obtain ⟨_, _, PZ, rfl, _, _⟩ := hu
  simp only [Act.put, List.setIfInBounds_toArray, List.set_cons_zero, List.set_cons_succ]
  refine Dk.wpG_nil (fun w5 hw5 hG => ?_)
  have hn1 := (Box.now hG.2).at
  have hra := (Box.now hG.1.2).at
  clear hG
  refine Dl.wpTailH_cons ?_
  refine wp_store_row 37 _ _ rfl PZ rfl _ _ hn1.1 (shA z SZ cz) rfl (by intro u hu; simp at hu; rcases hu with rfl | rfl | rfl | rfl | rfl <;> rfl) rfl (by kernel_rfl) ?_
  have hcl := below_setRow hw5.le hn1.2 (shA z SZ cz)
  refine ⟨Cl.of hcl, ?_⟩
  refine Dl.wpTailH_cons ?_
  refine wp_assign _ (I ez) rfl rfl ?_
  refine ⟨Cl.of hcl, ?_⟩
  refine Dl.wpTailH_nil ?_
  simp only [Act.put, List.setIfInBounds_toArray, List.set_cons_zero, List.set_cons_succ]
  have S2 := Lib.hid ((S1.out.below hcl).cons (setRow_same (cs' := shA z SZ cz) hn1.1))
  have HSZ : Hid ((z.s.length ≤ cz ∧ cz ≤ maxLen) ∧ Rd (w5.setRow PZ (shA z SZ cz)) (w5.setRow PZ (shA z SZ cz)).heap.size 2 SZ z.s.length (rR z.s)) := ⟨hra.1, by
    rcases rm_len HRZ.out.2 HRZ.out.1 with h | h
    · rw [h]; exact Rd.nil
    · exact rd_big hra.2 hn1.1 (by simp; omega) _⟩
  have HB2 := Lib.hid hcl
  obtain ⟨X2, hX2⟩ : ∃ X2, X2 = w5.setRow PZ (shA z SZ cz) := ⟨_, rfl⟩
  rw [← hX2] at S2 HSZ HB2 ⊢
  clear hX2 hcl hn1 hra hw5 HX1 f0 f1 f2 f3 f4 f5 f6
  go_upto_region 5 with fail
  clear k5 k6
  by_cases he : er = 0
  case neg =>
    as_aux_lemma =>
      have q0 : (er != 0) = true := by simpa using he
      clear he
      go_wp2_with fail
      refine (KN.out _).mono ?_
      rintro e wk ⟨rfl, hb⟩
      have SK := Lib.hid (S2.out.below hb)
      clear hb
      go_wp2_with fail
      go_ret
      exact ⟨rfl, SK.out.1⟩
  have q0 : (er != 0) = false := by simpa using he
  by_cases hez : ez = 0
  case neg =>
    as_aux_lemma =>
      have q1 : (ez != 0) = true := by simpa using hez
      clear he hez
      go_wp2_with fail
      refine (KN.out _).mono ?_
      rintro e wk ⟨rfl, hb⟩
      have SK := Lib.hid (S2.out.below hb)
      clear hb
      go_wp2_with fail
      go_ret
      exact ⟨rfl, SK.out.1⟩
  have q1 : (ez != 0) = false := by simpa using hez
  subst he hez
  have hxo := (rm_ok HRY.out.2).1
  have HOX := Lib.hid hxo
  have hyo := rm_sheet HRY.out.2
  have hzo := rm_sheet HRZ.out.2
  have hys := cm_same HRY.out.2 rfl
  have hzs := cm_wide HRZ.out.2
  rw [HRY.out.1] at hyo hys
  rw [HRZ.out.1] at hzo hzs
  have hvy : va9 y = va9 x := va_same hxo hyo hys.1
  have hvz := va_wider hxo hzo hzs.1.1 hzs.2
  have hfy0 := ff_same hys.1 hys.2 false
  have hfy1 := ff_same hys.1 hys.2 true
  have hfz := ff_wide hzs.1.1 hzs.1.2 hzs.2
  have e0 : ∀ q : Sht, okSh q = true → vaE q = 0 := fun q h => by unfold vaE; rw [h]; rfl
  have e1 : ∀ q : Sht, okSh q = true → flF q = (ff9 q false, ff9 q true, 0) := fun q h => by unfold flF; rw [if_pos h]
  obtain ⟨al, ah, aa, ab, hva⟩ : ∃ vl vh va vb, va9 x = ⟨vl, vh, va, vb⟩ := ⟨_, _, _, _, rfl⟩
  obtain ⟨cl, ch, ga, gb, hvc⟩ : ∃ vl vh va vb, va9 z = ⟨vl, vh, va, vb⟩ := ⟨_, _, _, _, rfl⟩
  obtain ⟨f0, hf0⟩ : ∃ f, ff9 x false = f := ⟨_, rfl⟩
  obtain ⟨f1, hf1⟩ : ∃ f, ff9 x true = f := ⟨_, rfl⟩
  obtain ⟨g0, hg0⟩ : ∃ f, ff9 z false = f := ⟨_, rfl⟩
  obtain ⟨g1, hg1⟩ : ∃ f, ff9 z true = f := ⟨_, rfl⟩
  have kx0 := ff_fok hxo false
  have kx1 := ff_fok hxo true
  have kz0 := ff_fok hzo false
  have kz1 := ff_fok hzo true
  rw [hf0] at kx0 hfz hfy0
  rw [hf1] at kx1 hfz hfy1
  rw [hg0] at kz0 hfz
  rw [hg1] at kz1 hfz
  have HVX : Hid (va9 x = ⟨al, ah, aa, ab⟩ ∧ vaE x = 0) := ⟨hva, e0 x hxo⟩
  have HVY : Hid (va9 y = ⟨al, ah, aa, ab⟩ ∧ vaE y = 0) := ⟨hvy.trans hva, e0 y hyo⟩
  have HVZ : Hid (va9 z = ⟨cl, ch, ga, gb⟩ ∧ vaE z = 0) := ⟨hvc, e0 z hzo⟩
  have HFX : Hid (flF x = (f0, f1, 0)) := by show _ = _; rw [e1 x hxo, hf0, hf1]
  have HFY : Hid (flF y = (f0, f1, 0)) := by show _ = _; rw [e1 y hyo, hfy0, hfy1]
  have HFZ : Hid (flF z = (g0, g1, 0)) := by show _ = _; rw [e1 z hzo, hg0, hg1]
  have HCM : Hid ((cl ≤ al ∧ ah ≤ ch) ∧ (coF g0.1 f0.1).2 = 0 ∧ (coF g0.1 f0.1).1 ≤ 0 ∧ (coF g1.1 f1.1).2 = 0 ∧ 0 ≤ (coF g1.1 f1.1).1) := by
    rw [hva, hvc] at hvz
    refine ⟨hvz, ?_⟩
    have a1 := co_le kz0 kx0 hfz.1
    have a2 := co_ge kz1 kx1 hfz.2
    exact ⟨a1.1, a1.2, a2.1, a2.2⟩
  have HSY2 : Hid ((y.s.length ≤ cy ∧ cy ≤ maxLen) ∧ Rd X2 X2.heap.size 2 SY y.s.length (rR y.s)) := ⟨HSY.out.1, (HSY.out.2.below HB2.out).more HB2.out.size⟩
  have HLX : Hid (x.s.length ≤ 1000 ∧ y.s.length ≤ 1000 ∧ z.s.length ≤ 1000) := by
    have := sh_small hxo
    have := sh_small hyo
    have := sh_small hzo
    show _ ∧ _
    omega
  have T2 : Hid (StL X2 [(PZ, shA z SZ cz, 37), (PY, shA y SY cy, 37), (w.heap.size + 1, #[I am.lo, I am.hi], 24), (w.heap.size, shA x A n, 37)] X2) := ⟨Below.refl _ _, S2.out.2⟩
  have HBW : Hid (Below w.heap.size w X2) := S2.out.1
  have HRX := Lib.hid (HRD.out _ _ S2.out)
  have CX : Hid (∀ L V, StL X2 L V → Calls Try.prog 22 #[.agg (shA x A n)] V (RetOs V x)) := fun L V h => ownSheet_any x A n V w.heap.size HLX.out.1 (Nat.le_trans HRX.out.2 h.1.size) (HRX.out.1.below (h.1.mono HRX.out.2))
  have CY : Hid (∀ L V, StL X2 L V → Calls Try.prog 22 #[.agg (shA y SY cy)] V (RetOs V y)) := fun L V h => ownSheet_any y SY cy V X2.heap.size HLX.out.2.1 h.1.size (HSY2.out.2.below h.1)
  have CZ : Hid (∀ L V, StL X2 L V → Calls Try.prog 22 #[.agg (shA z SZ cz)] V (RetOs V z)) := fun L V h => ownSheet_any z SZ cz V X2.heap.size HLX.out.2.2 h.1.size (HSZ.out.2.below h.1)
  clear hxo hyo hzo hys hzs hvy hvz hfy0 hfy1 hfz e0 e1 hva hvc hf0 hf1 hg0 hg1 kx0 kx1 kz0 kz1 S2 HSY HB1 HB2 HRD CO HSY2 HRY HRZ
  go_upto_region 7 with fail
  clear q0 q1
  go_wp2_with (with_reducible show wpList _ _ _ _ _ _; refine wpList_load_row9 rfl 37 _ rfl w.heap.size rfl (shA x A n) _ _ _ (T2.out.tail.tail.tail.hd) Try.underlying37 rfl (by kernel_rfl) ?_)
  refine (CX.out _ _ T2.out).mono ?_
  rintro e wa ⟨Aa, ca, rfl, hca, hra, hb⟩
  have Sa := Lib.hid (T2.out.below hb)
  have CVA := Lib.hid (variation_any x Aa ca wa wa.heap.size (Nat.le_refl _) hra)
  rw [HVX.out.1, HVX.out.2] at CVA
  clear hca hra hb T2
  go_wp2_with fail
  refine CVA.out.mono ?_
  rintro e wb ⟨rfl, hb⟩
  have Sb := Lib.hid (Sa.out.below hb)
  clear hb Sa CVA
  go_upto_region 8 with (with_reducible show wpList _ _ _ _ _ _; refine wpList_store_row rfl 24 _ _ rfl wb.heap.size rfl _ _ (heap_last _ _ _ rfl) #[I al, I ah] rfl (one2 rfl rfl) rfl (by kernel_rfl) ?_)
  have T3 := Lib.hid (Sb.out.put #[I 0, I 0] #[I al, I ah] 24)
  obtain ⟨b3, hbb⟩ : ∃ q, q = wb.heap.size := ⟨_, rfl⟩
  refine name_w fun W3 hWW => ?_
  rw [← hWW] at T3
  rw [← hbb] at T3 ⊢
  clear hWW hbb Sb
  go_wp2_with (with_reducible show wpList _ _ _ _ _ _; refine wpList_load_row9 rfl 37 _ rfl PY rfl (shA y SY cy) _ _ _ (T3.out.tail.tail.hd) Try.underlying37 rfl (by kernel_rfl) ?_)
  refine (CY.out _ _ T3.out).mono ?_
  rintro e wa ⟨Aa, ca, rfl, hca, hra, hb⟩
  have Sa := Lib.hid (T3.out.below hb)
  have CVA := Lib.hid (variation_any y Aa ca wa wa.heap.size (Nat.le_refl _) hra)
  rw [HVY.out.1, HVY.out.2] at CVA
  clear hca hra hb T3
  go_wp2_with fail
  refine CVA.out.mono ?_
  rintro e wb ⟨rfl, hb⟩
  have Sb := Lib.hid (Sa.out.below hb)
  clear hb Sa CVA
  go_upto_region 9 with (with_reducible show wpList _ _ _ _ _ _; refine wpList_store_row rfl 24 _ _ rfl wb.heap.size rfl _ _ (heap_last _ _ _ rfl) #[I al, I ah] rfl (one2 rfl rfl) rfl (by kernel_rfl) ?_)
  have T4 := Lib.hid (Sb.out.put #[I 0, I 0] #[I al, I ah] 24)
  obtain ⟨b4, hbb⟩ : ∃ q, q = wb.heap.size := ⟨_, rfl⟩
  refine name_w fun W4 hWW => ?_
  rw [← hWW] at T4
  rw [← hbb] at T4 ⊢
  clear hWW hbb Sb
  go_wp2_with (with_reducible show wpList _ _ _ _ _ _; refine wpList_load_row9 rfl 37 _ rfl PZ rfl (shA z SZ cz) _ _ _ (T4.out.tail.tail.hd) Try.underlying37 rfl (by kernel_rfl) ?_)
  refine (CZ.out _ _ T4.out).mono ?_
  rintro e wa ⟨Aa, ca, rfl, hca, hra, hb⟩
  have Sa := Lib.hid (T4.out.below hb)
  have CVA := Lib.hid (variation_any z Aa ca wa wa.heap.size (Nat.le_refl _) hra)
  rw [HVZ.out.1, HVZ.out.2] at CVA
  clear hca hra hb T4
  go_wp2_with fail
  refine CVA.out.mono ?_
  rintro e wb ⟨rfl, hb⟩
  have Sb := Lib.hid (Sa.out.below hb)
  clear hb Sa CVA
  go_upto_region 10 with (with_reducible show wpList _ _ _ _ _ _; refine wpList_store_row rfl 24 _ _ rfl wb.heap.size rfl _ _ (heap_last _ _ _ rfl) #[I cl, I ch] rfl (one2 rfl rfl) rfl (by kernel_rfl) ?_)
  have T5 := Lib.hid (Sb.out.put #[I 0, I 0] #[I cl, I ch] 24)
  obtain ⟨b5, hbb⟩ : ∃ q, q = wb.heap.size := ⟨_, rfl⟩
  refine name_w fun W5 hWW => ?_
  rw [← hWW] at T5
  rw [← hbb] at T5 ⊢
  clear hWW hbb Sb
  have k1 := T5.out.hd
  have k2 := T5.out.tail.hd
  have k3 := T5.out.tail.tail.hd
  have a1 : W5.cell? ⟨b5, 0, none⟩ = some (I cl) := (cell_of_row _ _ _ _ _ _ k1).trans rfl
  have a2 : W5.cell? ⟨b5, 1, none⟩ = some (I ch) := (cell_of_row _ _ _ _ _ _ k1).trans rfl
  have a3 : W5.cell? ⟨b4, 0, none⟩ = some (I al) := (cell_of_row _ _ _ _ _ _ k2).trans rfl
  have a4 : W5.cell? ⟨b4, 1, none⟩ = some (I ah) := (cell_of_row _ _ _ _ _ _ k2).trans rfl
  have a5 : W5.cell? ⟨b3, 0, none⟩ = some (I al) := (cell_of_row _ _ _ _ _ _ k3).trans rfl
  have a6 : W5.cell? ⟨b3, 1, none⟩ = some (I ah) := (cell_of_row _ _ _ _ _ _ k3).trans rfl
  have d1 : decide (al < cl) = false := decide_eq_false (by have := HCM.out.1; omega)
  have d2 : decide (ch < ah) = false := decide_eq_false (by have := HCM.out.1; omega)
  have q0 : ((0 : Int) != 0) = false := rfl
  clear k1 k2 k3
  go_upto_region 12 with fail
  clear a1 a2 a3 a4 a5 a6 d1 d2
  go_wp2_with (with_reducible show wpList _ _ _ _ _ _; refine wpList_load_row9 rfl 37 _ rfl w.heap.size rfl (shA x A n) _ _ _ (T5.out.nth 6 rfl) Try.underlying37 rfl (by kernel_rfl) ?_)
  refine (CX.out _ _ T5.out).mono ?_
  rintro e wa ⟨Aa, ca, rfl, hca, hra, hb⟩
  have Sa := Lib.hid (T5.out.below hb)
  have Cf0 := Lib.hid (flatness0_any x Aa ca wa wa.heap.size hca (Nat.le_refl _) hra)
  rw [HFX.out] at Cf0
  clear hca hra hb T5
  go_wp2_with fail
  refine Cf0.out.mono ?_
  rintro e wb ⟨_, _, rfl, ⟨y1, n1, z1, i1, rfl, _⟩, ⟨y2, n2, z2, i2, rfl, _⟩, hb⟩
  have Sb := Lib.hid (Sa.out.below hb)
  clear hb Sa Cf0
  have h1 : Hid (((wb.alloc (.cells #[I 0, I 0, .slice none 0 0, .slice none 0 0] 60)).alloc (.cells #[I 0, I 0, .slice none 0 0, .slice none 0 0] 60)).heap[wb.heap.size]? = some (.cells #[I 0, I 0, .slice none 0 0, .slice none 0 0] 60 (0, 0))) := Lib.hid (RowV.below (w := wb.alloc (.cells #[I 0, I 0, .slice none 0 0, .slice none 0 0] 60)) (heap_last _ _ _ rfl) nc_new)
  have h2 : Hid ((((wb.alloc (.cells #[I 0, I 0, .slice none 0 0, .slice none 0 0] 60)).alloc (.cells #[I 0, I 0, .slice none 0 0, .slice none 0 0] 60)).setRow wb.heap.size #[I f0.1.n, I f0.1.d, .slice y1 f0.2.1.length n1, .slice z1 f0.2.2.length i1]).heap[wb.heap.size + 1]? = some (.cells #[I 0, I 0, .slice none 0 0, .slice none 0 0] 60 (0, 0))) := Lib.hid ((setRow_other (by omega)).trans (heap_last _ _ _ (by simp)))
  go_upto_region 13 with (first | (with_reducible show wpList _ _ _ _ _ _; refine wpList_store_row rfl 60 _ _ rfl wb.heap.size rfl _ _ h1.out #[I f0.1.n, I f0.1.d, .slice y1 f0.2.1.length n1, .slice z1 f0.2.2.length i1] rfl (by simp [Value.oneCell']) rfl (by kernel_rfl) ?_) | (with_reducible show wpList _ _ _ _ _ _; refine wpList_store_row rfl 60 _ _ rfl (wb.heap.size + 1) rfl _ _ h2.out #[I f1.1.n, I f1.1.d, .slice y2 f1.2.1.length n2, .slice z2 f1.2.2.length i2] rfl (by simp [Value.oneCell']) rfl (by kernel_rfl) ?_))
  have T6 := Lib.hid (Sb.out.put2 #[I 0, I 0, .slice none 0 0, .slice none 0 0] #[I f0.1.n, I f0.1.d, .slice y1 f0.2.1.length n1, .slice z1 f0.2.2.length i1] #[I 0, I 0, .slice none 0 0, .slice none 0 0] #[I f1.1.n, I f1.1.d, .slice y2 f1.2.1.length n2, .slice z2 f1.2.2.length i2] 60 60)
  obtain ⟨xa, hba⟩ : ∃ q, q = wb.heap.size := ⟨_, rfl⟩
  obtain ⟨xb, hbb⟩ : ∃ q, q = wb.heap.size + 1 := ⟨_, rfl⟩
  refine name_w fun W6 hWW => ?_
  rw [← hWW] at T6
  rw [← hbb, ← hba] at T6 ⊢
  clear hWW hbb hba Sb h1 h2
  go_wp2_with (with_reducible show wpList _ _ _ _ _ _; refine wpList_load_row9 rfl 37 _ rfl PY rfl (shA y SY cy) _ _ _ (T6.out.nth 6 rfl) Try.underlying37 rfl (by kernel_rfl) ?_)
  refine (CY.out _ _ T6.out).mono ?_
  rintro e wa ⟨Aa, ca, rfl, hca, hra, hb⟩
  have Sa := Lib.hid (T6.out.below hb)
  have Cf0 := Lib.hid (flatness0_any y Aa ca wa wa.heap.size hca (Nat.le_refl _) hra)
  rw [HFY.out] at Cf0
  clear hca hra hb T6
  go_wp2_with fail
  refine Cf0.out.mono ?_
  rintro e wb ⟨_, _, rfl, ⟨y1, n1, z1, i1, rfl, _⟩, ⟨y2, n2, z2, i2, rfl, _⟩, hb⟩
  have Sb := Lib.hid (Sa.out.below hb)
  clear hb Sa Cf0
  have h1 : Hid (((wb.alloc (.cells #[I 0, I 0, .slice none 0 0, .slice none 0 0] 60)).alloc (.cells #[I 0, I 0, .slice none 0 0, .slice none 0 0] 60)).heap[wb.heap.size]? = some (.cells #[I 0, I 0, .slice none 0 0, .slice none 0 0] 60 (0, 0))) := Lib.hid (RowV.below (w := wb.alloc (.cells #[I 0, I 0, .slice none 0 0, .slice none 0 0] 60)) (heap_last _ _ _ rfl) nc_new)
  have h2 : Hid ((((wb.alloc (.cells #[I 0, I 0, .slice none 0 0, .slice none 0 0] 60)).alloc (.cells #[I 0, I 0, .slice none 0 0, .slice none 0 0] 60)).setRow wb.heap.size #[I f0.1.n, I f0.1.d, .slice y1 f0.2.1.length n1, .slice z1 f0.2.2.length i1]).heap[wb.heap.size + 1]? = some (.cells #[I 0, I 0, .slice none 0 0, .slice none 0 0] 60 (0, 0))) := Lib.hid ((setRow_other (by omega)).trans (heap_last _ _ _ (by simp)))
  go_upto_region 14 with (first | (with_reducible show wpList _ _ _ _ _ _; refine wpList_store_row rfl 60 _ _ rfl wb.heap.size rfl _ _ h1.out #[I f0.1.n, I f0.1.d, .slice y1 f0.2.1.length n1, .slice z1 f0.2.2.length i1] rfl (by simp [Value.oneCell']) rfl (by kernel_rfl) ?_) | (with_reducible show wpList _ _ _ _ _ _; refine wpList_store_row rfl 60 _ _ rfl (wb.heap.size + 1) rfl _ _ h2.out #[I f1.1.n, I f1.1.d, .slice y2 f1.2.1.length n2, .slice z2 f1.2.2.length i2] rfl (by simp [Value.oneCell']) rfl (by kernel_rfl) ?_))
  have T7 := Lib.hid (Sb.out.put2 #[I 0, I 0, .slice none 0 0, .slice none 0 0] #[I f0.1.n, I f0.1.d, .slice y1 f0.2.1.length n1, .slice z1 f0.2.2.length i1] #[I 0, I 0, .slice none 0 0, .slice none 0 0] #[I f1.1.n, I f1.1.d, .slice y2 f1.2.1.length n2, .slice z2 f1.2.2.length i2] 60 60)
  obtain ⟨ya, hba⟩ : ∃ q, q = wb.heap.size := ⟨_, rfl⟩
  obtain ⟨yb, hbb⟩ : ∃ q, q = wb.heap.size + 1 := ⟨_, rfl⟩
  refine name_w fun W7 hWW => ?_
  rw [← hWW] at T7
  rw [← hbb, ← hba] at T7 ⊢
  clear hWW hbb hba Sb h1 h2
  go_wp2_with (with_reducible show wpList _ _ _ _ _ _; refine wpList_load_row9 rfl 37 _ rfl PZ rfl (shA z SZ cz) _ _ _ (T7.out.nth 7 rfl) Try.underlying37 rfl (by kernel_rfl) ?_)
  refine (CZ.out _ _ T7.out).mono ?_
  rintro e wa ⟨Aa, ca, rfl, hca, hra, hb⟩
  have Sa := Lib.hid (T7.out.below hb)
  have Cg0 := Lib.hid (flatness0_any z Aa ca wa wa.heap.size hca (Nat.le_refl _) hra)
  rw [HFZ.out] at Cg0
  clear hca hra hb T7
  go_wp2_with fail
  refine Cg0.out.mono ?_
  rintro e wb ⟨_, _, rfl, ⟨y1, n1, z1, i1, rfl, _⟩, ⟨y2, n2, z2, i2, rfl, _⟩, hb⟩
  have Sb := Lib.hid (Sa.out.below hb)
  clear hb Sa Cg0
  have h1 : Hid (((wb.alloc (.cells #[I 0, I 0, .slice none 0 0, .slice none 0 0] 60)).alloc (.cells #[I 0, I 0, .slice none 0 0, .slice none 0 0] 60)).heap[wb.heap.size]? = some (.cells #[I 0, I 0, .slice none 0 0, .slice none 0 0] 60 (0, 0))) := Lib.hid (RowV.below (w := wb.alloc (.cells #[I 0, I 0, .slice none 0 0, .slice none 0 0] 60)) (heap_last _ _ _ rfl) nc_new)
  have h2 : Hid ((((wb.alloc (.cells #[I 0, I 0, .slice none 0 0, .slice none 0 0] 60)).alloc (.cells #[I 0, I 0, .slice none 0 0, .slice none 0 0] 60)).setRow wb.heap.size #[I g0.1.n, I g0.1.d, .slice y1 g0.2.1.length n1, .slice z1 g0.2.2.length i1]).heap[wb.heap.size + 1]? = some (.cells #[I 0, I 0, .slice none 0 0, .slice none 0 0] 60 (0, 0))) := Lib.hid ((setRow_other (by omega)).trans (heap_last _ _ _ (by simp)))
  go_upto_region 15 with (first | (with_reducible show wpList _ _ _ _ _ _; refine wpList_store_row rfl 60 _ _ rfl wb.heap.size rfl _ _ h1.out #[I g0.1.n, I g0.1.d, .slice y1 g0.2.1.length n1, .slice z1 g0.2.2.length i1] rfl (by simp [Value.oneCell']) rfl (by kernel_rfl) ?_) | (with_reducible show wpList _ _ _ _ _ _; refine wpList_store_row rfl 60 _ _ rfl (wb.heap.size + 1) rfl _ _ h2.out #[I g1.1.n, I g1.1.d, .slice y2 g1.2.1.length n2, .slice z2 g1.2.2.length i2] rfl (by simp [Value.oneCell']) rfl (by kernel_rfl) ?_))
  have T8 := Lib.hid (Sb.out.put2 #[I 0, I 0, .slice none 0 0, .slice none 0 0] #[I g0.1.n, I g0.1.d, .slice y1 g0.2.1.length n1, .slice z1 g0.2.2.length i1] #[I 0, I 0, .slice none 0 0, .slice none 0 0] #[I g1.1.n, I g1.1.d, .slice y2 g1.2.1.length n2, .slice z2 g1.2.2.length i2] 60 60)
  obtain ⟨za, hba⟩ : ∃ q, q = wb.heap.size := ⟨_, rfl⟩
  obtain ⟨zb, hbb⟩ : ∃ q, q = wb.heap.size + 1 := ⟨_, rfl⟩
  refine name_w fun W8 hWW => ?_
  rw [← hWW] at T8
  rw [← hbb, ← hba] at T8 ⊢
  clear hWW hbb hba Sb h1 h2
  have a1 : W8.cell? ⟨zb, 0, none⟩ = some (I g1.1.n) := (cell_of_row _ _ _ _ _ _ (T8.out.nth 0 rfl)).trans rfl
  have a2 : W8.cell? ⟨zb, 1, none⟩ = some (I g1.1.d) := (cell_of_row _ _ _ _ _ _ (T8.out.nth 0 rfl)).trans rfl
  have a3 : W8.cell? ⟨za, 0, none⟩ = some (I g0.1.n) := (cell_of_row _ _ _ _ _ _ (T8.out.nth 1 rfl)).trans rfl
  have a4 : W8.cell? ⟨za, 1, none⟩ = some (I g0.1.d) := (cell_of_row _ _ _ _ _ _ (T8.out.nth 1 rfl)).trans rfl
  have a5 : W8.cell? ⟨yb, 0, none⟩ = some (I f1.1.n) := (cell_of_row _ _ _ _ _ _ (T8.out.nth 2 rfl)).trans rfl
  have a6 : W8.cell? ⟨yb, 1, none⟩ = some (I f1.1.d) := (cell_of_row _ _ _ _ _ _ (T8.out.nth 2 rfl)).trans rfl
  have a7 : W8.cell? ⟨ya, 0, none⟩ = some (I f0.1.n) := (cell_of_row _ _ _ _ _ _ (T8.out.nth 3 rfl)).trans rfl
  have a8 : W8.cell? ⟨ya, 1, none⟩ = some (I f0.1.d) := (cell_of_row _ _ _ _ _ _ (T8.out.nth 3 rfl)).trans rfl
  have a9 : W8.cell? ⟨xb, 0, none⟩ = some (I f1.1.n) := (cell_of_row _ _ _ _ _ _ (T8.out.nth 4 rfl)).trans rfl
  have a10 : W8.cell? ⟨xb, 1, none⟩ = some (I f1.1.d) := (cell_of_row _ _ _ _ _ _ (T8.out.nth 4 rfl)).trans rfl
  have a11 : W8.cell? ⟨xa, 0, none⟩ = some (I f0.1.n) := (cell_of_row _ _ _ _ _ _ (T8.out.nth 5 rfl)).trans rfl
  have a12 : W8.cell? ⟨xa, 1, none⟩ = some (I f0.1.d) := (cell_of_row _ _ _ _ _ _ (T8.out.nth 5 rfl)).trans rfl
  obtain ⟨c1, hc1⟩ : ∃ c, (coF g0.1 f0.1).1 = c := ⟨_, rfl⟩
  obtain ⟨c2, hc2⟩ : ∃ c, (coF g1.1 f1.1).1 = c := ⟨_, rfl⟩
  have CC1 : Hid (∀ V, Calls Try.prog 45 #[.agg #[I g0.1.n, I g0.1.d], .agg #[I f0.1.n, I f0.1.d]] V fun e w' => e = .returned (.tuple #[I c1, I 0]) ∧ Below V.heap.size V w') := fun V => by
    have h := compare_any g0.1 f0.1 V
    rw [hc1, HCM.out.2.1] at h
    exact h
  have CC2 : Hid (∀ V, Calls Try.prog 45 #[.agg #[I g1.1.n, I g1.1.d], .agg #[I f1.1.n, I f1.1.d]] V fun e w' => e = .returned (.tuple #[I c2, I 0]) ∧ Below V.heap.size V w') := fun V => by
    have h := compare_any g1.1 f1.1 V
    rw [hc2, HCM.out.2.2.2.1] at h
    exact h
  have d1 : decide (c1 ≤ 0) = true := decide_eq_true (by rw [← hc1]; exact HCM.out.2.2.1)
  have d2 : decide (0 ≤ c2) = true := decide_eq_true (by rw [← hc2]; exact HCM.out.2.2.2.2)
  clear hc1 hc2
  go_upto_region 17 with fail
  clear a5 a6 a7 a8
  go_wp2_with fail
  refine (CC1.out _).mono ?_
  rintro e W9 ⟨rfl, hb⟩
  have T9 := Lib.hid (T8.out.below hb)
  clear hb a1 a2 a3 a4 a9 a10 a11 a12
  have a1 : W9.cell? ⟨zb, 0, none⟩ = some (I g1.1.n) := (cell_of_row _ _ _ _ _ _ (T9.out.nth 0 rfl)).trans rfl
  have a2 : W9.cell? ⟨zb, 1, none⟩ = some (I g1.1.d) := (cell_of_row _ _ _ _ _ _ (T9.out.nth 0 rfl)).trans rfl
  have a9 : W9.cell? ⟨xb, 0, none⟩ = some (I f1.1.n) := (cell_of_row _ _ _ _ _ _ (T9.out.nth 4 rfl)).trans rfl
  have a10 : W9.cell? ⟨xb, 1, none⟩ = some (I f1.1.d) := (cell_of_row _ _ _ _ _ _ (T9.out.nth 4 rfl)).trans rfl
  go_wp2_with fail
  refine (CC2.out _).mono ?_
  rintro e W10 ⟨rfl, hb⟩
  have T10 := Lib.hid (T9.out.below hb)
  clear hb a1 a2 a9 a10
  go_wp2_with fail
  refine (KN.out _).mono ?_
  rintro e wk ⟨rfl, hb⟩
  have SK := Lib.hid (T10.out.below hb)
  clear hb
  go_wp2_with fail
  go_ret
  exact ⟨rfl, HBW.out.trans (SK.out.1.mono HBW.out.size)⟩
end Go.Proofs.Ytljjpidigckheaa.Un
