/- The law FinishAparts: its walk. -/
import Derived.Test.YtljjpidigckheaaOd
import Derived.Test.YtljjpidigckheaaOe
namespace Go.Proofs.Ytljjpidigckheaa.Un
open Go.RowKit
/-- What was treated, copied. -/
def TrAt (t : Trt) (u : Value) (w : World) : Prop := ∃ A c, u = .agg (trA t A c) ∧ (t.b.length ≤ c ∧ c ≤ maxLen) ∧ Rd w w.heap.size 1 A t.b.length (rI t.b)
theorem ot_grow {P : Program} {f : FuncId} {args : Array Value} {w : World} {t : Trt} (h : Calls P f args w (RetOt w t)) : Calls P f args w fun e w' => ∃ u, e = .returned u ∧ Le w w' ∧ Box (TrAt t) u w' :=
  h.mono fun _ _ ⟨A, c, he, h1, hr, hb⟩ => ⟨_, he, hb, fun _ hl => ⟨A, c, rfl, h1, (hr.below hl).more hl.size⟩⟩
theorem TrAt.at {t : Trt} {A : Option Addr} {c : Nat} {w : World} (h : TrAt t (.agg (trA t A c)) w) : Rd w w.heap.size 1 A t.b.length (rI t.b) := by
  obtain ⟨A', c', hu, _, hr⟩ := h
  have e : A = A' := by simp [trA] at hu; exact hu.1
  subst e
  exact hr
theorem SlAt.at9 {B0 sz n c : Nat} {A : Option Addr} {g : Nat → Nat → Value} {w : World} (h : SlAt B0 sz n g (.slice A n c) w) : Rd w w.heap.size sz A n g := by
  obtain ⟨A', c', hu, _, hr, _⟩ := h
  injection hu with e1 e2 e3
  subst e1
  exact hr
set_option maxRecDepth 100000 in
set_option maxHeartbeats 8000000 in
theorem finishAparts_any (bs : List Rng) (BA : Option Addr) (bn : Nat) (a b : Trt) (A C : Option Addr) (n m : Nat) (w : World) (hx : Rd w w.heap.size 2 BA bs.length (rR bs)) (ha : Rd w w.heap.size 1 A a.b.length (rI a.b)) (hb : Rd w w.heap.size 1 C b.b.length (rI b.b)) :
    Calls Try.prog 9 #[.slice BA bs.length bn, .agg (trA a A n), .agg (trA b C m)] w fun e w' => e = .returned (.bool true) ∧ Below w.heap.size w w' := by
  have KN := Lib.hid known_any
  have HRD : Hid (∀ V, Below w.heap.size w V → Rd V w.heap.size 2 BA bs.length (rR bs) ∧ Rd V w.heap.size 1 A a.b.length (rI a.b) ∧ Rd V w.heap.size 1 C b.b.length (rI b.b)) := fun V hV => ⟨hx.below hV, ha.below hV, hb.below hV⟩
  obtain ⟨i3, hi3, jz0, jz1, jz2⟩ := info_parts rng9_info
  clear hx ha hb
  obtain ⟨W, hW⟩ : ∃ W, W = ((w.alloc (.cells #[I a.s.lo, I a.s.hi, .slice A a.b.length n] 72)).alloc (.cells #[I b.s.lo, I b.s.hi, .slice C b.b.length m] 72)) := ⟨_, rfl⟩
  have rowW0 : W.heap[w.heap.size]? = some (.cells #[I a.s.lo, I a.s.hi, .slice A a.b.length n] 72 (0, 0)) := by rw [hW]; exact heap_before (heap_last _ _ _ rfl)
  have yW00 := ovr_cell (W := W) (b := w.heap.size) (o := 0) (v := I a.s.lo) (by rw [cell_of_row _ _ _ _ _ _ rowW0]; rfl)
  have yW01 := ovr_cell (W := W) (b := w.heap.size) (o := 1) (v := I a.s.hi) (by rw [cell_of_row _ _ _ _ _ _ rowW0]; rfl)
  have yW02 := ovr_cell (W := W) (b := w.heap.size) (o := 2) (v := .slice A a.b.length n) (by rw [cell_of_row _ _ _ _ _ _ rowW0]; rfl)
  have RrowW0 := Lib.hid (ovr_row rowW0)
  clear rowW0
  have rowW1 : W.heap[w.heap.size + 1]? = some (.cells #[I b.s.lo, I b.s.hi, .slice C b.b.length m] 72 (0, 0)) := by rw [hW]; exact heap_last _ _ _ (by simp)
  have yW10 := ovr_cell (W := W) (b := w.heap.size + 1) (o := 0) (v := I b.s.lo) (by rw [cell_of_row _ _ _ _ _ _ rowW1]; rfl)
  have yW11 := ovr_cell (W := W) (b := w.heap.size + 1) (o := 1) (v := I b.s.hi) (by rw [cell_of_row _ _ _ _ _ _ rowW1]; rfl)
  have yW12 := ovr_cell (W := W) (b := w.heap.size + 1) (o := 2) (v := .slice C b.b.length m) (by rw [cell_of_row _ _ _ _ _ _ rowW1]; rfl)
  have RrowW1 := Lib.hid (ovr_row rowW1)
  clear rowW1
  have HUW : Hid (∀ u, Below w.heap.size w (ovr W u)) := U2 hW
  have HW := Lib.hid hW
  clear hW
  go_enter Try.func9, Try.ntmps9
  go_upto_region 1 with (fail)
  rw [← HW.out]
  obtain ⟨u0, hu0⟩ := ovr_self W
  rw [hu0]
  clear hu0
  by_cases c1 : bs.length ≤ 70
  case neg =>
    have d0 : decide ((70 : Int) < (bs.length : Int)) = true := decide_eq_true (by omega)
    clear c1
    go_wp2_with fail
    refine (KN.out _).mono ?_
    rintro e w1 ⟨rfl, hb1⟩
    obtain ⟨uk, rfl⟩ := ovr_next hb1
    clear hb1
    go_wp2_with fail
    go_ret
    exact ⟨rfl, HUW.out _⟩
  have d0 : decide ((70 : Int) < (bs.length : Int)) = false := decide_eq_false (by omega)
  by_cases c2 : a.b.length ≤ 70
  case neg =>
    have d1 : decide ((70 : Int) < (a.b.length : Int)) = true := decide_eq_true (by omega)
    clear c1 c2
    go_wp2_with fail
    refine (KN.out _).mono ?_
    rintro e w1 ⟨rfl, hb1⟩
    obtain ⟨uk, rfl⟩ := ovr_next hb1
    clear hb1
    go_wp2_with fail
    go_ret
    exact ⟨rfl, HUW.out _⟩
  have d1 : decide ((70 : Int) < (a.b.length : Int)) = false := decide_eq_false (by omega)
  by_cases c3 : b.b.length ≤ 70
  case neg =>
    have d2 : decide ((70 : Int) < (b.b.length : Int)) = true := decide_eq_true (by omega)
    clear c1 c2 c3
    go_wp2_with fail
    refine (KN.out _).mono ?_
    rintro e w1 ⟨rfl, hb1⟩
    obtain ⟨uk, rfl⟩ := ovr_next hb1
    clear hb1
    go_wp2_with fail
    go_ret
    exact ⟨rfl, HUW.out _⟩
  have d2 : decide ((70 : Int) < (b.b.length : Int)) = false := decide_eq_false (by omega)
  have HC : Hid (bs.length ≤ 70 ∧ a.b.length ≤ 70 ∧ b.b.length ≤ 70) := ⟨c1, c2, c3⟩
  clear c1 c2 c3
  go_upto_region 3 with fail
  have S0 : Hid (StL w [(w.heap.size + 1, trA b C m, 72), (w.heap.size, trA a A n, 72)] (ovr W u0)) := ⟨HUW.out u0, fun y hy => by
    rcases List.mem_cons.1 hy with rfl | hy
    · exact RrowW1.out u0
    rcases List.mem_cons.1 hy with rfl | hy
    · exact RrowW0.out u0
    cases hy⟩
  refine name_w fun V hV => ?_
  rw [← hV] at S0
  clear hV HUW RrowW0 RrowW1 d0 d1 d2
  have C1 : Hid (∀ u, Calls Try.prog 39 #[.agg #[I a.s.lo, I a.s.hi, .slice A a.b.length n]] (ovr V u) (RetOt (ovr V u) a)) := Lib.hid fun u => ownTreated_any a A n _ w.heap.size (by have := HC.out; omega) (S0.out.below (ovr_below V u)).1.size (HRD.out _ (S0.out.below (ovr_below V u)).1).2.1
  have C2 : Hid (∀ u, Calls Try.prog 39 #[.agg #[I b.s.lo, I b.s.hi, .slice C b.b.length m]] (ovr V u) (RetOt (ovr V u) b)) := Lib.hid fun u => ownTreated_any b C m _ w.heap.size (by have := HC.out; omega) (S0.out.below (ovr_below V u)).1.size (HRD.out _ (S0.out.below (ovr_below V u)).1).2.2
  have f1 : ∀ u, (ovr V u).cell? ⟨w.heap.size, 0, none⟩ = some (I a.s.lo) := cell_row9 S0.out.tail.hd (j := 0) rfl
  have f2 : ∀ u, (ovr V u).cell? ⟨w.heap.size, 1, none⟩ = some (I a.s.hi) := cell_row9 S0.out.tail.hd (j := 1) rfl
  have f3 : ∀ u, (ovr V u).cell? ⟨w.heap.size, 2, none⟩ = some (.slice A a.b.length n) := cell_row9 S0.out.tail.hd (j := 2) rfl
  have f4 : ∀ u, (ovr V u).cell? ⟨w.heap.size + 1, 0, none⟩ = some (I b.s.lo) := cell_row9 S0.out.hd (j := 0) rfl
  have f5 : ∀ u, (ovr V u).cell? ⟨w.heap.size + 1, 1, none⟩ = some (I b.s.hi) := cell_row9 S0.out.hd (j := 1) rfl
  have f6 : ∀ u, (ovr V u).cell? ⟨w.heap.size + 1, 2, none⟩ = some (.slice C b.b.length m) := cell_row9 S0.out.hd (j := 2) rfl
  obtain ⟨xl, xh, hax⟩ : ∃ xl xh, apX bs a b = ⟨xl, xh⟩ := ⟨_, _, rfl⟩
  obtain ⟨er, her⟩ : ∃ e, apE bs a b = e := ⟨_, rfl⟩
  have HAX := Lib.hid hax
  have HER := Lib.hid her
  clear hax her
  refine Dl.wp_region_late 12 [10] (fun j => if j = 0 then some Emp else if j = 2 then some (SlAt V.heap.size 2 bs.length (rR bs)) else if j = 4 then some (TrAt a) else if j = 6 then some (TrAt b) else if j = 7 then some (fun u _ => u = .tuple #[.agg #[I xl, I xh], I er]) else if j = 11 then some (NewAt V #[I 0, I 0] 24) else none) (by kernel_rfl) (by kernel_rfl) (by kernel_rfl) (by kernel_rfl) [11] (E := 24)
    ⟨by kernel_rfl, alloc_rng, fun j hj => by simp only [List.mem_cons, List.not_mem_nil, or_false] at hj; rcases hj with rfl <;> exact ⟨_, _, _, rfl⟩⟩ (by kernel_rfl) (fun i hi => by simp only [List.mem_cons, List.not_mem_nil, or_false] at hi; rcases hi with rfl <;> rfl) (fun c a d v w h => by cases d <;> exact h) ?_
  simp only [List.take_succ_cons, List.take_zero, List.drop_succ_cons, List.drop_zero]
  refine Dk.wpG_make Emp rfl rfl (fun w' hw' _ => ?_) (fun u hu => ?_)
  · go_simp
    exact emp_grow w'
  obtain ⟨_, _, b0, rfl⟩ := hu
  simp only [Act.put, List.setIfInBounds_toArray, List.set_cons_zero, List.set_cons_succ]
  repeat (refine Dk.wpG_one rfl rfl rfl ?_; intro K hK; go_big_quiet_op; go_big_quiet_on)
  refine Dk.wpG_make (SlAt V.heap.size 2 bs.length (rR bs)) rfl rfl (fun w' hw' _ => ?_) (fun u hu => ?_)
  · obtain ⟨x, rfl⟩ := hw'
    exact app_grow _ _ 35 rfl 24 i3 _ 2 16 Try.underlying35 hi3 jz0 jz1 jz2 rfl (by decide) b0 rfl BA bs.length bn rfl (rR bs) ((HRD.out _ (S0.out.below (ovr_below V x)).1).1.more (S0.out.below (ovr_below V x)).1.size) (by have := HC.out; omega) (by decide) (ovr_below V x).size
  obtain ⟨_, _, A2, c2, rfl, _, _, _⟩ := hu
  simp only [Act.put, List.setIfInBounds_toArray, List.set_cons_zero, List.set_cons_succ]
  repeat (refine Dk.wpG_one rfl rfl rfl ?_; intro K hK; go_big_quiet_op; go_big_quiet_on)
  refine Dk.wpG_make (TrAt a) rfl rfl (fun w' hw' _ => ?_) (fun u hu => ?_)
  · obtain ⟨x, rfl⟩ := hw'
    go_simp
    exact ot_grow (C1.out x)
  obtain ⟨_, _, A3, c3, rfl, _, _⟩ := hu
  simp only [Act.put, List.setIfInBounds_toArray, List.set_cons_zero, List.set_cons_succ]
  repeat (refine Dk.wpG_one rfl rfl rfl ?_; intro K hK; go_big_quiet_op; go_big_quiet_on)
  refine Dk.wpG_make (TrAt b) rfl rfl (fun w' hw' _ => ?_) (fun u hu => ?_)
  · obtain ⟨x, rfl⟩ := hw'
    go_simp
    exact ot_grow (C2.out x)
  obtain ⟨_, _, A4, c4, rfl, _, _⟩ := hu
  simp only [Act.put, List.setIfInBounds_toArray, List.set_cons_zero, List.set_cons_succ]
  refine Dk.wpG_make (fun u _ => u = .tuple #[.agg #[I xl, I xh], I er]) rfl rfl (fun w' hw' hk => ?_) (fun u hu => ?_)
  · have q1 := hk ⟨2, .data⟩ (by simp) rfl _ 30 _ rfl rfl rfl (Nat.lt_of_lt_of_eq (by decide : 30 < 56) rfl) rfl
    have q2 := hk ⟨4, .data⟩ (by simp) rfl _ 32 _ rfl rfl rfl (Nat.lt_of_lt_of_eq (by decide : 32 < 56) rfl) rfl
    have q3 := hk ⟨6, .data⟩ (by simp) rfl _ 34 _ rfl rfl rfl (Nat.lt_of_lt_of_eq (by decide : 34 < 56) rfl) rfl
    go_simp
    have hc := apart_any bs A2 c2 a b A3 A4 c3 c4 w' w'.heap.size (Nat.le_refl _) q1.now.at9 q2.now.at q3.now.at (by have := HC.out; omega)
    rw [HAX.out, HER.out] at hc
    exact call_grow hc
  obtain ⟨_, _, rfl⟩ := hu
  simp only [Act.put, List.setIfInBounds_toArray, List.set_cons_zero, List.set_cons_succ]
  repeat (refine Dk.wpG_one rfl rfl rfl ?_; intro K hK; go_big_quiet_op; go_big_quiet_on)
  refine Dk.wpG_make (NewAt V #[I 0, I 0] 24) rfl rfl (fun w' hw' _ => ?_) (fun u hu => ?_)
  · go_simp
    exact new_grow hw'
  obtain ⟨_, _, PB, rfl, _, _⟩ := hu
  simp only [Act.put, List.setIfInBounds_toArray, List.set_cons_zero, List.set_cons_succ]
  refine Dk.wpG_nil (fun w5 hw5 hG => ?_)
  have hn1 := (Box.now hG.2).at
  clear hG
  refine Dl.wpTailH_cons ?_
  refine wp_store_row 24 _ _ rfl PB rfl _ _ hn1.1 #[I xl, I xh] rfl (one2 rfl rfl) rfl (by kernel_rfl) ?_
  have hcl := below_setRow hw5.le hn1.2 #[I xl, I xh]
  refine ⟨Cl.of hcl, ?_⟩
  refine Dl.wpTailH_cons ?_
  refine wp_assign _ (I er) rfl rfl ?_
  refine ⟨Cl.of hcl, ?_⟩
  refine Dl.wpTailH_nil ?_
  simp only [Act.put]
  have S1 : Hid (StL w [(PB, #[I xl, I xh], 24), (w.heap.size + 1, trA b C m, 72), (w.heap.size, trA a A n, 72)] (w5.setRow PB #[I xl, I xh])) := Lib.hid ((S0.out.below hcl).cons (setRow_same hn1.1))
  obtain ⟨X, hX⟩ : ∃ X, X = w5.setRow PB #[I xl, I xh] := ⟨_, rfl⟩
  rw [← hX] at S1 ⊢
  clear hX hcl hn1 hw5 f1 f2 f3 f4 f5 f6 C1 C2 S0
  have CR := Lib.hid fun V (hV : Below w.heap.size w V) => refApart_any bs BA bn a b A C n m V w.heap.size hV.size (HRD.out V hV).1 (HRD.out V hV).2.1 (HRD.out V hV).2.2 (by have := HC.out; omega)
  rw [HAX.out, HER.out] at CR
  go_wp2_with (first | (with_reducible show wpList _ _ _ _ _ _; refine wpList_load_row9 rfl 72 _ rfl (w.heap.size + 1) rfl (trA b C m) _ _ _ S1.out.tail.hd Try.underlying72 rfl (by kernel_rfl) ?_) | (with_reducible show wpList _ _ _ _ _ _; refine wpList_load_row9 rfl 72 _ rfl w.heap.size rfl (trA a A n) _ _ _ S1.out.tail.tail.hd Try.underlying72 rfl (by kernel_rfl) ?_))
  refine (CR.out _ S1.out.1).mono ?_
  rintro e w6 ⟨rfl, hb⟩
  have S2 := Lib.hid (S1.out.below hb)
  clear hb S1 CR
  go_upto_region 5 with (with_reducible show wpList _ _ _ _ _ _; refine wpList_store_row rfl 24 _ _ rfl w6.heap.size rfl _ _ (heap_last _ _ _ rfl) #[I xl, I xh] rfl (one2 rfl rfl) rfl (by kernel_rfl) ?_)
  have S3 := Lib.hid (S2.out.put #[I 0, I 0] #[I xl, I xh] 24)
  obtain ⟨b9, hb9⟩ : ∃ z, z = w6.heap.size := ⟨_, rfl⟩
  refine name_w fun Y hY => ?_
  rw [← hY] at S3
  rw [← hb9] at S3 ⊢
  clear hY hb9 S2
  have k1 := S3.out.hd
  have k2 := S3.out.tail.hd
  have a1 : Y.cell? ⟨b9, 0, none⟩ = some (I xl) := (cell_of_row _ _ _ _ _ _ k1).trans rfl
  have a2 : Y.cell? ⟨b9, 1, none⟩ = some (I xh) := (cell_of_row _ _ _ _ _ _ k1).trans rfl
  have a3 : Y.cell? ⟨PB, 0, none⟩ = some (I xl) := (cell_of_row _ _ _ _ _ _ k2).trans rfl
  have a4 : Y.cell? ⟨PB, 1, none⟩ = some (I xh) := (cell_of_row _ _ _ _ _ _ k2).trans rfl
  have q1 : (er == er) = true := beq_self_eq_true er
  clear k1 k2
  go_wp2_with fail
  refine (KN.out _).mono ?_
  rintro e wk ⟨rfl, hb⟩
  have S4 := Lib.hid (S3.out.below hb)
  clear hb S3
  go_wp2_with fail
  go_ret
  exact ⟨rfl, S4.out.1⟩
end Go.Proofs.Ytljjpidigckheaa.Un
