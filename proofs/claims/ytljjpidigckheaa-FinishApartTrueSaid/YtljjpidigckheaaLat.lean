/- The law FinishApartTrue: its walk. -/
import Derived.Test.YtljjpidigckheaaAt
import Derived.Test.YtljjpidigckheaaPck
import Derived.Test.YtljjpidigckheaaRsa
import Derived.Test.YtljjpidigckheaaOet
namespace Go.Proofs.Ytljjpidigckheaa.Un
open Go.RowKit
/-- What was treated, copied. -/
def TrAt (t : Trt) (u : Value) (w : World) : Prop := ∃ A c, u = .agg (trA t A c) ∧ (t.b.length ≤ c ∧ c ≤ maxLen) ∧ Rd w w.heap.size 1 A t.b.length (rI t.b)
theorem ot_grow {P : Program} {f : FuncId} {args : Array Value} {w : World} {t : Trt} (h : Calls P f args w (RetOt w t)) : Calls P f args w fun e w' => ∃ u, e = .returned u ∧ Le w w' ∧ Box (TrAt t) u w' :=
  h.mono fun _ _ ⟨A, c, he, h1, hr, hb⟩ => ⟨_, he, hb, fun _ hl => ⟨A, c, rfl, h1, (hr.below hl).more hl.size⟩⟩
theorem TrAt.at {t : Trt} {A : Option Addr} {c : Nat} {w : World} (h : TrAt t (.agg (trA t A c)) w) : Rd w w.heap.size 1 A t.b.length (rI t.b) := by
  obtain ⟨A', c', hu, _, hr⟩ := h
  have e : A = A' := by simp [trA] at hu; exact hu.1
  subst e
  exact hr
theorem SlAt.at9 {B0 sz n c : Nat} {A : Option Addr} {g : Nat → Nat → Value} {w : World} (h : SlAt B0 sz n g (.slice A n c) w) : Rd w w.heap.size sz A n g := by
  obtain ⟨A', c', hu, _, hr, _⟩ := h
  injection hu with e1 e2 e3
  subst e1
  exact hr
abbrev twA (a b : Trt) (A C : Option Addr) (n m : Nat) : Array Value := #[I a.s.lo, I a.s.hi, .slice A a.b.length n, I b.s.lo, I b.s.hi, .slice C b.b.length m]
/-- The range that a batch of both has. -/
def mxR : Rng := ⟨0, 10000000⟩
abbrev tT (bs : List Rng) (tr : List Int) (k : Nat) : Int := plc (at0 bs k) (at0 tr (2 + k))
theorem tT_bd {bs : List Rng} {tr : List Int} (h : all9 0 10000000 bs = true) (k : Nat) : 0 ≤ tT bs tr k ∧ tT bs tr k ≤ 10000000 := by
  show 0 ≤ plc (at0 bs k) (at0 tr (2 + k)) ∧ plc (at0 bs k) (at0 tr (2 + k)) ≤ 10000000
  by_cases hk : k < bs.length
  · have h1 := all9_at h hk
    have h2 := plc_in (r := at0 bs k) (b := at0 tr (2 + k)) (by omega)
    omega
  · have e : at0 bs k = default := by
      unfold at0
      rw [List.getD_eq_getElem?_getD, List.getElem?_eq_none (by omega)]
      rfl
    have e2 : plc (default : Rng) (at0 tr (2 + k)) = 0 := rfl
    rw [e, e2]
    omega
set_option maxRecDepth 100000 in
set_option maxHeartbeats 8000000 in
theorem finishApartTrue_any (BA : Option Addr) (bn : Nat) (bs : List Rng) (a b : Trt) (A C : Option Addr) (n m : Nat) (H : Option Addr) (hn : Nat) (tr : List Int) (w : World) (hx : Rd w w.heap.size 2 BA bs.length (rR bs)) (ha : Rd w w.heap.size 1 A a.b.length (rI a.b)) (hb : Rd w w.heap.size 1 C b.b.length (rI b.b)) (ht : Rd w w.heap.size 1 H tr.length (rH tr)) (h16 : Is16 tr) :
    Calls Try.prog 14 #[.slice BA bs.length bn, .agg (twA a b A C n m), .slice H tr.length hn] w fun e w' => e = .returned (.bool true) ∧ Below w.heap.size w w' := by
  have KN := Lib.hid known_any
  have HRD : Hid (∀ V, Below w.heap.size w V → Rd V w.heap.size 2 BA bs.length (rR bs) ∧ Rd V w.heap.size 1 A a.b.length (rI a.b) ∧ Rd V w.heap.size 1 C b.b.length (rI b.b) ∧ Rd V w.heap.size 1 H tr.length (rH tr)) := fun V hV => ⟨hx.below hV, ha.below hV, hb.below hV, ht.below hV⟩
  have HI6 := Lib.hid h16
  have CP : Hid (∀ V (i : Int) (k : Nat), i = (k : Int) → k ≤ 1000000 → Below w.heap.size w V → Calls Try.prog 43 #[.slice H tr.length hn, I i] V fun e w' => e = .returned (Un.H16 (at0 tr k)) ∧ Below V.heap.size V w') := fun V i k hi hk hV => by
    subst hi
    exact pick_any tr k H hn V w.heap.size (HRD.out V hV).2.2.2
  obtain ⟨i3, hi3, jz0, jz1, jz2⟩ := info_parts rng9_info
  obtain ⟨i4, hi4, kz0, kz1, kz2⟩ := info_parts int9b_info
  clear hx ha hb ht h16
  obtain ⟨W, hW⟩ : ∃ W, W = (w.alloc (.cells #[I a.s.lo, I a.s.hi, .slice A a.b.length n, I b.s.lo, I b.s.hi, .slice C b.b.length m] 105)) := ⟨_, rfl⟩
  have rowW0 : W.heap[w.heap.size]? = some (.cells #[I a.s.lo, I a.s.hi, .slice A a.b.length n, I b.s.lo, I b.s.hi, .slice C b.b.length m] 105 (0, 0)) := by rw [hW]; exact heap_last _ _ _ rfl
  have yW00 := ovr_cell (W := W) (b := w.heap.size) (o := 0) (v := I a.s.lo) (by rw [cell_of_row _ _ _ _ _ _ rowW0]; rfl)
  have yW01 := ovr_cell (W := W) (b := w.heap.size) (o := 1) (v := I a.s.hi) (by rw [cell_of_row _ _ _ _ _ _ rowW0]; rfl)
  have yW02 := ovr_cell (W := W) (b := w.heap.size) (o := 2) (v := .slice A a.b.length n) (by rw [cell_of_row _ _ _ _ _ _ rowW0]; rfl)
  have yW03 := ovr_cell (W := W) (b := w.heap.size) (o := 3) (v := I b.s.lo) (by rw [cell_of_row _ _ _ _ _ _ rowW0]; rfl)
  have yW04 := ovr_cell (W := W) (b := w.heap.size) (o := 4) (v := I b.s.hi) (by rw [cell_of_row _ _ _ _ _ _ rowW0]; rfl)
  have yW05 := ovr_cell (W := W) (b := w.heap.size) (o := 5) (v := .slice C b.b.length m) (by rw [cell_of_row _ _ _ _ _ _ rowW0]; rfl)
  have RrowW0 := Lib.hid (ovr_row rowW0)
  clear rowW0
  have HUW : Hid (∀ u, Below w.heap.size w (ovr W u)) := U1 hW
  have HW := Lib.hid hW
  clear hW
  go_enter Try.func14, Try.ntmps14
  go_upto_region 1 with (fail)
  rw [← HW.out]
  obtain ⟨u0, hu0⟩ := ovr_self W
  rw [hu0]
  clear hu0
  by_cases c1 : bs.length ≤ 60
  case neg =>
    have d0 : decide ((60 : Int) < (bs.length : Int)) = true := decide_eq_true (by omega)
    clear c1
    go_wp2_with fail
    refine (KN.out _).mono ?_
    rintro e w1 ⟨rfl, hb1⟩
    obtain ⟨uk, rfl⟩ := ovr_next hb1
    clear hb1
    go_wp2_with fail
    go_ret
    exact ⟨rfl, HUW.out _⟩
  have d0 : decide ((60 : Int) < (bs.length : Int)) = false := decide_eq_false (by omega)
  by_cases c2 : a.b.length ≤ 60
  case neg =>
    have d1 : decide ((60 : Int) < (a.b.length : Int)) = true := decide_eq_true (by omega)
    clear c1 c2
    go_wp2_with fail
    refine (KN.out _).mono ?_
    rintro e w1 ⟨rfl, hb1⟩
    obtain ⟨uk, rfl⟩ := ovr_next hb1
    clear hb1
    go_wp2_with fail
    go_ret
    exact ⟨rfl, HUW.out _⟩
  have d1 : decide ((60 : Int) < (a.b.length : Int)) = false := decide_eq_false (by omega)
  by_cases c3 : b.b.length ≤ 60
  case neg =>
    have d2 : decide ((60 : Int) < (b.b.length : Int)) = true := decide_eq_true (by omega)
    clear c1 c2 c3
    go_wp2_with fail
    refine (KN.out _).mono ?_
    rintro e w1 ⟨rfl, hb1⟩
    obtain ⟨uk, rfl⟩ := ovr_next hb1
    clear hb1
    go_wp2_with fail
    go_ret
    exact ⟨rfl, HUW.out _⟩
  have d2 : decide ((60 : Int) < (b.b.length : Int)) = false := decide_eq_false (by omega)
  have HC : Hid (bs.length ≤ 60 ∧ a.b.length ≤ 60 ∧ b.b.length ≤ 60) := ⟨c1, c2, c3⟩
  clear c1 c2 c3
  go_upto_region 3 with fail
  have S0 : Hid (StL w [(w.heap.size, twA a b A C n m, 105)] (ovr W u0)) := ⟨HUW.out u0, fun y hy => by
    rcases List.mem_cons.1 hy with rfl | hy
    · exact RrowW0.out u0
    cases hy⟩
  refine name_w fun V hV => ?_
  rw [← hV] at S0
  clear hV HUW RrowW0 d0 d1 d2
  obtain ⟨xl, xh, hax⟩ : ∃ xl xh, apX bs a b = ⟨xl, xh⟩ := ⟨_, _, rfl⟩
  obtain ⟨yl, yh, hay⟩ : ∃ yl yh, apX bs b a = ⟨yl, yh⟩ := ⟨_, _, rfl⟩
  obtain ⟨er, her⟩ : ∃ e, apE bs a b = e := ⟨_, rfl⟩
  have HAX := Lib.hid hax
  have HAY := Lib.hid hay
  have HER := Lib.hid her
  have HES : Hid (apE bs b a = er) := (apE_sym bs a b).trans her
  clear hax her hay
  have f1 : ∀ u, (ovr V u).cell? ⟨w.heap.size, 0, none⟩ = some (I a.s.lo) := cell_row9 S0.out.hd (j := 0) rfl
  have f2 : ∀ u, (ovr V u).cell? ⟨w.heap.size, 1, none⟩ = some (I a.s.hi) := cell_row9 S0.out.hd (j := 1) rfl
  have f3 : ∀ u, (ovr V u).cell? ⟨w.heap.size, 2, none⟩ = some (.slice A a.b.length n) := cell_row9 S0.out.hd (j := 2) rfl
  have f4 : ∀ u, (ovr V u).cell? ⟨w.heap.size, 3, none⟩ = some (I b.s.lo) := cell_row9 S0.out.hd (j := 3) rfl
  have f5 : ∀ u, (ovr V u).cell? ⟨w.heap.size, 4, none⟩ = some (I b.s.hi) := cell_row9 S0.out.hd (j := 4) rfl
  have f6 : ∀ u, (ovr V u).cell? ⟨w.heap.size, 5, none⟩ = some (.slice C b.b.length m) := cell_row9 S0.out.hd (j := 5) rfl
  have C1 : Hid (∀ u, Calls Try.prog 39 #[.agg (trA a A n)] (ovr V u) (RetOt (ovr V u) a)) := Lib.hid fun u => ownTreated_any a A n _ w.heap.size (by have := HC.out; omega) (S0.out.below (ovr_below V u)).1.size (HRD.out _ (S0.out.below (ovr_below V u)).1).2.1
  have C2 : Hid (∀ u, Calls Try.prog 39 #[.agg (trA b C m)] (ovr V u) (RetOt (ovr V u) b)) := Lib.hid fun u => ownTreated_any b C m _ w.heap.size (by have := HC.out; omega) (S0.out.below (ovr_below V u)).1.size (HRD.out _ (S0.out.below (ovr_below V u)).1).2.2.1
  refine Dl.wp_region_late 14 [12] (fun j => if j = 0 then some Emp else if j = 2 then some (SlAt V.heap.size 2 bs.length (rR bs)) else if j = 5 then some (TrAt a) else if j = 8 then some (TrAt b) else if j = 9 then some (fun u _ => u = .tuple #[.agg #[I xl, I xh], I er]) else if j = 13 then some (NewAt V #[I 0, I 0] 24) else none) (by kernel_rfl) (by kernel_rfl) (by kernel_rfl) (by kernel_rfl) [13] (E := 24)
    ⟨by kernel_rfl, alloc_rng, fun j hj => by simp only [List.mem_cons, List.not_mem_nil, or_false] at hj; rcases hj with rfl <;> exact ⟨_, _, _, rfl⟩⟩ (by kernel_rfl) (fun i hi => by simp only [List.mem_cons, List.not_mem_nil, or_false] at hi; rcases hi with rfl <;> rfl) (fun c a d v w h => by cases d <;> exact h) ?_
  simp only [List.take_succ_cons, List.take_zero, List.drop_succ_cons, List.drop_zero]
  refine Dk.wpG_make Emp rfl rfl (fun w' hw' _ => ?_) (fun u hu => ?_)
  · go_simp
    exact emp_grow w'
  obtain ⟨_, _, b0, rfl⟩ := hu
  simp only [Act.put, List.setIfInBounds_toArray, List.set_cons_zero, List.set_cons_succ]
  repeat (refine Dk.wpG_one rfl rfl rfl ?_; intro K hK; go_big_quiet_op; go_big_quiet_on)
  refine Dk.wpG_make (SlAt V.heap.size 2 bs.length (rR bs)) rfl rfl (fun w' hw' _ => ?_) (fun u hu => ?_)
  · obtain ⟨x, rfl⟩ := hw'
    exact app_grow _ _ 35 rfl 24 i3 _ 2 16 Try.underlying35 hi3 jz0 jz1 jz2 rfl (by decide) b0 rfl BA bs.length bn rfl (rR bs) ((HRD.out _ (S0.out.below (ovr_below V x)).1).1.more (S0.out.below (ovr_below V x)).1.size) (by have := HC.out; omega) (by decide) (ovr_below V x).size
  obtain ⟨_, _, A2, c2, rfl, _, _, _⟩ := hu
  simp only [Act.put, List.setIfInBounds_toArray, List.set_cons_zero, List.set_cons_succ]
  repeat (refine Dk.wpG_one rfl rfl rfl ?_; intro K hK; go_big_quiet_op; go_big_quiet_on)
  refine Dk.wpG_make (TrAt a) rfl rfl (fun w' hw' _ => ?_) (fun u hu => ?_)
  · obtain ⟨x, rfl⟩ := hw'
    go_simp
    exact ot_grow (C1.out x)
  obtain ⟨_, _, A3, c3, rfl, _, _⟩ := hu
  simp only [Act.put, List.setIfInBounds_toArray, List.set_cons_zero, List.set_cons_succ]
  repeat (refine Dk.wpG_one rfl rfl rfl ?_; intro K hK; go_big_quiet_op; go_big_quiet_on)
  refine Dk.wpG_make (TrAt b) rfl rfl (fun w' hw' _ => ?_) (fun u hu => ?_)
  · obtain ⟨x, rfl⟩ := hw'
    go_simp
    exact ot_grow (C2.out x)
  obtain ⟨_, _, A4, c4, rfl, _, _⟩ := hu
  simp only [Act.put, List.setIfInBounds_toArray, List.set_cons_zero, List.set_cons_succ]
  refine Dk.wpG_make (fun u _ => u = .tuple #[.agg #[I xl, I xh], I er]) rfl rfl (fun w' hw' hk => ?_) (fun u hu => ?_)
  · have q1 := hk ⟨2, .data⟩ (by simp) rfl _ 43 _ rfl rfl rfl (by simp) rfl
    have q2 := hk ⟨5, .data⟩ (by simp) rfl _ 46 _ rfl rfl rfl (by simp) rfl
    have q3 := hk ⟨8, .data⟩ (by simp) rfl _ 49 _ rfl rfl rfl (by simp) rfl
    go_simp
    have hc := apart_any bs A2 c2 a b A3 A4 c3 c4 w' w'.heap.size (Nat.le_refl _) q1.now.at9 q2.now.at q3.now.at (by have := HC.out; omega)
    rw [HAX.out, HER.out] at hc
    exact call_grow hc
  obtain ⟨_, _, rfl⟩ := hu
  simp only [Act.put, List.setIfInBounds_toArray, List.set_cons_zero, List.set_cons_succ]
  repeat (refine Dk.wpG_one rfl rfl rfl ?_; intro K hK; go_big_quiet_op; go_big_quiet_on)
  refine Dk.wpG_make (NewAt V #[I 0, I 0] 24) rfl rfl (fun w' hw' _ => ?_) (fun u hu => ?_)
  · go_simp
    exact new_grow hw'
  obtain ⟨_, _, P1, rfl, _, _⟩ := hu
  simp only [Act.put, List.setIfInBounds_toArray, List.set_cons_zero, List.set_cons_succ]
  refine Dk.wpG_nil (fun w5 hw5 hG => ?_)
  have hn1 := (Box.now hG.2).at
  clear hG
  refine Dl.wpTailH_cons ?_
  refine wp_store_row 24 _ _ rfl P1 rfl _ _ hn1.1 #[I xl, I xh] rfl (one2 rfl rfl) rfl (by kernel_rfl) ?_
  have hcl := below_setRow hw5.le hn1.2 #[I xl, I xh]
  refine ⟨Cl.of hcl, ?_⟩
  refine Dl.wpTailH_cons ?_
  refine wp_assign _ (I er) rfl rfl ?_
  refine ⟨Cl.of hcl, ?_⟩
  refine Dl.wpTailH_nil ?_
  simp only [Act.put]
  have S1 := Lib.hid ((S0.out.below hcl).cons (setRow_same (cs' := #[I xl, I xh]) hn1.1))
  have HP1 : Hid (V.heap.size ≤ P1) := hn1.2
  obtain ⟨X, hX⟩ : ∃ X, X = w5.setRow P1 #[I xl, I xh] := ⟨_, rfl⟩
  rw [← hX] at S1 ⊢
  clear hX hcl hn1 hw5 f1 f2 f3 f4 f5 f6 C1 C2
  go_upto_region 4 with fail
  have f1 : ∀ u, (ovr X u).cell? ⟨w.heap.size, 0, none⟩ = some (I a.s.lo) := cell_row9 S1.out.tail.hd (j := 0) rfl
  have f2 : ∀ u, (ovr X u).cell? ⟨w.heap.size, 1, none⟩ = some (I a.s.hi) := cell_row9 S1.out.tail.hd (j := 1) rfl
  have f3 : ∀ u, (ovr X u).cell? ⟨w.heap.size, 2, none⟩ = some (.slice A a.b.length n) := cell_row9 S1.out.tail.hd (j := 2) rfl
  have f4 : ∀ u, (ovr X u).cell? ⟨w.heap.size, 3, none⟩ = some (I b.s.lo) := cell_row9 S1.out.tail.hd (j := 3) rfl
  have f5 : ∀ u, (ovr X u).cell? ⟨w.heap.size, 4, none⟩ = some (I b.s.hi) := cell_row9 S1.out.tail.hd (j := 4) rfl
  have f6 : ∀ u, (ovr X u).cell? ⟨w.heap.size, 5, none⟩ = some (.slice C b.b.length m) := cell_row9 S1.out.tail.hd (j := 5) rfl
  have C1 : Hid (∀ u, Calls Try.prog 39 #[.agg (trA b C m)] (ovr X u) (RetOt (ovr X u) b)) := Lib.hid fun u => ownTreated_any b C m _ w.heap.size (by have := HC.out; omega) (S1.out.below (ovr_below X u)).1.size (HRD.out _ (S1.out.below (ovr_below X u)).1).2.2.1
  have C2 : Hid (∀ u, Calls Try.prog 39 #[.agg (trA a A n)] (ovr X u) (RetOt (ovr X u) a)) := Lib.hid fun u => ownTreated_any a A n _ w.heap.size (by have := HC.out; omega) (S1.out.below (ovr_below X u)).1.size (HRD.out _ (S1.out.below (ovr_below X u)).1).2.1
  refine Dl.wp_region_late 14 [12] (fun j => if j = 0 then some Emp else if j = 2 then some (SlAt X.heap.size 2 bs.length (rR bs)) else if j = 5 then some (TrAt b) else if j = 8 then some (TrAt a) else if j = 9 then some (fun u _ => u = .tuple #[.agg #[I yl, I yh], I er]) else if j = 13 then some (NewAt X #[I 0, I 0] 24) else none) (by kernel_rfl) (by kernel_rfl) (by kernel_rfl) (by kernel_rfl) [13] (E := 24)
    ⟨by kernel_rfl, alloc_rng, fun j hj => by simp only [List.mem_cons, List.not_mem_nil, or_false] at hj; rcases hj with rfl <;> exact ⟨_, _, _, rfl⟩⟩ (by kernel_rfl) (fun i hi => by simp only [List.mem_cons, List.not_mem_nil, or_false] at hi; rcases hi with rfl <;> rfl) (fun c a d v w h => by cases d <;> exact h) ?_
  simp only [List.take_succ_cons, List.take_zero, List.drop_succ_cons, List.drop_zero]
  refine Dk.wpG_make Emp rfl rfl (fun w' hw' _ => ?_) (fun u hu => ?_)
  · go_simp
    exact emp_grow w'
  obtain ⟨_, _, b0, rfl⟩ := hu
  simp only [Act.put, List.setIfInBounds_toArray, List.set_cons_zero, List.set_cons_succ]
  repeat (refine Dk.wpG_one rfl rfl rfl ?_; intro K hK; go_big_quiet_op; go_big_quiet_on)
  refine Dk.wpG_make (SlAt X.heap.size 2 bs.length (rR bs)) rfl rfl (fun w' hw' _ => ?_) (fun u hu => ?_)
  · obtain ⟨x, rfl⟩ := hw'
    exact app_grow _ _ 35 rfl 24 i3 _ 2 16 Try.underlying35 hi3 jz0 jz1 jz2 rfl (by decide) b0 rfl BA bs.length bn rfl (rR bs) ((HRD.out _ (S1.out.below (ovr_below X x)).1).1.more (S1.out.below (ovr_below X x)).1.size) (by have := HC.out; omega) (by decide) (ovr_below X x).size
  obtain ⟨_, _, A2, c2, rfl, _, _, _⟩ := hu
  simp only [Act.put, List.setIfInBounds_toArray, List.set_cons_zero, List.set_cons_succ]
  repeat (refine Dk.wpG_one rfl rfl rfl ?_; intro K hK; go_big_quiet_op; go_big_quiet_on)
  refine Dk.wpG_make (TrAt b) rfl rfl (fun w' hw' _ => ?_) (fun u hu => ?_)
  · obtain ⟨x, rfl⟩ := hw'
    go_simp
    exact ot_grow (C1.out x)
  obtain ⟨_, _, A3, c3, rfl, _, _⟩ := hu
  simp only [Act.put, List.setIfInBounds_toArray, List.set_cons_zero, List.set_cons_succ]
  repeat (refine Dk.wpG_one rfl rfl rfl ?_; intro K hK; go_big_quiet_op; go_big_quiet_on)
  refine Dk.wpG_make (TrAt a) rfl rfl (fun w' hw' _ => ?_) (fun u hu => ?_)
  · obtain ⟨x, rfl⟩ := hw'
    go_simp
    exact ot_grow (C2.out x)
  obtain ⟨_, _, A4, c4, rfl, _, _⟩ := hu
  simp only [Act.put, List.setIfInBounds_toArray, List.set_cons_zero, List.set_cons_succ]
  refine Dk.wpG_make (fun u _ => u = .tuple #[.agg #[I yl, I yh], I er]) rfl rfl (fun w' hw' hk => ?_) (fun u hu => ?_)
  · have q1 := hk ⟨2, .data⟩ (by simp) rfl _ 56 _ rfl rfl rfl (by simp) rfl
    have q2 := hk ⟨5, .data⟩ (by simp) rfl _ 59 _ rfl rfl rfl (by simp) rfl
    have q3 := hk ⟨8, .data⟩ (by simp) rfl _ 62 _ rfl rfl rfl (by simp) rfl
    go_simp
    have hc := apart_any bs A2 c2 b a A3 A4 c3 c4 w' w'.heap.size (Nat.le_refl _) q1.now.at9 q2.now.at q3.now.at (by have := HC.out; omega)
    rw [HAY.out, HES.out] at hc
    exact call_grow hc
  obtain ⟨_, _, rfl⟩ := hu
  simp only [Act.put, List.setIfInBounds_toArray, List.set_cons_zero, List.set_cons_succ]
  repeat (refine Dk.wpG_one rfl rfl rfl ?_; intro K hK; go_big_quiet_op; go_big_quiet_on)
  refine Dk.wpG_make (NewAt X #[I 0, I 0] 24) rfl rfl (fun w' hw' _ => ?_) (fun u hu => ?_)
  · go_simp
    exact new_grow hw'
  obtain ⟨_, _, P2, rfl, _, _⟩ := hu
  simp only [Act.put, List.setIfInBounds_toArray, List.set_cons_zero, List.set_cons_succ]
  refine Dk.wpG_nil (fun w5 hw5 hG => ?_)
  have hn1 := (Box.now hG.2).at
  clear hG
  refine Dl.wpTailH_cons ?_
  refine wp_store_row 24 _ _ rfl P2 rfl _ _ hn1.1 #[I yl, I yh] rfl (one2 rfl rfl) rfl (by kernel_rfl) ?_
  have hcl := below_setRow hw5.le hn1.2 #[I yl, I yh]
  refine ⟨Cl.of hcl, ?_⟩
  refine Dl.wpTailH_cons ?_
  refine wp_assign _ (I er) rfl rfl ?_
  refine ⟨Cl.of hcl, ?_⟩
  refine Dl.wpTailH_nil ?_
  simp only [Act.put]
  have S2 := Lib.hid ((S1.out.below hcl).cons (setRow_same (cs' := #[I yl, I yh]) hn1.1))
  have HP2 : Hid (X.heap.size ≤ P2) := hn1.2
  obtain ⟨Y, hY⟩ : ∃ Y, Y = w5.setRow P2 #[I yl, I yh] := ⟨_, rfl⟩
  rw [← hY] at S2 ⊢
  clear hY hcl hn1 hw5 f1 f2 f3 f4 f5 f6 C1 C2
  by_cases he : er = 0
  case neg =>
    have hz : xl = 0 ∧ xh = 0 := by
      have h1 := HAX.out
      unfold apX at h1
      rw [HER.out, if_neg he] at h1
      injection h1 with h1 h2
      exact ⟨h1.symm, h2.symm⟩
    obtain ⟨rfl, rfl⟩ := hz
    have q0 : (er != 0) = true := by simpa using he
    have q1 : (er == er) = true := beq_self_eq_true er
    have k1 := S2.out.tail.hd
    have a1 : Y.cell? ⟨P1, 0, none⟩ = some (I 0) := (cell_of_row _ _ _ _ _ _ k1).trans rfl
    have a2 : Y.cell? ⟨P1, 1, none⟩ = some (I 0) := (cell_of_row _ _ _ _ _ _ k1).trans rfl
    clear k1 he
    go_wp2_with fail
    refine (KN.out _).mono ?_
    rintro e wk ⟨rfl, hb⟩
    have SK := Lib.hid (S2.out.below hb)
    clear hb
    go_wp2_with fail
    go_ret
    exact ⟨rfl, SK.out.1⟩
  have HE0 : Hid (apE bs a b = 0) := by show _ = _; rw [HER.out]; exact he
  subst he
  have hsy := apart_sym HE0.out
  rw [HAX.out, HAY.out] at hsy
  injection hsy with h1 h2
  subst h1 h2
  have q0 : ((0 : Int) != 0) = false := rfl
  have HOK := Lib.hid (apE_ok HE0.out)
  have HSA := Lib.hid (trtOk_iff.1 HOK.out.2.2.1)
  have HSB := Lib.hid (trtOk_iff.1 HOK.out.2.2.2)
  clear HAY HES HER
  go_upto_region 7 with fail
  have r0 := S2.out.tail.tail.hd
  have f1 : ∀ u, (ovr Y u).cell? ⟨w.heap.size, 0, none⟩ = some (I a.s.lo) := cell_row9 r0 (j := 0) rfl
  have f2 : ∀ u, (ovr Y u).cell? ⟨w.heap.size, 1, none⟩ = some (I a.s.hi) := cell_row9 r0 (j := 1) rfl
  have f4 : ∀ u, (ovr Y u).cell? ⟨w.heap.size, 3, none⟩ = some (I b.s.lo) := cell_row9 r0 (j := 3) rfl
  have f5 : ∀ u, (ovr Y u).cell? ⟨w.heap.size, 4, none⟩ = some (I b.s.hi) := cell_row9 r0 (j := 4) rfl
  obtain ⟨x0, hx0⟩ : ∃ x, plc a.s (at0 tr 0) = x := ⟨_, rfl⟩
  obtain ⟨y0, hy0⟩ : ∃ x, plc b.s (at0 tr 1) = x := ⟨_, rfl⟩
  have HX0 : Hid (a.s.lo ≤ x0 ∧ x0 ≤ a.s.hi) := by show _ ∧ _; rw [← hx0]; exact plc_in (by have := HSA.out; omega)
  have HY0 : Hid (b.s.lo ≤ y0 ∧ y0 ≤ b.s.hi) := by show _ ∧ _; rw [← hy0]; exact plc_in (by have := HSB.out; omega)
  have CA0 : Hid (∀ V, Calls Try.prog 42 #[.agg #[I a.s.lo, I a.s.hi], Un.H16 (at0 tr 0)] V fun e w' => e = .returned (I x0) ∧ Below V.heap.size V w') := fun V => by rw [← hx0]; exact place_any a.s _ V (HI6.out 0)
  have CB0 : Hid (∀ V, Calls Try.prog 42 #[.agg #[I b.s.lo, I b.s.hi], Un.H16 (at0 tr 1)] V fun e w' => e = .returned (I y0) ∧ Below V.heap.size V w') := fun V => by rw [← hy0]; exact place_any b.s _ V (HI6.out 1)
  clear hx0 hy0 r0 q0
  refine Gg.wp_region_make (fun j => if j = 4 then some (fun u _ => u = Un.H16 (at0 tr 0)) else if j = 5 then some (fun u _ => u = I x0) else if j = 10 then some (fun u _ => u = Un.H16 (at0 tr 1)) else if j = 11 then some (fun u _ => u = I y0) else none) (by kernel_rfl) (by kernel_rfl) (by kernel_rfl) ?_
  repeat (first | (refine Gg.wpG_one rfl rfl rfl ?_; intro K hK; go_big_quiet_op; go_big_quiet_on) | (refine Gg.wpG_skip rfl ?_; simp only [Act.put, List.setIfInBounds_toArray, List.set_cons_zero, List.set_cons_succ]))
  refine Gg.wpG_make (fun u _ => u = Un.H16 (at0 tr 0)) rfl rfl (fun w' hw' hk => ?_) (fun u hu => ?_)
  · obtain ⟨z, rfl⟩ := hw'
    go_simp
    exact call_grow (CP.out _ 0 0 rfl (by omega) (S2.out.below (ovr_below Y z)).1)
  obtain ⟨_, _, rfl⟩ := hu
  simp only [Act.put, List.setIfInBounds_toArray, List.set_cons_zero, List.set_cons_succ]
  repeat (first | (refine Gg.wpG_one rfl rfl rfl ?_; intro K hK; go_big_quiet_op; go_big_quiet_on) | (refine Gg.wpG_skip rfl ?_; simp only [Act.put, List.setIfInBounds_toArray, List.set_cons_zero, List.set_cons_succ]))
  refine Gg.wpG_make (fun u _ => u = I x0) rfl rfl (fun w' hw' hk => ?_) (fun u hu => ?_)
  · go_simp
    exact call_grow (CA0.out w')
  obtain ⟨_, _, rfl⟩ := hu
  simp only [Act.put, List.setIfInBounds_toArray, List.set_cons_zero, List.set_cons_succ]
  repeat (first | (refine Gg.wpG_one rfl rfl rfl ?_; intro K hK; go_big_quiet_op; go_big_quiet_on) | (refine Gg.wpG_skip rfl ?_; simp only [Act.put, List.setIfInBounds_toArray, List.set_cons_zero, List.set_cons_succ]))
  refine Gg.wpG_make (fun u _ => u = Un.H16 (at0 tr 1)) rfl rfl (fun w' hw' hk => ?_) (fun u hu => ?_)
  · obtain ⟨z, rfl⟩ := hw'
    go_simp
    exact call_grow (CP.out _ 1 1 rfl (by omega) (S2.out.below (ovr_below Y z)).1)
  obtain ⟨_, _, rfl⟩ := hu
  simp only [Act.put, List.setIfInBounds_toArray, List.set_cons_zero, List.set_cons_succ]
  repeat (first | (refine Gg.wpG_one rfl rfl rfl ?_; intro K hK; go_big_quiet_op; go_big_quiet_on) | (refine Gg.wpG_skip rfl ?_; simp only [Act.put, List.setIfInBounds_toArray, List.set_cons_zero, List.set_cons_succ]))
  refine Gg.wpG_make (fun u _ => u = I y0) rfl rfl (fun w' hw' hk => ?_) (fun u hu => ?_)
  · go_simp
    exact call_grow (CB0.out w')
  obtain ⟨_, _, rfl⟩ := hu
  simp only [Act.put, List.setIfInBounds_toArray, List.set_cons_zero, List.set_cons_succ]
  repeat (first | (refine Gg.wpG_one rfl rfl rfl ?_; intro K hK; go_big_quiet_op; go_big_quiet_on) | (refine Gg.wpG_skip rfl ?_; simp only [Act.put, List.setIfInBounds_toArray, List.set_cons_zero, List.set_cons_succ]))
  refine Gg.wpG_nil (fun w5 hw5 hG => ?_)
  have S3 := Lib.hid (S2.out.below hw5.le)
  clear hG hw5 S2 f1 f2 f4 f5 CA0 CB0
  have HT : Hid (∀ k, 0 ≤ tT bs tr k ∧ tT bs tr k ≤ 10000000) := Lib.hid (tT_bd HOK.out.2.1)
  go_wp2_with fail
  go_loopw [13, 11] (fun iv av wr => ∃ i : Nat, i ≤ a.b.length ∧ iv = .int .i64 i ∧ av = I (x0 - smI (tT bs tr) a.b i) ∧ StL w [(P2, #[I (-xh), I (-xl)], 24), (P1, #[I xl, I xh], 24), (w.heap.size, twA a b A C n m, 105)] wr) (fun iv _ _ => a.b.length - (intOf iv).toNat)
  case atStart => exact ⟨0, Nat.zero_le _, rfl, by show I x0 = I (x0 - 0); rw [Int.sub_zero], S3.out⟩
  case round =>
    obtain ⟨i, hi, rfl, rfl, hst⟩ := hrel
    rename World => Z
    have S := Lib.hid hst
    clear hst S3
    by_cases hlt : i < a.b.length
    case pos =>
      as_aux_lemma =>
        have HLT := Lib.hid hlt
        have r0 := S.out.tail.tail.hd
        have f3 : Z.cell? ⟨w.heap.size, 2, none⟩ = some (.slice A a.b.length n) := (cell_of_row _ _ 2 _ _ _ r0).trans rfl
        have ki : decide ((i : Int) < (a.b.length : Int)) = true := decide_eq_true (by omega)
        have i60 : i ≤ 60 := by have := HC.out; omega
        obtain ⟨sb, so, hA, _, e0⟩ := rd_int9 (HRD.out Z S.out.1).2.1 hlt
        rw [hA] at f3
        have hb9 := trB_iff.1 (trQ_iff.1 HSA.out.1 i hlt)
        obtain ⟨k, hk⟩ : ∃ k : Nat, at0 a.b i = k := ⟨(at0 a.b i).toNat, by omega⟩
        rw [hk] at e0 hb9
        have hkl : k < bs.length := by omega
        have k60 : k ≤ 60 := by have := HC.out; omega
        have d1 : decide ((k : Int) < 0) = false := decide_eq_false (by omega)
        have d2 : decide ((bs.length : Int) ≤ (k : Int)) = false := decide_eq_false (by omega)
        have Hn : Hid (smI (tT bs tr) a.b (i + 1) = smI (tT bs tr) a.b i + plc (at0 bs k) (at0 tr (2 + k))) := by
          show smI (tT bs tr) a.b i + tT bs tr (at0 a.b i).toNat = _
          rw [hk, Int.toNat_natCast]
        have hsb := smI_bd (l := a.b) HT.out i
        have hts := HT.out k
        change 0 ≤ plc (at0 bs k) (at0 tr (2 + k)) ∧ plc (at0 bs k) (at0 tr (2 + k)) ≤ 10000000 at hts
        have CP9 : Hid (∀ u, Calls Try.prog 43 #[.slice H tr.length hn, I (2 + (k : Int))] (ovr Z u) fun e w' => e = .returned (Un.H16 (at0 tr (2 + k))) ∧ Below (ovr Z u).heap.size (ovr Z u) w') := fun u => CP.out _ (2 + (k : Int)) (2 + k) (by omega) (by omega) (S.out.below (ovr_below Z u)).1
        have CL9 : Hid (∀ V, Calls Try.prog 42 #[.agg #[I (at0 bs k).lo, I (at0 bs k).hi], Un.H16 (at0 tr (2 + k))] V fun e w' => e = .returned (I (plc (at0 bs k) (at0 tr (2 + k)))) ∧ Below V.heap.size V w') := fun V => place_any _ _ V (HI6.out _)
        obtain ⟨bb, bo, rfl, _, g0, g1⟩ := (HRD.out Z S.out.1).1.rng hkl
        obtain ⟨pv, hpv⟩ : ∃ v, at0 tr (2 + k) = v := ⟨_, rfl⟩
        obtain ⟨rk, hrk⟩ : ∃ v, at0 bs k = v := ⟨_, rfl⟩
        rw [hpv] at CP9
        rw [hpv, hrk] at CL9 Hn hts
        rw [hrk] at g0 g1
        obtain ⟨tk, htk⟩ : ∃ v, plc rk pv = v := ⟨_, rfl⟩
        rw [htk] at CL9 Hn hts
        obtain ⟨sm, hsm⟩ : ∃ v, smI (tT bs tr) a.b i = v := ⟨_, rfl⟩
        rw [hsm] at Hn hsb ⊢
        have kx : IntKind.i64.wrap (x0 - sm - tk) = x0 - sm - tk := IntWalk.i64_in _ (by have := HX0.out; have := HSA.out; have := HSA.out; have := HSB.out; omega)
        clear hpv hrk htk hsm hsb hts hb9 hk r0 hA hi
        go_upto_region 14 with fail
        have v1 := ovr_cell g0
        have v2 := ovr_cell g1
        clear g0 g1 e0 f3
        refine Gg.wp_region_make (fun j => if j = 8 then some (fun u _ => u = Un.H16 pv) else if j = 9 then some (fun u _ => u = I tk) else none) (by kernel_rfl) (by kernel_rfl) (by kernel_rfl) ?_
        repeat (first | (refine Gg.wpG_one rfl rfl rfl ?_; intro K hK; go_big_quiet_op; go_big_quiet_on) | (refine Gg.wpG_skip rfl ?_; simp only [Act.put, List.setIfInBounds_toArray, List.set_cons_zero, List.set_cons_succ]))
        refine Gg.wpG_make (fun u _ => u = Un.H16 pv) rfl rfl (fun w' hw' hk => ?_) (fun u hu => ?_)
        · obtain ⟨z, rfl⟩ := hw'
          go_simp
          exact call_grow (CP9.out z)
        obtain ⟨_, _, rfl⟩ := hu
        simp only [Act.put, List.setIfInBounds_toArray, List.set_cons_zero, List.set_cons_succ]
        repeat (first | (refine Gg.wpG_one rfl rfl rfl ?_; intro K hK; go_big_quiet_op; go_big_quiet_on) | (refine Gg.wpG_skip rfl ?_; simp only [Act.put, List.setIfInBounds_toArray, List.set_cons_zero, List.set_cons_succ]))
        refine Gg.wpG_make (fun u _ => u = I tk) rfl rfl (fun w' hw' hk => ?_) (fun u hu => ?_)
        · go_simp
          exact call_grow (CL9.out w')
        obtain ⟨_, _, rfl⟩ := hu
        simp only [Act.put, List.setIfInBounds_toArray, List.set_cons_zero, List.set_cons_succ]
        repeat (first | (refine Gg.wpG_one rfl rfl rfl ?_; intro K hK; go_big_quiet_op; go_big_quiet_on) | (refine Gg.wpG_skip rfl ?_; simp only [Act.put, List.setIfInBounds_toArray, List.set_cons_zero, List.set_cons_succ]))
        refine Gg.wpG_nil (fun w5 hw5 hG => ?_)
        have S5 := Lib.hid (S.out.below hw5.le)
        clear hG hw5 S v1 v2
        go_wp2_with fail
        go_roundw
        case rel => exact ⟨i + 1, HLT.out, by go_num, by rw [Hn.out, ← Int.sub_sub], S5.out⟩
        case measure => have := HLT.out; simp [intOf]; omega
    obtain rfl : i = a.b.length := by omega
    have r0 := S.out.tail.tail.hd
    have f3 : Z.cell? ⟨w.heap.size, 2, none⟩ = some (.slice A a.b.length n) := (cell_of_row _ _ 2 _ _ _ r0).trans rfl
    have ki : decide ((a.b.length : Int) < (a.b.length : Int)) = false := decide_eq_false (by omega)
    obtain ⟨XA, hXA⟩ : ∃ v, x0 - smI (tT bs tr) a.b a.b.length = v := ⟨_, rfl⟩
    rw [hXA]
    have HXA := Lib.hid hXA
    have S3 := S
    clear hXA r0 hi hlt S
    go_wp2_with fail
    go_loopw [15, 12] (fun iv av wr => ∃ i : Nat, i ≤ b.b.length ∧ iv = .int .i64 i ∧ av = I (y0 - smI (tT bs tr) b.b i) ∧ StL w [(P2, #[I (-xh), I (-xl)], 24), (P1, #[I xl, I xh], 24), (w.heap.size, twA a b A C n m, 105)] wr) (fun iv _ _ => b.b.length - (intOf iv).toNat)
    case atStart => exact ⟨0, Nat.zero_le _, rfl, by show I y0 = I (y0 - 0); rw [Int.sub_zero], S3.out⟩
    case round =>
      obtain ⟨i, hi, rfl, rfl, hst⟩ := hrel
      rename World => Z2
      have S := Lib.hid hst
      clear hst S3 f3
      by_cases hlt : i < b.b.length
      case pos =>
        as_aux_lemma =>
          have HLT := Lib.hid hlt
          have r0 := S.out.tail.tail.hd
          have f3 : Z2.cell? ⟨w.heap.size, 5, none⟩ = some (.slice C b.b.length m) := (cell_of_row _ _ 5 _ _ _ r0).trans rfl
          have ki : decide ((i : Int) < (b.b.length : Int)) = true := decide_eq_true (by omega)
          have i60 : i ≤ 60 := by have := HC.out; omega
          obtain ⟨sb, so, hA, _, e0⟩ := rd_int9 (HRD.out Z2 S.out.1).2.2.1 hlt
          rw [hA] at f3
          have hb9 := trB_iff.1 (trQ_iff.1 HSB.out.1 i hlt)
          obtain ⟨k, hk⟩ : ∃ k : Nat, at0 b.b i = k := ⟨(at0 b.b i).toNat, by omega⟩
          rw [hk] at e0 hb9
          have hkl : k < bs.length := by omega
          have k60 : k ≤ 60 := by have := HC.out; omega
          have d1 : decide ((k : Int) < 0) = false := decide_eq_false (by omega)
          have d2 : decide ((bs.length : Int) ≤ (k : Int)) = false := decide_eq_false (by omega)
          have Hm : Hid (smI (tT bs tr) b.b (i + 1) = smI (tT bs tr) b.b i + plc (at0 bs k) (at0 tr (2 + k))) := by
            show smI (tT bs tr) b.b i + tT bs tr (at0 b.b i).toNat = _
            rw [hk, Int.toNat_natCast]
          have hsb := smI_bd (l := b.b) HT.out i
          have hts := HT.out k
          change 0 ≤ plc (at0 bs k) (at0 tr (2 + k)) ∧ plc (at0 bs k) (at0 tr (2 + k)) ≤ 10000000 at hts
          have CP9 : Hid (∀ u, Calls Try.prog 43 #[.slice H tr.length hn, I (2 + (k : Int))] (ovr Z2 u) fun e w' => e = .returned (Un.H16 (at0 tr (2 + k))) ∧ Below (ovr Z2 u).heap.size (ovr Z2 u) w') := fun u => CP.out _ (2 + (k : Int)) (2 + k) (by omega) (by omega) (S.out.below (ovr_below Z2 u)).1
          have CL9 : Hid (∀ V, Calls Try.prog 42 #[.agg #[I (at0 bs k).lo, I (at0 bs k).hi], Un.H16 (at0 tr (2 + k))] V fun e w' => e = .returned (I (plc (at0 bs k) (at0 tr (2 + k)))) ∧ Below V.heap.size V w') := fun V => place_any _ _ V (HI6.out _)
          obtain ⟨bb, bo, rfl, _, g0, g1⟩ := (HRD.out Z2 S.out.1).1.rng hkl
          obtain ⟨pv, hpv⟩ : ∃ v, at0 tr (2 + k) = v := ⟨_, rfl⟩
          obtain ⟨rk, hrk⟩ : ∃ v, at0 bs k = v := ⟨_, rfl⟩
          rw [hpv] at CP9
          rw [hpv, hrk] at CL9 Hm hts
          rw [hrk] at g0 g1
          obtain ⟨tk, htk⟩ : ∃ v, plc rk pv = v := ⟨_, rfl⟩
          rw [htk] at CL9 Hm hts
          obtain ⟨sm, hsm⟩ : ∃ v, smI (tT bs tr) b.b i = v := ⟨_, rfl⟩
          rw [hsm] at Hm hsb ⊢
          have kx : IntKind.i64.wrap (y0 - sm - tk) = y0 - sm - tk := IntWalk.i64_in _ (by have := HY0.out; have := HSB.out; have := HSA.out; have := HSB.out; omega)
          clear hpv hrk htk hsm hsb hts hb9 hk r0 hA hi
          go_upto_region 21 with fail
          have v1 := ovr_cell g0
          have v2 := ovr_cell g1
          clear g0 g1 e0 f3
          refine Gg.wp_region_make (fun j => if j = 8 then some (fun u _ => u = Un.H16 pv) else if j = 9 then some (fun u _ => u = I tk) else none) (by kernel_rfl) (by kernel_rfl) (by kernel_rfl) ?_
          repeat (first | (refine Gg.wpG_one rfl rfl rfl ?_; intro K hK; go_big_quiet_op; go_big_quiet_on) | (refine Gg.wpG_skip rfl ?_; simp only [Act.put, List.setIfInBounds_toArray, List.set_cons_zero, List.set_cons_succ]))
          refine Gg.wpG_make (fun u _ => u = Un.H16 pv) rfl rfl (fun w' hw' hk => ?_) (fun u hu => ?_)
          · obtain ⟨z, rfl⟩ := hw'
            go_simp
            exact call_grow (CP9.out z)
          obtain ⟨_, _, rfl⟩ := hu
          simp only [Act.put, List.setIfInBounds_toArray, List.set_cons_zero, List.set_cons_succ]
          repeat (first | (refine Gg.wpG_one rfl rfl rfl ?_; intro K hK; go_big_quiet_op; go_big_quiet_on) | (refine Gg.wpG_skip rfl ?_; simp only [Act.put, List.setIfInBounds_toArray, List.set_cons_zero, List.set_cons_succ]))
          refine Gg.wpG_make (fun u _ => u = I tk) rfl rfl (fun w' hw' hk => ?_) (fun u hu => ?_)
          · go_simp
            exact call_grow (CL9.out w')
          obtain ⟨_, _, rfl⟩ := hu
          simp only [Act.put, List.setIfInBounds_toArray, List.set_cons_zero, List.set_cons_succ]
          repeat (first | (refine Gg.wpG_one rfl rfl rfl ?_; intro K hK; go_big_quiet_op; go_big_quiet_on) | (refine Gg.wpG_skip rfl ?_; simp only [Act.put, List.setIfInBounds_toArray, List.set_cons_zero, List.set_cons_succ]))
          refine Gg.wpG_nil (fun w5 hw5 hG => ?_)
          have S5 := Lib.hid (S.out.below hw5.le)
          clear hG hw5 S v1 v2
          go_wp2_with fail
          go_roundw
          case rel => exact ⟨i + 1, HLT.out, by go_num, by rw [Hm.out, ← Int.sub_sub], S5.out⟩
          case measure => have := HLT.out; simp [intOf]; omega
      obtain rfl : i = b.b.length := by omega
      have r0 := S.out.tail.tail.hd
      have f6 : Z2.cell? ⟨w.heap.size, 5, none⟩ = some (.slice C b.b.length m) := (cell_of_row _ _ 5 _ _ _ r0).trans rfl
      have ki : decide ((b.b.length : Int) < (b.b.length : Int)) = false := decide_eq_false (by omega)
      obtain ⟨YB, hYB⟩ : ∃ v, y0 - smI (tT bs tr) b.b b.b.length = v := ⟨_, rfl⟩
      rw [hYB]
      have HIN : Hid (xl ≤ XA - YB ∧ XA - YB ≤ xh) := by
        have h := apart_true HE0.out (t := tT bs tr) (fun k hk => plc_in (by have := all9_at HOK.out.2.1 hk; omega)) HX0.out HY0.out
        rw [HAX.out, HXA.out, hYB] at h
        exact h
      have HBB : Hid ((-1000000000 ≤ XA ∧ XA ≤ 1000000000) ∧ -1000000000 ≤ YB ∧ YB ≤ 1000000000) := by
        show (_ ∧ _) ∧ _ ∧ _
        rw [← HXA.out, ← hYB]
        have := smI_bd (l := a.b) HT.out a.b.length
        have := smI_bd (l := b.b) HT.out b.b.length
        have := HC.out
        have := HX0.out
        have := HY0.out
        have := HSA.out
        have := HSB.out
        omega
      have HXB : Hid (-2000000000 ≤ xl ∧ xl ≤ 2000000000 ∧ -2000000000 ≤ xh ∧ xh ≤ 2000000000) := by
        have h := rfA_bd (bs := bs) (a := a) (b := b) HOK.out.2.1 (by have := HC.out; omega) HSA.out.2 HSB.out.2 (k := bs.length) (Nat.le_refl _)
        rw [rfA_end HE0.out, HAX.out] at h
        show _ ∧ _
        simp only at h
        omega
      have k1 : IntKind.i64.wrap (XA - YB) = XA - YB := IntWalk.i64_in _ (by have := HBB.out; omega)
      have k2 : wrap64 (-xh) = -xh := by unfold wrap64; have := HXB.out; omega
      have k3 : wrap64 (-xl) = -xl := by unfold wrap64; have := HXB.out; omega
      have CH : Hid (∀ V, Calls Try.prog 44 #[.agg #[I xl, I xh], I (XA - YB)] V fun e w' => e = .returned (.bool true) ∧ Below V.heap.size V w') := fun V => by
        have h := has9_any ⟨xl, xh⟩ (XA - YB) V
        rw [hasB_iff.2 HIN.out] at h
        exact h
      have j1 := S.out.hd
      have j2 := S.out.tail.hd
      have a1 : Z2.cell? ⟨P1, 0, none⟩ = some (I xl) := (cell_of_row _ _ _ _ _ _ j2).trans rfl
      have a2 : Z2.cell? ⟨P1, 1, none⟩ = some (I xh) := (cell_of_row _ _ _ _ _ _ j2).trans rfl
      clear j1 j2 r0 hYB hi hlt
      go_wp2_with fail
      refine (CH.out _).mono ?_
      rintro e w6 ⟨rfl, hb⟩
      have S6 := Lib.hid (S.out.below hb)
      clear hb S a1 a2 f6
      have j1 := S6.out.hd
      have j2 := S6.out.tail.hd
      have a1 : w6.cell? ⟨P1, 0, none⟩ = some (I xl) := (cell_of_row _ _ _ _ _ _ j2).trans rfl
      have a2 : w6.cell? ⟨P1, 1, none⟩ = some (I xh) := (cell_of_row _ _ _ _ _ _ j2).trans rfl
      have a3 : w6.cell? ⟨P2, 0, none⟩ = some (I (-xh)) := (cell_of_row _ _ _ _ _ _ j1).trans rfl
      have a4 : w6.cell? ⟨P2, 1, none⟩ = some (I (-xl)) := (cell_of_row _ _ _ _ _ _ j1).trans rfl
      have e1 : ((-xh : Int) != -xh) = false := by simp
      have e2 : ((-xl : Int) != -xl) = false := by simp
      clear j1 j2
      by_cases h60 : bs.length < 60
      case neg =>
        have d0 : decide ((60 : Int) ≤ (bs.length : Int)) = true := decide_eq_true (by omega)
        clear h60
        go_wp2_with fail
        refine (KN.out _).mono ?_
        rintro e wk ⟨rfl, hb⟩
        have SK := Lib.hid (S6.out.below hb)
        clear hb
        go_wp2_with fail
        go_ret
        exact ⟨rfl, SK.out.1⟩
      have d0 : decide ((60 : Int) ≤ (bs.length : Int)) = false := decide_eq_false (by omega)
      have H60 := Lib.hid h60
      clear h60
      go_upto_region 27 with fail
      clear a1 a2 a3 a4 e1 e2 d0 k1 k2 k3 ki
      have HRM : Hid (∀ V, Below w6.heap.size w6 V → Rd V V.heap.size 2 BA bs.length (rR bs)) := fun V hV => (HRD.out V (S6.out.below hV).1).1.more (S6.out.below hV).1.size
      go_wp2_with (with_reducible show wpList _ _ _ (⟨some 191, _, _, _, _, _⟩ :: _) _ _; refine Hid.out ?_)
      refine Lib.hid ?_
      refine wpList_app_lit9 rfl _ _ 35 rfl 24 i3 _ 2 16 Try.underlying35 hi3 jz0 jz1 jz2 rfl (by decide) _ rfl _ _ _ rfl (rR bs) (HRM.out _ ((Below.refl _ _).alloc (Nat.le_refl _) _)) (by have := HC.out; omega) (by decide) w6.heap.size (by simp) ?_
      intro v7 w7 hso7 hb7
      simp only [Act.put, List.setIfInBounds_toArray, List.set_cons_zero, List.set_cons_succ]
      have S7 := Lib.hid (S6.out.below (((Below.refl _ _).alloc (Nat.le_refl _) _ : Below w6.heap.size w6 _).trans (hb7.mono (by simp))))
      have HS7 := Lib.hid hso7
      have HB7 : Hid (Below w6.heap.size w6 w7) := ((Below.refl _ _).alloc (Nat.le_refl _) _ : Below w6.heap.size w6 _).trans (hb7.mono (by simp))
      have HSZ : Hid (w6.heap.size ≤ w7.heap.size) := by show _ ≤ _; have := hb7.size; simp at this; omega
      clear hso7 hb7
      go_wp2_with (with_reducible show wpList _ _ _ (⟨some 194, _, _, _, _, _⟩ :: _) _ _; refine Hid.out ?_)
      refine Lib.hid ?_
      refine wpList_app_soc rfl _ _ 35 rfl 24 i3 _ 2 16 Try.underlying35 hi3 jz0 jz1 jz2 rfl (by decide) w6.heap.size bs.length (flat 2 (rR bs) bs.length) v7 rfl (HS7.out.over ((Below.refl _ _).alloc (Nat.le_refl _) _)) ⟨w7.heap.size, 0, none⟩ 1 [I 0, I 10000000] rfl rfl (news_lit (cs := #[I 0, I 10000000]) (heap_last _ _ _ rfl)) (by simp [Value.oneCell']) (by have := HSZ.out; simp; omega) (by have := HC.out; omega) (by decide) ?_
      intro v9 w9 hso9 hb9
      simp only [Act.put, List.setIfInBounds_toArray, List.set_cons_zero, List.set_cons_succ]
      rw [show flat 2 (rR bs) bs.length ++ [I 0, I 10000000] = flat 2 (rR (bs ++ [mxR])) (bs.length + 1) from (rR_snoc bs mxR).symm] at hso9
      obtain ⟨MA, mc, rfl, hmc1, hmc2, hrm⟩ := hso9.rd
      have hb69 : Below w6.heap.size w6 w9 := HB7.out.trans ((((Below.refl _ _).alloc (Nat.le_refl _) _ : Below w7.heap.size w7 _).mono HSZ.out).trans hb9)
      have S9 := Lib.hid (S6.out.below hb69)
      have HRM9 := Lib.hid hrm
      clear hrm hb69 hso9 hb9 HB7 HS7 HSZ S7 HRM S6 hmc1 hmc2
      go_upto_region 28 with fail
      have r0 := S9.out.tail.tail.hd
      have f1 : ∀ u, (Pr.ovl (NwP w9.heap.size (max a.b.length 1) 3 (I (bs.length : Int))) w9 u).cell? ⟨w.heap.size, 0, none⟩ = some (I a.s.lo) := nw_cell ((cell_of_row _ _ 0 _ _ _ r0).trans rfl)
      have f2 : ∀ u, (Pr.ovl (NwP w9.heap.size (max a.b.length 1) 3 (I (bs.length : Int))) w9 u).cell? ⟨w.heap.size, 1, none⟩ = some (I a.s.hi) := nw_cell ((cell_of_row _ _ 1 _ _ _ r0).trans rfl)
      have f3 : ∀ u, (Pr.ovl (NwP w9.heap.size (max a.b.length 1) 3 (I (bs.length : Int))) w9 u).cell? ⟨w.heap.size, 2, none⟩ = some (.slice A a.b.length n) := nw_cell ((cell_of_row _ _ 2 _ _ _ r0).trans rfl)
      clear r0
      have Hw9 : Hid (∀ V, Pr.Cl (NwP w9.heap.size (max a.b.length 1) 3 (I (bs.length : Int))) w9 V → Below w9.heap.size w9 V) := fun V hV => NwLe.below (show NwLe w9.heap.size _ _ _ w9 V from hV.le)
      refine Pr.wp_region_seq9 (NwP w9.heap.size (max a.b.length 1) 3 (I (bs.length : Int))) 13 (fun j => if j = 3 then some (fun u _ => ∃ b, u = .slice (some ⟨b, 0, none⟩) 0 0) else if j = 7 then some (NwRow w9.heap.size 3 a.b.length (flat 1 (rI a.b) a.b.length)) else if j = 9 then some (NwOne 3 (I (bs.length : Int))) else if j = 10 then some (NwFin w9.heap.size 3 a.b.length (flat 1 (rI a.b) a.b.length) (I (bs.length : Int))) else if j = 12 then some (NwAt #[I 0, I 0, .slice none 0 0] 72 w9.heap.size) else none) (NwLe.of (Below.refl _ _).drew) (by kernel_rfl) (by kernel_rfl) (by kernel_rfl) (by kernel_rfl) (by kernel_rfl) ?_
      simp only [List.take_succ_cons, List.take_zero, List.drop_succ_cons, List.drop_zero]
      repeat (first | (refine Pr.wpG_one rfl rfl rfl ?_; intro K hK; go_big_quiet_op; go_big_quiet_on) | (refine Pr.wpG_skip rfl ?_; simp only [Act.put, List.setIfInBounds_toArray, List.set_cons_zero, List.set_cons_succ]))
      refine Pr.wpG_make (fun u _ => ∃ b, u = .slice (some ⟨b, 0, none⟩) 0 0) rfl rfl (fun w' hw' hk => ?_) (fun u hu => ?_)
      · unfold Pr.grows
        go_simp
        exact ⟨NwLe.of ((Below.refl _ _).alloc (Nat.le_refl _) _), fun _ _ => ⟨_, rfl⟩⟩
      obtain ⟨_, _, b0, rfl⟩ := hu
      simp only [Act.put, List.setIfInBounds_toArray, List.set_cons_zero, List.set_cons_succ]
      repeat (first | (refine Pr.wpG_one rfl rfl rfl ?_; intro K hK; go_big_quiet_op; go_big_quiet_on) | (refine Pr.wpG_skip rfl ?_; simp only [Act.put, List.setIfInBounds_toArray, List.set_cons_zero, List.set_cons_succ]))
      refine Pr.wpG_make (NwRow w9.heap.size 3 a.b.length (flat 1 (rI a.b) a.b.length)) rfl rfl (fun w' hw' hk => ?_) (fun u hu => ?_)
      · exact app1_nw _ _ 30 rfl 3 i4 _ 8 Try.underlying30 hi4 kz0 kz1 kz2 rfl b0 rfl A a.b.length n rfl (rI a.b) ((HRD.out _ (S9.out.below (Hw9.out _ hw')).1).2.1.more (S9.out.below (Hw9.out _ hw')).1.size) (by have := HC.out; omega) (by decide) (Hw9.out _ hw').size (Nat.le_max_left _ _)
      obtain ⟨u7, hu7⟩ : ∃ v, v = u := ⟨_, rfl⟩
      subst hu7
      clear hu
      simp only [Act.put, List.setIfInBounds_toArray, List.set_cons_zero, List.set_cons_succ]
      repeat (first | (refine Pr.wpG_one rfl rfl rfl ?_; intro K hK; go_big_quiet_op; go_big_quiet_on) | (refine Pr.wpG_skip rfl ?_; simp only [Act.put, List.setIfInBounds_toArray, List.set_cons_zero, List.set_cons_succ]))
      refine Pr.wpG_make (NwOne 3 (I (bs.length : Int))) rfl rfl (fun w' hw' hk => ?_) (fun u hu => ?_)
      · unfold Pr.grows
        go_simp
        exact nwone_grow w' (by omega)
      obtain ⟨_, _, b9, rfl, _⟩ := hu
      simp only [Act.put, List.setIfInBounds_toArray, List.set_cons_zero, List.set_cons_succ]
      repeat (first | (refine Pr.wpG_one rfl rfl rfl ?_; intro K hK; go_big_quiet_op; go_big_quiet_on) | (refine Pr.wpG_skip rfl ?_; simp only [Act.put, List.setIfInBounds_toArray, List.set_cons_zero, List.set_cons_succ]))
      refine Pr.wpG_make (NwFin w9.heap.size 3 a.b.length (flat 1 (rI a.b) a.b.length) (I (bs.length : Int))) rfl rfl (fun w' hw' hk => ?_) (fun u hu => ?_)
      · have q7 := (hk ⟨7, .data⟩ (by simp) rfl _ _ _ rfl rfl rfl (by simp) rfl).now
        have q9 := (hk ⟨9, .data⟩ (by simp) rfl _ _ _ rfl rfl rfl (by simp) rfl).now
        exact app2_nw _ _ 30 rfl 3 i4 _ 8 Try.underlying30 hi4 kz0 kz1 kz2 rfl _ rfl a.b.length _ q7 (by rw [flat_len, Nat.mul_one]) b9 1 rfl _ q9.cell (by simp [Value.oneCell']) (by have := HC.out; omega) (by decide) (Nat.le_refl _) (Hw9.out _ hw').size (by omega)
      obtain ⟨_, _, qa, ca, rfl, _⟩ := hu
      simp only [Act.put, List.setIfInBounds_toArray, List.set_cons_zero, List.set_cons_succ]
      repeat (first | (refine Pr.wpG_one rfl rfl rfl ?_; intro K hK; go_big_quiet_op; go_big_quiet_on) | (refine Pr.wpG_skip rfl ?_; simp only [Act.put, List.setIfInBounds_toArray, List.set_cons_zero, List.set_cons_succ]))
      refine Pr.wpG_make (NwAt #[I 0, I 0, .slice none 0 0] 72 w9.heap.size) rfl rfl (fun w' hw' hk => ?_) (fun u hu => ?_)
      · unfold Pr.grows
        go_simp
        exact nwat_grow (by decide) hw'
      obtain ⟨_, _, PA, rfl, _, _⟩ := hu
      simp only [Act.put, List.setIfInBounds_toArray, List.set_cons_zero, List.set_cons_succ]
      repeat (first | (refine Pr.wpG_one rfl rfl rfl ?_; intro K hK; go_big_quiet_op; go_big_quiet_on) | (refine Pr.wpG_skip rfl ?_; simp only [Act.put, List.setIfInBounds_toArray, List.set_cons_zero, List.set_cons_succ]))
      refine Pr.wpG_nil (fun w5 hw5 hG => ?_)
      have hfin := hG.1.2.now
      have hat := hG.2.now.at
      have hle := Hw9.out w5 hw5
      clear hG hw5 f1 f2 f3 Hw9
      refine wpTailIn_cons Wd.wide (by intro c h; cases h) ?_
      refine wp_store_row 72 _ _ rfl PA rfl _ _ hat.1 #[I a.s.lo, I a.s.hi, .slice (some ⟨qa, 0, none⟩) (a.b.length + 1) ca] rfl (by intro u hu; simp at hu; rcases hu with rfl | rfl | rfl <;> rfl) rfl (by kernel_rfl) ?_
      refine wpTailIn_nil ?_
      simp only [Act.put]
      have hcl := below_setRow hle hat.2 #[I a.s.lo, I a.s.hi, .slice (some ⟨qa, 0, none⟩) (a.b.length + 1) ca]
      have S10 := Lib.hid ((S9.out.below hcl).cons (setRow_same (cs' := #[I a.s.lo, I a.s.hi, .slice (some ⟨qa, 0, none⟩) (a.b.length + 1) ca]) hat.1))
      have HFA := Lib.hid (hfin.set hat.1 (by decide) #[I a.s.lo, I a.s.hi, .slice (some ⟨qa, 0, none⟩) (a.b.length + 1) ca])
      have HBA := Lib.hid hcl
      obtain ⟨X1, hX1⟩ : ∃ X1, X1 = w5.setRow PA #[I a.s.lo, I a.s.hi, .slice (some ⟨qa, 0, none⟩) (a.b.length + 1) ca] := ⟨_, rfl⟩
      rw [← hX1] at S10 HFA HBA ⊢
      clear hX1 hcl hfin hat hle
      go_upto_region 29 with fail
      have r0 := S10.out.tail.tail.tail.hd
      have f1 : ∀ u, (Pr.ovl (NwP X1.heap.size (max b.b.length 1) 3 (I (bs.length : Int))) X1 u).cell? ⟨w.heap.size, 3, none⟩ = some (I b.s.lo) := nw_cell ((cell_of_row _ _ 3 _ _ _ r0).trans rfl)
      have f2 : ∀ u, (Pr.ovl (NwP X1.heap.size (max b.b.length 1) 3 (I (bs.length : Int))) X1 u).cell? ⟨w.heap.size, 4, none⟩ = some (I b.s.hi) := nw_cell ((cell_of_row _ _ 4 _ _ _ r0).trans rfl)
      have f3 : ∀ u, (Pr.ovl (NwP X1.heap.size (max b.b.length 1) 3 (I (bs.length : Int))) X1 u).cell? ⟨w.heap.size, 5, none⟩ = some (.slice C b.b.length m) := nw_cell ((cell_of_row _ _ 5 _ _ _ r0).trans rfl)
      clear r0
      have HX1 : Hid (∀ V, Pr.Cl (NwP X1.heap.size (max b.b.length 1) 3 (I (bs.length : Int))) X1 V → Below X1.heap.size X1 V) := fun V hV => NwLe.below (show NwLe X1.heap.size _ _ _ X1 V from hV.le)
      refine Pr.wp_region_seq9 (NwP X1.heap.size (max b.b.length 1) 3 (I (bs.length : Int))) 13 (fun j => if j = 3 then some (fun u _ => ∃ b, u = .slice (some ⟨b, 0, none⟩) 0 0) else if j = 7 then some (NwRow X1.heap.size 3 b.b.length (flat 1 (rI b.b) b.b.length)) else if j = 9 then some (NwOne 3 (I (bs.length : Int))) else if j = 10 then some (NwFin X1.heap.size 3 b.b.length (flat 1 (rI b.b) b.b.length) (I (bs.length : Int))) else if j = 12 then some (NwAt #[I 0, I 0, .slice none 0 0] 72 X1.heap.size) else none) (NwLe.of (Below.refl _ _).drew) (by kernel_rfl) (by kernel_rfl) (by kernel_rfl) (by kernel_rfl) (by kernel_rfl) ?_
      simp only [List.take_succ_cons, List.take_zero, List.drop_succ_cons, List.drop_zero]
      repeat (first | (refine Pr.wpG_one rfl rfl rfl ?_; intro K hK; go_big_quiet_op; go_big_quiet_on) | (refine Pr.wpG_skip rfl ?_; simp only [Act.put, List.setIfInBounds_toArray, List.set_cons_zero, List.set_cons_succ]))
      refine Pr.wpG_make (fun u _ => ∃ b, u = .slice (some ⟨b, 0, none⟩) 0 0) rfl rfl (fun w' hw' hk => ?_) (fun u hu => ?_)
      · unfold Pr.grows
        go_simp
        exact ⟨NwLe.of ((Below.refl _ _).alloc (Nat.le_refl _) _), fun _ _ => ⟨_, rfl⟩⟩
      obtain ⟨_, _, b0, rfl⟩ := hu
      simp only [Act.put, List.setIfInBounds_toArray, List.set_cons_zero, List.set_cons_succ]
      repeat (first | (refine Pr.wpG_one rfl rfl rfl ?_; intro K hK; go_big_quiet_op; go_big_quiet_on) | (refine Pr.wpG_skip rfl ?_; simp only [Act.put, List.setIfInBounds_toArray, List.set_cons_zero, List.set_cons_succ]))
      refine Pr.wpG_make (NwRow X1.heap.size 3 b.b.length (flat 1 (rI b.b) b.b.length)) rfl rfl (fun w' hw' hk => ?_) (fun u hu => ?_)
      · exact app1_nw _ _ 30 rfl 3 i4 _ 8 Try.underlying30 hi4 kz0 kz1 kz2 rfl b0 rfl C b.b.length m rfl (rI b.b) ((HRD.out _ (S10.out.below (HX1.out _ hw')).1).2.2.1.more (S10.out.below (HX1.out _ hw')).1.size) (by have := HC.out; omega) (by decide) (HX1.out _ hw').size (Nat.le_max_left _ _)
      obtain ⟨u7, hu7⟩ : ∃ v, v = u := ⟨_, rfl⟩
      subst hu7
      clear hu
      simp only [Act.put, List.setIfInBounds_toArray, List.set_cons_zero, List.set_cons_succ]
      repeat (first | (refine Pr.wpG_one rfl rfl rfl ?_; intro K hK; go_big_quiet_op; go_big_quiet_on) | (refine Pr.wpG_skip rfl ?_; simp only [Act.put, List.setIfInBounds_toArray, List.set_cons_zero, List.set_cons_succ]))
      refine Pr.wpG_make (NwOne 3 (I (bs.length : Int))) rfl rfl (fun w' hw' hk => ?_) (fun u hu => ?_)
      · unfold Pr.grows
        go_simp
        exact nwone_grow w' (by omega)
      obtain ⟨_, _, b9, rfl, _⟩ := hu
      simp only [Act.put, List.setIfInBounds_toArray, List.set_cons_zero, List.set_cons_succ]
      repeat (first | (refine Pr.wpG_one rfl rfl rfl ?_; intro K hK; go_big_quiet_op; go_big_quiet_on) | (refine Pr.wpG_skip rfl ?_; simp only [Act.put, List.setIfInBounds_toArray, List.set_cons_zero, List.set_cons_succ]))
      refine Pr.wpG_make (NwFin X1.heap.size 3 b.b.length (flat 1 (rI b.b) b.b.length) (I (bs.length : Int))) rfl rfl (fun w' hw' hk => ?_) (fun u hu => ?_)
      · have q7 := (hk ⟨7, .data⟩ (by simp) rfl _ _ _ rfl rfl rfl (by simp) rfl).now
        have q9 := (hk ⟨9, .data⟩ (by simp) rfl _ _ _ rfl rfl rfl (by simp) rfl).now
        exact app2_nw _ _ 30 rfl 3 i4 _ 8 Try.underlying30 hi4 kz0 kz1 kz2 rfl _ rfl b.b.length _ q7 (by rw [flat_len, Nat.mul_one]) b9 1 rfl _ q9.cell (by simp [Value.oneCell']) (by have := HC.out; omega) (by decide) (Nat.le_refl _) (HX1.out _ hw').size (by omega)
      obtain ⟨_, _, qb, cb, rfl, _⟩ := hu
      simp only [Act.put, List.setIfInBounds_toArray, List.set_cons_zero, List.set_cons_succ]
      repeat (first | (refine Pr.wpG_one rfl rfl rfl ?_; intro K hK; go_big_quiet_op; go_big_quiet_on) | (refine Pr.wpG_skip rfl ?_; simp only [Act.put, List.setIfInBounds_toArray, List.set_cons_zero, List.set_cons_succ]))
      refine Pr.wpG_make (NwAt #[I 0, I 0, .slice none 0 0] 72 X1.heap.size) rfl rfl (fun w' hw' hk => ?_) (fun u hu => ?_)
      · unfold Pr.grows
        go_simp
        exact nwat_grow (by decide) hw'
      obtain ⟨_, _, PC, rfl, _, _⟩ := hu
      simp only [Act.put, List.setIfInBounds_toArray, List.set_cons_zero, List.set_cons_succ]
      repeat (first | (refine Pr.wpG_one rfl rfl rfl ?_; intro K hK; go_big_quiet_op; go_big_quiet_on) | (refine Pr.wpG_skip rfl ?_; simp only [Act.put, List.setIfInBounds_toArray, List.set_cons_zero, List.set_cons_succ]))
      refine Pr.wpG_nil (fun w5 hw5 hG => ?_)
      have hfin := hG.1.2.now
      have hat := hG.2.now.at
      have hle := HX1.out w5 hw5
      clear hG hw5 f1 f2 f3 HX1
      refine wpTailIn_cons Wd.wide (by intro c h; cases h) ?_
      refine wp_store_row 72 _ _ rfl PC rfl _ _ hat.1 #[I b.s.lo, I b.s.hi, .slice (some ⟨qb, 0, none⟩) (b.b.length + 1) cb] rfl (by intro u hu; simp at hu; rcases hu with rfl | rfl | rfl <;> rfl) rfl (by kernel_rfl) ?_
      refine wpTailIn_nil ?_
      simp only [Act.put]
      have hcl := below_setRow hle hat.2 #[I b.s.lo, I b.s.hi, .slice (some ⟨qb, 0, none⟩) (b.b.length + 1) cb]
      have S11 := Lib.hid ((S10.out.below hcl).cons (setRow_same (cs' := #[I b.s.lo, I b.s.hi, .slice (some ⟨qb, 0, none⟩) (b.b.length + 1) cb]) hat.1))
      have HFB := Lib.hid (hfin.set hat.1 (by decide) #[I b.s.lo, I b.s.hi, .slice (some ⟨qb, 0, none⟩) (b.b.length + 1) cb])
      have HBB := Lib.hid hcl
      obtain ⟨X2, hX2⟩ : ∃ X2, X2 = w5.setRow PC #[I b.s.lo, I b.s.hi, .slice (some ⟨qb, 0, none⟩) (b.b.length + 1) cb] := ⟨_, rfl⟩
      rw [← hX2] at S11 HFB HBB ⊢
      clear hX2 hcl hfin hat hle
      go_upto_region 30 with fail
      have HFA2 := Lib.hid (HFA.out.below HBB.out)
      obtain ⟨QA, hQA⟩ : ∃ q : Trt, q = ⟨a.s, a.b ++ [(bs.length : Int)]⟩ := ⟨_, rfl⟩
      obtain ⟨QB, hQB⟩ : ∃ q : Trt, q = ⟨b.s, b.b ++ [(bs.length : Int)]⟩ := ⟨_, rfl⟩
      have lA : QA.b.length = a.b.length + 1 := by rw [hQA]; simp
      have lB : QB.b.length = b.b.length + 1 := by rw [hQB]; simp
      have lM : (bs ++ [mxR]).length = bs.length + 1 := by simp
      have hra := HFA2.out.rd9 (g := rI QA.b) (fun j hj => by rw [flat_get1 _ hj]; show some (I (at0 a.b j)) = some (I (at0 QA.b j)); rw [hQA]; simp only; rw [at0_ap9 _ _ hj]) (by show I (at0 QA.b a.b.length) = _; rw [hQA]; simp only; rw [at0_la9])
      have hrb := HFB.out.rd9 (g := rI QB.b) (fun j hj => by rw [flat_get1 _ hj]; show some (I (at0 b.b j)) = some (I (at0 QB.b j)); rw [hQB]; simp only; rw [at0_ap9 _ _ hj]) (by show I (at0 QB.b b.b.length) = _; rw [hQB]; simp only; rw [at0_la9])
      have hrm := (HRM9.out.below (HBA.out.trans (HBB.out.mono HBA.out.size))).more (Nat.le_trans HBA.out.size HBB.out.size)
      have CX : Hid (Calls Try.prog 38 #[.slice MA (bs.length + 1) mc, .agg #[I a.s.lo, I a.s.hi, .slice (some ⟨qa, 0, none⟩) (a.b.length + 1) ca], .agg #[I b.s.lo, I b.s.hi, .slice (some ⟨qb, 0, none⟩) (b.b.length + 1) cb]] X2 fun e w' => e = .returned (.tuple #[.agg #[I xl, I xh], I 0]) ∧ Below X2.heap.size X2 w') := by
        have hc := apart_any (bs ++ [mxR]) MA mc QA QB (some ⟨qa, 0, none⟩) (some ⟨qb, 0, none⟩) ca cb X2 X2.heap.size (Nat.le_refl _) (by rw [lM]; exact hrm) (by rw [lA]; exact hra) (by rw [lB]; exact hrb) (by have := HC.out; omega)
        rw [lM, lA, lB] at hc
        have e1 : apE (bs ++ [mxR]) QA QB = 0 := by rw [hQA, hQB]; exact more_ok HE0.out H60.out rfl
        have e2 : apX (bs ++ [mxR]) QA QB = ⟨xl, xh⟩ := by rw [hQA, hQB, apart_more HE0.out H60.out rfl]; exact HAX.out
        have e3 : QA.s = a.s := by rw [hQA]
        have e4 : QB.s = b.s := by rw [hQB]
        rw [e1, e2, e3, e4] at hc
        exact hc
      clear hQA hQB lA lB lM hra hrb hrm
      go_wp2_with (first | (with_reducible show wpList _ _ _ _ _ _; refine wpList_load_row9 rfl 72 _ rfl PC rfl #[I b.s.lo, I b.s.hi, .slice (some ⟨qb, 0, none⟩) (b.b.length + 1) cb] _ _ _ S11.out.hd Try.underlying72 rfl (by kernel_rfl) ?_) | (with_reducible show wpList _ _ _ _ _ _; refine wpList_load_row9 rfl 72 _ rfl PA rfl #[I a.s.lo, I a.s.hi, .slice (some ⟨qa, 0, none⟩) (a.b.length + 1) ca] _ _ _ S11.out.tail.hd Try.underlying72 rfl (by kernel_rfl) ?_))
      refine CX.out.mono ?_
      rintro e w12 ⟨rfl, hb⟩
      have S12 := Lib.hid (S11.out.below hb)
      clear hb S11 CX
      go_upto_region 31 with (with_reducible show wpList _ _ _ _ _ _; refine wpList_store_row rfl 24 _ _ rfl w12.heap.size rfl _ _ (heap_last _ _ _ rfl) #[I xl, I xh] rfl (one2 rfl rfl) rfl (by kernel_rfl) ?_)
      have S13 := Lib.hid (S12.out.put #[I 0, I 0] #[I xl, I xh] 24)
      obtain ⟨b9, hb9⟩ : ∃ z, z = w12.heap.size := ⟨_, rfl⟩
      refine name_w fun X13 hX13 => ?_
      rw [← hX13] at S13
      rw [← hb9] at S13 ⊢
      clear hX13 hb9 S12
      have k1 := S13.out.hd
      have k2 := S13.out.2 _ (.tail _ (.tail _ (.tail _ (.tail _ (.head _)))))
      have a1 : X13.cell? ⟨b9, 0, none⟩ = some (I xl) := (cell_of_row _ _ _ _ _ _ k1).trans rfl
      have a2 : X13.cell? ⟨b9, 1, none⟩ = some (I xh) := (cell_of_row _ _ _ _ _ _ k1).trans rfl
      have a3 : X13.cell? ⟨P1, 0, none⟩ = some (I xl) := (cell_of_row _ _ _ _ _ _ k2).trans rfl
      have a4 : X13.cell? ⟨P1, 1, none⟩ = some (I xh) := (cell_of_row _ _ _ _ _ _ k2).trans rfl
      clear k1 k2
      go_wp2_with fail
      refine (KN.out _).mono ?_
      rintro e wk ⟨rfl, hb⟩
      have SK := Lib.hid (S13.out.below hb)
      clear hb
      go_wp2_with fail
      go_ret
      exact ⟨rfl, SK.out.1⟩
end Go.Proofs.Ytljjpidigckheaa.Un
