/- The law FinishProves: its walk. -/
import Derived.Test.YtljjpidigckheaaRp9
import Derived.Test.YtljjpidigckheaaOe
import Derived.Test.YtljjpidigckheaaQaf
namespace Go.Proofs.Ytljjpidigckheaa.Un
open Go.RowKit
def FlAt (q : Frc) (S T : List Int) (u : Value) (w : World) : Prop := ∃ A m C n, u = .agg #[I q.n, I q.d, .slice A S.length m, .slice C T.length n] ∧ Rd w w.heap.size 1 A S.length (rI S) ∧ Rd w w.heap.size 1 C T.length (rI T)
theorem of_grow {P : Program} {f : FuncId} {args : Array Value} {w : World} {q : Frc} {S T : List Int} (h : Calls P f args w (RetOf w q S T)) : Calls P f args w fun e w' => ∃ u, e = .returned u ∧ Le w w' ∧ Box (FlAt q S T) u w' :=
  h.mono fun _ _ ⟨A, m, C, n, he, _, _, h1, h2, hb⟩ => ⟨_, he, hb, fun _ hl => ⟨A, m, C, n, rfl, (h1.below hl).more hl.size, (h2.below hl).more hl.size⟩⟩
theorem FlAt.at {q : Frc} {S T : List Int} {A C : Option Addr} {m n : Nat} {w : World} (h : FlAt q S T (.agg #[I q.n, I q.d, .slice A S.length m, .slice C T.length n]) w) : Rd w w.heap.size 1 A S.length (rI S) ∧ Rd w w.heap.size 1 C T.length (rI T) := by
  obtain ⟨A', m', C', n', hu, h1, h2⟩ := h
  obtain ⟨⟨e1, e2⟩, e3, e4⟩ : (A = A' ∧ m = m') ∧ C = C' ∧ n = n' := by simpa using hu
  subst e1 e3
  exact ⟨h1, h2⟩
abbrev flA (f : Frc) (S T : List Int) (SA TA : Option Addr) (sn tn : Nat) : Array Value := #[I f.n, I f.d, .slice SA S.length sn, .slice TA T.length tn]
set_option maxRecDepth 100000 in
set_option maxHeartbeats 8000000 in
theorem finishProves_any (x : Sht) (A : Option Addr) (n : Nat) (f : Frc) (S T : List Int) (SA TA : Option Addr) (sn tn : Nat) (g : Bool) (w : World) (hm : x.s.length ≤ n ∧ n ≤ maxLen) (hx : Rd w w.heap.size 2 A x.s.length (rR x.s)) (hs : Rd w w.heap.size 1 SA S.length (rI S)) (ht : Rd w w.heap.size 1 TA T.length (rI T)) :
    Calls Try.prog 7 #[.agg (shA x A n), .agg (flA f S T SA TA sn tn), .bool g] w fun e w' => e = .returned (.bool true) ∧ Below w.heap.size w w' := by
  have KN := Lib.hid known_any
  have HRD : Hid (∀ V, Below w.heap.size w V → Rd V w.heap.size 2 A x.s.length (rR x.s) ∧ Rd V w.heap.size 1 SA S.length (rI S) ∧ Rd V w.heap.size 1 TA T.length (rI T) ∧ w.heap.size ≤ V.heap.size) := fun V hV => ⟨hx.below hV, hs.below hV, ht.below hV, hV.size⟩
  have HM := Lib.hid hm
  have hm1 : x.s.length ≤ maxLen := Nat.le_trans hm.1 hm.2
  have HM1 := Lib.hid hm1
  clear hx hs ht hm hm1
  obtain ⟨W, hW⟩ : ∃ W, W = ((w.alloc (.cells #[I x.w, I x.h, I x.c.lo, I x.c.hi, .slice A x.s.length n] 37)).alloc (.cells #[I f.n, I f.d, .slice SA S.length sn, .slice TA T.length tn] 60)) := ⟨_, rfl⟩
  have rowW0 : W.heap[w.heap.size]? = some (.cells #[I x.w, I x.h, I x.c.lo, I x.c.hi, .slice A x.s.length n] 37 (0, 0)) := by rw [hW]; exact heap_before (heap_last _ _ _ rfl)
  have yW00 := ovr_cell (W := W) (b := w.heap.size) (o := 0) (v := I x.w) (by rw [cell_of_row _ _ _ _ _ _ rowW0]; rfl)
  have yW01 := ovr_cell (W := W) (b := w.heap.size) (o := 1) (v := I x.h) (by rw [cell_of_row _ _ _ _ _ _ rowW0]; rfl)
  have yW02 := ovr_cell (W := W) (b := w.heap.size) (o := 2) (v := I x.c.lo) (by rw [cell_of_row _ _ _ _ _ _ rowW0]; rfl)
  have yW03 := ovr_cell (W := W) (b := w.heap.size) (o := 3) (v := I x.c.hi) (by rw [cell_of_row _ _ _ _ _ _ rowW0]; rfl)
  have yW04 := ovr_cell (W := W) (b := w.heap.size) (o := 4) (v := .slice A x.s.length n) (by rw [cell_of_row _ _ _ _ _ _ rowW0]; rfl)
  have RrowW0 := Lib.hid (ovr_row rowW0)
  clear rowW0
  have rowW1 : W.heap[w.heap.size + 1]? = some (.cells #[I f.n, I f.d, .slice SA S.length sn, .slice TA T.length tn] 60 (0, 0)) := by rw [hW]; exact heap_last _ _ _ (by simp)
  have yW10 := ovr_cell (W := W) (b := w.heap.size + 1) (o := 0) (v := I f.n) (by rw [cell_of_row _ _ _ _ _ _ rowW1]; rfl)
  have yW11 := ovr_cell (W := W) (b := w.heap.size + 1) (o := 1) (v := I f.d) (by rw [cell_of_row _ _ _ _ _ _ rowW1]; rfl)
  have yW12 := ovr_cell (W := W) (b := w.heap.size + 1) (o := 2) (v := .slice SA S.length sn) (by rw [cell_of_row _ _ _ _ _ _ rowW1]; rfl)
  have yW13 := ovr_cell (W := W) (b := w.heap.size + 1) (o := 3) (v := .slice TA T.length tn) (by rw [cell_of_row _ _ _ _ _ _ rowW1]; rfl)
  have RrowW1 := Lib.hid (ovr_row rowW1)
  clear rowW1
  have HUW : Hid (∀ u, Below w.heap.size w (ovr W u)) := U2 hW
  have HW := Lib.hid hW
  clear hW
  go_enter Try.func7, Try.ntmps7
  go_upto_region 1 with (fail)
  rw [← HW.out]
  obtain ⟨u0, hu0⟩ := ovr_self W
  rw [hu0]
  clear hu0
  by_cases c1 : x.s.length ≤ 50
  case neg =>
    have d0 : decide ((50 : Int) < (x.s.length : Int)) = true := decide_eq_true (by omega)
    clear c1
    go_wp2_with fail
    refine (KN.out _).mono ?_
    rintro e w1 ⟨rfl, hb1⟩
    obtain ⟨uk, rfl⟩ := ovr_next hb1
    clear hb1
    go_wp2_with fail
    go_ret
    exact ⟨rfl, HUW.out _⟩
  have d0 : decide ((50 : Int) < (x.s.length : Int)) = false := decide_eq_false (by omega)
  by_cases c2 : S.length ≤ 50
  case neg =>
    have d1 : decide ((50 : Int) < (S.length : Int)) = true := decide_eq_true (by omega)
    clear c1 c2
    go_wp2_with fail
    refine (KN.out _).mono ?_
    rintro e w1 ⟨rfl, hb1⟩
    obtain ⟨uk, rfl⟩ := ovr_next hb1
    clear hb1
    go_wp2_with fail
    go_ret
    exact ⟨rfl, HUW.out _⟩
  have d1 : decide ((50 : Int) < (S.length : Int)) = false := decide_eq_false (by omega)
  by_cases c3 : T.length ≤ 50
  case neg =>
    have d2 : decide ((50 : Int) < (T.length : Int)) = true := decide_eq_true (by omega)
    clear c1 c2 c3
    go_wp2_with fail
    refine (KN.out _).mono ?_
    rintro e w1 ⟨rfl, hb1⟩
    obtain ⟨uk, rfl⟩ := ovr_next hb1
    clear hb1
    go_wp2_with fail
    go_ret
    exact ⟨rfl, HUW.out _⟩
  have d2 : decide ((50 : Int) < (T.length : Int)) = false := decide_eq_false (by omega)
  have HC : Hid (x.s.length ≤ 50 ∧ S.length ≤ 50 ∧ T.length ≤ 50) := ⟨c1, c2, c3⟩
  clear c1 c2 c3
  go_upto_region 3 with fail
  have S0 : Hid (StL w [(w.heap.size + 1, flA f S T SA TA sn tn, 60), (w.heap.size, shA x A n, 37)] (ovr W u0)) := ⟨HUW.out u0, fun y hy => by
    rcases List.mem_cons.1 hy with rfl | hy
    · exact RrowW1.out u0
    rcases List.mem_cons.1 hy with rfl | hy
    · exact RrowW0.out u0
    cases hy⟩
  refine name_w fun V hV => ?_
  rw [← hV] at S0
  clear hV HUW RrowW0 RrowW1 d0 d1 d2
  have CO : Hid (∀ z, Calls Try.prog 22 #[.agg (shA x A n)] (ovr V z) (RetOs (ovr V z) x)) := fun z => ownSheet_any x A n _ w.heap.size (by have := HC.out; omega) (S0.out.below (ovr_below V z)).1.size (HRD.out _ (S0.out.below (ovr_below V z)).1).1
  have CF : Hid (∀ z, Calls Try.prog 35 #[.agg (flA f S T SA TA sn tn)] (ovr V z) (RetOf (ovr V z) f S T)) := fun z => ownFlat_any f S T SA TA sn tn _ w.heap.size (by have := HC.out; omega) (S0.out.below (ovr_below V z)).1.size (HRD.out _ (S0.out.below (ovr_below V z)).1).2.1 (HRD.out _ (S0.out.below (ovr_below V z)).1).2.2.1
  have f0 : ∀ u, (ovr V u).cell? ⟨w.heap.size, 0, none⟩ = some (I x.w) := cell_row9 (S0.out.tail.hd) (j := 0) rfl
  have f1 : ∀ u, (ovr V u).cell? ⟨w.heap.size, 1, none⟩ = some (I x.h) := cell_row9 (S0.out.tail.hd) (j := 1) rfl
  have f2 : ∀ u, (ovr V u).cell? ⟨w.heap.size, 2, none⟩ = some (I x.c.lo) := cell_row9 (S0.out.tail.hd) (j := 2) rfl
  have f3 : ∀ u, (ovr V u).cell? ⟨w.heap.size, 3, none⟩ = some (I x.c.hi) := cell_row9 (S0.out.tail.hd) (j := 3) rfl
  have f4 : ∀ u, (ovr V u).cell? ⟨w.heap.size, 4, none⟩ = some (.slice A x.s.length n) := cell_row9 (S0.out.tail.hd) (j := 4) rfl
  have f5 : ∀ u, (ovr V u).cell? ⟨w.heap.size + 1, 0, none⟩ = some (I f.n) := cell_row9 (S0.out.hd) (j := 0) rfl
  have f6 : ∀ u, (ovr V u).cell? ⟨w.heap.size + 1, 1, none⟩ = some (I f.d) := cell_row9 (S0.out.hd) (j := 1) rfl
  have f7 : ∀ u, (ovr V u).cell? ⟨w.heap.size + 1, 2, none⟩ = some (.slice SA S.length sn) := cell_row9 (S0.out.hd) (j := 2) rfl
  have f8 : ∀ u, (ovr V u).cell? ⟨w.heap.size + 1, 3, none⟩ = some (.slice TA T.length tn) := cell_row9 (S0.out.hd) (j := 3) rfl
  obtain ⟨pb, hpb⟩ : ∃ b, prX x f S T g = b := ⟨_, rfl⟩
  obtain ⟨pe, hpe⟩ : ∃ e, er9 (okSh x) = e := ⟨_, rfl⟩
  have HPB := Lib.hid hpb
  have HPE := Lib.hid hpe
  clear hpb hpe
  refine Gg.wp_region_make (fun j => if j = 1 then some (ShAt x) else if j = 3 then some (FlAt f S T) else if j = 5 then some (fun u _ => u = .tuple #[.bool pb, I pe]) else none) (by kernel_rfl) (by kernel_rfl) (by kernel_rfl) ?_
  repeat (first | (refine Gg.wpG_one rfl rfl rfl ?_; intro K hK; go_big_quiet_op; go_big_quiet_on) | (refine Gg.wpG_skip rfl ?_; simp only [Act.put, List.setIfInBounds_toArray, List.set_cons_zero, List.set_cons_succ]))
  refine Gg.wpG_make (ShAt x) rfl rfl (fun w' hw' hk => ?_) (fun u hu => ?_)
  · obtain ⟨z, rfl⟩ := hw'
    go_simp
    exact os_grow (CO.out z)
  obtain ⟨_, _, A2, c2, rfl, _, _⟩ := hu
  simp only [Act.put, List.setIfInBounds_toArray, List.set_cons_zero, List.set_cons_succ]
  repeat (first | (refine Gg.wpG_one rfl rfl rfl ?_; intro K hK; go_big_quiet_op; go_big_quiet_on) | (refine Gg.wpG_skip rfl ?_; simp only [Act.put, List.setIfInBounds_toArray, List.set_cons_zero, List.set_cons_succ]))
  refine Gg.wpG_make (FlAt f S T) rfl rfl (fun w' hw' hk => ?_) (fun u hu => ?_)
  · obtain ⟨z, rfl⟩ := hw'
    go_simp
    exact of_grow (CF.out z)
  obtain ⟨_, _, A3, m3, A4, m4, rfl, _, _⟩ := hu
  simp only [Act.put, List.setIfInBounds_toArray, List.set_cons_zero, List.set_cons_succ]
  repeat (first | (refine Gg.wpG_one rfl rfl rfl ?_; intro K hK; go_big_quiet_op; go_big_quiet_on) | (refine Gg.wpG_skip rfl ?_; simp only [Act.put, List.setIfInBounds_toArray, List.set_cons_zero, List.set_cons_succ]))
  refine Gg.wpG_make (fun u _ => u = .tuple #[.bool pb, I pe]) rfl rfl (fun w' hw' hk => ?_) (fun u hu => ?_)
  · have q1 := (hk ⟨1, .data⟩ (by simp) rfl _ _ _ rfl (.inr (by simp [undef])) rfl (by simp) rfl).now.at
    have q2 := (hk ⟨3, .data⟩ (by simp) rfl _ _ _ rfl (.inr (by simp [undef])) rfl (by simp) rfl).now.at
    go_simp
    have hc := proves_any x f S T g A2 c2 A3 A4 m3 m4 w' w'.heap.size (Nat.le_refl _) q1.2 q2.1 q2.2 (by have := HC.out; unfold maxLen; omega)
    rw [HPB.out, HPE.out] at hc
    exact call_grow hc
  obtain ⟨_, _, rfl⟩ := hu
  simp only [Act.put, List.setIfInBounds_toArray, List.set_cons_zero, List.set_cons_succ]
  repeat (first | (refine Gg.wpG_one rfl rfl rfl ?_; intro K hK; go_big_quiet_op; go_big_quiet_on) | (refine Gg.wpG_skip rfl ?_; simp only [Act.put, List.setIfInBounds_toArray, List.set_cons_zero, List.set_cons_succ]))
  refine Gg.wpG_nil (fun w5 hw5 hG => ?_)
  have S1 := Lib.hid (S0.out.below hw5.le)
  clear hG hw5 S0 f0 f1 f2 f3 f4 f5 f6 f7 f8 CO CF
  go_upto_region 4 with fail
  have CR := Lib.hid (refSheet_any x A n w5 w.heap.size (HRD.out _ S1.out.1).2.2.2 (HRD.out _ S1.out.1).1 HM1.out)
  rcases ho : okSh x with _ | _
  case false =>
    as_aux_lemma =>
      rw [ho] at CR
      obtain rfl : pe = 2 := by rw [← HPE.out, ho]; rfl
      obtain rfl : pb = false := by rw [← HPB.out]; unfold prX; rw [ho]; rfl
      clear ho
      go_wp2_with (with_reducible show wpList _ _ _ _ _ _; refine wpList_load_row9 rfl 37 _ rfl w.heap.size rfl (shA x A n) _ _ _ S1.out.tail.hd Try.underlying37 rfl (by kernel_rfl) ?_)
      refine CR.out.mono ?_
      rintro e w6 ⟨rfl, hb⟩
      have S2 := Lib.hid (S1.out.below hb)
      clear hb CR S1
      go_wp2_with fail
      refine (KN.out _).mono ?_
      rintro e wk ⟨rfl, hb⟩
      have SK := Lib.hid (S2.out.below hb)
      clear hb
      go_wp2_with fail
      go_ret
      exact ⟨rfl, SK.out.1⟩
  case true =>
    as_aux_lemma =>
      rw [ho] at CR
      have HO := Lib.hid ho
      obtain rfl : pe = 0 := by rw [← HPE.out, ho]; rfl
      have HPR : Hid (prR x f S T g = pb) := by show _ = _; rw [← HPB.out]; unfold prX; rw [ho]; rfl
      have qb : (pb == pb) = true := beq_self_eq_true pb
      clear ho
      go_wp2_with (with_reducible show wpList _ _ _ _ _ _; refine wpList_load_row9 rfl 37 _ rfl w.heap.size rfl (shA x A n) _ _ _ S1.out.tail.hd Try.underlying37 rfl (by kernel_rfl) ?_)
      refine CR.out.mono ?_
      rintro e w6 ⟨rfl, hb⟩
      have S2 := Lib.hid (S1.out.below hb)
      clear hb CR S1
      have CP := Lib.hid (refProves_any x f S T g A n SA TA sn tn w6 w.heap.size HO.out (HRD.out _ S2.out.1).2.2.2 (HRD.out _ S2.out.1).1 (HRD.out _ S2.out.1).2.1 (HRD.out _ S2.out.1).2.2.1 (by have := HC.out; unfold maxLen; omega))
      rw [HPR.out] at CP
      go_wp2_with (first | (with_reducible show wpList _ _ _ _ _ _; refine wpList_load_row9 rfl 37 _ rfl w.heap.size rfl (shA x A n) _ _ _ S2.out.tail.hd Try.underlying37 rfl (by kernel_rfl) ?_) | (with_reducible show wpList _ _ _ _ _ _; refine wpList_load_row9 rfl 60 _ rfl (w.heap.size + 1) rfl (flA f S T SA TA sn tn) _ _ _ S2.out.hd Try.underlying60 rfl (by kernel_rfl) ?_))
      refine CP.out.mono ?_
      rintro e w7 ⟨rfl, hb⟩
      have S3 := Lib.hid (S2.out.below hb)
      clear hb CP S2
      go_wp2_with fail
      refine (KN.out _).mono ?_
      rintro e wk ⟨rfl, hb⟩
      have SK := Lib.hid (S3.out.below hb)
      clear hb
      go_wp2_with fail
      go_ret
      exact ⟨rfl, SK.out.1⟩
end Go.Proofs.Ytljjpidigckheaa.Un
