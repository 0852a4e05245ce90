/- bouleref09.Proves. -/
import Derived.Test.YtljjpidigckheaaOsh
import Derived.Test.YtljjpidigckheaaR1s
import Derived.Test.YtljjpidigckheaaJp
namespace Go.Proofs.Ytljjpidigckheaa.Un
open Go.RowKit
set_option maxRecDepth 100000 in
set_option maxHeartbeats 8000000 in
theorem refProves_any (x : Sht) (f : Frc) (S T : List Int) (g : Bool) (A : Option Addr) (n : Nat) (SA TA : Option Addr) (sn tn : Nat) (w : World) (B : Nat) (ho : okSh x = true) (hB : B ≤ w.heap.size) (hx : Rd w B 2 A x.s.length (rR x.s)) (hs : Rd w B 1 SA S.length (rI S)) (ht : Rd w B 1 TA T.length (rI T)) (hm : S.length ≤ maxLen ∧ T.length ≤ maxLen) :
 Calls Try.prog 33 #[.agg (shA x A n), .agg #[I f.n, I f.d, .slice SA S.length sn, .slice TA T.length tn], .bool g] w fun e w' => e = .returned (.bool (prR x f S T g)) ∧ Below w.heap.size w w' := by
 have HRD : Hid (∀ V, Below w.heap.size w V → Rd V B 2 A x.s.length (rR x.s) ∧ Rd V B 1 SA S.length (rI S) ∧ Rd V B 1 TA T.length (rI T) ∧ B ≤ V.heap.size) := fun V hV => ⟨hx.below (hV.mono hB), hs.below (hV.mono hB), ht.below (hV.mono hB), Nat.le_trans hB hV.size⟩
 have HM := Lib.hid hm
 have HO := Lib.hid ho
 have HRF : Hid (prR x f S T g = if fok f = true ∧ S.length = T.length ∧ S.length ≤ x.s.length then if S.length = 0 then decide (f.n = 0) else prK x.s.length x.w (at0 x.s) g S T S.length && prEnd (prS x.w (at0 x.s) g S T S.length) f else false) := rfl
 have CF := Lib.hid fun V => refFrac_any f V
 clear hx hB hs ht hm ho
 obtain ⟨W, hW⟩ : ∃ W, W = ((w.alloc (.cells #[I x.w, I x.h, I x.c.lo, I x.c.hi, .slice A x.s.length n] 37)).alloc (.cells #[I f.n, I f.d, .slice SA S.length sn, .slice TA T.length tn] 60)) := ⟨_, rfl⟩
 have rowW0 : W.heap[w.heap.size]? = some (.cells #[I x.w, I x.h, I x.c.lo, I x.c.hi, .slice A x.s.length n] 37 (0, 0)) := by rw [hW]; exact heap_before (heap_last _ _ _ rfl)
 have yW00 := ovr_cell (W := W) (b := w.heap.size) (o := 0) (v := I x.w) (by rw [cell_of_row _ _ _ _ _ _ rowW0]; rfl)
 have yW01 := ovr_cell (W := W) (b := w.heap.size) (o := 1) (v := I x.h) (by rw [cell_of_row _ _ _ _ _ _ rowW0]; rfl)
 have yW02 := ovr_cell (W := W) (b := w.heap.size) (o := 2) (v := I x.c.lo) (by rw [cell_of_row _ _ _ _ _ _ rowW0]; rfl)
 have yW03 := ovr_cell (W := W) (b := w.heap.size) (o := 3) (v := I x.c.hi) (by rw [cell_of_row _ _ _ _ _ _ rowW0]; rfl)
 have yW04 := ovr_cell (W := W) (b := w.heap.size) (o := 4) (v := .slice A x.s.length n) (by rw [cell_of_row _ _ _ _ _ _ rowW0]; rfl)
 have RrowW0 := Lib.hid (ovr_row rowW0)
 clear rowW0
 have rowW1 : W.heap[w.heap.size + 1]? = some (.cells #[I f.n, I f.d, .slice SA S.length sn, .slice TA T.length tn] 60 (0, 0)) := by rw [hW]; exact heap_last _ _ _ (by simp)
 have yW10 := ovr_cell (W := W) (b := w.heap.size + 1) (o := 0) (v := I f.n) (by rw [cell_of_row _ _ _ _ _ _ rowW1]; rfl)
 have yW11 := ovr_cell (W := W) (b := w.heap.size + 1) (o := 1) (v := I f.d) (by rw [cell_of_row _ _ _ _ _ _ rowW1]; rfl)
 have yW12 := ovr_cell (W := W) (b := w.heap.size + 1) (o := 2) (v := .slice SA S.length sn) (by rw [cell_of_row _ _ _ _ _ _ rowW1]; rfl)
 have yW13 := ovr_cell (W := W) (b := w.heap.size + 1) (o := 3) (v := .slice TA T.length tn) (by rw [cell_of_row _ _ _ _ _ _ rowW1]; rfl)
 have RrowW1 := Lib.hid (ovr_row rowW1)
 clear rowW1
 have HUW : Hid (∀ u, Below w.heap.size w (ovr W u)) := U2 hW
 have HW := Lib.hid hW
 clear hW
 go_enter Try.func33, Try.ntmps33
 go_upto_region 1 with (fail)
 rw [← HW.out]
 obtain ⟨u0, hu0⟩ := ovr_self W
 rw [hu0]
 clear hu0
 have S0 : Hid (StL w [(w.heap.size + 1, #[I f.n, I f.d, .slice SA S.length sn, .slice TA T.length tn], 60), (w.heap.size, shA x A n, 37)] (ovr W u0)) := ⟨HUW.out u0, fun y hy => by
  rcases List.mem_cons.1 hy with rfl | hy
  · exact RrowW1.out u0
  rcases List.mem_cons.1 hy with rfl | hy
  · exact RrowW0.out u0
  cases hy⟩
 by_cases h1 : S.length = T.length
 case neg =>
  have HF : Hid (prR x f S T g = false) := by show _ = _; rw [HRF.out, if_neg (fun h => h1 h.2.1)]
  have d1 : ((S.length : Int) != (T.length : Int)) = true := bne_iff_ne.2 (by omega)
  clear h1
  go_wp2_with fail
  go_ret
  exact ⟨by rw [HF.out]; rfl, S0.out.1⟩
 have d1 : ((S.length : Int) != (T.length : Int)) = false := by rw [bne_eq_false_iff_eq]; omega
 have HL1 := Lib.hid h1
 clear h1
 have h36 := sh_small HO.out
 by_cases h2 : S.length ≤ 36
 case neg =>
  have HF : Hid (prR x f S T g = false) := by show _ = _; rw [HRF.out, if_neg (fun h => by have := h.2.2; omega)]
  have d2 : decide ((36 : Int) < (S.length : Int)) = true := decide_eq_true (by omega)
  clear h2
  go_wp2_with fail
  go_ret
  exact ⟨by rw [HF.out]; rfl, S0.out.1⟩
 have d2 : decide ((36 : Int) < (S.length : Int)) = false := decide_eq_false (by omega)
 rcases hk : fok f with _ | _
 · have HF : Hid (prR x f S T g = false) := by show _ = _; rw [HRF.out, if_neg (fun h => by rw [hk] at h; cases h.1)]
   rw [hk] at CF
   clear hk h2
   go_wp2_with fail
   refine (CF.out _).mono ?_
   rintro e w1 ⟨rfl, hb⟩
   have S1 := Lib.hid (S0.out.below hb)
   clear hb S0
   go_wp2_with fail
   go_ret
   exact ⟨by rw [HF.out]; rfl, S1.out.1⟩
 rw [hk] at CF
 have HK := Lib.hid hk
 have HS36 := Lib.hid h2
 clear hk h2
 go_wp2_with fail
 refine (CF.out _).mono ?_
 rintro e w1 ⟨rfl, hb⟩
 have S1 := Lib.hid (S0.out.below hb)
 clear hb S0 CF HUW RrowW0 RrowW1 d1 d2
 go_wp2_with fail
 go_loopw [12, 7, 8, 9, 10, 11] (fun iv s0 s1 s2 sz sv wr => ∃ k : Nat, k ≤ S.length ∧ iv = .int .i64 k ∧ s0 = I (prS x.w (at0 x.s) g S T k).m0 ∧ s1 = I (prS x.w (at0 x.s) g S T k).m1 ∧ s2 = I (prS x.w (at0 x.s) g S T k).m2 ∧ sz = I (prS x.w (at0 x.s) g S T k).sz ∧ sv = I (prS x.w (at0 x.s) g S T k).z ∧ prK x.s.length x.w (at0 x.s) g S T k = true ∧ StL w [(w.heap.size + 1, #[I f.n, I f.d, .slice SA S.length sn, .slice TA T.length tn], 60), (w.heap.size, shA x A n, 37)] wr) (fun iv _ _ _ _ _ _ => S.length - (intOf iv).toNat)
 case atStart => exact ⟨0, Nat.zero_le _, rfl, rfl, rfl, rfl, rfl, rfl, rfl, S1.out⟩
 case round =>
  obtain ⟨k, hk, rfl, rfl, rfl, rfl, rfl, rfl, hok, hst⟩ := hrel
  rename World => V
  have HST := Lib.hid (And.intro hok hst)
  clear S1 hst hok
  have hbd := prS_at HO.out HST.out.1
  have rf := HST.out.2.hd
  have f2 : V.cell? ⟨w.heap.size + 1, 2, none⟩ = some (.slice SA S.length sn) := (cell_of_row _ _ 2 _ _ _ rf).trans rfl
  by_cases hlt : k < S.length
  case neg =>
   obtain rfl : k = S.length := by omega
   have ki : decide ((S.length : Int) < (S.length : Int)) = false := decide_eq_false (by omega)
   have HSL : Hid (S.length ≤ x.s.length) := by
        show _ ≤ _
        have := hbd.last
        omega
   have HRF : Hid (prR x f S T g = if S.length = 0 then decide (f.n = 0) else prEnd (prS x.w (at0 x.s) g S T S.length) f) := by
        show _ = _
        rw [HRF.out, if_pos ⟨HK.out, HL1.out, HSL.out⟩, HST.out.1, Bool.true_and]
   have HST := Lib.hid HST.out.2
   have f0 : V.cell? ⟨w.heap.size + 1, 0, none⟩ = some (I f.n) := (cell_of_row _ _ 0 _ _ _ rf).trans rfl
   have f1 : V.cell? ⟨w.heap.size + 1, 1, none⟩ = some (I f.d) := (cell_of_row _ _ 1 _ _ _ rf).trans rfl
   have hl36 := HS36.out
   by_cases h3 : S.length = 0
   · have HF : Hid (prR x f S T g = decide (f.n = 0)) := by show _ = _; rw [HRF.out, if_pos h3]
     have d3 : ((S.length : Int) == 0) = true := by rw [beq_iff_eq]; omega
     have d4 : (f.n == 0) = decide (f.n = 0) := rfl
     clear h3 hk hlt hbd rf hl36
     go_wp2_with fail
     go_ret
     exact ⟨by rw [HF.out]; rfl, HST.out.1⟩
   have HRF : Hid (prR x f S T g = prEnd (prS x.w (at0 x.s) g S T S.length) f) := by show _ = _; rw [HRF.out, if_neg h3]
   have d3 : ((S.length : Int) == 0) = false := by rw [beq_eq_false_iff_ne]; omega
   obtain ⟨E, hE⟩ : ∃ E, prS x.w (at0 x.s) g S T S.length = E := ⟨_, rfl⟩
   rw [hE] at hbd HRF ⊢
   have HPE : Hid (prR x f S T g = (decide (E.m0 = 0) && (decide (E.m1 = 0) && (decide (E.m2 = 0) && decide (fcm ⟨E.z, E.sz⟩ f = 0))))) := HRF.out
   have hfk := fok_iff.1 HK.out
   have CC : Hid (∀ V, Calls Try.prog 71 #[I E.z, I E.sz, I f.n, I f.d] V fun e w' => e = .returned (I (fcm ⟨E.z, E.sz⟩ f)) ∧ Below V.heap.size V w') := fun V => cmp4_any (E.sz + f.d).toNat _ _ _ _ V (by have := hbd.z; omega) (by omega) (by have := hbd.sz; omega) (by omega) (by omega)
   obtain ⟨cm, hcm⟩ : ∃ c, fcm ⟨E.z, E.sz⟩ f = c := ⟨_, rfl⟩
   rw [hcm] at CC HPE
   clear hk hlt hE hbd rf hl36 hfk hcm h3
   by_cases c0 : E.m0 = 0
   case neg =>
        have HF : Hid (prR x f S T g = false) := by show _ = _; rw [HPE.out, decide_eq_false c0]; rfl
        have q0 : (E.m0 == 0) = false := by rw [beq_eq_false_iff_ne]; exact c0
        clear c0
        go_wp2_with fail
        go_ret
        exact ⟨by rw [HF.out]; rfl, HST.out.1⟩
   have q0 : (E.m0 == 0) = true := by rw [c0]; rfl
   by_cases c1 : E.m1 = 0
   case neg =>
        have HF : Hid (prR x f S T g = false) := by show _ = _; rw [HPE.out, decide_eq_false c1]; simp
        have q1 : (E.m1 == 0) = false := by rw [beq_eq_false_iff_ne]; exact c1
        clear c0 c1
        go_wp2_with fail
        go_ret
        exact ⟨by rw [HF.out]; rfl, HST.out.1⟩
   have q1 : (E.m1 == 0) = true := by rw [c1]; rfl
   by_cases c2 : E.m2 = 0
   case neg =>
        have HF : Hid (prR x f S T g = false) := by show _ = _; rw [HPE.out, decide_eq_false c2]; simp
        have q2 : (E.m2 == 0) = false := by rw [beq_eq_false_iff_ne]; exact c2
        clear c0 c1 c2
        go_wp2_with fail
        go_ret
        exact ⟨by rw [HF.out]; rfl, HST.out.1⟩
   have q2 : (E.m2 == 0) = true := by rw [c2]; rfl
   have HF : Hid (prR x f S T g = decide (cm = 0)) := by show _ = _; rw [HPE.out, decide_eq_true c0, decide_eq_true c1, decide_eq_true c2]; rfl
   clear c0 c1 c2
   go_wp2_with fail
   refine (CC.out _).mono ?_
   rintro e w2 ⟨rfl, hb⟩
   have S2 := Lib.hid (HST.out.below hb)
   have d4 : (cm == 0) = decide (cm = 0) := rfl
   clear hb HST
   go_wp2_with fail
   go_ret
   exact ⟨by rw [HF.out]; rfl, S2.out.1⟩
  have HLT := Lib.hid hlt
  have hLL := HS36.out
  have ki : decide ((k : Int) < (S.length : Int)) = true := decide_eq_true (by omega)
  have hk36 : k ≤ 36 := by omega
  have hkT : k < T.length := by rw [← HL1.out]; exact hlt
  have f3 : V.cell? ⟨w.heap.size + 1, 3, none⟩ = some (.slice TA T.length tn) := (cell_of_row _ _ 3 _ _ _ rf).trans rfl
  have HNX : Hid (prS x.w (at0 x.s) g S T (k + 1) = prT x.w (at0 x.s) g (prS x.w (at0 x.s) g S T k) (at0 S k) (at0 T k)) := rfl
  have HNK : Hid (prK x.s.length x.w (at0 x.s) g S T (k + 1) = (prK x.s.length x.w (at0 x.s) g S T k && prB x.s.length (prS x.w (at0 x.s) g S T k) (at0 S k) (at0 T k))) := rfl
  have HLAST : Hid (∀ q, k = q + 1 → (prS x.w (at0 x.s) g S T k).last = at0 S q) := fun q hq => by subst hq; rfl
  have HLAS0 : Hid (k = 0 → (prS x.w (at0 x.s) g S T k).last = -1) := fun hq => by subst hq; rfl
  have HPREV : Hid (∀ q, k = q + 1 → q < S.length) := fun q hq => by omega
  obtain ⟨E, hE⟩ : ∃ E, prS x.w (at0 x.s) g S T k = E := ⟨_, rfl⟩
  rw [hE] at hbd HNX HNK HLAST HLAS0 ⊢
  obtain ⟨a, ha⟩ : ∃ a, at0 S k = a := ⟨_, rfl⟩
  obtain ⟨c, hc⟩ : ∃ c, at0 T k = c := ⟨_, rfl⟩
  have HAE := Lib.hid ha
  have HCE := Lib.hid hc
  rw [ha, hc] at HNX HNK
  have HBAD : Hid (¬ (E.last < a ∧ a < (x.s.length : Int) ∧ -1000000 ≤ c ∧ c ≤ 1000000 ∧ c ≠ 0) → prR x f S T g = false) := fun h => by
   have hb : prB x.s.length E a c = false := by
        rcases hq : prB x.s.length E a c with _ | _
        · rfl
        · exact absurd (prB_iff.1 hq) h
   rw [HRF.out]
   split
   · rw [if_neg (by have := HLT.out; omega)]
     rcases hq : prK x.s.length x.w (at0 x.s) g S T S.length with _ | _
     · rfl
     · have := prK_le (show k + 1 ≤ S.length from HLT.out) hq
       rw [HNK.out, hb, Bool.and_false] at this
       cases this
   · rfl
  have HBD := Lib.hid hbd
  have HST2 := Lib.hid HST.out.2
  clear hk hE ha hc hlt
  go_upto_region 7 with fail
  obtain ⟨sb, so, hSA, _, e0⟩ := rd_int9 (HRD.out V HST2.out.1).2.1 HLT.out
  obtain ⟨tb, tq, hTA, _, t0⟩ := rd_int9 (HRD.out V HST2.out.1).2.2.1 hkT
  rw [hSA] at f2
  rw [hTA] at f3
  rw [HAE.out] at e0
  rw [HCE.out] at t0
  have HSA := Lib.hid hSA
  have v1 := ovr_cell f2
  have v2 := ovr_cell f3
  have v3 := ovr_cell e0
  have v4 := ovr_cell t0
  clear hSA hTA rf
  refine Gg.wp_region_make (fun _ => none) (by kernel_rfl) (by kernel_rfl) (by kernel_rfl) ?_
  repeat (first | (refine Gg.wpG_one rfl rfl rfl ?_; intro K hK; go_big_quiet_op; go_big_quiet_on) | (refine Gg.wpG_skip rfl ?_; simp only [Act.put, List.setIfInBounds_toArray, List.set_cons_zero, List.set_cons_succ]))
  refine Gg.wpG_nil (fun w5 hw5 hG => ?_)
  have S3 := Lib.hid (HST2.out.below hw5.le)
  clear hG hw5 v1 v2 v3 v4 f2 f3 e0 t0 HST2
  go_upto_region 8 with fail
  have rf := S3.out.hd
  have rsx := S3.out.tail.hd
  have f2 : w5.cell? ⟨w.heap.size + 1, 2, none⟩ = some (.slice (some ⟨sb, so, none⟩) S.length sn) := (cell_of_row _ _ 2 _ _ _ rf).trans (by rw [HSA.out]; rfl)
  have x4 : w5.cell? ⟨w.heap.size, 4, none⟩ = some (.slice A x.s.length n) := (cell_of_row _ _ 4 _ _ _ rsx).trans rfl
  have x0 : w5.cell? ⟨w.heap.size, 0, none⟩ = some (I x.w) := (cell_of_row _ _ 0 _ _ _ rsx).trans rfl
  clear rf rsx
  by_cases c0 : a < 0
  · have HF := Lib.hid (HBAD.out fun h => by have := HBD.out.last; omega)
    have d0 : decide (a < 0) = true := decide_eq_true c0
    clear c0
    go_wp2_with fail
    go_ret
    exact ⟨by rw [HF.out]; rfl, S3.out.1⟩
  have d0 : decide (a < 0) = false := decide_eq_false c0
  by_cases c2 : a < (x.s.length : Int)
  case neg =>
   have HF := Lib.hid (HBAD.out fun h => c2 h.2.1)
   have d2 : decide ((x.s.length : Int) ≤ a) = true := decide_eq_true (by omega)
   clear c0 c2
   go_wp2_with fail
   go_ret
   exact ⟨by rw [HF.out]; rfl, S3.out.1⟩
  have d2 : decide ((x.s.length : Int) ≤ a) = false := decide_eq_false (by omega)
  refine name_w fun V5 hV5 => ?_
  rw [← hV5] at S3 f2 x4 x0
  have HV5 := Lib.hid hV5
  clear hV5
  have HPR : Hid ((k = 0 ∧ E.last < a) ∨ (∃ q : Nat, k = q + 1 ∧ V5.cell? ⟨sb, so + q, none⟩ = some (I E.last))) := by
   show _ ∨ _
   rcases Nat.eq_zero_or_pos k with h | h
   · left
     have := HLAS0.out h
     omega
   · right
     refine ⟨k - 1, by omega, ?_⟩
     have hq : k - 1 < S.length := HPREV.out _ (by omega)
     obtain ⟨sb', so', hS2, _, e1⟩ := rd_int9 (HRD.out V5 S3.out.1).2.1 hq
     rw [HSA.out] at hS2
     injection hS2 with hS2
     injection hS2 with i1 i2
     subst i1 i2
     rw [e1, HLAST.out (k - 1) (by omega)]
  rcases HPR.out with ⟨h0, hl⟩ | ⟨q, hq, hcq⟩
  · skip
    as_aux_lemma =>
        have p0 : decide ((0 : Int) < (k : Int)) = false := decide_eq_false (by omega)
        have p1 : decide (0 < k) = false := decide_eq_false (by omega)
        have c1 := hl
        clear h0 hl
        by_cases c3 : -1000000 ≤ c
        case neg =>
         have HF := Lib.hid (HBAD.out fun h => c3 h.2.2.1)
         have d3 : decide (c < -1000000) = true := decide_eq_true (by omega)
         clear c0 c1 c2 c3 hLL hk36 hkT h36 hbd
         go_wp2_with fail
         go_ret
         exact ⟨by rw [HF.out]; rfl, S3.out.1⟩
        have d3 : decide (c < -1000000) = false := decide_eq_false (by omega)
        by_cases c4 : c ≤ 1000000
        case neg =>
         have HF := Lib.hid (HBAD.out fun h => c4 h.2.2.2.1)
         have d4 : decide (1000000 < c) = true := decide_eq_true (by omega)
         clear c0 c1 c2 c3 c4 hLL hk36 hkT h36 hbd
         go_wp2_with fail
         go_ret
         exact ⟨by rw [HF.out]; rfl, S3.out.1⟩
        have d4 : decide (1000000 < c) = false := decide_eq_false (by omega)
        by_cases c5 : c = 0
        · have HF := Lib.hid (HBAD.out fun h => h.2.2.2.2 c5)
          have d5 : (c == 0) = true := beq_iff_eq.2 c5
          clear c0 c1 c2 c3 c4 c5 hLL hk36 hkT h36 hbd
          go_wp2_with fail
          go_ret
          exact ⟨by rw [HF.out]; rfl, S3.out.1⟩
        have d5 : (c == 0) = false := by rw [beq_eq_false_iff_ne]; exact c5
        have hpb : prB x.s.length E a c = true := prB_iff.2 ⟨c1, c2, c3, c4, c5⟩
        have HPK : Hid (prK x.s.length x.w (at0 x.s) g S T (k + 1) = true) := by show _ = _; rw [HNK.out, HST.out.1, hpb]; rfl
        have hxok := okSh_iff.1 HO.out
        have hbd2 := PrBd.next (W := x.w) (z := at0 x.s) (g := g) hbd (by omega) h36 (fun j hj => sh_z HO.out j hj) hpb
        have hW0 : 2 ≤ x.w ∧ x.w ≤ 6 := by omega
        clear hxok
        go_upto_region 10 with fail
        obtain ⟨an, rfl⟩ : ∃ n : Nat, a = (n : Int) := ⟨a.toNat, by omega⟩
        have ha0 : 0 ≤ (an : Int) ∧ (an : Int) < 36 := by omega
        obtain ⟨px, hpx⟩ : ∃ p, (an : Int) % x.w = p := ⟨_, rfl⟩
        obtain ⟨py, hpy⟩ : ∃ p, (an : Int) / x.w = p := ⟨_, rfl⟩
        have hpx5 : 0 ≤ px ∧ px < 6 := by
         have := Int.emod_nonneg (an : Int) (show x.w ≠ 0 by omega)
         have := Int.emod_lt_of_pos (an : Int) (show 0 < x.w by omega)
         omega
        have hpy5 : 0 ≤ py ∧ py ≤ 36 := by
         have := Int.ediv_nonneg ha0.1 (show 0 ≤ x.w by omega)
         have := Int.ediv_le_self x.w ha0.1
         omega
        have t1 : Int.tmod (an : Int) x.w = px := by rw [← hpx]; exact Int.tmod_eq_emod_of_nonneg ha0.1
        have t2 : Int.tdiv (an : Int) x.w = py := by rw [← hpy]; exact Int.tdiv_eq_ediv_of_nonneg ha0.1
        have j1 : IntKind.i64.wrap px = px := IntWalk.i64_in _ (by omega)
        have j2 : IntKind.i64.wrap py = py := IntWalk.i64_in _ (by omega)
        rw [show prT x.w (at0 x.s) g E (an : Int) c = ⟨E.m0 + c, E.m1 + c * px, E.m2 + c * py, E.z + tm9 c (at0 x.s an) g, E.sz + max c (-c), (an : Int)⟩ by unfold prT; rw [hpx, hpy]; rfl] at HNX hbd2
        have HB2 := Lib.hid hbd2
        have v00 := ovr_cell x0
        have hx0 : (x.w = 0) = False := eq_false (by omega)
        have HAA := Lib.hid (And.intro ha0 (And.intro c2 (And.intro c3 c4)))
        have m1 : IntKind.i64.wrap (E.m0 + c) = E.m0 + c := IntWalk.i64_in _ (by have := HB2.out.m0; simp only at this; omega)
        have b1 := mul_bd (a := c) (b := px) (A := 1000000) (B := 6) (by have := HAA.out; omega) (by omega)
        have b2 := mul_bd (a := c) (b := py) (A := 1000000) (B := 36) (by have := HAA.out; omega) (by omega)
        have m2 : IntKind.i64.wrap (c * px) = c * px := IntWalk.i64_in _ (by omega)
        have m3 : IntKind.i64.wrap (E.m1 + c * px) = E.m1 + c * px := IntWalk.i64_in _ (by have := HB2.out.m1; simp only at this; omega)
        have m4 : IntKind.i64.wrap (c * py) = c * py := IntWalk.i64_in _ (by omega)
        have m5 : IntKind.i64.wrap (E.m2 + c * py) = E.m2 + c * py := IntWalk.i64_in _ (by have := HB2.out.m2; simp only at this; omega)
        have ks : wrap64 (-c) = -c := by have := HAA.out; unfold wrap64; omega
        have kz : IntKind.i64.wrap (E.sz + max c (-c)) = E.sz + max c (-c) := IntWalk.i64_in _ (by have := HB2.out.sz; simp only at this; omega)
        clear b1 b2 c0 c1 c2 c3 c4 c5 hpb hbd hbd2 hLL hpx hpy HBAD f2 x4 x0
        refine Gg.wp_region_make (fun _ => none) (by kernel_rfl) (by kernel_rfl) (by kernel_rfl) ?_
        repeat (first | (refine Gg.wpG_one rfl rfl rfl ?_; intro K hK; go_big_quiet_op; go_big_quiet_on) | (refine Gg.wpG_skip rfl ?_; simp only [Act.put, List.setIfInBounds_toArray, List.set_cons_zero, List.set_cons_succ]))
        refine Gg.wpG_nil (fun w5 hw5 hG => ?_)
        have S6 := Lib.hid (S3.out.below hw5.le)
        clear hG hw5 S3 v00 t1 t2 j1 j2 hx0 m1 m2 m3 m4 m5 ks kz hpx5 hpy5
        rename World => V6
        go_upto_region 11 with fail
        have hlen : an < x.s.length := by have := HAA.out; omega
        obtain ⟨xb, xo, rfl, _, e0, e1⟩ := (HRD.out V6 S6.out.1).1.rng hlen
        have x4 : V6.cell? ⟨w.heap.size, 4, none⟩ = some (.slice (some ⟨xb, xo, none⟩) x.s.length n) := (cell_of_row _ _ 4 _ _ _ S6.out.tail.hd).trans rfl
        have hrng := sh_z HO.out an hlen
        obtain ⟨r, hr⟩ : ∃ r, at0 x.s an = r := ⟨_, rfl⟩
        rw [hr] at e0 e1 HNX HB2 hrng
        have hHz := HB2.out.z
        simp only at hHz
        have hcc : -1000000 ≤ c ∧ c ≤ 1000000 := by have := HAA.out; omega
        have b1 := mul_bd (a := c) (b := r.hi) (A := 1000000) (B := 1000000) hcc (by omega)
        have b2 := mul_bd (a := c) (b := r.lo) (A := 1000000) (B := 1000000) hcc (by omega)
        have l1 : IntKind.i64.wrap (c * r.hi) = c * r.hi := IntWalk.i64_in _ (by omega)
        have l2 : IntKind.i64.wrap (c * r.lo) = c * r.lo := IntWalk.i64_in _ (by omega)
        have hEz := HBD.out.z
        have l3 : IntKind.i64.wrap (E.z + c * r.hi) = E.z + c * r.hi := IntWalk.i64_in _ (by omega)
        have l4 : IntKind.i64.wrap (E.z + c * r.lo) = E.z + c * r.lo := IntWalk.i64_in _ (by omega)
        have HTM : Hid (tm9 c r g = if decide (0 < c) == g then c * r.hi else c * r.lo) := rfl
        clear hr hrng hHz b1 b2 hEz hcc
        rcases hg : (decide (0 < c) == g) with _ | _
        · have HTV : Hid (tm9 c r g = c * r.lo) := by show _ = _; rw [HTM.out, hg]; rfl
          have hg2 : (g == decide (0 < c)) = false := by rw [← hg]; cases g <;> cases decide (0 < c) <;> rfl
          clear hg
          go_wp2_with fail
          go_roundw
          case rel => exact ⟨k + 1, HLT.out, by go_num, by rw [HNX.out], by rw [HNX.out], by rw [HNX.out], by rw [HNX.out], by rw [HNX.out, HTV.out], HPK.out, S6.out⟩
          case measure => have := HLT.out; simp [intOf]; omega
        · have HTV : Hid (tm9 c r g = c * r.hi) := by show _ = _; rw [HTM.out, hg]; rfl
          have hg2 : (g == decide (0 < c)) = true := by rw [← hg]; cases g <;> cases decide (0 < c) <;> rfl
          clear hg
          go_wp2_with fail
          go_roundw
          case rel => exact ⟨k + 1, HLT.out, by go_num, by rw [HNX.out], by rw [HNX.out], by rw [HNX.out], by rw [HNX.out], by rw [HNX.out, HTV.out], HPK.out, S6.out⟩
          case measure => have := HLT.out; simp [intOf]; omega
  have p0 : decide ((0 : Int) < (k : Int)) = true := decide_eq_true (by omega)
  have p1 : decide (0 < k) = true := decide_eq_true (by omega)
  have p2 : IntKind.i64.wrap ((k : Int) - 1) = (q : Int) := (IntWalk.i64_in _ (by omega)).trans (by omega)
  have p3 : q < S.length := HPREV.out q hq
  by_cases c1 : E.last < a
  case neg =>
   as_aux_lemma =>
        have HF := Lib.hid (HBAD.out fun h => c1 h.1)
        have d1 : decide (a ≤ E.last) = true := decide_eq_true (by omega)
        clear c0 c1 c2 hq hLL hk36 hkT h36 hbd
        go_wp2_with fail
        go_ret
        exact ⟨by rw [HF.out]; rfl, S3.out.1⟩
  case pos =>
   as_aux_lemma =>
        have d1 : decide (a ≤ E.last) = false := decide_eq_false (by omega)
        clear hq
        by_cases c3 : -1000000 ≤ c
        case neg =>
         have HF := Lib.hid (HBAD.out fun h => c3 h.2.2.1)
         have d3 : decide (c < -1000000) = true := decide_eq_true (by omega)
         clear c0 c1 c2 c3 hLL hk36 hkT h36 hbd
         go_wp2_with fail
         go_ret
         exact ⟨by rw [HF.out]; rfl, S3.out.1⟩
        have d3 : decide (c < -1000000) = false := decide_eq_false (by omega)
        by_cases c4 : c ≤ 1000000
        case neg =>
         have HF := Lib.hid (HBAD.out fun h => c4 h.2.2.2.1)
         have d4 : decide (1000000 < c) = true := decide_eq_true (by omega)
         clear c0 c1 c2 c3 c4 hLL hk36 hkT h36 hbd
         go_wp2_with fail
         go_ret
         exact ⟨by rw [HF.out]; rfl, S3.out.1⟩
        have d4 : decide (1000000 < c) = false := decide_eq_false (by omega)
        by_cases c5 : c = 0
        · have HF := Lib.hid (HBAD.out fun h => h.2.2.2.2 c5)
          have d5 : (c == 0) = true := beq_iff_eq.2 c5
          clear c0 c1 c2 c3 c4 c5 hLL hk36 hkT h36 hbd
          go_wp2_with fail
          go_ret
          exact ⟨by rw [HF.out]; rfl, S3.out.1⟩
        have d5 : (c == 0) = false := by rw [beq_eq_false_iff_ne]; exact c5
        have hpb : prB x.s.length E a c = true := prB_iff.2 ⟨c1, c2, c3, c4, c5⟩
        have HPK : Hid (prK x.s.length x.w (at0 x.s) g S T (k + 1) = true) := by show _ = _; rw [HNK.out, HST.out.1, hpb]; rfl
        have hxok := okSh_iff.1 HO.out
        have hbd2 := PrBd.next (W := x.w) (z := at0 x.s) (g := g) hbd (by omega) h36 (fun j hj => sh_z HO.out j hj) hpb
        have hW0 : 2 ≤ x.w ∧ x.w ≤ 6 := by omega
        clear hxok
        go_upto_region 10 with fail
        obtain ⟨an, rfl⟩ : ∃ n : Nat, a = (n : Int) := ⟨a.toNat, by omega⟩
        have ha0 : 0 ≤ (an : Int) ∧ (an : Int) < 36 := by omega
        obtain ⟨px, hpx⟩ : ∃ p, (an : Int) % x.w = p := ⟨_, rfl⟩
        obtain ⟨py, hpy⟩ : ∃ p, (an : Int) / x.w = p := ⟨_, rfl⟩
        have hpx5 : 0 ≤ px ∧ px < 6 := by
         have := Int.emod_nonneg (an : Int) (show x.w ≠ 0 by omega)
         have := Int.emod_lt_of_pos (an : Int) (show 0 < x.w by omega)
         omega
        have hpy5 : 0 ≤ py ∧ py ≤ 36 := by
         have := Int.ediv_nonneg ha0.1 (show 0 ≤ x.w by omega)
         have := Int.ediv_le_self x.w ha0.1
         omega
        have t1 : Int.tmod (an : Int) x.w = px := by rw [← hpx]; exact Int.tmod_eq_emod_of_nonneg ha0.1
        have t2 : Int.tdiv (an : Int) x.w = py := by rw [← hpy]; exact Int.tdiv_eq_ediv_of_nonneg ha0.1
        have j1 : IntKind.i64.wrap px = px := IntWalk.i64_in _ (by omega)
        have j2 : IntKind.i64.wrap py = py := IntWalk.i64_in _ (by omega)
        rw [show prT x.w (at0 x.s) g E (an : Int) c = ⟨E.m0 + c, E.m1 + c * px, E.m2 + c * py, E.z + tm9 c (at0 x.s an) g, E.sz + max c (-c), (an : Int)⟩ by unfold prT; rw [hpx, hpy]; rfl] at HNX hbd2
        have HB2 := Lib.hid hbd2
        have v00 := ovr_cell x0
        have hx0 : (x.w = 0) = False := eq_false (by omega)
        have HAA := Lib.hid (And.intro ha0 (And.intro c2 (And.intro c3 c4)))
        have m1 : IntKind.i64.wrap (E.m0 + c) = E.m0 + c := IntWalk.i64_in _ (by have := HB2.out.m0; simp only at this; omega)
        have b1 := mul_bd (a := c) (b := px) (A := 1000000) (B := 6) (by have := HAA.out; omega) (by omega)
        have b2 := mul_bd (a := c) (b := py) (A := 1000000) (B := 36) (by have := HAA.out; omega) (by omega)
        have m2 : IntKind.i64.wrap (c * px) = c * px := IntWalk.i64_in _ (by omega)
        have m3 : IntKind.i64.wrap (E.m1 + c * px) = E.m1 + c * px := IntWalk.i64_in _ (by have := HB2.out.m1; simp only at this; omega)
        have m4 : IntKind.i64.wrap (c * py) = c * py := IntWalk.i64_in _ (by omega)
        have m5 : IntKind.i64.wrap (E.m2 + c * py) = E.m2 + c * py := IntWalk.i64_in _ (by have := HB2.out.m2; simp only at this; omega)
        have ks : wrap64 (-c) = -c := by have := HAA.out; unfold wrap64; omega
        have kz : IntKind.i64.wrap (E.sz + max c (-c)) = E.sz + max c (-c) := IntWalk.i64_in _ (by have := HB2.out.sz; simp only at this; omega)
        clear b1 b2 c0 c1 c2 c3 c4 c5 hpb hbd hbd2 hLL hpx hpy HBAD f2 x4 x0
        refine Gg.wp_region_make (fun _ => none) (by kernel_rfl) (by kernel_rfl) (by kernel_rfl) ?_
        repeat (first | (refine Gg.wpG_one rfl rfl rfl ?_; intro K hK; go_big_quiet_op; go_big_quiet_on) | (refine Gg.wpG_skip rfl ?_; simp only [Act.put, List.setIfInBounds_toArray, List.set_cons_zero, List.set_cons_succ]))
        refine Gg.wpG_nil (fun w5 hw5 hG => ?_)
        have S6 := Lib.hid (S3.out.below hw5.le)
        clear hG hw5 S3 v00 t1 t2 j1 j2 hx0 m1 m2 m3 m4 m5 ks kz hpx5 hpy5
        rename World => V6
        go_upto_region 11 with fail
        have hlen : an < x.s.length := by have := HAA.out; omega
        obtain ⟨xb, xo, rfl, _, e0, e1⟩ := (HRD.out V6 S6.out.1).1.rng hlen
        have x4 : V6.cell? ⟨w.heap.size, 4, none⟩ = some (.slice (some ⟨xb, xo, none⟩) x.s.length n) := (cell_of_row _ _ 4 _ _ _ S6.out.tail.hd).trans rfl
        have hrng := sh_z HO.out an hlen
        obtain ⟨r, hr⟩ : ∃ r, at0 x.s an = r := ⟨_, rfl⟩
        rw [hr] at e0 e1 HNX HB2 hrng
        have hHz := HB2.out.z
        simp only at hHz
        have hcc : -1000000 ≤ c ∧ c ≤ 1000000 := by have := HAA.out; omega
        have b1 := mul_bd (a := c) (b := r.hi) (A := 1000000) (B := 1000000) hcc (by omega)
        have b2 := mul_bd (a := c) (b := r.lo) (A := 1000000) (B := 1000000) hcc (by omega)
        have l1 : IntKind.i64.wrap (c * r.hi) = c * r.hi := IntWalk.i64_in _ (by omega)
        have l2 : IntKind.i64.wrap (c * r.lo) = c * r.lo := IntWalk.i64_in _ (by omega)
        have hEz := HBD.out.z
        have l3 : IntKind.i64.wrap (E.z + c * r.hi) = E.z + c * r.hi := IntWalk.i64_in _ (by omega)
        have l4 : IntKind.i64.wrap (E.z + c * r.lo) = E.z + c * r.lo := IntWalk.i64_in _ (by omega)
        have HTM : Hid (tm9 c r g = if decide (0 < c) == g then c * r.hi else c * r.lo) := rfl
        clear hr hrng hHz b1 b2 hEz hcc
        rcases hg : (decide (0 < c) == g) with _ | _
        · have HTV : Hid (tm9 c r g = c * r.lo) := by show _ = _; rw [HTM.out, hg]; rfl
          have hg2 : (g == decide (0 < c)) = false := by rw [← hg]; cases g <;> cases decide (0 < c) <;> rfl
          clear hg
          go_wp2_with fail
          go_roundw
          case rel => exact ⟨k + 1, HLT.out, by go_num, by rw [HNX.out], by rw [HNX.out], by rw [HNX.out], by rw [HNX.out], by rw [HNX.out, HTV.out], HPK.out, S6.out⟩
          case measure => have := HLT.out; simp [intOf]; omega
        · have HTV : Hid (tm9 c r g = c * r.hi) := by show _ = _; rw [HTM.out, hg]; rfl
          have hg2 : (g == decide (0 < c)) = true := by rw [← hg]; cases g <;> cases decide (0 < c) <;> rfl
          clear hg
          go_wp2_with fail
          go_roundw
          case rel => exact ⟨k + 1, HLT.out, by go_num, by rw [HNX.out], by rw [HNX.out], by rw [HNX.out], by rw [HNX.out], by rw [HNX.out, HTV.out], HPK.out, S6.out⟩
          case measure => have := HLT.out; simp [intOf]; omega
end Go.Proofs.Ytljjpidigckheaa.Un
