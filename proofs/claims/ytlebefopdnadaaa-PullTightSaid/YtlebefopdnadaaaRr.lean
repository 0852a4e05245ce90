/- The contract of Run of the reference. -/
import Derived.Test.YtlebefopdnadaaaRpa
namespace Go.Proofs.Ytlebefopdnadaaa
open Go.RowKit
theorem okRun_no' {R : Run} (h : VRun R → False) : okRun R = false := by
  cases hq : okRun R with
  | false => rfl
  | true => exact (h ((vRun_iff R).1 hq)).elim
def goodS (R : Run) (k : Nat) : Prop := okSet (at0 R.ss k) = true ∧ (at0 R.ss k).t < R.e ∧ (0 < k → (at0 R.ss (k - 1)).t < (at0 R.ss k).t)
def goodM (R : Run) (k : Nat) : Prop := wiB (at0 R.ms k).t 0 R.e = true ∧ spnB (at0 R.ms k).lo (at0 R.ms k).hi 1000000 = true ∧ (0 < k → (at0 R.ms (k - 1)).t < (at0 R.ms k).t)
def goodE (R : Run) (k : Nat) : Prop := wiB (at0 R.es k).t 0 R.e = true ∧ 1 ≤ (at0 R.es k).kd ∧ (at0 R.es k).kd ≤ 5 ∧ (0 < k → (at0 R.es (k - 1)).t ≤ (at0 R.es k).t)
theorem good_s {R : Run} (h : VRun R) {k : Nat} (hk : k < R.ss.length) : goodS R k := ⟨(okSet_iff _).2 ⟨h.ph k hk, h.v k hk⟩, h.tlt k hk, fun h0 => by have := h.tup (k - 1) (by omega); rwa [show k - 1 + 1 = k by omega] at this⟩
theorem good_m {R : Run} (h : VRun R) {k : Nat} (hk : k < R.ms.length) : goodM R k := ⟨wiB_iff.2 (h.mt k hk), spnB_iff.2 (h.mr k hk), fun h0 => by have := h.mup (k - 1) (by omega); rwa [show k - 1 + 1 = k by omega] at this⟩
theorem good_e {R : Run} (h : VRun R) {k : Nat} (hk : k < R.es.length) : goodE R k := ⟨wiB_iff.2 (h.et k hk), (h.ek k hk).1, (h.ek k hk).2, fun h0 => by have := h.eup (k - 1) (by omega); rwa [show k - 1 + 1 = k by omega] at this⟩
theorem vRun_mk {R : Run} (h1 : 1 ≤ R.ss.length) (h2 : R.ss.length ≤ 60) (h3 : R.ms.length ≤ 100) (h4 : R.es.length ≤ 20) (h5 : R.e ≤ 100000) (h6 : (at0 R.ss 0).t = 0) (hs : ∀ k, k < R.ss.length → goodS R k) (hm : ∀ k, k < R.ms.length → goodM R k) (he : ∀ k, k < R.es.length → goodE R k) : VRun R where
  n1 := h1
  n60 := h2
  m100 := h3
  e20 := h4
  last := h5
  first := h6
  tlt := fun k hk => (hs k hk).2.1
  tup := fun k hk => by have := (hs (k + 1) hk).2.2 (by omega); rwa [show k + 1 - 1 = k by omega] at this
  ph := fun k hk => ((okSet_iff _).1 (hs k hk).1).1
  v := fun k hk => ((okSet_iff _).1 (hs k hk).1).2
  mt := fun k hk => wiB_iff.1 (hm k hk).1
  mup := fun k hk => by have := (hm (k + 1) hk).2.2 (by omega); rwa [show k + 1 - 1 = k by omega] at this
  mr := fun k hk => spnB_iff.1 (hm k hk).2.1
  et := fun k hk => wiB_iff.1 (he k hk).1
  eup := fun k hk => by have := (he (k + 1) hk).2.2.2 (by omega); rwa [show k + 1 - 1 = k by omega] at this
  ek := fun k hk => ⟨(he k hk).2.1, (he k hk).2.2.1⟩
set_option maxRecDepth 100000 in
set_option maxHeartbeats 4000000 in
theorem refRun_any (A1 A2 A3 : Option Addr) (c1 c2 c3 : Nat) (R : Run) (w : World) (h : RunIn w A1 A2 A3 R) : Calls Try.prog 17 #[runV A1 A2 A3 c1 c2 c3 R] w fun e w' => e = .returned (.bool (okRun R)) ∧ Below w.heap.size w w' := by
  obtain ⟨W1, hW1⟩ : ∃ W1, W1 = w.alloc (.cells #[.slice A1 R.ss.length c1, I R.e, .slice A2 R.ms.length c2, .slice A3 R.es.length c3] 35) := ⟨_, rfl⟩
  have HC : Hid (∀ W, Le W1 W → W.cell? ⟨w.heap.size, 0, none⟩ = some (.slice A1 R.ss.length c1) ∧ W.cell? ⟨w.heap.size, 1, none⟩ = some (I R.e) ∧ W.cell? ⟨w.heap.size, 2, none⟩ = some (.slice A2 R.ms.length c2) ∧ W.cell? ⟨w.heap.size, 3, none⟩ = some (.slice A3 R.es.length c3)) := fun W hW => by
    have h : W.heap[w.heap.size]? = some (.cells #[.slice A1 R.ss.length c1, I R.e, .slice A2 R.ms.length c2, .slice A3 R.es.length c3] 35 (0, 0)) := (Below.block hW _ (by rw [hW1]; simp)).trans (by rw [hW1]; exact heap_last _ _ _ rfl)
    exact ⟨by rw [cell_of_row _ _ _ _ _ _ h]; rfl, by rw [cell_of_row _ _ _ _ _ _ h]; rfl, by rw [cell_of_row _ _ _ _ _ _ h]; rfl, by rw [cell_of_row _ _ _ _ _ _ h]; rfl⟩
  have HI : Hid (∀ W, Le W1 W → RunIn W A1 A2 A3 R) := fun W hW => RunIn.below (by rw [hW1]; exact h.alloc _) hW
  have hU : Hid (∀ W, Le W1 W → Below w.heap.size w W) := fun W hW => by rw [hW1] at hW; exact under2 hW
  have HW := Lib.hid hW1
  have ls : (R.ss.length : Int) ≤ 1000000 := by have := h.ls; omega
  have lm : (R.ms.length : Int) ≤ 1000000 := by have := h.lm; omega
  have le : (R.es.length : Int) ≤ 1000000 := by have := h.le; omega
  obtain ⟨x0, x1, x2, x3⟩ := HC.out W1 (Le.refl _)
  clear h hW1
  go_enter Try.func17, Try.ntmps17
  go_wp2_with fail
  rw [← HW.out]
  refine (within_any _ _ _ _).mono ?_
  rintro e w1 ⟨rfl, hb1⟩
  have L1 : Hid (Le W1 w1) := hb1
  clear hb1 x0 x1 x2 x3
  rcases hc : wiB (R.ss.length : Int) 1 60 with _ | _
  · have hf : Hid (okRun R = false) := okRun_no' fun hv => ff_tt hc (wiB_iff.2 ⟨by have := hv.n1; omega, by have := hv.n60; omega⟩)
    clear hc
    go_wp2_with fail
    go_ret
    exact ⟨by rw [hf.out]; rfl, hU.out _ L1.out⟩
  have hlen := wiB_iff.1 hc
  have Hlen := Lib.hid hlen
  obtain ⟨l1, l2⟩ := hlen
  clear hc
  obtain ⟨x0, x1, x2, x3⟩ := HC.out w1 L1.out
  by_cases h1 : (R.ms.length : Int) ≤ 100
  case neg =>
    have hf : Hid (okRun R = false) := okRun_no' fun hv => h1 (by have := hv.m100; omega)
    go_wp2_with fail
    go_ret
    exact ⟨by rw [hf.out]; rfl, hU.out _ L1.out⟩
  by_cases h2 : (R.es.length : Int) ≤ 20
  case neg =>
    have hf : Hid (okRun R = false) := okRun_no' fun hv => h2 (by have := hv.e20; omega)
    go_wp2_with fail
    go_ret
    exact ⟨by rw [hf.out]; rfl, hU.out _ L1.out⟩
  by_cases h3 : R.e ≤ 100000
  case neg =>
    have hf : Hid (okRun R = false) := okRun_no' fun hv => h3 hv.last
    go_wp2_with fail
    go_ret
    exact ⟨by rw [hf.out]; rfl, hU.out _ L1.out⟩
  obtain ⟨b0, o0, hA, _, y0, _⟩ := (HI.out w1 L1.out).s.stg (show 0 < R.ss.length by omega)
  rw [Nat.zero_mul, Nat.add_zero] at y0
  by_cases h4 : (at0 R.ss 0).t = 0
  case neg =>
    have hf : Hid (okRun R = false) := okRun_no' fun hv => h4 hv.first
    have h4' : ((at0 R.ss 0).t == 0) = false := by simpa using h4
    have h4b : ((at0 R.ss 0).t != 0) = true := by simpa using h4
    subst hA
    clear h4
    go_wp2_with fail
    go_ret
    exact ⟨by rw [hf.out]; rfl, hU.out _ L1.out⟩
  have H4 := Lib.hid h4
  rw [h4] at y0
  have hA' := hA
  clear h4
  subst hA
  go_wp2_with fail
  go_loopw [3] (fun i wr => ∃ k : Nat, k ≤ R.ss.length ∧ i = .int .i64 k ∧ (∀ j, j < k → goodS R j) ∧ Le W1 wr) (fun i _ => R.ss.length - (intOf i).toNat)
  case atStart => exact ⟨0, by omega, rfl, fun j hj => absurd hj (by omega), L1.out⟩
  case round =>
    obtain ⟨k, hk, rfl, hs, hbw⟩ := hrel
    have Hs := Lib.hid hs
    have HB := Lib.hid hbw
    clear hs hbw
    obtain ⟨x0, x1, x2, x3⟩ := HC.out wr HB.out
    by_cases hlt : k < R.ss.length
    · obtain ⟨b, o, hAe, _, e0, e1, e2, e3, e4, e5, e6, e7⟩ := (HI.out wr HB.out).s.stg hlt
      have hgk := fun (hv : VRun R) => good_s hv hlt
      have Hgk := Lib.hid hgk
      clear hgk
      obtain ⟨q, hq⟩ : ∃ q, q = at0 R.ss k := ⟨_, rfl⟩
      rw [← hq] at e0 e1 e2 e3 e4 e5 e6 e7
      have Hq := Lib.hid hq
      clear hq
      obtain ⟨W3, hW3⟩ : ∃ W3, W3 = wr.alloc (.cells #[I q.t, I q.ph, I (q.v 0), I (q.v 1), I (q.v 2), I (q.v 3), I (q.v 4), I (q.v 5)] 73) := ⟨_, rfl⟩
      have HL3 : Hid (Le W1 W3) := by show Le _ _; rw [hW3]; exact HB.out.trans ((Below.refl _ _).alloc (Nat.le_refl _) _)
      have z0 := ovr_cell (W := W3) (b := wr.heap.size) (o := 0) (v := I q.t) (by rw [hW3]; simp)
      have z1 := ovr_cell (W := W3) (b := wr.heap.size) (o := 1) (v := I q.ph) (by rw [hW3]; simp)
      have z2 := ovr_cell (W := W3) (b := wr.heap.size) (o := 2) (v := I (q.v 0)) (by rw [hW3]; simp)
      have z3 := ovr_cell (W := W3) (b := wr.heap.size) (o := 3) (v := I (q.v 1)) (by rw [hW3]; simp)
      have z4 := ovr_cell (W := W3) (b := wr.heap.size) (o := 4) (v := I (q.v 2)) (by rw [hW3]; simp)
      have z5 := ovr_cell (W := W3) (b := wr.heap.size) (o := 5) (v := I (q.v 3)) (by rw [hW3]; simp)
      have z6 := ovr_cell (W := W3) (b := wr.heap.size) (o := 6) (v := I (q.v 4)) (by rw [hW3]; simp)
      have z7 := ovr_cell (W := W3) (b := wr.heap.size) (o := 7) (v := I (q.v 5)) (by rw [hW3]; simp)
      obtain ⟨m0, m1, m2, m3⟩ := HC.out W3 HL3.out
      have n0 := ovr_cell m0
      have n1 := ovr_cell m1
      have n2 := ovr_cell m2
      have n3 := ovr_cell m3
      have HW3 := Lib.hid hW3
      clear hW3 m0 m1 m2 m3
      rcases hc0 : okSet q with _ | _
      · have hf : Hid (okRun R = false) := okRun_no' fun hv => by have := (Hgk.out hv).1; rw [← Hq.out, hc0] at this; cases this
        have K0 : Hid (∀ u, Calls Try.prog 48 #[q.val] (ovr W3 u) fun e w' => e = .returned (.bool false) ∧ Below (ovr W3 u).heap.size (ovr W3 u) w') := fun u => by rw [← hc0]; exact values_any q _
        clear hc0
        (injection hAe with ea; injection ea with ea1 ea2; subst ea1 ea2)
        go_wp2_with fail
        rw [← HW3.out]
        refine wp_region_below_lit (by kernel_rfl) (by kernel_rfl) ?_
        repeat (go_big_quiet_step ((first | (go_at_call 48; exact call_below (K0.out _)))))
        refine wpQuiet_nil ?_
        intro w5 hb5
        have L5 : Hid (Le W1 w5) := HL3.out.trans hb5
        clear hb5
        go_wp2_with fail
        go_ret
        exact ⟨by rw [hf.out]; rfl, hU.out _ L5.out⟩
      have K0 : Hid (∀ u, Calls Try.prog 48 #[q.val] (ovr W3 u) fun e w' => e = .returned (.bool true) ∧ Below (ovr W3 u).heap.size (ovr W3 u) w') := fun u => by rw [← hc0]; exact values_any q _
      have Hc0 := Lib.hid hc0
      clear hc0
      by_cases hc1 : q.t < R.e
      case neg =>
        have hf : Hid (okRun R = false) := okRun_no' fun hv => hc1 (by have := (Hgk.out hv).2.1; rwa [← Hq.out] at this)
        have hd1 : decide (R.e ≤ q.t) = true := decide_eq_true (by omega)
        (injection hAe with ea; injection ea with ea1 ea2; subst ea1 ea2)
        go_wp2_with fail
        rw [← HW3.out]
        refine wp_region_below_lit (by kernel_rfl) (by kernel_rfl) ?_
        repeat (go_big_quiet_step ((first | (go_at_call 48; exact call_below (K0.out _)))))
        refine wpQuiet_nil ?_
        intro w5 hb5
        have L5 : Hid (Le W1 w5) := HL3.out.trans hb5
        clear hb5
        go_wp2_with fail
        go_ret
        exact ⟨by rw [hf.out]; rfl, hU.out _ L5.out⟩
      have hd1 : decide (R.e ≤ q.t) = false := decide_eq_false (by omega)
      by_cases hk0 : k < 1
      · have hcase : Hid (∀ j, j < k + 1 → goodS R j) := succ_case Hs.out (by unfold goodS; rw [← Hq.out]; exact ⟨Hc0.out, hc1, fun h0 => absurd h0 (by omega)⟩)
        have hk1 : (k : Int) ≤ 0 := by omega
        have hk2 : decide (0 < k) = false := decide_eq_false (by omega)
        (injection hAe with ea; injection ea with ea1 ea2; subst ea1 ea2)
        go_wp2_with fail
        rw [← HW3.out]
        refine wp_region_below_lit (by kernel_rfl) (by kernel_rfl) ?_
        repeat (go_big_quiet_step ((first | (go_at_call 48; exact call_below (K0.out _)))))
        refine wpQuiet_nil ?_
        intro w5 hb5
        have L5 : Hid (Le W1 w5) := HL3.out.trans hb5
        clear hb5
        go_wp2_with fail
        go_roundw
        case rel => exact ⟨k + 1, by omega, by go_num, hcase.out, L5.out⟩
        case measure => simp [intOf]; omega
      obtain ⟨j, rfl⟩ : ∃ j, k = j + 1 := ⟨k - 1, by omega⟩
      obtain ⟨b2, o2, hA2, _, p0, _, _, _, _, _, _, _⟩ := (HI.out W3 HL3.out).s.stg (show j < R.ss.length by omega)
      have hbb : b2 = b ∧ o2 = o := by have h9 := hAe.symm.trans hA2; injection h9 with e; injection e with e1 e2; exact ⟨e1.symm, e2.symm⟩
      obtain ⟨rfl, rfl⟩ := hbb
      obtain ⟨pr, hpr⟩ : ∃ pr, pr = (at0 R.ss j).t := ⟨_, rfl⟩
      rw [← hpr] at p0
      have Hpr := Lib.hid hpr
      have p1 := ovr_cell p0
      clear p0 hA2 hpr
      (injection hAe with ea; injection ea with ea1 ea2; subst ea1 ea2)
      have hk2 : decide (0 < (j : Int) + 1) = true := decide_eq_true (by omega)
      by_cases hpt : pr < q.t
      · have hcase : Hid (∀ i, i < j + 1 + 1 → goodS R i) := succ_case Hs.out (by unfold goodS; rw [← Hq.out]; exact ⟨Hc0.out, hc1, fun _ => by rw [show j + 1 - 1 = j by omega, ← Hpr.out]; exact hpt⟩)
        have hpd : decide (q.t ≤ pr) = false := decide_eq_false (by omega)
        go_wp2_with fail
        rw [← HW3.out]
        refine wp_region_below_lit (by kernel_rfl) (by kernel_rfl) ?_
        repeat (go_big_quiet_step ((first | (go_at_call 48; exact call_below (K0.out _)))))
        refine wpQuiet_nil ?_
        intro w5 hb5
        have L5 : Hid (Le W1 w5) := HL3.out.trans hb5
        clear hb5
        go_wp2_with fail
        go_roundw
        case rel => exact ⟨j + 1 + 1, by omega, by go_num, hcase.out, L5.out⟩
        case measure => simp [intOf]; omega
      · have hf : Hid (okRun R = false) := okRun_no' fun hv => hpt (by have := (Hgk.out hv).2.2 (by omega); rwa [show j + 1 - 1 = j by omega, ← Hq.out, ← Hpr.out] at this)
        have hpd : decide (q.t ≤ pr) = true := decide_eq_true (by omega)
        go_wp2_with fail
        rw [← HW3.out]
        refine wp_region_below_lit (by kernel_rfl) (by kernel_rfl) ?_
        repeat (go_big_quiet_step ((first | (go_at_call 48; exact call_below (K0.out _)))))
        refine wpQuiet_nil ?_
        intro w5 hb5
        have L5 : Hid (Le W1 w5) := HL3.out.trans hb5
        clear hb5
        go_wp2_with fail
        go_ret
        exact ⟨by rw [hf.out]; rfl, hU.out _ L5.out⟩
    · have HG1 : Hid (∀ j, j < R.ss.length → goodS R j) := fun j hj => Hs.out j (by omega)
      have LA := Lib.hid HB.out
      have hge : (R.ss.length : Int) ≤ (k : Int) := by omega
      clear Hs HB x0 x1 x2 x3 hlt hk
      obtain ⟨x0, x1, x2, x3⟩ := HC.out wr LA.out
      obtain ⟨wo1, rfl⟩ : ∃ wo : World, wo = wr := ⟨_, rfl⟩
      go_wp2_with fail
      go_loopw [5] (fun i wr => ∃ k : Nat, k ≤ R.ms.length ∧ i = .int .i64 k ∧ (∀ j, j < k → goodM R j) ∧ Le W1 wr) (fun i _ => R.ms.length - (intOf i).toNat)
      case atStart => exact ⟨0, by omega, rfl, fun j hj => absurd hj (by omega), LA.out⟩
      case round =>
        obtain ⟨k, hk, rfl, hs, hbw⟩ := hrel
        have Hs := Lib.hid hs
        have HB := Lib.hid hbw
        clear hs hbw
        obtain ⟨x0, x1, x2, x3⟩ := HC.out wr HB.out
        by_cases hlt : k < R.ms.length
        · obtain ⟨b, o, hAe, _, e0, e1, e2⟩ := (HI.out wr HB.out).m.smp hlt
          have hgk := fun (hv : VRun R) => good_m hv hlt
          have Hgk := Lib.hid hgk
          clear hgk
          obtain ⟨q, hq⟩ : ∃ q, q = at0 R.ms k := ⟨_, rfl⟩
          rw [← hq] at e0 e1 e2
          have Hq := Lib.hid hq
          clear hq
          obtain ⟨W3, hW3⟩ : ∃ W3, W3 = wr.alloc (.cells #[I q.t, I q.lo, I q.hi] 75) := ⟨_, rfl⟩
          have HL3 : Hid (Le W1 W3) := by show Le _ _; rw [hW3]; exact HB.out.trans ((Below.refl _ _).alloc (Nat.le_refl _) _)
          have z0 := ovr_cell (W := W3) (b := wr.heap.size) (o := 0) (v := I q.t) (by rw [hW3]; simp)
          have z1 := ovr_cell (W := W3) (b := wr.heap.size) (o := 1) (v := I q.lo) (by rw [hW3]; simp)
          have z2 := ovr_cell (W := W3) (b := wr.heap.size) (o := 2) (v := I q.hi) (by rw [hW3]; simp)
          obtain ⟨m0, m1, m2, m3⟩ := HC.out W3 HL3.out
          have n0 := ovr_cell m0
          have n1 := ovr_cell m1
          have n2 := ovr_cell m2
          have n3 := ovr_cell m3
          have HW3 := Lib.hid hW3
          clear hW3 m0 m1 m2 m3
          rcases hc0 : wiB q.t 0 R.e with _ | _
          · have hf : Hid (okRun R = false) := okRun_no' fun hv => by have := (Hgk.out hv).1; rw [← Hq.out, hc0] at this; cases this
            have K0 : Hid (∀ u, Calls Try.prog 47 #[I q.t, I 0, I R.e] (ovr W3 u) fun e w' => e = .returned (.bool false) ∧ Below (ovr W3 u).heap.size (ovr W3 u) w') := fun u => by rw [← hc0]; exact within_any _ _ _ _
            clear hc0
            subst hAe
            go_wp2_with fail
            rw [← HW3.out]
            refine wp_region_below_lit (by kernel_rfl) (by kernel_rfl) ?_
            repeat (go_big_quiet_step ((first | (go_at_call 47; exact call_below (K0.out _)))))
            refine wpQuiet_nil ?_
            intro w5 hb5
            have L5 : Hid (Le W1 w5) := HL3.out.trans hb5
            clear hb5
            go_wp2_with fail
            go_ret
            exact ⟨by rw [hf.out]; rfl, hU.out _ L5.out⟩
          have K0 : Hid (∀ u, Calls Try.prog 47 #[I q.t, I 0, I R.e] (ovr W3 u) fun e w' => e = .returned (.bool true) ∧ Below (ovr W3 u).heap.size (ovr W3 u) w') := fun u => by rw [← hc0]; exact within_any _ _ _ _
          have Hc0 := Lib.hid hc0
          clear hc0
          rcases hc1 : spnB q.lo q.hi 1000000 with _ | _
          · have hf : Hid (okRun R = false) := okRun_no' fun hv => by have := (Hgk.out hv).2.1; rw [← Hq.out, hc1] at this; cases this
            have K1 : Hid (∀ u, Calls Try.prog 46 #[.agg #[I q.lo, I q.hi], I 1000000] (ovr W3 u) fun e w' => e = .returned (.bool false) ∧ Below (ovr W3 u).heap.size (ovr W3 u) w') := fun u => by rw [← hc1]; exact span_any _ _ _ _
            clear hc1
            subst hAe
            go_wp2_with fail
            rw [← HW3.out]
            refine wp_region_below_lit (by kernel_rfl) (by kernel_rfl) ?_
            repeat (go_big_quiet_step ((first | (go_at_call 47; exact call_below (K0.out _)) | (go_at_call 46; exact call_below (K1.out _)))))
            refine wpQuiet_nil ?_
            intro w5 hb5
            have L5 : Hid (Le W1 w5) := HL3.out.trans hb5
            clear hb5
            go_wp2_with fail
            go_ret
            exact ⟨by rw [hf.out]; rfl, hU.out _ L5.out⟩
          have K1 : Hid (∀ u, Calls Try.prog 46 #[.agg #[I q.lo, I q.hi], I 1000000] (ovr W3 u) fun e w' => e = .returned (.bool true) ∧ Below (ovr W3 u).heap.size (ovr W3 u) w') := fun u => by rw [← hc1]; exact span_any _ _ _ _
          have Hc1 := Lib.hid hc1
          clear hc1
          by_cases hk0 : k < 1
          · have hcase : Hid (∀ j, j < k + 1 → goodM R j) := succ_case Hs.out (by unfold goodM; rw [← Hq.out]; exact ⟨Hc0.out, Hc1.out, fun h0 => absurd h0 (by omega)⟩)
            have hk1 : (k : Int) ≤ 0 := by omega
            have hk2 : decide (0 < k) = false := decide_eq_false (by omega)
            subst hAe
            go_wp2_with fail
            rw [← HW3.out]
            refine wp_region_below_lit (by kernel_rfl) (by kernel_rfl) ?_
            repeat (go_big_quiet_step ((first | (go_at_call 47; exact call_below (K0.out _)) | (go_at_call 46; exact call_below (K1.out _)))))
            refine wpQuiet_nil ?_
            intro w5 hb5
            have L5 : Hid (Le W1 w5) := HL3.out.trans hb5
            clear hb5
            go_wp2_with fail
            go_roundw
            case rel => exact ⟨k + 1, by omega, by go_num, hcase.out, L5.out⟩
            case measure => simp [intOf]; omega
          obtain ⟨j, rfl⟩ : ∃ j, k = j + 1 := ⟨k - 1, by omega⟩
          obtain ⟨b2, o2, hA2, _, p0, _, _⟩ := (HI.out W3 HL3.out).m.smp (show j < R.ms.length by omega)
          have hbb : b2 = b ∧ o2 = o := by have h9 := hAe.symm.trans hA2; injection h9 with e; injection e with e1 e2; exact ⟨e1.symm, e2.symm⟩
          obtain ⟨rfl, rfl⟩ := hbb
          obtain ⟨pr, hpr⟩ : ∃ pr, pr = (at0 R.ms j).t := ⟨_, rfl⟩
          rw [← hpr] at p0
          have Hpr := Lib.hid hpr
          have p1 := ovr_cell p0
          clear p0 hA2 hpr
          subst hAe
          have hk2 : decide (0 < (j : Int) + 1) = true := decide_eq_true (by omega)
          by_cases hpt : pr < q.t
          · have hcase : Hid (∀ i, i < j + 1 + 1 → goodM R i) := succ_case Hs.out (by unfold goodM; rw [← Hq.out]; exact ⟨Hc0.out, Hc1.out, fun _ => by rw [show j + 1 - 1 = j by omega, ← Hpr.out]; exact hpt⟩)
            have hpd : decide (q.t ≤ pr) = false := decide_eq_false (by omega)
            go_wp2_with fail
            rw [← HW3.out]
            refine wp_region_below_lit (by kernel_rfl) (by kernel_rfl) ?_
            repeat (go_big_quiet_step ((first | (go_at_call 47; exact call_below (K0.out _)) | (go_at_call 46; exact call_below (K1.out _)))))
            refine wpQuiet_nil ?_
            intro w5 hb5
            have L5 : Hid (Le W1 w5) := HL3.out.trans hb5
            clear hb5
            go_wp2_with fail
            go_roundw
            case rel => exact ⟨j + 1 + 1, by omega, by go_num, hcase.out, L5.out⟩
            case measure => simp [intOf]; omega
          · have hf : Hid (okRun R = false) := okRun_no' fun hv => hpt (by have := (Hgk.out hv).2.2 (by omega); rwa [show j + 1 - 1 = j by omega, ← Hq.out, ← Hpr.out] at this)
            have hpd : decide (q.t ≤ pr) = true := decide_eq_true (by omega)
            go_wp2_with fail
            rw [← HW3.out]
            refine wp_region_below_lit (by kernel_rfl) (by kernel_rfl) ?_
            repeat (go_big_quiet_step ((first | (go_at_call 47; exact call_below (K0.out _)) | (go_at_call 46; exact call_below (K1.out _)))))
            refine wpQuiet_nil ?_
            intro w5 hb5
            have L5 : Hid (Le W1 w5) := HL3.out.trans hb5
            clear hb5
            go_wp2_with fail
            go_ret
            exact ⟨by rw [hf.out]; rfl, hU.out _ L5.out⟩
        · have HG2 : Hid (∀ j, j < R.ms.length → goodM R j) := fun j hj => Hs.out j (by omega)
          have LB := Lib.hid HB.out
          have hge2 : (R.ms.length : Int) ≤ (k : Int) := by omega
          clear Hs HB x0 x1 x2 x3 hlt hk
          obtain ⟨x0, x1, x2, x3⟩ := HC.out wr LB.out
          obtain ⟨wo2, rfl⟩ : ∃ wo : World, wo = wr := ⟨_, rfl⟩
          go_wp2_with fail
          go_loopw [7] (fun i wr => ∃ k : Nat, k ≤ R.es.length ∧ i = .int .i64 k ∧ (∀ j, j < k → goodE R j) ∧ Le W1 wr) (fun i _ => R.es.length - (intOf i).toNat)
          case atStart => exact ⟨0, by omega, rfl, fun j hj => absurd hj (by omega), LB.out⟩
          case round =>
            obtain ⟨k, hk, rfl, hs, hbw⟩ := hrel
            have Hs := Lib.hid hs
            have HB := Lib.hid hbw
            clear hs hbw
            obtain ⟨x0, x1, x2, x3⟩ := HC.out wr HB.out
            by_cases hlt : k < R.es.length
            · obtain ⟨b, o, hAe, _, e0, e1⟩ := (HI.out wr HB.out).e.evt hlt
              have hgk := fun (hv : VRun R) => good_e hv hlt
              have Hgk := Lib.hid hgk
              clear hgk
              obtain ⟨q, hq⟩ : ∃ q, q = at0 R.es k := ⟨_, rfl⟩
              rw [← hq] at e0 e1
              have Hq := Lib.hid hq
              clear hq
              obtain ⟨W3, hW3⟩ : ∃ W3, W3 = wr.alloc (.cells #[I q.t, I q.kd] 77) := ⟨_, rfl⟩
              have HL3 : Hid (Le W1 W3) := by show Le _ _; rw [hW3]; exact HB.out.trans ((Below.refl _ _).alloc (Nat.le_refl _) _)
              have z0 := ovr_cell (W := W3) (b := wr.heap.size) (o := 0) (v := I q.t) (by rw [hW3]; simp)
              have z1 := ovr_cell (W := W3) (b := wr.heap.size) (o := 1) (v := I q.kd) (by rw [hW3]; simp)
              obtain ⟨m0, m1, m2, m3⟩ := HC.out W3 HL3.out
              have n0 := ovr_cell m0
              have n1 := ovr_cell m1
              have n2 := ovr_cell m2
              have n3 := ovr_cell m3
              have HW3 := Lib.hid hW3
              clear hW3 m0 m1 m2 m3
              rcases hc0 : wiB q.t 0 R.e with _ | _
              · have hf : Hid (okRun R = false) := okRun_no' fun hv => by have := (Hgk.out hv).1; rw [← Hq.out, hc0] at this; cases this
                have K0 : Hid (∀ u, Calls Try.prog 47 #[I q.t, I 0, I R.e] (ovr W3 u) fun e w' => e = .returned (.bool false) ∧ Below (ovr W3 u).heap.size (ovr W3 u) w') := fun u => by rw [← hc0]; exact within_any _ _ _ _
                clear hc0
                subst hAe
                go_wp2_with fail
                rw [← HW3.out]
                refine wp_region_below_lit (by kernel_rfl) (by kernel_rfl) ?_
                repeat (go_big_quiet_step ((first | (go_at_call 47; exact call_below (K0.out _)))))
                refine wpQuiet_nil ?_
                intro w5 hb5
                have L5 : Hid (Le W1 w5) := HL3.out.trans hb5
                clear hb5
                go_wp2_with fail
                go_ret
                exact ⟨by rw [hf.out]; rfl, hU.out _ L5.out⟩
              have K0 : Hid (∀ u, Calls Try.prog 47 #[I q.t, I 0, I R.e] (ovr W3 u) fun e w' => e = .returned (.bool true) ∧ Below (ovr W3 u).heap.size (ovr W3 u) w') := fun u => by rw [← hc0]; exact within_any _ _ _ _
              have Hc0 := Lib.hid hc0
              clear hc0
              by_cases hc1 : 1 ≤ q.kd
              case neg =>
                have hf : Hid (okRun R = false) := okRun_no' fun hv => hc1 (by have := (Hgk.out hv).2.1; rwa [← Hq.out] at this)
                have hd1 : decide (q.kd < 1) = true := decide_eq_true (by omega)
                subst hAe
                go_wp2_with fail
                rw [← HW3.out]
                refine wp_region_below_lit (by kernel_rfl) (by kernel_rfl) ?_
                repeat (go_big_quiet_step ((first | (go_at_call 47; exact call_below (K0.out _)))))
                refine wpQuiet_nil ?_
                intro w5 hb5
                have L5 : Hid (Le W1 w5) := HL3.out.trans hb5
                clear hb5
                go_wp2_with fail
                go_ret
                exact ⟨by rw [hf.out]; rfl, hU.out _ L5.out⟩
              have hd1 : decide (q.kd < 1) = false := decide_eq_false (by omega)
              by_cases hc2 : q.kd ≤ 5
              case neg =>
                have hf : Hid (okRun R = false) := okRun_no' fun hv => hc2 (by have := (Hgk.out hv).2.2.1; rwa [← Hq.out] at this)
                have hd2 : decide (5 < q.kd) = true := decide_eq_true (by omega)
                subst hAe
                go_wp2_with fail
                rw [← HW3.out]
                refine wp_region_below_lit (by kernel_rfl) (by kernel_rfl) ?_
                repeat (go_big_quiet_step ((first | (go_at_call 47; exact call_below (K0.out _)))))
                refine wpQuiet_nil ?_
                intro w5 hb5
                have L5 : Hid (Le W1 w5) := HL3.out.trans hb5
                clear hb5
                go_wp2_with fail
                go_ret
                exact ⟨by rw [hf.out]; rfl, hU.out _ L5.out⟩
              have hd2 : decide (5 < q.kd) = false := decide_eq_false (by omega)
              by_cases hk0 : k < 1
              · have hcase : Hid (∀ j, j < k + 1 → goodE R j) := succ_case Hs.out (by unfold goodE; rw [← Hq.out]; exact ⟨Hc0.out, hc1, hc2, fun h0 => absurd h0 (by omega)⟩)
                have hk1 : (k : Int) ≤ 0 := by omega
                have hk2 : decide (0 < k) = false := decide_eq_false (by omega)
                subst hAe
                go_wp2_with fail
                rw [← HW3.out]
                refine wp_region_below_lit (by kernel_rfl) (by kernel_rfl) ?_
                repeat (go_big_quiet_step ((first | (go_at_call 47; exact call_below (K0.out _)))))
                refine wpQuiet_nil ?_
                intro w5 hb5
                have L5 : Hid (Le W1 w5) := HL3.out.trans hb5
                clear hb5
                go_wp2_with fail
                go_roundw
                case rel => exact ⟨k + 1, by omega, by go_num, hcase.out, L5.out⟩
                case measure => simp [intOf]; omega
              obtain ⟨j, rfl⟩ : ∃ j, k = j + 1 := ⟨k - 1, by omega⟩
              obtain ⟨b2, o2, hA2, _, p0, _⟩ := (HI.out W3 HL3.out).e.evt (show j < R.es.length by omega)
              have hbb : b2 = b ∧ o2 = o := by have h9 := hAe.symm.trans hA2; injection h9 with e; injection e with e1 e2; exact ⟨e1.symm, e2.symm⟩
              obtain ⟨rfl, rfl⟩ := hbb
              obtain ⟨pr, hpr⟩ : ∃ pr, pr = (at0 R.es j).t := ⟨_, rfl⟩
              rw [← hpr] at p0
              have Hpr := Lib.hid hpr
              have p1 := ovr_cell p0
              clear p0 hA2 hpr
              subst hAe
              have hk2 : decide (0 < (j : Int) + 1) = true := decide_eq_true (by omega)
              by_cases hpt : pr ≤ q.t
              · have hcase : Hid (∀ i, i < j + 1 + 1 → goodE R i) := succ_case Hs.out (by unfold goodE; rw [← Hq.out]; exact ⟨Hc0.out, hc1, hc2, fun _ => by rw [show j + 1 - 1 = j by omega, ← Hpr.out]; exact hpt⟩)
                have hpd : decide (q.t < pr) = false := decide_eq_false (by omega)
                go_wp2_with fail
                rw [← HW3.out]
                refine wp_region_below_lit (by kernel_rfl) (by kernel_rfl) ?_
                repeat (go_big_quiet_step ((first | (go_at_call 47; exact call_below (K0.out _)))))
                refine wpQuiet_nil ?_
                intro w5 hb5
                have L5 : Hid (Le W1 w5) := HL3.out.trans hb5
                clear hb5
                go_wp2_with fail
                go_roundw
                case rel => exact ⟨j + 1 + 1, by omega, by go_num, hcase.out, L5.out⟩
                case measure => simp [intOf]; omega
              · have hf : Hid (okRun R = false) := okRun_no' fun hv => hpt (by have := (Hgk.out hv).2.2.2 (by omega); rwa [show j + 1 - 1 = j by omega, ← Hq.out, ← Hpr.out] at this)
                have hpd : decide (q.t < pr) = true := decide_eq_true (by omega)
                go_wp2_with fail
                rw [← HW3.out]
                refine wp_region_below_lit (by kernel_rfl) (by kernel_rfl) ?_
                repeat (go_big_quiet_step ((first | (go_at_call 47; exact call_below (K0.out _)))))
                refine wpQuiet_nil ?_
                intro w5 hb5
                have L5 : Hid (Le W1 w5) := HL3.out.trans hb5
                clear hb5
                go_wp2_with fail
                go_ret
                exact ⟨by rw [hf.out]; rfl, hU.out _ L5.out⟩
            · have HG3 : Hid (∀ j, j < R.es.length → goodE R j) := fun j hj => Hs.out j (by omega)
              have hf : Hid (okRun R = true) := (vRun_iff R).2 (vRun_mk (by omega) (by omega) (by omega) (by omega) h3 H4.out HG1.out HG2.out HG3.out)
              have LC := Lib.hid HB.out
              have hge3 : (R.es.length : Int) ≤ (k : Int) := by omega
              clear Hs HB hlt hk
              go_wp2_with fail
              go_ret
              exact ⟨by rw [hf.out]; rfl, hU.out _ LC.out⟩
end Go.Proofs.Ytlebefopdnadaaa
