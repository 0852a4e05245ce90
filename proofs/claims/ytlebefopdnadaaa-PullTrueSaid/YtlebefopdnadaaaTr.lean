/- The law PullTrue holds of every puller, run and crystal: the walk of the statement's function. -/
import Derived.Test.YtlebefopdnadaaaTq
import Derived.Test.YtlebefopdnadaaaLk
namespace Go.Proofs.Ytlebefopdnadaaa
open Go.RowKit
set_option maxRecDepth 100000 in
set_option maxHeartbeats 4000000 in
theorem pullTrue_any (p : Vec) (A1 A2 A3 : Option Addr) (c1 c2 c3 : Nat) (R : Run) (A B C : Option Addr) (a b c : Nat) (x : Cry) (w : World)
    (h1 : Rd w w.heap.size 8 A1 R.ss.length (rS R.ss)) (h2 : Rd w w.heap.size 3 A2 R.ms.length (rM R.ms)) (h3 : Rd w w.heap.size 2 A3 R.es.length (rE R.es)) (hC : CryIn w A B C x) :
    Calls Try.prog 8 #[.agg (ia 117 p), runV A1 A2 A3 c1 c2 c3 R, cryV A B C a b c x] w fun e w' => e = .returned (.bool true) ∧ Below w.heap.size w w' := by
  obtain ⟨W0, hW0⟩ : ∃ W0, W0 = ((w.alloc (.cells (ia 117 p) 30)).alloc (.cells (rnArr A1 A2 A3 c1 c2 c3 R) 35)).alloc (.cells (cryArr A B C a b c x) 85) := ⟨_, rfl⟩
  have T0 : Hid (TriW w W0 p (rnArr A1 A2 A3 c1 c2 c3 R) (cryArr A B C a b c x) 85) := by rw [hW0]; exact tri_mk _ _ _ _ _
  have HW := Lib.hid hW0
  have HC := Lib.hid hC
  have HR : Hid (Rd w w.heap.size 8 A1 R.ss.length (rS R.ss) ∧ Rd w w.heap.size 3 A2 R.ms.length (rM R.ms) ∧ Rd w w.heap.size 2 A3 R.es.length (rE R.es)) := ⟨h1, h2, h3⟩
  clear hW0 hC h1 h2 h3
  go_enter Try.func8, Try.ntmps8
  go_upto_region 1 with (fail)
  rw [← HW.out]
  obtain ⟨x0, x1, x2, x3⟩ := T0.out.rcells
  have z0 := T0.out.ccell (j := 0) rfl
  have z1 := T0.out.ccell (j := 1) rfl
  have z2 := T0.out.ccell (j := 2) rfl
  have z3 := T0.out.ccell (j := 3) rfl
  go_wp2_with (refine wpList_load_ia rfl 30 _ rfl w.heap.size 0 rfl 117 p _ (fun j hj => T0.out.pcell hj) Try.underlying30 rfl (by kernel_rfl) ?_)
  clear x0 x1 x2 x3 z0 z1 z2 z3
  obtain ⟨r1, r2, r3⟩ := HR.out
  have hle0 := T0.out.le
  refine (seen_any p A1 A2 A3 c1 c2 c3 R A B C a b c x W0 ((r1.below hle0).more hle0.size) ((r2.below hle0).more hle0.size) ((r3.below hle0).more hle0.size) (HC.out.below hle0)).mono ?_
  rintro e W1 ⟨E1, E2, E3, e1, e2, e3, R', D, n, d, ok, rfl, hok, hb1⟩
  have T1 := Lib.hid (T0.out.next hb1)
  have Hok := Lib.hid hok
  clear hle0 r1 r2 r3 hok hb1
  go_upto_region 2 with (refine wpList_store_row rfl 35 _ _ rfl (w.heap.size + 1) rfl _ _ T1.out.rn (rnArr E1 E2 E3 e1 e2 e3 R') rfl (rn_one _ _ _ _ _ _ _) rfl (by kernel_rfl) ?_)
  have T2 := Lib.hid (T1.out.setRun (rnArr E1 E2 E3 e1 e2 e3 R'))
  have hsz0 := T0.out.sz
  have Hok2 : Hid (ok = true → SeenOk W0.heap.size W1 p R R' x E1 E2 E3 e2 D n ∧ FRun W0.heap.size (W1.setRow (w.heap.size + 1) (rnArr E1 E2 E3 e1 e2 e3 R')) E1 E2 E3 R' ∧ FR W0.heap.size (W1.setRow (w.heap.size + 1) (rnArr E1 E2 E3 e1 e2 e3 R')) 1 D n (rCr p x)) := fun h =>
    ⟨Hok.out h, (Hok.out h).run.set (by omega) _, (Hok.out h).crs.set (by omega) _⟩
  generalize W1.setRow (w.heap.size + 1) (rnArr E1 E2 E3 e1 e2 e3 R') = W2 at *
  clear hsz0 Hok
  have HU : Hid (∀ W, Le W2 W → Below w.heap.size w W) := fun W hW => (T2.out.next hW).le
  have HP : Hid (∀ W, Le W2 W → ∀ j, j < 117 → W.cell? ⟨w.heap.size, 0 + j, none⟩ = some (I (p j))) := fun W hW j hj => (T2.out.next hW).pcell hj
  have HX : Hid (∀ W, Le W2 W → W.cell? ⟨w.heap.size + 1, 0, none⟩ = some (.slice E1 R'.ss.length e1) ∧ W.cell? ⟨w.heap.size + 1, 1, none⟩ = some (I R'.e) ∧ W.cell? ⟨w.heap.size + 1, 2, none⟩ = some (.slice E2 R'.ms.length e2) ∧ W.cell? ⟨w.heap.size + 1, 3, none⟩ = some (.slice E3 R'.es.length e3)) := fun W hW => (T2.out.next hW).rcells
  have L2 : Hid (Le W2 W2) := Le.refl _
  rcases ok with _ | _
  case false =>
    clear Hok2
    go_wp2_with fail
    refine (known_any W2).mono ?_
    rintro e WK ⟨rfl, hb⟩
    have LK : Hid (Below w.heap.size w WK) := HU.out _ ((L2.out).trans hb)
    clear hb
    go_wp2_with fail
    go_ret
    exact ⟨rfl, LK.out⟩
  obtain ⟨ho, hF, hD⟩ := Hok2.out rfl
  have HI : Hid (∀ W, Le W2 W → RunIn W E1 E2 E3 R') := fun W hW => (hF.below hW).run
  have HDD : Hid (∀ W, Le W2 W → Rd W W.heap.size 1 D n (rCr p x)) := fun W hW => (hD.below hW).rd
  have Ho := Lib.hid ho
  have Hvr := Lib.hid ((vRun_iff R').1 ho.vr)
  have Hvp := Lib.hid (vPul_of ho.vp)
  have Htc := Lib.hid (trueC_of Hvp.out HC.out.f ho.tr)
  have Hcf := Lib.hid (conf_true Htc.out Hvr.out)
  obtain ⟨N, hN⟩ : ∃ N : Nat, R'.e = N := ⟨R'.e.toNat, by have := ho.e; have := ho.e1; omega⟩
  have HN := Lib.hid hN
  have hN1 : 1 ≤ N ∧ N ≤ 200 := by have := ho.e; have := ho.e1; have := ho.e2; omega
  have Hn : Hid (n = N + 1) := by show _ = _; rw [ho.n_, ← ho.e, hN]; rfl
  have HNt : Hid (R'.e.toNat = N) := by show _ = _; rw [hN]; rfl
  have Hvk : Hid (okPuller p = true ∧ okRun R' = true) := ⟨ho.vp, ho.vr⟩
  clear ho hF hD hN
  have CC : Hid (∀ W Q1 Q2 Q3 q1 q2 q3, RunIn W Q1 Q2 Q3 R' → R'.ms.length ≤ q2 → Calls Try.prog 27 #[.agg (ia 117 p), runV Q1 Q2 Q3 q1 q2 q3 R'] W fun e w' => e = .returned (.tuple #[I (-1), I (-1), I 0]) ∧ Below W.heap.size W w') := fun W Q1 Q2 Q3 q1 q2 q3 hr hc => by
    have := conflict_any Q1 Q2 Q3 q1 q2 q3 p R' W hr hc
    have h2 : confV p R' = (-1, -1) := by unfold confV; rw [Hvk.out.1, Hvk.out.2, if_pos (show (true && true) = true from rfl), Hcf.out]
    rw [h2, Hvk.out.1, Hvk.out.2] at this; exact this
  obtain ⟨rs, hrs⟩ : ∃ rs, acL p R' = rs := ⟨_, rfl⟩
  have Hrs := Lib.hid hrs
  have CA : Hid (∀ W Q1 Q2 Q3 q1 q2 q3, RunIn W Q1 Q2 Q3 R' → R'.ms.length ≤ q2 → Calls Try.prog 33 #[.agg (ia 117 p), runV Q1 Q2 Q3 q1 q2 q3 R'] W (RetL W rs 0)) := fun W Q1 Q2 Q3 q1 q2 q3 hr hc => by
    have := acceptedX_any Q1 Q2 Q3 q1 q2 q3 p R' W hr hc
    rw [Hrs.out, chE_ok Hvk.out.1 Hvk.out.2 Hcf.out] at this; exact this
  have Hrl : Hid (RunsL (goodB p R') N rs (rnK (goodB p R') N).2) := by
    have := runsL (goodB p R') N
    rw [show (rnK (goodB p R') N).1 = rs by rw [← Hrs.out, acL, if_pos (chE_ok Hvk.out.1 Hvk.out.2 Hcf.out), HNt.out]; rfl] at this
    exact this
  have Hrn : Hid ((∀ t, t < N → goodB p R' t = false) → rs = []) := fun h => by
    rw [← Hrs.out, acL, if_pos (chE_ok Hvk.out.1 Hvk.out.2 Hcf.out), HNt.out]; exact runs_none h
  clear hrs
  obtain ⟨k0, k1, k2, k3⟩ := HX.out W2 (L2.out)
  have v0 := ovr_cell k0
  have v1 := ovr_cell k1
  have v2 := ovr_cell k2
  have v3 := ovr_cell k3
  clear k0 k1 k2 k3
  go_wp2_with fail
  refine wp_region_make (fun j => if j = 0 then some (fun u _ => u = .agg (ia 117 p)) else if j = 2 then some (OwnF R') else if j = 3 then some (fun u _ => u = .tuple #[I (-1), I (-1), I 0]) else none) (by kernel_rfl) (by kernel_rfl) (by kernel_rfl) ?_
  refine wpG_make (fun u _ => u = .agg (ia 117 p)) rfl rfl (fun w' hw' _ => ?_) (fun u hu => ?_)
  · exact load_grow rfl rfl (HP.out w' ((L2.out).trans hw'.le))
  obtain ⟨_, _, rfl⟩ := hu
  simp only [Act.put, List.setIfInBounds_toArray, List.set_cons_zero, List.set_cons_succ]
  repeat (refine wpG_one rfl rfl rfl ?_; intro K hK; go_big_quiet_op; go_big_quiet_on)
  refine wpG_make (OwnF R') rfl rfl (fun w' hw' _ => ?_) (fun u hu => ?_)
  · go_simp
    exact own_grow (own_any _ _ _ _ _ _ R' w' (HI.out _ ((L2.out).trans hw'.le)))
  obtain ⟨_, _, B1, B2, B3, d1, d2, d3, rfl, _, _⟩ := hu
  simp only [Act.put, List.setIfInBounds_toArray, List.set_cons_zero, List.set_cons_succ]
  repeat (refine wpG_one rfl rfl rfl ?_; intro K hK; go_big_quiet_op; go_big_quiet_on)
  refine wpG_make (fun u _ => u = .tuple #[I (-1), I (-1), I 0]) rfl rfl (fun w' hw' hk => ?_) (fun u hu => ?_)
  · have hk3 := hk ⟨2, .data⟩ (by simp) rfl _ _ _ rfl rfl rfl (by simp) rfl
    obtain ⟨Q1, Q2, Q3, q1, q2, q3, he, hr, hc⟩ := hk3.now
    go_simp
    exact call_grow (CC.out _ _ _ _ _ _ _ hr hc)
  obtain ⟨_, _, rfl⟩ := hu
  skip
  simp only [Act.put, List.setIfInBounds_toArray, List.set_cons_zero, List.set_cons_succ]
  repeat (refine wpG_one rfl rfl rfl ?_; intro K hK; go_big_quiet_op; go_big_quiet_on)
  refine wpG_nil (fun W3 hw3 _ => ?_)
  have L3 : Hid (Le W2 W3) := hw3.le
  clear hw3 CC v0 v1 v2 v3
  obtain ⟨k0, k1, k2, k3⟩ := HX.out W3 (L3.out)
  have v0 := ovr_cell k0
  have v1 := ovr_cell k1
  have v2 := ovr_cell k2
  have v3 := ovr_cell k3
  clear k0 k1 k2 k3
  go_wp2_with fail
  refine wp_region_make (fun j => if j = 0 then some (fun u _ => u = .agg (ia 117 p)) else if j = 2 then some (OwnF R') else if j = 3 then some (SlT rs 0) else none) (by kernel_rfl) (by kernel_rfl) (by kernel_rfl) ?_
  refine wpG_make (fun u _ => u = .agg (ia 117 p)) rfl rfl (fun w' hw' _ => ?_) (fun u hu => ?_)
  · exact load_grow rfl rfl (HP.out w' ((L3.out).trans hw'.le))
  obtain ⟨_, _, rfl⟩ := hu
  simp only [Act.put, List.setIfInBounds_toArray, List.set_cons_zero, List.set_cons_succ]
  repeat (refine wpG_one rfl rfl rfl ?_; intro K hK; go_big_quiet_op; go_big_quiet_on)
  refine wpG_make (OwnF R') rfl rfl (fun w' hw' _ => ?_) (fun u hu => ?_)
  · go_simp
    exact own_grow (own_any _ _ _ _ _ _ R' w' (HI.out _ ((L3.out).trans hw'.le)))
  obtain ⟨_, _, B1, B2, B3, d1, d2, d3, rfl, _, _⟩ := hu
  simp only [Act.put, List.setIfInBounds_toArray, List.set_cons_zero, List.set_cons_succ]
  repeat (refine wpG_one rfl rfl rfl ?_; intro K hK; go_big_quiet_op; go_big_quiet_on)
  refine wpG_make (SlT rs 0) rfl rfl (fun w' hw' hk => ?_) (fun u hu => ?_)
  · have hk3 := hk ⟨2, .data⟩ (by simp) rfl _ _ _ rfl rfl rfl (by simp) rfl
    obtain ⟨Q1, Q2, Q3, q1, q2, q3, he, hr, hc⟩ := hk3.now
    go_simp
    exact retL_grow (CA.out _ _ _ _ _ _ _ hr hc)
  obtain ⟨_, _, Ar, nr, cr, rfl, hna, hrd⟩ := hu
  clear hna hrd
  simp only [Act.put, List.setIfInBounds_toArray, List.set_cons_zero, List.set_cons_succ]
  repeat (refine wpG_one rfl rfl rfl ?_; intro K hK; go_big_quiet_op; go_big_quiet_on)
  refine wpG_nil (fun W4 hw4 hG => ?_)
  have L34 : Hid (Le W3 W4) := hw4.le
  have L4 : Hid (Le W2 W4) := L3.out.trans hw4.le
  have hsl := hG.2.now.at
  have HA : Hid (∀ W, Le W4 W → Rd W W.heap.size 2 Ar nr (rR rs)) := fun W hW => (hsl.2.below hW).more hW.size
  have Hnr : Hid (nr = rs.length) := hsl.1
  clear hw4 hG hsl CA v0 v1 v2 v3
  obtain ⟨k0, k1, k2, k3⟩ := HX.out W4 L4.out
  by_cases hms : R'.ms.length = 0
  · have hr0 : rs = [] := Hrn.out fun t ht => by
      rw [goodB_eq Hvr.out Hvp.out (by rw [HN.out]; omega), hms]; rfl
    obtain rfl : nr = 0 := by rw [Hnr.out, hr0]; rfl
    clear hr0
    rw [hms] at k2
    go_wp2_with fail
    refine (known_any W4).mono ?_
    rintro e WK ⟨rfl, hb⟩
    have LK : Hid (Below w.heap.size w WK) := HU.out _ ((L4.out).trans hb)
    clear hb
    go_wp2_with fail
    go_ret
    exact ⟨rfl, LK.out⟩
  have hpos : 0 < R'.ms.length := by omega
  have hmz : ((R'.ms.length : Int) == 0) = false := by rw [beq_eq_false_iff_ne]; omega
  obtain ⟨bD, oD, rfl, hBD, hcD⟩ := HDD.out W2 (Le.refl _) (by rw [Hn.out]; omega)
  have HDc : Hid (∀ W, Le W2 W → ∀ j, j < N + 1 → W.cell? ⟨bD, oD + j, none⟩ = some (I (crs p x j))) := fun W hW j hj => by
    have := hcD j (by rw [Hn.out]; exact hj) 0 (by omega)
    rw [Nat.mul_one, Nat.add_zero] at this
    exact (Below.cell hW (p := ⟨bD, oD + j, none⟩) hBD).trans this
  obtain rfl : n = N + 1 := Hn.out
  have Hpos := Lib.hid hpos
  have hE : 0 ≤ R'.e ∧ R'.e ≤ 200 := by rw [HN.out]; omega
  have Hnr1 : Hid (nr ≤ 200) := by
    show _ ≤ _
    rw [Hnr.out, ← Hrs.out, acL, if_pos (chE_ok Hvk.out.1 Hvk.out.2 Hcf.out), HNt.out]
    exact Nat.le_trans (rnK_len _ _) hN1.2
  clear hBD hcD hpos hms
  go_wp2_with fail
  clear k0 k1 k2 k3
  go_loopw [14, 15, 16, 17, 18, 19, 20] (fun t _ _ _ _ _ _ wr => ∃ k : Nat, t = .int .i64 k ∧ k ≤ 1000 ∧ Le W4 wr) (fun t _ _ _ _ _ _ _ => N - (intOf t).toNat)
  case atStart => exact ⟨0, rfl, by omega, Le.refl _⟩
  case round =>
    rename World => W5
    obtain ⟨k, rfl, hk, hbw⟩ := hrel
    have L45 : Hid (Le W4 W5) := hbw
    have L5 : Hid (Le W2 W5) := L4.out.trans hbw
    clear hbw
    have HN1 := Lib.hid hN1
    by_cases hlt : k < N
    · as_aux_lemma =>
        have hke : (k : Int) + 1 ≤ R'.e := by rw [HN.out]; omega
        have hlt2 : (k : Int) < R'.e := by omega
        have sx := at_some Hvr.out Hpos.out (p := p) (t := k) (by omega)
        have sz := at_some Hvr.out Hpos.out (p := p) (t := k + 1) (by omega)
        have hx := inK_at Htc.out (t := k) (by rw [HNt.out]; omega) sx
        obtain ⟨hy, hy2⟩ := inK_from Htc.out Hvp.out.grow.1 Hvp.out.shrink.1 (t := k) (by rw [HNt.out]; omega)
        have sy : (fromK p R' k).some = true := by rw [from_some Hvr.out p hke, decide_eq_true Hpos.out]
        have hy := hy sy
        have hy2 := hy2 sy
        have hfl := from_lies Hvp.out.grow.1 Hvp.out.shrink.1 (t := k) (by rw [HNt.out]; omega) sx sz
        have hbx := at_bd Hvr.out Hvp.out (t := k) (by omega)
        have hbz := at_bd Hvr.out Hvp.out (t := k + 1) (by omega)
        have hgd := good_nums Hvr.out Hvp.out Hpos.out hke
        have CD : Hid (∀ j : Nat, (j : Int) ≤ R'.e → ∀ W Q1 Q2 Q3 q1 q2 q3, RunIn W Q1 Q2 Q3 R' → R'.ms.length ≤ q2 → Calls Try.prog 28 #[.agg (ia 117 p), runV Q1 Q2 Q3 q1 q2 q3 R', I j] W fun e w' => e = .returned (.tuple #[.agg #[I (atK p R' j).lo, I (atK p R' j).hi], I 0]) ∧ Below W.heap.size W w') := fun j hj W Q1 Q2 Q3 q1 q2 q3 hr hc => by
          have := diameter_any Q1 Q2 Q3 q1 q2 q3 p R' (j : Int) W hr hc
          have ht := tellE_ok Hvk.out.1 Hvk.out.2 Hcf.out Hpos.out (t := (j : Int)) (last := R'.e) ⟨by omega, hj⟩
          rw [tellR_ok ht, ht, Int.toNat_natCast] at this
          exact this
        have CB : Hid (∀ W Q1 Q2 Q3 q1 q2 q3, RunIn W Q1 Q2 Q3 R' → R'.ms.length ≤ q2 → Calls Try.prog 29 #[.agg (ia 117 p), runV Q1 Q2 Q3 q1 q2 q3 R', I k] W fun e w' => e = .returned (.tuple #[.agg #[I (fromK p R' k).lo, I (fromK p R' k).hi], I 0]) ∧ Below W.heap.size W w') := fun W Q1 Q2 Q3 q1 q2 q3 hr hc => by
          have := betweenX_any Q1 Q2 Q3 q1 q2 q3 p R' (k : Int) W hr hc
          have ht := tellE_ok Hvk.out.1 Hvk.out.2 Hcf.out Hpos.out (t := (k : Int)) (last := R'.e - 1) ⟨by omega, by omega⟩
          rw [tellR_ok ht, ht, Int.toNat_natCast] at this
          exact this
        have CX := Lib.hid (CD.out k (by omega))
        have CZ : Hid (∀ W Q1 Q2 Q3 q1 q2 q3, RunIn W Q1 Q2 Q3 R' → R'.ms.length ≤ q2 → Calls Try.prog 28 #[.agg (ia 117 p), runV Q1 Q2 Q3 q1 q2 q3 R', I ((k : Int) + 1)] W fun e w' => e = .returned (.tuple #[.agg #[I (atK p R' (k + 1)).lo, I (atK p R' (k + 1)).hi], I 0]) ∧ Below W.heap.size W w') := CD.out (k + 1) (by omega)
        have Hgb := Lib.hid hgd
        obtain ⟨lmg, lmg2⟩ := Hvp.out.grow
        obtain ⟨lms, lms2⟩ := Hvp.out.shrink
        have HDk : Hid (∀ W, Le W2 W → W.cell? ⟨bD, oD + k, none⟩ = some (I (crs p x k))) := fun W hW => HDc.out W hW k (by omega)
        have HDn : Hid (∀ W, Le W2 W → W.cell? ⟨bD, oD + (k + 1), none⟩ = some (I (crs p x (k + 1)))) := fun W hW => HDc.out W hW (k + 1) (by omega)
        clear CD hgd sx sy sz
        generalize crs p x k = ck at *
        generalize crs p x (k + 1) = cn at *
        generalize (atK p R' k).lo = X0 at *
        generalize (atK p R' k).hi = X1 at *
        generalize (atK p R' (k + 1)).lo = Z0 at *
        generalize (atK p R' (k + 1)).hi = Z1 at *
        generalize (fromK p R' k).lo = Y0 at *
        generalize (fromK p R' k).hi = Y1 at *
        have HF : Hid ((X0 ≤ ck ∧ ck ≤ X1) ∧ (Y0 ≤ ck ∧ ck ≤ Y1) ∧ (Y0 ≤ cn ∧ cn ≤ Y1) ∧ (Y0 ≤ min X0 Z0 ∧ max X1 Z1 ≤ Y1 ∧ min X0 Z0 - p 110 - p 111 ≤ Y0 ∧ Y1 ≤ max X1 Z1 + p 110 + p 111)) := ⟨hx, hy, hy2, hfl⟩
        clear hx hy hy2 hfl
        obtain ⟨k0, k1, k2, k3⟩ := HX.out W5 (L5.out)
        have v0 := ovr_cell k0
        have v1 := ovr_cell k1
        have v2 := ovr_cell k2
        have v3 := ovr_cell k3
        go_wp2_with fail
        clear k0 k1 k2 k3
        refine wp_region_make_two (fun j => if j = 0 then some (fun u _ => u = .agg (ia 117 p)) else if j = 2 then some (OwnF R') else if j = 4 then some (fun u _ => u = .tuple #[.agg #[I X0, I X1], I 0]) else if j = 8 then some (NewAt W5 #[I 0, I 0] 23) else none) [7] (by kernel_rfl) (by kernel_rfl) (by kernel_rfl) (by kernel_rfl) (by kernel_rfl) (by intro i hi; simp at hi; subst hi; rfl) ⟨rfl, rfl⟩ (fun c a d v w h => by cases d <;> exact h) ?_
        simp only [sleepTwo_cons, sleepTwo_two]
        refine wpG_make (fun u _ => u = .agg (ia 117 p)) rfl rfl (fun w' hw' _ => ?_) (fun u hu => ?_)
        · exact load_grow rfl rfl (HP.out w' ((L5.out).trans hw'.le))
        obtain ⟨_, _, rfl⟩ := hu
        simp only [Act.put, List.setIfInBounds_toArray, List.set_cons_zero, List.set_cons_succ]
        repeat (refine wpG_one rfl rfl rfl ?_; intro K hK; go_big_quiet_op; go_big_quiet_on)
        refine wpG_make (OwnF R') rfl rfl (fun w' hw' _ => ?_) (fun u hu => ?_)
        · go_simp
          exact own_grow (own_any _ _ _ _ _ _ R' w' (HI.out _ ((L5.out).trans hw'.le)))
        obtain ⟨_, _, B1, B2, B3, d1, d2, d3, rfl, _, _⟩ := hu
        simp only [Act.put, List.setIfInBounds_toArray, List.set_cons_zero, List.set_cons_succ]
        repeat (refine wpG_one rfl rfl rfl ?_; intro K hK; go_big_quiet_op; go_big_quiet_on)
        refine wpG_make (fun u _ => u = .tuple #[.agg #[I X0, I X1], I 0]) rfl rfl (fun w' hw' hk => ?_) (fun u hu => ?_)
        · have hk3 := hk ⟨2, .data⟩ (by simp) rfl _ _ _ rfl rfl rfl (by simp) rfl
          obtain ⟨Q1, Q2, Q3, q1, q2, q3, he, hr, hc⟩ := hk3.now
          go_simp
          exact call_grow (CX.out _ _ _ _ _ _ _ hr hc)
        obtain ⟨_, _, rfl⟩ := hu
        skip
        simp only [Act.put, List.setIfInBounds_toArray, List.set_cons_zero, List.set_cons_succ]
        repeat (refine wpG_one rfl rfl rfl ?_; intro K hK; go_big_quiet_op; go_big_quiet_on)
        refine wpG_make (NewAt W5 #[I 0, I 0] 23) rfl rfl (fun w' hw' _ => ?_) (fun u hu => ?_)
        · go_simp
          exact new_grow hw'
        obtain ⟨_, _, xa, rfl, _, hxb⟩ := hu
        simp only [Act.put, List.setIfInBounds_toArray, List.set_cons_zero, List.set_cons_succ]
        repeat (refine wpG_one rfl rfl rfl ?_; intro K hK; go_big_quiet_op; go_big_quiet_on)
        refine wpG_nil (fun w5 hw5 hG => ?_)
        have hx5 := (Box.now hG.2).at.1
        intro s t hs ht
        obtain rfl := Option.some.inj hs
        obtain rfl := Option.some.inj ht
        clear hG hs ht
        refine wp_store_row 23 _ _ rfl xa rfl _ _ hx5 #[I X0, I X1] rfl (two2 _ _) rfl (by kernel_rfl) ?_
        refine ⟨hw5.set hxb _, ?_⟩
        refine wp_assign _ (I 0) rfl rfl ?_
        refine ⟨hw5.set hxb _, ?_⟩
        simp only [Act.put, List.setIfInBounds_toArray, List.set_cons_zero, List.set_cons_succ]
        have q0 : (w5.setRow xa #[I X0, I X1]).heap[xa]? = some (.cells #[I X0, I X1] 23 (0, 0)) := setRow_same hx5
        have hle : Le W5 (w5.setRow xa #[I X0, I X1]) := below_setRow hw5.le hxb _
        generalize w5.setRow xa #[I X0, I X1] = W6 at *
        have LW6 : Hid (Le W5 W6) := hle
        have QW6 : Hid (∀ W, Le W6 W → W.cell? ⟨xa, 0, none⟩ = some (I X0) ∧ W.cell? ⟨xa, 1, none⟩ = some (I X1)) := fun W hW => by
          have h1 := (Below.block hW _ (Array.getElem?_eq_some_iff.1 q0).1).trans q0
          exact ⟨by rw [cell_of_row _ _ _ _ _ _ h1]; rfl, by rw [cell_of_row _ _ _ _ _ _ h1]; rfl⟩
        clear hx5 hw5 hxb q0 hle v0 v1 v2 v3
        have L6 : Hid (Le W2 W6) := L5.out.trans LW6.out
        clear CX
        obtain ⟨k0, k1, k2, k3⟩ := HX.out W6 (L6.out)
        have v0 := ovr_cell k0
        have v1 := ovr_cell k1
        have v2 := ovr_cell k2
        have v3 := ovr_cell k3
        go_wp2_with fail
        clear k0 k1 k2 k3
        refine wp_region_make_two (fun j => if j = 0 then some (fun u _ => u = .agg (ia 117 p)) else if j = 2 then some (OwnF R') else if j = 4 then some (fun u _ => u = .tuple #[.agg #[I Y0, I Y1], I 0]) else if j = 8 then some (NewAt W6 #[I 0, I 0] 23) else none) [7] (by kernel_rfl) (by kernel_rfl) (by kernel_rfl) (by kernel_rfl) (by kernel_rfl) (by intro i hi; simp at hi; subst hi; rfl) ⟨rfl, rfl⟩ (fun c a d v w h => by cases d <;> exact h) ?_
        simp only [sleepTwo_cons, sleepTwo_two]
        refine wpG_make (fun u _ => u = .agg (ia 117 p)) rfl rfl (fun w' hw' _ => ?_) (fun u hu => ?_)
        · exact load_grow rfl rfl (HP.out w' ((L6.out).trans hw'.le))
        obtain ⟨_, _, rfl⟩ := hu
        simp only [Act.put, List.setIfInBounds_toArray, List.set_cons_zero, List.set_cons_succ]
        repeat (refine wpG_one rfl rfl rfl ?_; intro K hK; go_big_quiet_op; go_big_quiet_on)
        refine wpG_make (OwnF R') rfl rfl (fun w' hw' _ => ?_) (fun u hu => ?_)
        · go_simp
          exact own_grow (own_any _ _ _ _ _ _ R' w' (HI.out _ ((L6.out).trans hw'.le)))
        obtain ⟨_, _, B1, B2, B3, d1, d2, d3, rfl, _, _⟩ := hu
        simp only [Act.put, List.setIfInBounds_toArray, List.set_cons_zero, List.set_cons_succ]
        repeat (refine wpG_one rfl rfl rfl ?_; intro K hK; go_big_quiet_op; go_big_quiet_on)
        refine wpG_make (fun u _ => u = .tuple #[.agg #[I Y0, I Y1], I 0]) rfl rfl (fun w' hw' hk => ?_) (fun u hu => ?_)
        · have hk3 := hk ⟨2, .data⟩ (by simp) rfl _ _ _ rfl rfl rfl (by simp) rfl
          obtain ⟨Q1, Q2, Q3, q1, q2, q3, he, hr, hc⟩ := hk3.now
          go_simp
          exact call_grow (CB.out _ _ _ _ _ _ _ hr hc)
        obtain ⟨_, _, rfl⟩ := hu
        skip
        simp only [Act.put, List.setIfInBounds_toArray, List.set_cons_zero, List.set_cons_succ]
        repeat (refine wpG_one rfl rfl rfl ?_; intro K hK; go_big_quiet_op; go_big_quiet_on)
        refine wpG_make (NewAt W6 #[I 0, I 0] 23) rfl rfl (fun w' hw' _ => ?_) (fun u hu => ?_)
        · go_simp
          exact new_grow hw'
        obtain ⟨_, _, ya, rfl, _, hxb⟩ := hu
        simp only [Act.put, List.setIfInBounds_toArray, List.set_cons_zero, List.set_cons_succ]
        repeat (refine wpG_one rfl rfl rfl ?_; intro K hK; go_big_quiet_op; go_big_quiet_on)
        refine wpG_nil (fun w5 hw5 hG => ?_)
        have hx5 := (Box.now hG.2).at.1
        intro s t hs ht
        obtain rfl := Option.some.inj hs
        obtain rfl := Option.some.inj ht
        clear hG hs ht
        refine wp_store_row 23 _ _ rfl ya rfl _ _ hx5 #[I Y0, I Y1] rfl (two2 _ _) rfl (by kernel_rfl) ?_
        refine ⟨hw5.set hxb _, ?_⟩
        refine wp_assign _ (I 0) rfl rfl ?_
        refine ⟨hw5.set hxb _, ?_⟩
        simp only [Act.put, List.setIfInBounds_toArray, List.set_cons_zero, List.set_cons_succ]
        have q0 : (w5.setRow ya #[I Y0, I Y1]).heap[ya]? = some (.cells #[I Y0, I Y1] 23 (0, 0)) := setRow_same hx5
        have hle : Le W6 (w5.setRow ya #[I Y0, I Y1]) := below_setRow hw5.le hxb _
        generalize w5.setRow ya #[I Y0, I Y1] = W7 at *
        have LW7 : Hid (Le W6 W7) := hle
        have QW7 : Hid (∀ W, Le W7 W → W.cell? ⟨ya, 0, none⟩ = some (I Y0) ∧ W.cell? ⟨ya, 1, none⟩ = some (I Y1)) := fun W hW => by
          have h1 := (Below.block hW _ (Array.getElem?_eq_some_iff.1 q0).1).trans q0
          exact ⟨by rw [cell_of_row _ _ _ _ _ _ h1]; rfl, by rw [cell_of_row _ _ _ _ _ _ h1]; rfl⟩
        clear hx5 hw5 hxb q0 hle v0 v1 v2 v3
        have L7 : Hid (Le W2 W7) := L6.out.trans LW7.out
        clear CB
        obtain ⟨k0, k1, k2, k3⟩ := HX.out W7 (L7.out)
        have v0 := ovr_cell k0
        have v1 := ovr_cell k1
        have v2 := ovr_cell k2
        have v3 := ovr_cell k3
        go_wp2_with fail
        clear k0 k1 k2 k3
        refine wp_region_make_two (fun j => if j = 0 then some (fun u _ => u = .agg (ia 117 p)) else if j = 2 then some (OwnF R') else if j = 5 then some (fun u _ => u = .tuple #[.agg #[I Z0, I Z1], I 0]) else if j = 9 then some (NewAt W7 #[I 0, I 0] 23) else none) [8] (by kernel_rfl) (by kernel_rfl) (by kernel_rfl) (by kernel_rfl) (by kernel_rfl) (by intro i hi; simp at hi; subst hi; rfl) ⟨rfl, rfl⟩ (fun c a d v w h => by cases d <;> exact h) ?_
        simp only [sleepTwo_cons, sleepTwo_two]
        refine wpG_make (fun u _ => u = .agg (ia 117 p)) rfl rfl (fun w' hw' _ => ?_) (fun u hu => ?_)
        · exact load_grow rfl rfl (HP.out w' ((L7.out).trans hw'.le))
        obtain ⟨_, _, rfl⟩ := hu
        simp only [Act.put, List.setIfInBounds_toArray, List.set_cons_zero, List.set_cons_succ]
        repeat (refine wpG_one rfl rfl rfl ?_; intro K hK; go_big_quiet_op; go_big_quiet_on)
        refine wpG_make (OwnF R') rfl rfl (fun w' hw' _ => ?_) (fun u hu => ?_)
        · go_simp
          exact own_grow (own_any _ _ _ _ _ _ R' w' (HI.out _ ((L7.out).trans hw'.le)))
        obtain ⟨_, _, B1, B2, B3, d1, d2, d3, rfl, _, _⟩ := hu
        simp only [Act.put, List.setIfInBounds_toArray, List.set_cons_zero, List.set_cons_succ]
        repeat (refine wpG_one rfl rfl rfl ?_; intro K hK; go_big_quiet_op; go_big_quiet_on)
        refine wpG_make (fun u _ => u = .tuple #[.agg #[I Z0, I Z1], I 0]) rfl rfl (fun w' hw' hk => ?_) (fun u hu => ?_)
        · have hk3 := hk ⟨2, .data⟩ (by simp) rfl _ _ _ rfl rfl rfl (by simp) rfl
          obtain ⟨Q1, Q2, Q3, q1, q2, q3, he, hr, hc⟩ := hk3.now
          go_simp
          exact call_grow (CZ.out _ _ _ _ _ _ _ hr hc)
        obtain ⟨_, _, rfl⟩ := hu
        skip
        simp only [Act.put, List.setIfInBounds_toArray, List.set_cons_zero, List.set_cons_succ]
        repeat (refine wpG_one rfl rfl rfl ?_; intro K hK; go_big_quiet_op; go_big_quiet_on)
        refine wpG_make (NewAt W7 #[I 0, I 0] 23) rfl rfl (fun w' hw' _ => ?_) (fun u hu => ?_)
        · go_simp
          exact new_grow hw'
        obtain ⟨_, _, za, rfl, _, hxb⟩ := hu
        simp only [Act.put, List.setIfInBounds_toArray, List.set_cons_zero, List.set_cons_succ]
        repeat (refine wpG_one rfl rfl rfl ?_; intro K hK; go_big_quiet_op; go_big_quiet_on)
        refine wpG_nil (fun w5 hw5 hG => ?_)
        have hx5 := (Box.now hG.2).at.1
        intro s t hs ht
        obtain rfl := Option.some.inj hs
        obtain rfl := Option.some.inj ht
        clear hG hs ht
        refine wp_store_row 23 _ _ rfl za rfl _ _ hx5 #[I Z0, I Z1] rfl (two2 _ _) rfl (by kernel_rfl) ?_
        refine ⟨hw5.set hxb _, ?_⟩
        refine wp_assign _ (I 0) rfl rfl ?_
        refine ⟨hw5.set hxb _, ?_⟩
        simp only [Act.put, List.setIfInBounds_toArray, List.set_cons_zero, List.set_cons_succ]
        have q0 : (w5.setRow za #[I Z0, I Z1]).heap[za]? = some (.cells #[I Z0, I Z1] 23 (0, 0)) := setRow_same hx5
        have hle : Le W7 (w5.setRow za #[I Z0, I Z1]) := below_setRow hw5.le hxb _
        generalize w5.setRow za #[I Z0, I Z1] = W8 at *
        have LW8 : Hid (Le W7 W8) := hle
        have QW8 : Hid (∀ W, Le W8 W → W.cell? ⟨za, 0, none⟩ = some (I Z0) ∧ W.cell? ⟨za, 1, none⟩ = some (I Z1)) := fun W hW => by
          have h1 := (Below.block hW _ (Array.getElem?_eq_some_iff.1 q0).1).trans q0
          exact ⟨by rw [cell_of_row _ _ _ _ _ _ h1]; rfl, by rw [cell_of_row _ _ _ _ _ _ h1]; rfl⟩
        clear hx5 hw5 hxb q0 hle v0 v1 v2 v3
        have L8 : Hid (Le W2 W8) := L7.out.trans LW8.out
        clear CZ
        go_wp2_with fail
        obtain ⟨fx, fy, fn, f1, f2, f3, f4⟩ := HF.out
        have hmn : (if Z0 < X0 then Z0 else X0) = min X0 Z0 := by split <;> omega
        have hmx : (if X1 < Z1 then Z1 else X1) = max X1 Z1 := by split <;> omega
        have bmn : -100000000000000 ≤ min X0 Z0 ∧ max X1 Z1 ≤ 100000000000000 ∧ min X0 Z0 ≤ 100000000000000 ∧ -100000000000000 ≤ max X1 Z1 := by omega
        generalize min X0 Z0 = mn at *
        generalize max X1 Z1 = mx at *
        have Hmn := Lib.hid hmn
        have Hmx := Lib.hid hmx
        obtain ⟨a1, a2⟩ := QW6.out W8 (LW7.out.trans LW8.out)
        obtain ⟨b1, b2⟩ := QW7.out W8 LW8.out
        obtain ⟨d1, d2⟩ := QW8.out W8 (Le.refl _)
        have g1 := HDk.out W8 L8.out
        have g2 := HDn.out W8 L8.out
        have y1 := ovr_cell a1
        have y2 := ovr_cell a2
        have y3 := ovr_cell b1
        have y4 := ovr_cell b2
        have y5 := ovr_cell d1
        have y6 := ovr_cell d2
        have y7 := ovr_cell g1
        have y8 := ovr_cell g2
        have i1 : (0 : Int) ≤ (k : Int) := by omega
        have i2 : (k : Int) < ((N + 1 : Nat) : Int) := by omega
        have i3 : (k : Int) + 1 < ((N + 1 : Nat) : Int) := by omega
        have i4 : IntKind.i64.wrap ((k : Int) + 1) = (k : Int) + 1 := IntWalk.i64_in _ (by omega)
        have i5 : (0 : Int) ≤ (k : Int) + 1 := by omega
        have i6 : ((k : Int) + 1).toNat = k + 1 := by omega
        have e1 : ¬ mn < Y0 := by omega
        have e2 : ¬ Y1 < mx := by omega
        clear a1 a2 b1 b2 d1 d2 g1 g2
        refine wp_region_below_lit (by kernel_rfl) (by kernel_rfl) ?_
        repeat (go_big_quiet_step ((go_at_call 39; exact call_below (has_yes _ _ _ _ (by omega) (by omega)))))
        refine wpQuiet_nil ?_
        intro W9 hb9
        have L89 : Hid (Le W8 W9) := hb9
        have L9 : Hid (Le W2 W9) := L8.out.trans hb9
        have L59 : Hid (Le W5 W9) := LW6.out.trans (LW7.out.trans (LW8.out.trans hb9))
        have L49 : Hid (Le W4 W9) := L45.out.trans L59.out
        clear hb9 y1 y2 y3 y4 y5 y6 y7 y8 i2 i3 i4 i5 i6 e1 e2 fx fy fn f1 f2
        obtain ⟨a1, a2⟩ := QW6.out W9 (LW7.out.trans (LW8.out.trans L89.out))
        obtain ⟨b1, b2⟩ := QW7.out W9 (LW8.out.trans L89.out)
        obtain ⟨d1, d2⟩ := QW8.out W9 L89.out
        have pg : W9.cell? ⟨w.heap.size, 110, none⟩ = some (I (p 110)) := HP.out W9 L9.out 110 (by omega)
        have ps : W9.cell? ⟨w.heap.size, 111, none⟩ = some (I (p 111)) := HP.out W9 L9.out 111 (by omega)
        have pl : W9.cell? ⟨w.heap.size, 112, none⟩ = some (I (p 112)) := HP.out W9 L9.out 112 (by omega)
        have ph : W9.cell? ⟨w.heap.size, 113, none⟩ = some (I (p 113)) := HP.out W9 L9.out 113 (by omega)
        have e3 : ¬ Y0 < mn - p 110 - p 111 := by omega
        have e4 : ¬ mx + p 110 + p 111 < Y1 := by omega
        go_wp2_with fail
        have y3 := ovr_cell b1
        have y4 := ovr_cell b2
        have y5 := ovr_cell pl
        have y6 := ovr_cell ph
        clear a1 a2 b1 b2 d1 d2 pg ps pl ph e3 e4
        have CH : Hid (∀ W, Le W4 W → Calls Try.prog 40 #[.slice Ar nr cr, I k] W fun e w' => e = .returned (.bool (decide (p 112 ≤ Y0) && decide (Y1 ≤ p 113))) ∧ Below W.heap.size W w') := fun W hW => by
          have h1 := Hnr1.out
          have := hasSecond_any Ar nr cr rs k W Hnr.out (by omega) (HA.out W hW)
          rw [Hrl.out.has k, decide_eq_true hlt, Bool.true_and, Hgb.out] at this; exact this
        have hfin : Hid ((k : Int) + (1 + R'.e / 12) = ((k + (1 + N / 12) : Nat) : Int)) := by
          show _ = _
          rw [HN.out]; omega
        by_cases l1 : p 112 ≤ Y0
        · by_cases l2 : Y1 ≤ p 113
          · have CH2 : Hid (∀ W, Le W4 W → Calls Try.prog 40 #[.slice Ar nr cr, I k] W fun e w' => e = .returned (.bool true) ∧ Below W.heap.size W w') := fun W hW => by
              have := CH.out W hW
              simpa [l1, l2] using this
            clear CH
            refine wp_region_below_lit (by kernel_rfl) (by kernel_rfl) ?_
            repeat (go_big_quiet_step ((go_at_call 40; exact call_below (CH2.out _ (L49.out.trans (ovr_below _ _))))))
            refine wpQuiet_nil ?_
            intro W10 hb10
            have L5A : Hid (Le W4 W10) := L49.out.trans hb10
            have L2A : Hid (Le W2 W10) := L4.out.trans L5A.out
            clear hb10 y3 y4 y5 y6 l1
            obtain ⟨k0, k1, k2, k3⟩ := HX.out W10 L2A.out
            go_wp2_with fail
            go_roundw
            case rel => exact ⟨k + (1 + N / 12), by rw [hfin.out], by omega, L5A.out⟩
            case measure => simp only [intOf]; rw [hfin.out]; omega
          · have CH2 : Hid (∀ W, Le W4 W → Calls Try.prog 40 #[.slice Ar nr cr, I k] W fun e w' => e = .returned (.bool false) ∧ Below W.heap.size W w') := fun W hW => by
              have := CH.out W hW
              simpa [l1, l2] using this
            clear CH
            refine wp_region_below_lit (by kernel_rfl) (by kernel_rfl) ?_
            repeat (go_big_quiet_step ((go_at_call 40; exact call_below (CH2.out _ (L49.out.trans (ovr_below _ _))))))
            refine wpQuiet_nil ?_
            intro W10 hb10
            have L5A : Hid (Le W4 W10) := L49.out.trans hb10
            have L2A : Hid (Le W2 W10) := L4.out.trans L5A.out
            clear hb10 y3 y4 y5 y6 l1
            obtain ⟨k0, k1, k2, k3⟩ := HX.out W10 L2A.out
            go_wp2_with fail
            go_roundw
            case rel => exact ⟨k + (1 + N / 12), by rw [hfin.out], by omega, L5A.out⟩
            case measure => simp only [intOf]; rw [hfin.out]; omega
        · have CH2 : Hid (∀ W, Le W4 W → Calls Try.prog 40 #[.slice Ar nr cr, I k] W fun e w' => e = .returned (.bool false) ∧ Below W.heap.size W w') := fun W hW => by
            have := CH.out W hW
            simpa [l1] using this
          clear CH
          refine wp_region_below_lit (by kernel_rfl) (by kernel_rfl) ?_
          repeat (go_big_quiet_step ((go_at_call 40; exact call_below (CH2.out _ (L49.out.trans (ovr_below _ _))))))
          refine wpQuiet_nil ?_
          intro W10 hb10
          have L5A : Hid (Le W4 W10) := L49.out.trans hb10
          have L2A : Hid (Le W2 W10) := L4.out.trans L5A.out
          clear hb10 y3 y4 y5 y6 l1
          obtain ⟨k0, k1, k2, k3⟩ := HX.out W10 L2A.out
          go_wp2_with fail
          go_roundw
          case rel => exact ⟨k + (1 + N / 12), by rw [hfin.out], by omega, L5A.out⟩
          case measure => simp only [intOf]; rw [hfin.out]; omega
    · as_aux_lemma =>
        have hge : R'.e ≤ (k : Int) := by rw [HN.out]; omega
        obtain ⟨k0, k1, k2, k3⟩ := HX.out W5 L5.out
        go_wp2_with fail
        clear k0 k1 k2 k3 hge hlt
        have hnr := Hnr1.out
        go_loopw [21, 22] (fun i _ wr => ∃ j : Nat, j ≤ nr ∧ i = .int .i64 j ∧ Le W5 wr) (fun i _ _ => nr - (intOf i).toNat)
        case atStart => exact ⟨0, by omega, rfl, Le.refl _⟩
        case round =>
          rename World => W6
          obtain ⟨j, hj, rfl, hbw⟩ := hrel
          have L56 : Hid (Le W5 W6) := hbw
          have L46 : Hid (Le W4 W6) := L45.out.trans hbw
          have L6 : Hid (Le W2 W6) := L5.out.trans hbw
          clear hbw
          obtain ⟨k0, k1, k2, k3⟩ := HX.out W6 L6.out
          by_cases hjn : j < nr
          · have hjl : j < rs.length := by rw [← Hnr.out]; exact hjn
            obtain ⟨h0, h1, h2⟩ := Hrl.out.bd j hjl
            have hlim : ∀ q : Nat, (at0 rs j).lo ≤ q → (q : Int) ≤ (at0 rs j).hi + 1 → p 112 ≤ crs p x q ∧ crs p x q ≤ p 113 := fun q a1 a2 => run_lim Hvr.out Hvp.out Htc.out Hpos.out HN.out Hrl.out hjl a1 a2
            obtain ⟨b4, o4, rfl, hB4, s0, s1⟩ := (HA.out W6 L46.out).rng hjn
            obtain ⟨lo, hlo⟩ : ∃ lo, (at0 rs j).lo = lo := ⟨_, rfl⟩
            obtain ⟨hi, hhi⟩ : ∃ hi, (at0 rs j).hi = hi := ⟨_, rfl⟩
            have Hlo := Lib.hid hlo
            have Hhi := Lib.hid hhi
            rw [hlo] at s0 h0 h1 hlim
            rw [hhi] at s1 h1 h2 hlim
            have Hlim := Lib.hid hlim
            have h2e : hi < R'.e := by rw [HN.out]; omega
            have v1 := ovr_cell k1
            have v2 := ovr_cell s0
            have v3 := ovr_cell s1
            clear hlo hhi hlim hB4
            have n1 : decide (lo < 0) = false := decide_eq_false (by omega)
            have n2 : decide (R'.e ≤ hi) = false := decide_eq_false (by omega)
            have n3 : decide (hi < lo) = false := decide_eq_false (by omega)
            have n4 : (0 : Int) ≤ (j : Int) := by omega
            have n5 : (j : Int) < (nr : Int) := by omega
            rcases Nat.eq_zero_or_pos j with hj0 | hj0
            · as_aux_lemma =>
                subst hj0
                simp only [Nat.zero_mul, Nat.add_zero] at v2 v3 s0 s1
                go_wp2_with fail
                clear k0 k1 k2 k3 s0 s1
                refine wp_region_below_lit (by kernel_rfl) (by kernel_rfl) ?_
                repeat (go_big_quiet_step (fail))
                refine wpQuiet_nil ?_
                intro W7 hb7
                have L67 : Hid (Le W6 W7) := hb7
                have L57 : Hid (Le W5 W7) := L56.out.trans hb7
                have L47 : Hid (Le W4 W7) := L45.out.trans L57.out
                have L7 : Hid (Le W2 W7) := L4.out.trans L47.out
                clear hb7 v1 v2 v3 n1 n2 n3 n4 n5
                obtain ⟨b5, o5, he5, hB5, s0, s1⟩ := (HA.out W7 L47.out).rng hjn
                obtain ⟨rfl, rfl⟩ : b4 = b5 ∧ o4 = o5 := by injection he5 with he5; injection he5 with e1 e2; exact ⟨e1, e2⟩
                rw [Hlo.out] at s0
                rw [Hhi.out] at s1
                simp only [Nat.zero_mul, Nat.add_zero] at s0 s1
                clear he5
                have HB4 : Hid (∀ W, Le W7 W → W.cell? ⟨b4, o4 + 1, none⟩ = some (I hi)) := fun W hW => (Below.cell hW (p := ⟨b4, o4 + 1, none⟩) hB5).trans s1
                clear hB5
                go_wp2_with fail
                clear s0 s1
                go_loopw [22] (fun t wr => ∃ q : Nat, t = .int .i64 q ∧ lo ≤ q ∧ (q : Int) ≤ hi + 2 ∧ Le W7 wr) (fun t _ => (hi + 2 - intOf t).toNat)
                case atStart => exact ⟨lo.toNat, by rw [Int.toNat_of_nonneg (by omega)], by omega, by omega, Le.refl _⟩
                case round =>
                  rename World => W8
                  obtain ⟨q, rfl, hq1, hq2, hbw⟩ := hrel
                  have L78 : Hid (Le W7 W8) := hbw
                  have L8 : Hid (Le W2 W8) := L7.out.trans hbw
                  have L58 : Hid (Le W5 W8) := L57.out.trans hbw
                  clear hbw
                  have s1 := HB4.out W8 L78.out
                  by_cases hlt3 : (q : Int) ≤ hi + 1
                  · obtain ⟨m1, m2⟩ := Hlim.out q hq1 hlt3
                    have g1 := HDc.out W8 L8.out q (by omega)
                    have pl : W8.cell? ⟨w.heap.size, 112, none⟩ = some (I (p 112)) := HP.out W8 L8.out 112 (by omega)
                    have ph : W8.cell? ⟨w.heap.size, 113, none⟩ = some (I (p 113)) := HP.out W8 L8.out 113 (by omega)
                    have HM : Hid (p 112 ≤ crs p x q ∧ crs p x q ≤ p 113) := ⟨m1, m2⟩
                    generalize crs p x q = cq at *
                    have y1 := ovr_cell g1
                    have y2 := ovr_cell pl
                    have y3 := ovr_cell ph
                    have i1 : (0 : Int) ≤ (q : Int) := by omega
                    have i2 : (q : Int) < ((N + 1 : Nat) : Int) := by omega
                    clear g1 pl ph
                    go_wp2_with fail
                    refine wp_region_below_lit (by kernel_rfl) (by kernel_rfl) ?_
                    repeat (go_big_quiet_step ((go_at_call 39; exact call_below (has_yes _ _ _ _ HM.out.1 HM.out.2))))
                    refine wpQuiet_nil ?_
                    intro W9 hb9
                    have L79 : Hid (Le W7 W9) := L78.out.trans hb9
                    clear hb9 y1 y2 y3 s1
                    go_wp2_with fail
                    go_roundw
                    case rel => exact ⟨q + 1, by go_num, by omega, by omega, L79.out⟩
                    case measure => simp only [intOf]; omega
                  · have hgt3 : hi + 1 < (q : Int) := by omega
                    go_wp2_with fail
                    go_roundw
                    case rel => exact ⟨0 + 1, by omega, by rfl, L58.out⟩
                    case measure => simp [intOf]; omega
            · as_aux_lemma =>
                obtain ⟨i, rfl⟩ : ∃ i, j = i + 1 := ⟨j - 1, by omega⟩
                obtain ⟨b5, o5, he5, _, t0, t1⟩ := (HA.out W6 L46.out).rng (k := i) (by omega)
                obtain ⟨rfl, rfl⟩ : b4 = b5 ∧ o4 = o5 := by injection he5 with he5; injection he5 with e1 e2; exact ⟨e1, e2⟩
                have hgap := Hrl.out.gap i hjl
                have hbi := Hrl.out.bd i (by omega)
                rw [Hlo.out] at hgap
                generalize (at0 rs i).hi = pv at *
                have v4 := ovr_cell t1
                have n6 : decide (lo - 1 ≤ pv) = false := decide_eq_false (by omega)
                have n7 : IntKind.i64.wrap (((i : Int) + 1) - 1) = (i : Int) := by rw [show ((i : Int) + 1) - 1 = (i : Int) by omega]; exact IntWalk.i64_in _ (by omega)
                have n8 : (0 : Int) ≤ (i : Int) := by omega
                have n9 : (i : Int) < (nr : Int) := by omega
                have nA : decide ((0 : Int) < (i : Int) + 1) = true := decide_eq_true (by omega)
                have nB : (i : Int) + 1 < (nr : Int) := by omega
                have nC : ((i : Int) + 1).toNat = i + 1 := by omega
                have nD : (0 : Int) ≤ (i : Int) + 1 := by omega
                have Hbi := Lib.hid hbi
                clear he5 t0 t1 hgap hbi n4 n5 hj0
                rw [show ((i + 1 : Nat) : Int) = (i : Int) + 1 from rfl]
                go_wp2_with fail
                clear k0 k1 k2 k3 s0 s1
                refine wp_region_below_lit (by kernel_rfl) (by kernel_rfl) ?_
                repeat (go_big_quiet_step (fail))
                refine wpQuiet_nil ?_
                intro W7 hb7
                have L67 : Hid (Le W6 W7) := hb7
                have L57 : Hid (Le W5 W7) := L56.out.trans hb7
                have L47 : Hid (Le W4 W7) := L45.out.trans L57.out
                have L7 : Hid (Le W2 W7) := L4.out.trans L47.out
                clear hb7 v1 v2 v3 v4 n1 n2 n3 n6 n7 nA nD
                obtain ⟨b5, o5, he5, hB5, s0, s1⟩ := (HA.out W7 L47.out).rng hjn
                obtain ⟨rfl, rfl⟩ : b4 = b5 ∧ o4 = o5 := by injection he5 with he5; injection he5 with e1 e2; exact ⟨e1, e2⟩
                rw [Hlo.out] at s0
                rw [Hhi.out] at s1
                clear he5
                have HB4 : Hid (∀ W, Le W7 W → W.cell? ⟨b4, o4 + (i + 1) * 2 + 1, none⟩ = some (I hi)) := fun W hW => (Below.cell hW (p := ⟨b4, o4 + (i + 1) * 2 + 1, none⟩) hB5).trans s1
                clear hB5
                go_wp2_with fail
                clear s0 s1
                go_loopw [22] (fun t wr => ∃ q : Nat, t = .int .i64 q ∧ lo ≤ q ∧ (q : Int) ≤ hi + 2 ∧ Le W7 wr) (fun t _ => (hi + 2 - intOf t).toNat)
                case atStart => exact ⟨lo.toNat, by rw [Int.toNat_of_nonneg (by omega)], by omega, by omega, Le.refl _⟩
                case round =>
                  rename World => W8
                  obtain ⟨q, rfl, hq1, hq2, hbw⟩ := hrel
                  have L78 : Hid (Le W7 W8) := hbw
                  have L8 : Hid (Le W2 W8) := L7.out.trans hbw
                  have L58 : Hid (Le W5 W8) := L57.out.trans hbw
                  clear hbw
                  have s1 := HB4.out W8 L78.out
                  by_cases hlt3 : (q : Int) ≤ hi + 1
                  · obtain ⟨m1, m2⟩ := Hlim.out q hq1 hlt3
                    have g1 := HDc.out W8 L8.out q (by omega)
                    have pl : W8.cell? ⟨w.heap.size, 112, none⟩ = some (I (p 112)) := HP.out W8 L8.out 112 (by omega)
                    have ph : W8.cell? ⟨w.heap.size, 113, none⟩ = some (I (p 113)) := HP.out W8 L8.out 113 (by omega)
                    have HM : Hid (p 112 ≤ crs p x q ∧ crs p x q ≤ p 113) := ⟨m1, m2⟩
                    generalize crs p x q = cq at *
                    have y1 := ovr_cell g1
                    have y2 := ovr_cell pl
                    have y3 := ovr_cell ph
                    have i1 : (0 : Int) ≤ (q : Int) := by omega
                    have i2 : (q : Int) < ((N + 1 : Nat) : Int) := by omega
                    clear g1 pl ph
                    go_wp2_with fail
                    refine wp_region_below_lit (by kernel_rfl) (by kernel_rfl) ?_
                    repeat (go_big_quiet_step ((go_at_call 39; exact call_below (has_yes _ _ _ _ HM.out.1 HM.out.2))))
                    refine wpQuiet_nil ?_
                    intro W9 hb9
                    have L79 : Hid (Le W7 W9) := L78.out.trans hb9
                    clear hb9 y1 y2 y3 s1
                    go_wp2_with fail
                    go_roundw
                    case rel => exact ⟨q + 1, by go_num, by omega, by omega, L79.out⟩
                    case measure => simp only [intOf]; omega
                  · have hgt3 : hi + 1 < (q : Int) := by omega
                    go_wp2_with fail
                    go_roundw
                    case rel => exact ⟨(i + 1) + 1, by omega, by go_num, L58.out⟩
                    case measure => simp [intOf]; omega
          · have hgj : nr ≤ j := by omega
            go_wp2_with fail
            refine (known_any W6).mono ?_
            rintro e WK ⟨rfl, hb⟩
            have LK : Hid (Below w.heap.size w WK) := HU.out _ ((L6.out).trans hb)
            clear hb
            go_wp2_with fail
            go_ret
            exact ⟨rfl, LK.out⟩
end Go.Proofs.Ytlebefopdnadaaa
