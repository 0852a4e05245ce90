/- The law PullObeys holds of every puller and run: the walk of the statement's function. -/
import Derived.Test.YtlebefopdnadaaaOg
namespace Go.Proofs.Ytlebefopdnadaaa
open Go.RowKit
theorem obS_obB {p : Vec} {R : Run} (h : (okPuller p && okRun R) = true) : obB p R = obS p R := by rw [obB, if_pos h]; rfl
set_option maxRecDepth 100000 in
set_option maxHeartbeats 2000000 in
theorem pullObeys_any (p : Vec) (A1 A2 A3 : Option Addr) (c1 c2 c3 : Nat) (R : Run) (w : World) (h1 : Rd w w.heap.size 8 A1 R.ss.length (rS R.ss)) (h2 : Rd w w.heap.size 3 A2 R.ms.length (rM R.ms)) (h3 : Rd w w.heap.size 2 A3 R.es.length (rE R.es)) :
    Calls Try.prog 5 #[.agg (ia 117 p), runV A1 A2 A3 c1 c2 c3 R] w fun e w' => e = .returned (.bool true) ∧ Below w.heap.size w w' := by
  obtain ⟨W0, hW0⟩ : ∃ W0, W0 = w.alloc (.cells (ia 117 p) 30) := ⟨_, rfl⟩
  obtain ⟨W1, hW1⟩ : ∃ W1, W1 = W0.alloc (.cells #[.slice A1 R.ss.length c1, I R.e, .slice A2 R.ms.length c2, .slice A3 R.es.length c3] 35) := ⟨_, rfl⟩
  have HL0 : Hid (Le W0 W1) := by show Below _ _ _; rw [hW1]; exact (Below.refl _ _).alloc (Nat.le_refl _) _
  have HU : Hid (∀ W, Le W1 W → Below w.heap.size w W) := fun W hW => by have := HL0.out.trans hW; rw [hW0] at this; exact under2 this
  have hz0 : W0.heap.size = w.heap.size + 1 := by rw [hW0]; simp
  have HP : Hid (∀ W, Le W1 W → ∀ j, j < 117 → W.cell? ⟨w.heap.size, 0 + j, none⟩ = some (I (p j))) := fun W hW j hj => by
    have hr : W.heap[w.heap.size]? = some (.cells (ia 117 p) 30 (0, 0)) := (Below.block (HL0.out.trans hW) _ (by rw [hW0]; simp)).trans (by rw [hW0]; exact heap_last _ _ _ rfl)
    rw [Nat.zero_add, cell_of_row _ _ _ _ _ _ hr]; exact ia_get hj
  have HX : Hid (∀ W, Le W1 W → W.cell? ⟨w.heap.size + 1, 0, none⟩ = some (.slice A1 R.ss.length c1) ∧ W.cell? ⟨w.heap.size + 1, 1, none⟩ = some (I R.e) ∧ W.cell? ⟨w.heap.size + 1, 2, none⟩ = some (.slice A2 R.ms.length c2) ∧ W.cell? ⟨w.heap.size + 1, 3, none⟩ = some (.slice A3 R.es.length c3)) := fun W hW => by
    have hr : W.heap[w.heap.size + 1]? = some (.cells #[.slice A1 R.ss.length c1, I R.e, .slice A2 R.ms.length c2, .slice A3 R.es.length c3] 35 (0, 0)) := (Below.block hW _ (by rw [hW1]; simp; omega)).trans (by rw [hW1, ← hz0]; exact heap_last _ _ _ rfl)
    exact ⟨by rw [cell_of_row _ _ _ _ _ _ hr]; rfl, by rw [cell_of_row _ _ _ _ _ _ hr]; rfl, by rw [cell_of_row _ _ _ _ _ _ hr]; rfl, by rw [cell_of_row _ _ _ _ _ _ hr]; rfl⟩
  have HR : Hid (∀ W, Le W1 W → Rd W W.heap.size 8 A1 R.ss.length (rS R.ss) ∧ Rd W W.heap.size 3 A2 R.ms.length (rM R.ms) ∧ Rd W W.heap.size 2 A3 R.es.length (rE R.es)) := fun W hW => by
    have hb := HU.out W hW
    exact ⟨(h1.below hb).more hb.size, (h2.below hb).more hb.size, (h3.below hb).more hb.size⟩
  have HW : Hid (W1 = (w.alloc (.cells (ia 117 p) 30)).alloc (.cells #[.slice A1 R.ss.length c1, I R.e, .slice A2 R.ms.length c2, .slice A3 R.es.length c3] 35)) := by show _ = _; rw [hW1, hW0]
  clear h1 h2 h3 hW0 hW1 hz0
  go_enter Try.func5, Try.ntmps5
  go_wp2_with fail
  rw [← HW.out]
  obtain ⟨r1, r2, r3⟩ := HR.out W1 (Le.refl _)
  refine (long_any A1 A2 A3 c1 c2 c3 R W1 r1 r2 r3).mono ?_
  rintro e W2 ⟨rfl, hb1⟩
  have L2 : Hid (Le W1 W2) := hb1
  clear hb1 r1 r2 r3
  rcases hl : lgR R with _ | _
  case true =>
    clear hl
    go_wp2_with fail
    refine (known_any W2).mono ?_
    rintro e WK ⟨rfl, hb⟩
    have LK : Hid (Below w.heap.size w WK) := HU.out _ ((L2.out).trans hb)
    clear hb
    go_wp2_with fail
    go_ret
    exact ⟨rfl, LK.out⟩
  obtain ⟨l1, l2, l3, l4⟩ := lgR_no hl
  have HI : Hid (∀ W, Le W1 W → RunIn W A1 A2 A3 R) := fun W hW => by
    obtain ⟨r1, r2, r3⟩ := HR.out W hW
    exact ⟨r1, r2, r3, by omega, by omega, by omega⟩
  have L4 := Lib.hid l4
  clear hl l1 l2 l3 l4
  obtain ⟨s1, s2, hst⟩ : ∃ s1 s2, stopS p R = (s1, s2) := ⟨_, _, rfl⟩
  obtain ⟨r0, r1, r2, hbr⟩ : ∃ r0 r1 r2, obB p R = ⟨r0, r1, r2⟩ := ⟨_, _, _, rfl⟩
  obtain ⟨ec, hec⟩ : ∃ ec, er (okPuller p && okRun R) = ec := ⟨_, rfl⟩
  have CS : Hid (∀ W E1 E2 E3 e1 e2 e3, RunIn W E1 E2 E3 R → Calls Try.prog 23 #[.agg (ia 117 p), runV E1 E2 E3 e1 e2 e3 R] W fun e w' => e = .returned (.tuple #[I s1, I s2, I ec]) ∧ Below W.heap.size W w') := fun W E1 E2 E3 e1 e2 e3 hr => by
    have := stopX_any E1 E2 E3 e1 e2 e3 p R W hr
    rw [hst, hec] at this; exact this
  have CO : Hid (∀ W E1 E2 E3 e1 e2 e3, RunIn W E1 E2 E3 R → Calls Try.prog 24 #[.agg (ia 117 p), runV E1 E2 E3 e1 e2 e3 R] W fun e w' => e = .returned (.tuple #[.agg #[I r0, I r1, I r2], I ec]) ∧ Below W.heap.size W w') := fun W E1 E2 E3 e1 e2 e3 hr => by
    have := obeys_any E1 E2 E3 e1 e2 e3 p R W hr
    rw [hbr, hec] at this; exact this
  have Hst := Lib.hid hst
  have Hbr := Lib.hid hbr
  have Hec := Lib.hid hec
  clear hst hbr hec
  obtain ⟨x0, x1, x2, x3⟩ := HX.out W2 (L2.out)
  have y0 := ovr_cell x0
  have y1 := ovr_cell x1
  have y2 := ovr_cell x2
  have y3 := ovr_cell x3
  clear x0 x1 x2 x3
  go_wp2_with fail
  refine wp_region_make (fun j => if j = 0 then some (fun u _ => u = .agg (ia 117 p)) else if j = 2 then some (OwnF R) else if j = 3 then some (fun u _ => u = .tuple #[I s1, I s2, I ec]) else none) (by kernel_rfl) (by kernel_rfl) (by kernel_rfl) ?_
  refine wpG_make (fun u _ => u = .agg (ia 117 p)) rfl rfl (fun w' hw' _ => ?_) (fun u hu => ?_)
  · exact load_grow rfl rfl (HP.out w' ((L2.out).trans hw'.le))
  obtain ⟨_, _, rfl⟩ := hu
  simp only [Act.put, List.setIfInBounds_toArray, List.set_cons_zero, List.set_cons_succ]
  repeat (refine wpG_one rfl rfl rfl ?_; intro K hK; go_big_quiet_op; go_big_quiet_on)
  refine wpG_make (OwnF R) rfl rfl (fun w' hw' _ => ?_) (fun u hu => ?_)
  · go_simp
    exact own_grow (own_any _ _ _ _ _ _ R w' (HI.out _ ((L2.out).trans hw'.le)))
  obtain ⟨_, _, B1, B2, B3, d1, d2, d3, rfl, _, _⟩ := hu
  simp only [Act.put, List.setIfInBounds_toArray, List.set_cons_zero, List.set_cons_succ]
  refine wpG_make (fun u _ => u = .tuple #[I s1, I s2, I ec]) rfl rfl (fun w' hw' hk => ?_) (fun u hu => ?_)
  · have hk3 := hk ⟨2, .data⟩ (by simp) rfl _ _ _ rfl rfl rfl (by simp) rfl
    obtain ⟨E1, E2, E3, e1, e2, e3, he, hr, hc⟩ := hk3.now
    go_simp
    exact call_grow (CS.out _ _ _ _ _ _ _ hr)
  obtain ⟨_, _, rfl⟩ := hu
  simp only [Act.put, List.setIfInBounds_toArray, List.set_cons_zero, List.set_cons_succ]
  repeat (refine wpG_one rfl rfl rfl ?_; intro K hK; go_big_quiet_op; go_big_quiet_on)
  refine wpG_nil (fun W3 hw3 _ => ?_)
  have L3 : Hid (Le W1 W3) := L2.out.trans hw3.le
  clear hw3 y0 y1 y2 y3 CS
  obtain ⟨x0, x1, x2, x3⟩ := HX.out W3 (L3.out)
  have y0 := ovr_cell x0
  have y1 := ovr_cell x1
  have y2 := ovr_cell x2
  have y3 := ovr_cell x3
  clear x0 x1 x2 x3
  go_wp2_with fail
  refine wp_region_make_two (fun j => if j = 0 then some (fun u _ => u = .agg (ia 117 p)) else if j = 2 then some (OwnF R) else if j = 3 then some (fun u _ => u = .tuple #[.agg #[I r0, I r1, I r2], I ec]) else if j = 7 then some (NewAt W3 #[I 0, I 0, I 0] 54) else none) [6] (by kernel_rfl) (by kernel_rfl) (by kernel_rfl) (by kernel_rfl) (by kernel_rfl) (by intro i hi; simp at hi; subst hi; rfl) ⟨rfl, rfl⟩ (fun c a d v w h => by cases d <;> exact h) ?_
  simp only [sleepTwo_cons, sleepTwo_two]
  refine wpG_make (fun u _ => u = .agg (ia 117 p)) rfl rfl (fun w' hw' _ => ?_) (fun u hu => ?_)
  · exact load_grow rfl rfl (HP.out w' ((L3.out).trans hw'.le))
  obtain ⟨_, _, rfl⟩ := hu
  simp only [Act.put, List.setIfInBounds_toArray, List.set_cons_zero, List.set_cons_succ]
  repeat (refine wpG_one rfl rfl rfl ?_; intro K hK; go_big_quiet_op; go_big_quiet_on)
  refine wpG_make (OwnF R) rfl rfl (fun w' hw' _ => ?_) (fun u hu => ?_)
  · go_simp
    exact own_grow (own_any _ _ _ _ _ _ R w' (HI.out _ ((L3.out).trans hw'.le)))
  obtain ⟨_, _, B1, B2, B3, d1, d2, d3, rfl, _, _⟩ := hu
  simp only [Act.put, List.setIfInBounds_toArray, List.set_cons_zero, List.set_cons_succ]
  refine wpG_make (fun u _ => u = .tuple #[.agg #[I r0, I r1, I r2], I ec]) rfl rfl (fun w' hw' hk => ?_) (fun u hu => ?_)
  · have hk3 := hk ⟨2, .data⟩ (by simp) rfl _ _ _ rfl rfl rfl (by simp) rfl
    obtain ⟨E1, E2, E3, e1, e2, e3, he, hr, hc⟩ := hk3.now
    go_simp
    exact call_grow (CO.out _ _ _ _ _ _ _ hr)
  obtain ⟨_, _, rfl⟩ := hu
  simp only [Act.put, List.setIfInBounds_toArray, List.set_cons_zero, List.set_cons_succ]
  repeat (refine wpG_one rfl rfl rfl ?_; intro K hK; go_big_quiet_op; go_big_quiet_on)
  refine wpG_make (NewAt W3 #[I 0, I 0, I 0] 54) rfl rfl (fun w' hw' _ => ?_) (fun u hu => ?_)
  · go_simp
    exact new_grow hw'
  obtain ⟨_, _, xb, rfl, _, hxb⟩ := hu
  simp only [Act.put, List.setIfInBounds_toArray, List.set_cons_zero, List.set_cons_succ]
  repeat (refine wpG_one rfl rfl rfl ?_; intro K hK; go_big_quiet_op; go_big_quiet_on)
  refine wpG_nil (fun w5 hw5 hG => ?_)
  have hx5 := (Box.now hG.2).at.1
  intro s t hs ht
  obtain rfl := Option.some.inj hs
  obtain rfl := Option.some.inj ht
  clear hG hs ht
  refine wp_store_row 54 _ _ rfl xb rfl _ _ hx5 #[I r0, I r1, I r2] rfl (one3 _ _ _) rfl (by kernel_rfl) ?_
  refine ⟨hw5.set hxb _, ?_⟩
  refine wp_assign _ (I ec) rfl rfl ?_
  refine ⟨hw5.set hxb _, ?_⟩
  simp only [Act.put, List.setIfInBounds_toArray, List.set_cons_zero, List.set_cons_succ]
  have L4' : Hid (Le W1 (w5.setRow xb #[I r0, I r1, I r2])) := below_setRow (L3.out.trans hw5.le) (Nat.le_trans L3.out.size hxb) _
  have q0 : (w5.setRow xb #[I r0, I r1, I r2]).heap[xb]? = some (.cells #[I r0, I r1, I r2] 54 (0, 0)) := setRow_same hx5
  generalize w5.setRow xb #[I r0, I r1, I r2] = W4 at *
  have Q : Hid (∀ W, Le W4 W → W.cell? ⟨xb, 0, none⟩ = some (I r0) ∧ W.cell? ⟨xb, 1, none⟩ = some (I r1) ∧ W.cell? ⟨xb, 2, none⟩ = some (I r2)) := fun W hW => by
    have h1 := (Below.block hW _ (Array.getElem?_eq_some_iff.1 q0).1).trans q0
    exact ⟨by rw [cell_of_row _ _ _ _ _ _ h1]; rfl, by rw [cell_of_row _ _ _ _ _ _ h1]; rfl, by rw [cell_of_row _ _ _ _ _ _ h1]; rfl⟩
  clear hx5 hw5 hxb y0 y1 y2 y3 CO q0
  go_wp2_with (refine wpList_load_ia rfl 30 _ rfl w.heap.size 0 rfl 117 p _ (HP.out _ L4'.out) Try.underlying30 rfl (by kernel_rfl) ?_)
  refine (refPuller_any p W4).mono ?_
  rintro e W5 ⟨rfl, hb5⟩
  have L5 : Hid (Le W4 W5) := hb5
  clear hb5
  have no : Hid ((okPuller p && okRun R) = false → ec = 2 ∧ s1 = 0 ∧ s2 = 0 ∧ r0 = 0 ∧ r1 = 0 ∧ r2 = 0) := fun hk => by
    have h1 := Hec.out
    have h2 := Hst.out
    have h3 := Hbr.out
    rw [hk] at h1
    rw [stopS, hk] at h2
    rw [obB, hk] at h3
    simp at h2 h3
    exact ⟨h1.symm, h2.1.symm, h2.2.symm, h3.1.symm, h3.2.1.symm, h3.2.2.symm⟩
  rcases hp : okPuller p with _ | _
  case false =>
    obtain ⟨rfl, rfl, rfl, rfl, rfl, rfl⟩ := no.out (by rw [hp]; rfl)
    obtain ⟨q0, q1, q2⟩ := Q.out W5 L5.out
    clear hp
    go_wp2_with fail
    refine (known_any W5).mono ?_
    rintro e WK ⟨rfl, hb⟩
    have LK : Hid (Below w.heap.size w WK) := HU.out _ ((L4'.out.trans L5.out).trans hb)
    clear hb
    go_wp2_with fail
    go_ret
    exact ⟨rfl, LK.out⟩
  obtain ⟨x0, x1, x2, x3⟩ := HX.out W5 (L4'.out.trans L5.out)
  go_wp2_with fail
  refine (refRun_any A1 A2 A3 c1 c2 c3 R W5 (HI.out _ (L4'.out.trans L5.out))).mono ?_
  rintro e W6 ⟨rfl, hb6⟩
  have L6 : Hid (Le W4 W6) := L5.out.trans hb6
  clear hb6 x0 x1 x2 x3
  rcases hr : okRun R with _ | _
  case false =>
    obtain ⟨rfl, rfl, rfl, rfl, rfl, rfl⟩ := no.out (by rw [hr]; simp)
    obtain ⟨q0, q1, q2⟩ := Q.out W6 L6.out
    clear hp hr
    go_wp2_with fail
    refine (known_any W6).mono ?_
    rintro e WK ⟨rfl, hb⟩
    have LK : Hid (Below w.heap.size w WK) := HU.out _ ((L4'.out.trans L6.out).trans hb)
    clear hb
    go_wp2_with fail
    go_ret
    exact ⟨rfl, LK.out⟩
  have hok : (okPuller p && okRun R) = true := by rw [hp, hr]; rfl
  have Hv := Lib.hid ((vRun_iff R).1 hr)
  have Hp := Lib.hid (vPul_of hp)
  obtain rfl : ec = 0 := by have := Hec.out; rw [hok] at this; exact this.symm
  have HF : Hid (stopF p R = (s1, s2)) := by show _ = _; have := Hst.out; rw [stopS, if_pos hok] at this; exact this
  have HO : Hid (obS p R = ⟨r0, r1, r2⟩) := by show _ = _; rw [← obS_obB hok]; exact Hbr.out
  clear hp hr hok no
  obtain ⟨x0, x1, x2, x3⟩ := HX.out W6 (L4'.out.trans L6.out)
  go_wp2_with (refine wpList_load_ia rfl 30 _ rfl w.heap.size 0 rfl 117 p _ (HP.out _ (L4'.out.trans L6.out)) Try.underlying30 rfl (by kernel_rfl) ?_)
  refine (refStop_any A1 A2 A3 c1 c2 c3 p R W6 (HI.out _ (L4'.out.trans L6.out)) Hv.out Hp.out).mono ?_
  rintro e W7 ⟨rfl, hb7⟩
  have L7 : Hid (Le W4 W7) := L6.out.trans hb7
  rw [HF.out]
  clear hb7 x0 x1 x2 x3
  obtain ⟨x0, x1, x2, x3⟩ := HX.out W7 (L4'.out.trans L7.out)
  have y0 := ovr_cell x0
  have y1 := ovr_cell x1
  have y2 := ovr_cell x2
  have y3 := ovr_cell x3
  clear x0 x1 x2 x3
  obtain ⟨q0, q1, q2⟩ := Q.out W7 L7.out
  have z0 := ovr_cell q0
  have z1 := ovr_cell q1
  have z2 := ovr_cell q2
  have e1 : (s1 == s1) = true := by simp
  have e2 : (s2 == s2) = true := by simp
  clear q0 q1 q2
  have CR : Hid (∀ W, Le W1 W → Calls Try.prog 26 #[.agg (ia 117 p), runV A1 A2 A3 c1 c2 c3 R] W fun e w' => e = .returned (.agg #[I r0, I r1, I r2]) ∧ Below W.heap.size W w') := fun W hW => by
    have := refObeys_any A1 A2 A3 c1 c2 c3 p R W (HI.out W hW) Hv.out Hp.out
    rw [HO.out] at this; exact this
  go_wp2_with fail
  refine wp_region_make (fun j => if j = 18 then some (fun u _ => u = .agg (ia 117 p)) else if j = 20 then some (fun u _ => u = .agg #[I r0, I r1, I r2]) else if j = 24 then some (fun u _ => u = .bool true) else none) (by kernel_rfl) (by kernel_rfl) (by kernel_rfl) ?_
  repeat (refine wpG_one rfl rfl rfl ?_; intro K hK; go_big_quiet_op; go_big_quiet_on)
  refine wpG_make (fun u _ => u = .agg (ia 117 p)) rfl rfl (fun w' hw' _ => ?_) (fun u hu => ?_)
  · exact load_grow rfl rfl (HP.out w' ((L4'.out.trans L7.out).trans hw'.le))
  obtain ⟨_, _, rfl⟩ := hu
  simp only [Act.put, List.setIfInBounds_toArray, List.set_cons_zero, List.set_cons_succ]
  repeat (refine wpG_one rfl rfl rfl ?_; intro K hK; go_big_quiet_op; go_big_quiet_on)
  refine wpG_make (fun u _ => u = .agg #[I r0, I r1, I r2]) rfl rfl (fun w' hw' _ => ?_) (fun u hu => ?_)
  · go_simp
    exact call_grow (CR.out w' ((L4'.out.trans L7.out).trans hw'.le))
  obtain ⟨_, _, rfl⟩ := hu
  simp only [Act.put, List.setIfInBounds_toArray, List.set_cons_zero, List.set_cons_succ]
  repeat (refine wpG_one rfl rfl rfl ?_; intro K hK; go_big_quiet_op; go_big_quiet_on)
  refine wpG_make (fun u _ => u = .bool true) rfl rfl (fun w' hw' _ => ?_) (fun u hu => ?_)
  · go_simp
    exact call_grow (known_any w')
  obtain ⟨_, _, rfl⟩ := hu
  simp only [Act.put, List.setIfInBounds_toArray, List.set_cons_zero, List.set_cons_succ]
  repeat (refine wpG_one rfl rfl rfl ?_; intro K hK; go_big_quiet_op; go_big_quiet_on)
  refine wpG_nil (fun W8 hw8 _ => ?_)
  have L8 : Hid (Below w.heap.size w W8) := HU.out _ ((L4'.out.trans L7.out).trans hw8.le)
  clear hw8
  go_wp2_with fail
  go_ret
  exact ⟨rfl, L8.out⟩
end Go.Proofs.Ytlebefopdnadaaa
