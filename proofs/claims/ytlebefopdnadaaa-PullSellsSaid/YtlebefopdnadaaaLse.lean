/- The law PullSees holds of every puller, run and time: the walk of the statement's function. -/
import Derived.Test.YtlebefopdnadaaaEg
namespace Go.Proofs.Ytlebefopdnadaaa
open Go.RowKit
theorem confV_confP {p : Vec} {R : Run} (h : (okPuller p && okRun R) = true) : confV p R = confP p R := by rw [confV, if_pos h]; rfl
theorem conf_nil {p : Vec} {R : Run} (h : R.ms.length = 0) : conf p R = none := by rw [conf, h]; rfl
theorem confP_neg {p : Vec} {R : Run} (h : (conf p R).isSome = false) : confP p R = (-1, -1) := by
  cases hc : conf p R with
  | none => rw [confP, hc]
  | some x => rw [hc] at h; cases h
theorem confP_pos {p : Vec} {R : Run} (h : (conf p R).isSome = true) : 0 ≤ (confP p R).1 := by
  cases hc : conf p R with
  | none => rw [hc] at h; cases h
  | some x => obtain ⟨i, j⟩ := x; rw [confP, hc]; show 0 ≤ (i : Int); omega
set_option maxRecDepth 100000 in
set_option maxHeartbeats 2000000 in
theorem pullSees_any (p : Vec) (A1 A2 A3 : Option Addr) (c1 c2 c3 : Nat) (R : Run) (t : Int) (w : World) (h1 : Rd w w.heap.size 8 A1 R.ss.length (rS R.ss)) (h2 : Rd w w.heap.size 3 A2 R.ms.length (rM R.ms)) (h3 : Rd w w.heap.size 2 A3 R.es.length (rE R.es)) :
    Calls Try.prog 6 #[.agg (ia 117 p), runV A1 A2 A3 c1 c2 c3 R, I t] w fun e w' => e = .returned (.bool true) ∧ Below w.heap.size w w' := by
  obtain ⟨W0, hW0⟩ : ∃ W0, W0 = w.alloc (.cells (ia 117 p) 30) := ⟨_, rfl⟩
  obtain ⟨W1, hW1⟩ : ∃ W1, W1 = W0.alloc (.cells #[.slice A1 R.ss.length c1, I R.e, .slice A2 R.ms.length c2, .slice A3 R.es.length c3] 35) := ⟨_, rfl⟩
  have HL0 : Hid (Le W0 W1) := by show Below _ _ _; rw [hW1]; exact (Below.refl _ _).alloc (Nat.le_refl _) _
  have HU : Hid (∀ W, Le W1 W → Below w.heap.size w W) := fun W hW => by have := HL0.out.trans hW; rw [hW0] at this; exact under2 this
  have hz0 : W0.heap.size = w.heap.size + 1 := by rw [hW0]; simp
  have HP : Hid (∀ W, Le W1 W → ∀ j, j < 117 → W.cell? ⟨w.heap.size, 0 + j, none⟩ = some (I (p j))) := fun W hW j hj => by
    have hr : W.heap[w.heap.size]? = some (.cells (ia 117 p) 30 (0, 0)) := (Below.block (HL0.out.trans hW) _ (by rw [hW0]; simp)).trans (by rw [hW0]; exact heap_last _ _ _ rfl)
    rw [Nat.zero_add, cell_of_row _ _ _ _ _ _ hr]; exact ia_get hj
  have HX : Hid (∀ W, Le W1 W → W.cell? ⟨w.heap.size + 1, 0, none⟩ = some (.slice A1 R.ss.length c1) ∧ W.cell? ⟨w.heap.size + 1, 1, none⟩ = some (I R.e) ∧ W.cell? ⟨w.heap.size + 1, 2, none⟩ = some (.slice A2 R.ms.length c2) ∧ W.cell? ⟨w.heap.size + 1, 3, none⟩ = some (.slice A3 R.es.length c3)) := fun W hW => by
    have hr : W.heap[w.heap.size + 1]? = some (.cells #[.slice A1 R.ss.length c1, I R.e, .slice A2 R.ms.length c2, .slice A3 R.es.length c3] 35 (0, 0)) := (Below.block hW _ (by rw [hW1]; simp; omega)).trans (by rw [hW1, ← hz0]; exact heap_last _ _ _ rfl)
    exact ⟨by rw [cell_of_row _ _ _ _ _ _ hr]; rfl, by rw [cell_of_row _ _ _ _ _ _ hr]; rfl, by rw [cell_of_row _ _ _ _ _ _ hr]; rfl, by rw [cell_of_row _ _ _ _ _ _ hr]; rfl⟩
  have HR : Hid (∀ W, Le W1 W → Rd W W.heap.size 8 A1 R.ss.length (rS R.ss) ∧ Rd W W.heap.size 3 A2 R.ms.length (rM R.ms) ∧ Rd W W.heap.size 2 A3 R.es.length (rE R.es)) := fun W hW => by
    have hb := HU.out W hW
    exact ⟨(h1.below hb).more hb.size, (h2.below hb).more hb.size, (h3.below hb).more hb.size⟩
  have HW : Hid (W1 = (w.alloc (.cells (ia 117 p) 30)).alloc (.cells #[.slice A1 R.ss.length c1, I R.e, .slice A2 R.ms.length c2, .slice A3 R.es.length c3] 35)) := by show _ = _; rw [hW1, hW0]
  clear h1 h2 h3 hW0 hW1 hz0
  go_enter Try.func6, Try.ntmps6
  go_wp2_with fail
  rw [← HW.out]
  obtain ⟨r1, r2, r3⟩ := HR.out W1 (Le.refl _)
  refine (long_any A1 A2 A3 c1 c2 c3 R W1 r1 r2 r3).mono ?_
  rintro e W2 ⟨rfl, hb1⟩
  have L2 : Hid (Le W1 W2) := hb1
  clear hb1 r1 r2 r3
  rcases hl : lgR R with _ | _
  case true =>
    clear hl
    go_wp2_with fail
    refine (known_any W2).mono ?_
    rintro e WK ⟨rfl, hb⟩
    have LK : Hid (Below w.heap.size w WK) := HU.out _ ((L2.out).trans hb)
    clear hb
    go_wp2_with fail
    go_ret
    exact ⟨rfl, LK.out⟩
  obtain ⟨l1, l2, l3, l4⟩ := lgR_no hl
  have HI : Hid (∀ W, Le W1 W → RunIn W A1 A2 A3 R) := fun W hW => by
    obtain ⟨r1, r2, r3⟩ := HR.out W hW
    exact ⟨r1, r2, r3, by omega, by omega, by omega⟩
  have L4 := Lib.hid l4
  clear hl l1 l2 l3 l4
  obtain ⟨f1, f2, hcf⟩ : ∃ f1 f2, confV p R = (f1, f2) := ⟨_, _, rfl⟩
  obtain ⟨ec, hec⟩ : ∃ ec, er (okPuller p && okRun R) = ec := ⟨_, rfl⟩
  obtain ⟨fe, hfe⟩ : ∃ fe, tellE p R t R.e = fe := ⟨_, rfl⟩
  obtain ⟨ge, hge⟩ : ∃ ge, tellE p R t (R.e - 1) = ge := ⟨_, rfl⟩
  obtain ⟨x0, x1, hx⟩ : ∃ x0 x1, tellR p R t R.e (atK p R t.toNat) = ⟨x0, x1⟩ := ⟨_, _, rfl⟩
  obtain ⟨y0, y1, hy⟩ : ∃ y0 y1, tellR p R t (R.e - 1) (fromK p R t.toNat) = ⟨y0, y1⟩ := ⟨_, _, rfl⟩
  have CC : Hid (∀ W E1 E2 E3 e1 e2 e3, RunIn W E1 E2 E3 R → R.ms.length ≤ e2 → Calls Try.prog 27 #[.agg (ia 117 p), runV E1 E2 E3 e1 e2 e3 R] W fun e w' => e = .returned (.tuple #[I f1, I f2, I ec]) ∧ Below W.heap.size W w') := fun W E1 E2 E3 e1 e2 e3 hr hc => by
    have := conflict_any E1 E2 E3 e1 e2 e3 p R W hr hc
    rw [hcf, hec] at this; exact this
  have CD : Hid (∀ W E1 E2 E3 e1 e2 e3, RunIn W E1 E2 E3 R → R.ms.length ≤ e2 → Calls Try.prog 28 #[.agg (ia 117 p), runV E1 E2 E3 e1 e2 e3 R, I t] W fun e w' => e = .returned (.tuple #[.agg #[I x0, I x1], I fe]) ∧ Below W.heap.size W w') := fun W E1 E2 E3 e1 e2 e3 hr hc => by
    have := diameter_any E1 E2 E3 e1 e2 e3 p R t W hr hc
    rw [hx, hfe] at this; exact this
  have CB : Hid (∀ W E1 E2 E3 e1 e2 e3, RunIn W E1 E2 E3 R → R.ms.length ≤ e2 → Calls Try.prog 29 #[.agg (ia 117 p), runV E1 E2 E3 e1 e2 e3 R, I t] W fun e w' => e = .returned (.tuple #[.agg #[I y0, I y1], I ge]) ∧ Below W.heap.size W w') := fun W E1 E2 E3 e1 e2 e3 hr hc => by
    have := betweenX_any E1 E2 E3 e1 e2 e3 p R t W hr hc
    rw [hy, hge] at this; exact this
  have Hcf := Lib.hid hcf
  have Hec := Lib.hid hec
  have Hfe := Lib.hid hfe
  have Hge := Lib.hid hge
  have Hx := Lib.hid hx
  have Hy := Lib.hid hy
  clear hcf hec hfe hge hx hy
  obtain ⟨k0, k1, k2, k3⟩ := HX.out W2 (L2.out)
  have v0 := ovr_cell k0
  have v1 := ovr_cell k1
  have v2 := ovr_cell k2
  have v3 := ovr_cell k3
  clear k0 k1 k2 k3
  go_wp2_with fail
  refine wp_region_make (fun j => if j = 0 then some (fun u _ => u = .agg (ia 117 p)) else if j = 2 then some (OwnF R) else if j = 3 then some (fun u _ => u = .tuple #[I f1, I f2, I ec]) else none) (by kernel_rfl) (by kernel_rfl) (by kernel_rfl) ?_
  refine wpG_make (fun u _ => u = .agg (ia 117 p)) rfl rfl (fun w' hw' _ => ?_) (fun u hu => ?_)
  · exact load_grow rfl rfl (HP.out w' ((L2.out).trans hw'.le))
  obtain ⟨_, _, rfl⟩ := hu
  simp only [Act.put, List.setIfInBounds_toArray, List.set_cons_zero, List.set_cons_succ]
  repeat (refine wpG_one rfl rfl rfl ?_; intro K hK; go_big_quiet_op; go_big_quiet_on)
  refine wpG_make (OwnF R) rfl rfl (fun w' hw' _ => ?_) (fun u hu => ?_)
  · go_simp
    exact own_grow (own_any _ _ _ _ _ _ R w' (HI.out _ ((L2.out).trans hw'.le)))
  obtain ⟨_, _, B1, B2, B3, d1, d2, d3, rfl, _, _⟩ := hu
  simp only [Act.put, List.setIfInBounds_toArray, List.set_cons_zero, List.set_cons_succ]
  refine wpG_make (fun u _ => u = .tuple #[I f1, I f2, I ec]) rfl rfl (fun w' hw' hk => ?_) (fun u hu => ?_)
  · have hk3 := hk ⟨2, .data⟩ (by simp) rfl _ _ _ rfl rfl rfl (by simp) rfl
    obtain ⟨E1, E2, E3, e1, e2, e3, he, hr, hc⟩ := hk3.now
    go_simp
    exact call_grow (CC.out _ _ _ _ _ _ _ hr hc)
  obtain ⟨_, _, rfl⟩ := hu
  simp only [Act.put, List.setIfInBounds_toArray, List.set_cons_zero, List.set_cons_succ]
  repeat (refine wpG_one rfl rfl rfl ?_; intro K hK; go_big_quiet_op; go_big_quiet_on)
  refine wpG_nil (fun W3 hw3 _ => ?_)
  have L3 : Hid (Le W1 W3) := L2.out.trans hw3.le
  clear hw3 CC
  clear v0 v1 v2 v3
  obtain ⟨k0, k1, k2, k3⟩ := HX.out W3 (L3.out)
  have v0 := ovr_cell k0
  have v1 := ovr_cell k1
  have v2 := ovr_cell k2
  have v3 := ovr_cell k3
  clear k0 k1 k2 k3
  go_wp2_with fail
  refine wp_region_make_two (fun j => if j = 0 then some (fun u _ => u = .agg (ia 117 p)) else if j = 2 then some (OwnF R) else if j = 4 then some (fun u _ => u = .tuple #[.agg #[I x0, I x1], I fe]) else if j = 8 then some (NewAt W3 #[I 0, I 0] 23) else none) [7] (by kernel_rfl) (by kernel_rfl) (by kernel_rfl) (by kernel_rfl) (by kernel_rfl) (by intro i hi; simp at hi; subst hi; rfl) ⟨rfl, rfl⟩ (fun c a d v w h => by cases d <;> exact h) ?_
  simp only [sleepTwo_cons, sleepTwo_two]
  refine wpG_make (fun u _ => u = .agg (ia 117 p)) rfl rfl (fun w' hw' _ => ?_) (fun u hu => ?_)
  · exact load_grow rfl rfl (HP.out w' ((L3.out).trans hw'.le))
  obtain ⟨_, _, rfl⟩ := hu
  simp only [Act.put, List.setIfInBounds_toArray, List.set_cons_zero, List.set_cons_succ]
  repeat (refine wpG_one rfl rfl rfl ?_; intro K hK; go_big_quiet_op; go_big_quiet_on)
  refine wpG_make (OwnF R) rfl rfl (fun w' hw' _ => ?_) (fun u hu => ?_)
  · go_simp
    exact own_grow (own_any _ _ _ _ _ _ R w' (HI.out _ ((L3.out).trans hw'.le)))
  obtain ⟨_, _, B1, B2, B3, d1, d2, d3, rfl, _, _⟩ := hu
  simp only [Act.put, List.setIfInBounds_toArray, List.set_cons_zero, List.set_cons_succ]
  repeat (refine wpG_one rfl rfl rfl ?_; intro K hK; go_big_quiet_op; go_big_quiet_on)
  refine wpG_make (fun u _ => u = .tuple #[.agg #[I x0, I x1], I fe]) rfl rfl (fun w' hw' hk => ?_) (fun u hu => ?_)
  · have hk3 := hk ⟨2, .data⟩ (by simp) rfl _ _ _ rfl rfl rfl (by simp) rfl
    obtain ⟨E1, E2, E3, e1, e2, e3, he, hr, hc⟩ := hk3.now
    go_simp
    exact call_grow (CD.out _ _ _ _ _ _ _ hr hc)
  obtain ⟨_, _, rfl⟩ := hu
  simp only [Act.put, List.setIfInBounds_toArray, List.set_cons_zero, List.set_cons_succ]
  repeat (refine wpG_one rfl rfl rfl ?_; intro K hK; go_big_quiet_op; go_big_quiet_on)
  refine wpG_make (NewAt W3 #[I 0, I 0] 23) rfl rfl (fun w' hw' _ => ?_) (fun u hu => ?_)
  · go_simp
    exact new_grow hw'
  obtain ⟨_, _, xa, rfl, _, hxb⟩ := hu
  simp only [Act.put, List.setIfInBounds_toArray, List.set_cons_zero, List.set_cons_succ]
  repeat (refine wpG_one rfl rfl rfl ?_; intro K hK; go_big_quiet_op; go_big_quiet_on)
  refine wpG_nil (fun w5 hw5 hG => ?_)
  have hx5 := (Box.now hG.2).at.1
  intro s t hs ht
  obtain rfl := Option.some.inj hs
  obtain rfl := Option.some.inj ht
  clear hG hs ht
  refine wp_store_row 23 _ _ rfl xa rfl _ _ hx5 #[I x0, I x1] rfl (two2 _ _) rfl (by kernel_rfl) ?_
  refine ⟨hw5.set hxb _, ?_⟩
  refine wp_assign _ (I fe) rfl rfl ?_
  refine ⟨hw5.set hxb _, ?_⟩
  simp only [Act.put, List.setIfInBounds_toArray, List.set_cons_zero, List.set_cons_succ]
  have L4w : Hid (Le W1 (w5.setRow xa #[I x0, I x1])) := below_setRow (L3.out.trans hw5.le) (Nat.le_trans L3.out.size hxb) _
  have q0 : (w5.setRow xa #[I x0, I x1]).heap[xa]? = some (.cells #[I x0, I x1] 23 (0, 0)) := setRow_same hx5
  have hle : Le W3 (w5.setRow xa #[I x0, I x1]) := below_setRow hw5.le hxb _
  generalize w5.setRow xa #[I x0, I x1] = W4 at *
  have HLW4 : Hid (Le W3 W4) := hle
  have QW4 : Hid (∀ W, Le W4 W → W.cell? ⟨xa, 0, none⟩ = some (I x0) ∧ W.cell? ⟨xa, 1, none⟩ = some (I x1)) := fun W hW => by
    have h1 := (Below.block hW _ (Array.getElem?_eq_some_iff.1 q0).1).trans q0
    exact ⟨by rw [cell_of_row _ _ _ _ _ _ h1]; rfl, by rw [cell_of_row _ _ _ _ _ _ h1]; rfl⟩
  clear hx5 hw5 hxb CD q0 hle
  clear v0 v1 v2 v3
  obtain ⟨k0, k1, k2, k3⟩ := HX.out W4 (L4w.out)
  have v0 := ovr_cell k0
  have v1 := ovr_cell k1
  have v2 := ovr_cell k2
  have v3 := ovr_cell k3
  clear k0 k1 k2 k3
  go_wp2_with fail
  refine wp_region_make_two (fun j => if j = 0 then some (fun u _ => u = .agg (ia 117 p)) else if j = 2 then some (OwnF R) else if j = 4 then some (fun u _ => u = .tuple #[.agg #[I y0, I y1], I ge]) else if j = 8 then some (NewAt W4 #[I 0, I 0] 23) else none) [7] (by kernel_rfl) (by kernel_rfl) (by kernel_rfl) (by kernel_rfl) (by kernel_rfl) (by intro i hi; simp at hi; subst hi; rfl) ⟨rfl, rfl⟩ (fun c a d v w h => by cases d <;> exact h) ?_
  simp only [sleepTwo_cons, sleepTwo_two]
  refine wpG_make (fun u _ => u = .agg (ia 117 p)) rfl rfl (fun w' hw' _ => ?_) (fun u hu => ?_)
  · exact load_grow rfl rfl (HP.out w' ((L4w.out).trans hw'.le))
  obtain ⟨_, _, rfl⟩ := hu
  simp only [Act.put, List.setIfInBounds_toArray, List.set_cons_zero, List.set_cons_succ]
  repeat (refine wpG_one rfl rfl rfl ?_; intro K hK; go_big_quiet_op; go_big_quiet_on)
  refine wpG_make (OwnF R) rfl rfl (fun w' hw' _ => ?_) (fun u hu => ?_)
  · go_simp
    exact own_grow (own_any _ _ _ _ _ _ R w' (HI.out _ ((L4w.out).trans hw'.le)))
  obtain ⟨_, _, B1, B2, B3, d1, d2, d3, rfl, _, _⟩ := hu
  simp only [Act.put, List.setIfInBounds_toArray, List.set_cons_zero, List.set_cons_succ]
  repeat (refine wpG_one rfl rfl rfl ?_; intro K hK; go_big_quiet_op; go_big_quiet_on)
  refine wpG_make (fun u _ => u = .tuple #[.agg #[I y0, I y1], I ge]) rfl rfl (fun w' hw' hk => ?_) (fun u hu => ?_)
  · have hk3 := hk ⟨2, .data⟩ (by simp) rfl _ _ _ rfl rfl rfl (by simp) rfl
    obtain ⟨E1, E2, E3, e1, e2, e3, he, hr, hc⟩ := hk3.now
    go_simp
    exact call_grow (CB.out _ _ _ _ _ _ _ hr hc)
  obtain ⟨_, _, rfl⟩ := hu
  simp only [Act.put, List.setIfInBounds_toArray, List.set_cons_zero, List.set_cons_succ]
  repeat (refine wpG_one rfl rfl rfl ?_; intro K hK; go_big_quiet_op; go_big_quiet_on)
  refine wpG_make (NewAt W4 #[I 0, I 0] 23) rfl rfl (fun w' hw' _ => ?_) (fun u hu => ?_)
  · go_simp
    exact new_grow hw'
  obtain ⟨_, _, xb, rfl, _, hxb⟩ := hu
  simp only [Act.put, List.setIfInBounds_toArray, List.set_cons_zero, List.set_cons_succ]
  repeat (refine wpG_one rfl rfl rfl ?_; intro K hK; go_big_quiet_op; go_big_quiet_on)
  refine wpG_nil (fun w5 hw5 hG => ?_)
  have hx5 := (Box.now hG.2).at.1
  intro s t hs ht
  obtain rfl := Option.some.inj hs
  obtain rfl := Option.some.inj ht
  clear hG hs ht
  refine wp_store_row 23 _ _ rfl xb rfl _ _ hx5 #[I y0, I y1] rfl (two2 _ _) rfl (by kernel_rfl) ?_
  refine ⟨hw5.set hxb _, ?_⟩
  refine wp_assign _ (I ge) rfl rfl ?_
  refine ⟨hw5.set hxb _, ?_⟩
  simp only [Act.put, List.setIfInBounds_toArray, List.set_cons_zero, List.set_cons_succ]
  have L5 : Hid (Le W1 (w5.setRow xb #[I y0, I y1])) := below_setRow (L4w.out.trans hw5.le) (Nat.le_trans L4w.out.size hxb) _
  have q0 : (w5.setRow xb #[I y0, I y1]).heap[xb]? = some (.cells #[I y0, I y1] 23 (0, 0)) := setRow_same hx5
  have hle : Le W4 (w5.setRow xb #[I y0, I y1]) := below_setRow hw5.le hxb _
  generalize w5.setRow xb #[I y0, I y1] = W5 at *
  have HLW5 : Hid (Le W4 W5) := hle
  have QW5 : Hid (∀ W, Le W5 W → W.cell? ⟨xb, 0, none⟩ = some (I y0) ∧ W.cell? ⟨xb, 1, none⟩ = some (I y1)) := fun W hW => by
    have h1 := (Below.block hW _ (Array.getElem?_eq_some_iff.1 q0).1).trans q0
    exact ⟨by rw [cell_of_row _ _ _ _ _ _ h1]; rfl, by rw [cell_of_row _ _ _ _ _ _ h1]; rfl⟩
  clear hx5 hw5 hxb CB q0 hle
  clear v0 v1 v2 v3
  have QQ : Hid (∀ W, Le W5 W → W.cell? ⟨xa, 0, none⟩ = some (I x0) ∧ W.cell? ⟨xa, 1, none⟩ = some (I x1) ∧ W.cell? ⟨xb, 0, none⟩ = some (I y0) ∧ W.cell? ⟨xb, 1, none⟩ = some (I y1)) := fun W hW => ⟨(QW4.out W (HLW5.out.trans hW)).1, (QW4.out W (HLW5.out.trans hW)).2, (QW5.out W hW).1, (QW5.out W hW).2⟩
  go_wp2_with (refine wpList_load_ia rfl 30 _ rfl w.heap.size 0 rfl 117 p _ (HP.out _ L5.out) Try.underlying30 rfl (by kernel_rfl) ?_)
  refine (refPuller_any p W5).mono ?_
  rintro e W6 ⟨rfl, hb6⟩
  have L6 : Hid (Le W5 W6) := hb6
  clear hb6
  have no : Hid ((okPuller p && okRun R) = false → ec = 2 ∧ fe = 2 ∧ ge = 2 ∧ f1 = 0 ∧ f2 = 0 ∧ x0 = 0 ∧ x1 = 0 ∧ y0 = 0 ∧ y1 = 0) := fun hk => by
    have h1 := Hec.out
    have h2 := Hfe.out
    have h3 := Hge.out
    have h4 := Hcf.out
    have h5 := Hx.out
    have h6 := Hy.out
    rw [tellR, Hfe.out] at h5
    rw [tellR, Hge.out] at h6
    rw [hk] at h1
    rw [tellE, hk] at h2 h3
    rw [confV, hk] at h4
    simp at h2 h3 h4
    subst h2 h3
    simp at h5 h6
    exact ⟨h1.symm, rfl, rfl, h4.1.symm, h4.2.symm, h5.1.symm, h5.2.symm, h6.1.symm, h6.2.symm⟩
  rcases hp : okPuller p with _ | _
  case false =>
    obtain ⟨rfl, rfl, rfl, rfl, rfl, rfl, rfl, rfl, rfl⟩ := no.out (by rw [hp]; rfl)
    obtain ⟨q0, q1, q2, q3⟩ := QQ.out W6 L6.out
    clear hp
    go_wp2_with fail
    refine (known_any W6).mono ?_
    rintro e WK ⟨rfl, hb⟩
    have LK : Hid (Below w.heap.size w WK) := HU.out _ ((L5.out.trans L6.out).trans hb)
    clear hb
    go_wp2_with fail
    go_ret
    exact ⟨rfl, LK.out⟩
  obtain ⟨k0, k1, k2, k3⟩ := HX.out W6 (L5.out.trans L6.out)
  go_wp2_with fail
  refine (refRun_any A1 A2 A3 c1 c2 c3 R W6 (HI.out _ (L5.out.trans L6.out))).mono ?_
  rintro e W7 ⟨rfl, hb7⟩
  have L7 : Hid (Le W5 W7) := L6.out.trans hb7
  clear hb7 k0 k1 k2 k3
  rcases hr : okRun R with _ | _
  case false =>
    obtain ⟨rfl, rfl, rfl, rfl, rfl, rfl, rfl, rfl, rfl⟩ := no.out (by rw [hr]; simp)
    obtain ⟨q0, q1, q2, q3⟩ := QQ.out W7 L7.out
    clear hp hr
    go_wp2_with fail
    refine (known_any W7).mono ?_
    rintro e WK ⟨rfl, hb⟩
    have LK : Hid (Below w.heap.size w WK) := HU.out _ ((L5.out.trans L7.out).trans hb)
    clear hb
    go_wp2_with fail
    go_ret
    exact ⟨rfl, LK.out⟩
  have hok : (okPuller p && okRun R) = true := by rw [hp, hr]; rfl
  have Hv := Lib.hid ((vRun_iff R).1 hr)
  have Hp := Lib.hid (vPul_of hp)
  obtain rfl : ec = 0 := by have := Hec.out; rw [hok] at this; exact this.symm
  have HC : Hid (confP p R = (f1, f2)) := by show _ = _; rw [← confV_confP hok]; exact Hcf.out
  have HFe : Hid (fe = if t < 0 ∨ R.e < t then 3 else if R.ms.length = 0 then 7 else if (conf p R).isSome then 40 else 0) := by show _ = _; rw [← Hfe.out, tellE, if_pos hok]
  have HGe : Hid (ge = if t < 0 ∨ R.e - 1 < t then 3 else if R.ms.length = 0 then 7 else if (conf p R).isSome then 40 else 0) := by show _ = _; rw [← Hge.out, tellE, if_pos hok]
  have HXn : Hid (fe ≠ 0 → x0 = 0 ∧ x1 = 0) := fun hne => by have := Hx.out; rw [tellR, Hfe.out, if_neg hne] at this; injection this with a b; exact ⟨a.symm, b.symm⟩
  have HYn : Hid (ge ≠ 0 → y0 = 0 ∧ y1 = 0) := fun hne => by have := Hy.out; rw [tellR, Hge.out, if_neg hne] at this; injection this with a b; exact ⟨a.symm, b.symm⟩
  have HXy : Hid (fe = 0 → x0 = (atK p R t.toNat).lo ∧ x1 = (atK p R t.toNat).hi) := fun he => by have := Hx.out; rw [tellR, Hfe.out, if_pos he] at this; injection this with a b; exact ⟨a.symm, b.symm⟩
  have HYy : Hid (ge = 0 → y0 = (fromK p R t.toNat).lo ∧ y1 = (fromK p R t.toNat).hi) := fun he => by have := Hy.out; rw [tellR, Hge.out, if_pos he] at this; injection this with a b; exact ⟨a.symm, b.symm⟩
  have last := Hv.out.last
  have re1 : 1 ≤ R.e := by have := Hv.out.tlt 0 Hv.out.n1; rw [Hv.out.first] at this; omega
  have hm110 := Hv.out.m100
  clear hp hr hok no Hfe Hge Hx Hy Hec Hcf
  obtain ⟨k0, k1, k2, k3⟩ := HX.out W7 (L5.out.trans L7.out)
  go_wp2_with (refine wpList_load_ia rfl 30 _ rfl w.heap.size 0 rfl 117 p _ (HP.out _ (L5.out.trans L7.out)) Try.underlying30 rfl (by kernel_rfl) ?_)
  refine (refConf_any A1 A2 A3 c1 c2 c3 p R W7 (HI.out _ (L5.out.trans L7.out)) Hv.out Hp.out).mono ?_
  rintro e W8 ⟨rfl, hb8⟩
  have L8 : Hid (Le W5 W8) := L7.out.trans hb8
  rw [HC.out]
  clear hb8 k0 k1 k2 k3
  obtain ⟨k0, k1, k2, k3⟩ := HX.out W8 (L5.out.trans L8.out)
  obtain ⟨q0, q1, q2, q3⟩ := QQ.out W8 L8.out
  have e1 : (f1 == f1) = true := by simp
  have e2 : (f2 == f2) = true := by simp
  have e3 : (f1 != f1) = false := by simp
  have e4 : (f2 != f2) = false := by simp
  by_cases ta : t < 0
  · have hfe : fe = 3 := by rw [HFe.out, if_pos (show t < 0 ∨ R.e < t by omega)]
    have hge : ge = 3 := by rw [HGe.out, if_pos (show t < 0 ∨ R.e - 1 < t by omega)]
    have te : (t == R.e) = false := by simp; omega
    have t0 : ¬ 0 ≤ t := by omega
    obtain rfl : fe = 3 := hfe
    obtain rfl : ge = 3 := hge
    obtain ⟨rfl, rfl⟩ := HXn.out (by omega)
    obtain ⟨rfl, rfl⟩ := HYn.out (by omega)
    go_wp2_with fail
    refine (known_any W8).mono ?_
    rintro e WK ⟨rfl, hb⟩
    have LK : Hid (Below w.heap.size w WK) := HU.out _ ((L5.out.trans L8.out).trans hb)
    clear hb
    go_wp2_with fail
    go_ret
    exact ⟨rfl, LK.out⟩
  have t0 : 0 ≤ t := by omega
  clear ta
  by_cases tb : R.e < t
  · have hfe : fe = 3 := by rw [HFe.out, if_pos (show t < 0 ∨ R.e < t by omega)]
    have hge : ge = 3 := by rw [HGe.out, if_pos (show t < 0 ∨ R.e - 1 < t by omega)]
    have te : (t == R.e) = false := by simp; omega
    obtain rfl : fe = 3 := hfe
    obtain rfl : ge = 3 := hge
    obtain ⟨rfl, rfl⟩ := HXn.out (by omega)
    obtain ⟨rfl, rfl⟩ := HYn.out (by omega)
    go_wp2_with fail
    refine (known_any W8).mono ?_
    rintro e WK ⟨rfl, hb⟩
    have LK : Hid (Below w.heap.size w WK) := HU.out _ ((L5.out.trans L8.out).trans hb)
    clear hb
    go_wp2_with fail
    go_ret
    exact ⟨rfl, LK.out⟩
  have tr : t ≤ R.e := by omega
  clear tb
  have hge3 : t = R.e → ge = 3 := fun h => by rw [HGe.out, if_pos (show t < 0 ∨ R.e - 1 < t by omega)]
  have Hge3 := Lib.hid hge3
  have HgeN : Hid (t ≠ R.e → ge = fe) := fun h => by show _ = _; rw [HGe.out, HFe.out, if_neg (show ¬ (t < 0 ∨ R.e - 1 < t) by omega), if_neg (show ¬ (t < 0 ∨ R.e < t) by omega)]
  clear hge3
  by_cases hn : R.ms.length = 0
  · have hfe : fe = 7 := by rw [HFe.out, if_neg (show ¬ (t < 0 ∨ R.e < t) by omega), if_pos hn]
    have hn' : ((R.ms.length : Int) == 0) = true := by rw [hn]; rfl
    obtain rfl : f1 = -1 := by have := HC.out; rw [confP_neg (by rw [conf_nil hn]; rfl)] at this; injection this with a b; exact a.symm
    have Hn := Lib.hid hn
    clear hn
    by_cases te' : t = R.e
    · have hge : ge = 3 := Hge3.out te'
      have te : (t == R.e) = true := by simpa using te'
      clear te'
      obtain rfl : fe = 7 := hfe
      obtain rfl : ge = 3 := hge
      obtain ⟨rfl, rfl⟩ := HXn.out (by omega)
      obtain ⟨rfl, rfl⟩ := HYn.out (by omega)
      go_wp2_with fail
      refine (known_any W8).mono ?_
      rintro e WK ⟨rfl, hb⟩
      have LK : Hid (Below w.heap.size w WK) := HU.out _ ((L5.out.trans L8.out).trans hb)
      clear hb
      go_wp2_with fail
      go_ret
      exact ⟨rfl, LK.out⟩
    · have hge : ge = 7 := by rw [HgeN.out te']; exact hfe
      have te : (t == R.e) = false := by simpa using te'
      clear te'
      obtain rfl : fe = 7 := hfe
      obtain rfl : ge = 7 := hge
      obtain ⟨rfl, rfl⟩ := HXn.out (by omega)
      obtain ⟨rfl, rfl⟩ := HYn.out (by omega)
      go_wp2_with fail
      refine (known_any W8).mono ?_
      rintro e WK ⟨rfl, hb⟩
      have LK : Hid (Below w.heap.size w WK) := HU.out _ ((L5.out.trans L8.out).trans hb)
      clear hb
      go_wp2_with fail
      go_ret
      exact ⟨rfl, LK.out⟩
  have hn' : ((R.ms.length : Int) == 0) = false := by rw [beq_eq_false_iff_ne]; omega
  have hn0 : 0 < R.ms.length := by omega
  rcases hcf : (conf p R).isSome with _ | _
  case true =>
    have hfe : fe = 40 := by rw [HFe.out, if_neg (show ¬ (t < 0 ∨ R.e < t) by omega), if_neg hn, if_pos hcf]
    have hf1 : 0 ≤ f1 := by have := confP_pos hcf; rw [HC.out] at this; exact this
    clear hn hcf
    by_cases te' : t = R.e
    · have hge : ge = 3 := Hge3.out te'
      have te : (t == R.e) = true := by simpa using te'
      clear te'
      obtain rfl : fe = 40 := hfe
      obtain rfl : ge = 3 := hge
      obtain ⟨rfl, rfl⟩ := HXn.out (by omega)
      obtain ⟨rfl, rfl⟩ := HYn.out (by omega)
      go_wp2_with fail
      refine (known_any W8).mono ?_
      rintro e WK ⟨rfl, hb⟩
      have LK : Hid (Below w.heap.size w WK) := HU.out _ ((L5.out.trans L8.out).trans hb)
      clear hb
      go_wp2_with fail
      go_ret
      exact ⟨rfl, LK.out⟩
    · have hge : ge = 40 := by rw [HgeN.out te']; exact hfe
      have te : (t == R.e) = false := by simpa using te'
      clear te'
      obtain rfl : fe = 40 := hfe
      obtain rfl : ge = 40 := hge
      obtain ⟨rfl, rfl⟩ := HXn.out (by omega)
      obtain ⟨rfl, rfl⟩ := HYn.out (by omega)
      go_wp2_with fail
      refine (known_any W8).mono ?_
      rintro e WK ⟨rfl, hb⟩
      have LK : Hid (Below w.heap.size w WK) := HU.out _ ((L5.out.trans L8.out).trans hb)
      clear hb
      go_wp2_with fail
      go_ret
      exact ⟨rfl, LK.out⟩
  have hfe : fe = 0 := by rw [HFe.out, if_neg (show ¬ (t < 0 ∨ R.e < t) by omega), if_neg hn, if_neg (by rw [hcf]; decide)]
  obtain rfl : f1 = -1 := by have := HC.out; rw [confP_neg hcf] at this; injection this with a b; exact a.symm
  have HN := Lib.hid hn0
  clear hn hn0 hcf
  obtain rfl : fe = 0 := hfe
  have Hxx := Lib.hid (HXy.out rfl)
  obtain ⟨n, hnt⟩ : ∃ n : Nat, t = n := ⟨t.toNat, by omega⟩
  have Hnt := Lib.hid hnt
  have CR : Hid (∀ W, Le W1 W → Calls Try.prog 31 #[.agg (ia 117 p), runV A1 A2 A3 c1 c2 c3 R, I t] W fun e w' => e = .returned (.agg #[I x0, I x1]) ∧ Below W.heap.size W w') := fun W hW => by
    have := refDia_any A1 A2 A3 c1 c2 c3 p R n W (HI.out W hW) Hv.out Hp.out HN.out (by omega)
    rw [Hxx.out.1, Hxx.out.2, hnt, Int.toNat_natCast]; exact this
  clear hnt
  clear k0 k1 k2 k3
  have z0 := ovr_cell q0
  have z1 := ovr_cell q1
  have z2 := ovr_cell q2
  have z3 := ovr_cell q3
  obtain ⟨k0, k1, k2, k3⟩ := HX.out W8 (L5.out.trans L8.out)
  have v0 := ovr_cell k0
  have v1 := ovr_cell k1
  have v2 := ovr_cell k2
  have v3 := ovr_cell k3
  clear k0 k1 k2 k3
  obtain ⟨k0, k1, k2, k3⟩ := HX.out W8 (L5.out.trans L8.out)
  go_wp2_with fail
  refine wp_region_make (fun j => if j = 4 then some (fun u _ => u = .agg (ia 117 p)) else if j = 7 then some (fun u _ => u = .agg #[I x0, I x1]) else none) (by kernel_rfl) (by kernel_rfl) (by kernel_rfl) ?_
  repeat (refine wpG_one rfl rfl rfl ?_; intro K hK; go_big_quiet_op; go_big_quiet_on)
  refine wpG_make (fun u _ => u = .agg (ia 117 p)) rfl rfl (fun w' hw' _ => ?_) (fun u hu => ?_)
  · exact load_grow rfl rfl (HP.out w' ((L5.out.trans L8.out).trans hw'.le))
  obtain ⟨_, _, rfl⟩ := hu
  simp only [Act.put, List.setIfInBounds_toArray, List.set_cons_zero, List.set_cons_succ]
  repeat (refine wpG_one rfl rfl rfl ?_; intro K hK; go_big_quiet_op; go_big_quiet_on)
  refine wpG_make (fun u _ => u = .agg #[I x0, I x1]) rfl rfl (fun w' hw' _ => ?_) (fun u hu => ?_)
  · go_simp
    exact call_grow (CR.out w' ((L5.out.trans L8.out).trans hw'.le))
  obtain ⟨_, _, rfl⟩ := hu
  simp only [Act.put, List.setIfInBounds_toArray, List.set_cons_zero, List.set_cons_succ]
  repeat (refine wpG_one rfl rfl rfl ?_; intro K hK; go_big_quiet_op; go_big_quiet_on)
  refine wpG_nil (fun W9 hw9 _ => ?_)
  have L9 : Hid (Le W5 W9) := L8.out.trans hw9.le
  clear hw9 v0 v1 v2 v3 z0 z1 z2 z3 CR k0 k1 k2 k3 q0 q1 q2 q3
  obtain ⟨k0, k1, k2, k3⟩ := HX.out W9 (L5.out.trans L9.out)
  obtain ⟨q0, q1, q2, q3⟩ := QQ.out W9 L9.out
  by_cases te' : t = R.e
  · have hge : ge = 3 := Hge3.out te'
    have te : (t == R.e) = true := by simpa using te'
    obtain rfl : ge = 3 := hge
    obtain ⟨rfl, rfl⟩ := HYn.out (by omega)
    clear te'
    go_wp2_with fail
    refine (known_any W9).mono ?_
    rintro e WK ⟨rfl, hb⟩
    have LK : Hid (Below w.heap.size w WK) := HU.out _ ((L5.out.trans L9.out).trans hb)
    clear hb
    go_wp2_with fail
    go_ret
    exact ⟨rfl, LK.out⟩
  have te : (t == R.e) = false := by simpa using te'
  obtain rfl : ge = 0 := HgeN.out te'
  have Hyy := Lib.hid (HYy.out rfl)
  have CR : Hid (∀ W, Le W1 W → Calls Try.prog 32 #[.agg (ia 117 p), runV A1 A2 A3 c1 c2 c3 R, I t] W fun e w' => e = .returned (.agg #[I y0, I y1]) ∧ Below W.heap.size W w') := fun W hW => by
    have hn := Hnt.out
    have := refBet_any A1 A2 A3 c1 c2 c3 p R n W (HI.out W hW) Hv.out Hp.out (by omega)
    rw [Hyy.out.1, Hyy.out.2, hn, Int.toNat_natCast]; exact this
  clear te'
  have z0 := ovr_cell q0
  have z1 := ovr_cell q1
  have z2 := ovr_cell q2
  have z3 := ovr_cell q3
  have v0 := ovr_cell k0
  have v1 := ovr_cell k1
  have v2 := ovr_cell k2
  have v3 := ovr_cell k3
  go_wp2_with fail
  refine wp_region_make (fun j => if j = 4 then some (fun u _ => u = .agg (ia 117 p)) else if j = 7 then some (fun u _ => u = .agg #[I y0, I y1]) else if j = 11 then some (fun u _ => u = .bool true) else none) (by kernel_rfl) (by kernel_rfl) (by kernel_rfl) ?_
  repeat (refine wpG_one rfl rfl rfl ?_; intro K hK; go_big_quiet_op; go_big_quiet_on)
  refine wpG_make (fun u _ => u = .agg (ia 117 p)) rfl rfl (fun w' hw' _ => ?_) (fun u hu => ?_)
  · exact load_grow rfl rfl (HP.out w' ((L5.out.trans L9.out).trans hw'.le))
  obtain ⟨_, _, rfl⟩ := hu
  simp only [Act.put, List.setIfInBounds_toArray, List.set_cons_zero, List.set_cons_succ]
  repeat (refine wpG_one rfl rfl rfl ?_; intro K hK; go_big_quiet_op; go_big_quiet_on)
  refine wpG_make (fun u _ => u = .agg #[I y0, I y1]) rfl rfl (fun w' hw' _ => ?_) (fun u hu => ?_)
  · go_simp
    exact call_grow (CR.out w' ((L5.out.trans L9.out).trans hw'.le))
  obtain ⟨_, _, rfl⟩ := hu
  simp only [Act.put, List.setIfInBounds_toArray, List.set_cons_zero, List.set_cons_succ]
  repeat (refine wpG_one rfl rfl rfl ?_; intro K hK; go_big_quiet_op; go_big_quiet_on)
  refine wpG_make (fun u _ => u = .bool true) rfl rfl (fun w' hw' _ => ?_) (fun u hu => ?_)
  · go_simp
    exact call_grow (known_any w')
  obtain ⟨_, _, rfl⟩ := hu
  simp only [Act.put, List.setIfInBounds_toArray, List.set_cons_zero, List.set_cons_succ]
  repeat (refine wpG_one rfl rfl rfl ?_; intro K hK; go_big_quiet_op; go_big_quiet_on)
  refine wpG_nil (fun WA hwA _ => ?_)
  have LA : Hid (Below w.heap.size w WA) := HU.out _ ((L5.out.trans L9.out).trans hwA.le)
  clear hwA
  go_wp2_with fail
  go_ret
  exact ⟨rfl, LA.out⟩
end Go.Proofs.Ytlebefopdnadaaa
