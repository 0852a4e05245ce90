/- The law PullLengths holds of every run, times and length: the walk of the statement's function. -/
import Derived.Test.YtlebefopdnadaaaFl
namespace Go.Proofs.Ytlebefopdnadaaa
open Go.RowKit
set_option maxRecDepth 100000 in
set_option maxHeartbeats 1000000 in
theorem pullLengths_any (A1 A2 A3 : Option Addr) (c1 c2 c3 : Nat) (R : Run) (a b L : Int) (w : World) (h1 : Rd w w.heap.size 8 A1 R.ss.length (rS R.ss)) (h2 : Rd w w.heap.size 3 A2 R.ms.length (rM R.ms)) (h3 : Rd w w.heap.size 2 A3 R.es.length (rE R.es)) :
    Calls Try.prog 4 #[runV A1 A2 A3 c1 c2 c3 R, .agg #[I a, I b], I L] w fun e w' => e = .returned (.bool true) ∧ Below w.heap.size w w' := by
  obtain ⟨W0, hW0⟩ : ∃ W0, W0 = w.alloc (.cells #[.slice A1 R.ss.length c1, I R.e, .slice A2 R.ms.length c2, .slice A3 R.es.length c3] 35) := ⟨_, rfl⟩
  obtain ⟨W1, hW1⟩ : ∃ W1, W1 = W0.alloc (.cells #[I a, I b] 44) := ⟨_, rfl⟩
  have HL0 : Hid (Le W0 W1) := by show Below _ _ _; rw [hW1]; exact (Below.refl _ _).alloc (Nat.le_refl _) _
  have HU : Hid (∀ W, Le W1 W → Below w.heap.size w W) := fun W hW => by have := HL0.out.trans hW; rw [hW0] at this; exact under2 this
  have hz0 : W0.heap.size = w.heap.size + 1 := by rw [hW0]; simp
  have HT : Hid (∀ W, Le W1 W → W.cell? ⟨w.heap.size + 1, 0, none⟩ = some (I a) ∧ W.cell? ⟨w.heap.size + 1, 1, none⟩ = some (I b)) := fun W hW => by
    have hr : W.heap[w.heap.size + 1]? = some (.cells #[I a, I b] 44 (0, 0)) := (Below.block hW _ (by rw [hW1]; simp; omega)).trans (by rw [hW1, ← hz0]; exact heap_last _ _ _ rfl)
    exact ⟨by rw [cell_of_row _ _ _ _ _ _ hr]; rfl, by rw [cell_of_row _ _ _ _ _ _ hr]; rfl⟩
  have HR : Hid (∀ W, Le W1 W → Rd W W.heap.size 8 A1 R.ss.length (rS R.ss) ∧ Rd W W.heap.size 3 A2 R.ms.length (rM R.ms) ∧ Rd W W.heap.size 2 A3 R.es.length (rE R.es)) := fun W hW => by
    have hb := HU.out W hW
    exact ⟨(h1.below hb).more hb.size, (h2.below hb).more hb.size, (h3.below hb).more hb.size⟩
  have HX : Hid (∀ W, Le W1 W → W.cell? ⟨w.heap.size, 0, none⟩ = some (.slice A1 R.ss.length c1) ∧ W.cell? ⟨w.heap.size, 1, none⟩ = some (I R.e) ∧ W.cell? ⟨w.heap.size, 2, none⟩ = some (.slice A2 R.ms.length c2) ∧ W.cell? ⟨w.heap.size, 3, none⟩ = some (.slice A3 R.es.length c3)) := fun W hW => by
    have hr : W.heap[w.heap.size]? = some (.cells #[.slice A1 R.ss.length c1, I R.e, .slice A2 R.ms.length c2, .slice A3 R.es.length c3] 35 (0, 0)) := (Below.block (HL0.out.trans hW) _ (by rw [hW0]; simp)).trans (by rw [hW0]; exact heap_last _ _ _ rfl)
    exact ⟨by rw [cell_of_row _ _ _ _ _ _ hr]; rfl, by rw [cell_of_row _ _ _ _ _ _ hr]; rfl, by rw [cell_of_row _ _ _ _ _ _ hr]; rfl, by rw [cell_of_row _ _ _ _ _ _ hr]; rfl⟩
  have HW : Hid (W1 = (w.alloc (.cells #[.slice A1 R.ss.length c1, I R.e, .slice A2 R.ms.length c2, .slice A3 R.es.length c3] 35)).alloc (.cells #[I a, I b] 44)) := by show _ = _; rw [hW1, hW0]
  clear h1 h2 h3 hW0 hW1 hz0
  go_enter Try.func4, Try.ntmps4
  go_wp2_with fail
  rw [← HW.out]
  obtain ⟨r1, r2, r3⟩ := HR.out W1 (Le.refl _)
  refine (long_any A1 A2 A3 c1 c2 c3 R W1 r1 r2 r3).mono ?_
  rintro e w1 ⟨rfl, hb1⟩
  have L1 : Hid (Le W1 w1) := hb1
  clear hb1 r1 r2 r3
  rcases hl : lgR R with _ | _
  case true =>
    clear hl
    go_wp2_with fail
    refine (known_any w1).mono ?_
    rintro e w2 ⟨rfl, hb2⟩
    have L2 : Hid (Below w.heap.size w w2) := HU.out _ (L1.out.trans hb2)
    clear hb2
    go_wp2_with fail
    go_ret
    exact ⟨rfl, L2.out⟩
  obtain ⟨l1, l2, l3, _⟩ := lgR_no hl
  have HI : Hid (∀ W, Le W1 W → RunIn W A1 A2 A3 R) := fun W hW => by
    obtain ⟨r1, r2, r3⟩ := HR.out W hW
    exact ⟨r1, r2, r3, by omega, by omega, by omega⟩
  clear hl l1 l2 l3
  obtain ⟨x0, x1, x2, x3⟩ := HX.out w1 L1.out
  obtain ⟨t0, t1⟩ := HT.out w1 L1.out
  have y0 := ovr_cell x0
  have y1 := ovr_cell x1
  have y2 := ovr_cell x2
  have y3 := ovr_cell x3
  have z0 := ovr_cell t0
  have z1 := ovr_cell t1
  clear x0 x1 x2 x3 t0 t1
  go_wp2_with fail
  refine wp_region_make (fun j => if j = 1 then some (OwnF R) else if j = 6 then some (fun u _ => u = .tuple #[I (grownN R a b), I (grownE R a b)]) else none) (by kernel_rfl) (by kernel_rfl) (by kernel_rfl) ?_
  repeat (refine wpG_one rfl rfl rfl ?_; intro K hK; go_big_quiet_op; go_big_quiet_on)
  refine wpG_make (OwnF R) rfl rfl (fun w' hw' _ => ?_) (fun u hu => ?_)
  · go_simp
    exact own_grow (own_any _ _ _ _ _ _ R w' (HI.out _ (L1.out.trans hw'.le)))
  obtain ⟨_, _, B1, B2, B3, d1, d2, d3, rfl, _, _⟩ := hu
  simp only [Act.put, List.setIfInBounds_toArray, List.set_cons_zero, List.set_cons_succ]
  repeat (refine wpG_one rfl rfl rfl ?_; intro K hK; go_big_quiet_op; go_big_quiet_on)
  refine wpG_make (fun u _ => u = .tuple #[I (grownN R a b), I (grownE R a b)]) rfl rfl (fun w' hw' hk => ?_) (fun u hu => ?_)
  · have hk3 := hk ⟨1, .data⟩ (by simp) rfl _ _ _ rfl rfl rfl (by simp) rfl
    obtain ⟨E1, E2, E3, e1, e2, e3, he, hr, _⟩ := hk3.now
    go_simp
    exact call_grow (grown_any E1 E2 E3 e1 e2 e3 R a b w' hr)
  obtain ⟨_, _, rfl⟩ := hu
  simp only [Act.put, List.setIfInBounds_toArray, List.set_cons_zero, List.set_cons_succ]
  repeat (refine wpG_one rfl rfl rfl ?_; intro K hK; go_big_quiet_op; go_big_quiet_on)
  refine wpG_nil (fun W2 hw2 _ => ?_)
  have L2 : Hid (Le W1 W2) := L1.out.trans hw2.le
  clear hw2 y0 y1 y2 y3 z0 z1
  obtain ⟨x0, x1, x2, x3⟩ := HX.out W2 L2.out
  go_wp2_with fail
  refine (own_any _ _ _ _ _ _ R W2 (HI.out _ L2.out)).mono ?_
  rintro e W3 ⟨B1, B2, B3, d1, d2, d3, rfl, hr3, _, hb3⟩
  have L3 : Hid (Le W1 W3) := L2.out.trans hb3
  have Hr3 := Lib.hid hr3
  clear hb3 hr3 x0 x1 x2 x3
  go_wp2_with fail
  refine (reached_any B1 B2 B3 d1 d2 d3 R L W3 Hr3.out).mono ?_
  rintro e W4 ⟨rfl, hb4⟩
  have L4 : Hid (Le W1 W4) := L3.out.trans hb4
  clear hb4
  obtain ⟨x0, x1, x2, x3⟩ := HX.out W4 L4.out
  obtain ⟨t0, t1⟩ := HT.out W4 L4.out
  go_wp2_with fail
  refine (refGrown_any A1 A2 A3 c1 c2 c3 R a b W4 (HI.out _ L4.out)).mono ?_
  rintro e W5 ⟨rfl, hb5⟩
  have L5 : Hid (Le W1 W5) := L4.out.trans hb5
  clear hb5 x0 x1 x2 x3 t0 t1
  obtain ⟨x0, x1, x2, x3⟩ := HX.out W5 L5.out
  go_wp2_with fail
  refine (refReached_any A1 A2 A3 c1 c2 c3 R L W5 (HI.out _ L5.out)).mono ?_
  rintro e W6 ⟨rfl, hb6⟩
  have L6 : Hid (Le W1 W6) := L5.out.trans hb6
  clear hb6 x0 x1 x2 x3
  go_wp2_with fail
  refine (known_any W6).mono ?_
  rintro e W7 ⟨rfl, hb7⟩
  have L7 : Hid (Below w.heap.size w W7) := HU.out _ (L6.out.trans hb7)
  clear hb7
  go_wp2_with fail
  go_ret
  exact ⟨rfl, L7.out⟩
end Go.Proofs.Ytlebefopdnadaaa
