/- Equal runs are found equal. -/
import Derived.Test.YtfifdfagikbahaaDoorNl
namespace Go.Proofs.YtfifdfagikbahaaDoor
open Go.RowKit
attribute [local go_sem] Oper.semAt_some
theorem eqM_R (R : Nat → Int) (W : World) : (Op.equalIn 10000 27 (.agg #[I (R 1), I (R 2), I (R 3), I (R 4), I (R 5), I (R 6), I (R 7)]) (.agg #[I (R 1), I (R 2), I (R 3), I (R 4), I (R 5), I (R 6), I (R 7)])).run Tryd.prog W = .ok true W := eqM ⟨R 1, fun j => R (j + 2)⟩ W
theorem eqB_R8 (R : Nat → Int) (W : World) : (Op.equalIn 10000 25 (.agg #[I (R 8), I (R 9), I (R 10), I (R 11), I (R 12), I (R 13)]) (.agg #[I (R 8), I (R 9), I (R 10), I (R 11), I (R 12), I (R 13)])).run Tryd.prog W = .ok true W := eqB_10000 (fun j => R (j + 8)) W
theorem eqB_R14 (R : Nat → Int) (W : World) : (Op.equalIn 10000 25 (.agg #[I (R 14), I (R 15), I (R 16), I (R 17), I (R 18), I (R 19)]) (.agg #[I (R 14), I (R 15), I (R 16), I (R 17), I (R 18), I (R 19)])).run Tryd.prog W = .ok true W := eqB_10000 (fun j => R (j + 14)) W
theorem eqB_R20 (R : Nat → Int) (W : World) : (Op.equalIn 10000 25 (.agg #[I (R 20), I (R 21), I (R 22), I (R 23), I (R 24), I (R 25)]) (.agg #[I (R 20), I (R 21), I (R 22), I (R 23), I (R 24), I (R 25)])).run Tryd.prog W = .ok true W := eqB_10000 (fun j => R (j + 20)) W
theorem eqF_g (g : Nat → Int) (W : World) : (Op.equalIn 10000 60 (.agg #[I (g 0), I (g 1), I (g 2), I (g 3), I (g 4), I (g 5), I (g 6)]) (.agg #[I (g 0), I (g 1), I (g 2), I (g 3), I (g 4), I (g 5), I (g 6)])).run Tryd.prog W = .ok true W := eqF ⟨g 0, fun j => g (j + 1)⟩ W
theorem Rd.frz {w : World} {B n k : Nat} {A : Option Addr} {g : Nat → Nat → Int} (h : Rd w B 7 A n (fun i j => I (g i j))) (hk : k < n) : ∃ b o, A = some ⟨b, o, none⟩ ∧ w.cell? ⟨b, o + k * 7, none⟩ = some (I (g k 0)) ∧ ∀ j, j < 7 → w.cell? ⟨b, o + k * 7 + j, none⟩ = some (I (g k j)) := by
  obtain ⟨b, o, e, _, hc⟩ := h (by omega)
  exact ⟨b, o, e, hc k hk 0 (by omega), fun j hj => hc k hk j hj⟩
set_option maxRecDepth 100000 in
set_option maxHeartbeats 4000000 in
theorem sameRun_any (A A' : Option Addr) (c c' n : Nat) (R : Nat → Int) (g : Nat → Nat → Int) (w : World) (hl : n ≤ 1000) (hx : Rd w w.heap.size 7 A n (fun i j => I (g i j))) (hy : Rd w w.heap.size 7 A' n (fun i j => I (g i j))) :
    Calls Tryd.prog 18 #[.agg (runArr (.slice A n c) R), .agg (runArr (.slice A' n c') R)] w fun e w' => e = .returned (.bool true) ∧ Below w.heap.size w w' := by
  obtain ⟨W, hW⟩ : ∃ W, W = (w.alloc (.cells (runArr (.slice A n c) R) 35)).alloc (.cells (runArr (.slice A' n c') R) 35) := ⟨_, rfl⟩
  have hb0 : Below w.heap.size w W := by rw [hW]; exact ((Below.refl _ _).alloc (Nat.le_refl _) _).alloc (by simp) _
  have r0 : W.heap[w.heap.size]? = some (.cells (runArr (.slice A n c) R) 35 (0, 0)) := by rw [hW]; exact heap_before (heap_last _ _ _ rfl)
  have r1 : W.heap[w.heap.size + 1]? = some (.cells (runArr (.slice A' n c') R) 35 (0, 0)) := by rw [hW]; exact heap_last _ _ _ (by simp)
  have sW : w.heap.size + 2 = W.heap.size := by rw [hW]; simp
  have HX : Hid (∀ W', Below W.heap.size W W' → Rd W' w.heap.size 7 A n (fun i j => I (g i j)) ∧ Rd W' w.heap.size 7 A' n (fun i j => I (g i j)) ∧ Below w.heap.size w W') := fun W' h => by
    have h' := hb0.trans (h.mono hb0.size)
    exact ⟨hx.below h', hy.below h', h'⟩
  have y := fun k (v : Value) (h : (runArr (.slice A n c) R)[k]? = some v) => ovr_cell (show W.cell? ⟨w.heap.size, k, none⟩ = some v by rw [cell_of_row _ _ _ _ _ _ r0]; exact h)
  have q := fun k (v : Value) (h : (runArr (.slice A' n c') R)[k]? = some v) => ovr_cell (show W.cell? ⟨w.heap.size + 1, k, none⟩ = some v by rw [cell_of_row _ _ _ _ _ _ r1]; exact h)
  have y0 := y 0 _ rfl
  have q0 := q 0 _ rfl
  have y1 := y 1 _ rfl
  have q1 := q 1 _ rfl
  have y2 := y 2 _ rfl
  have q2 := q 2 _ rfl
  have y3 := y 3 _ rfl
  have q3 := q 3 _ rfl
  have y4 := y 4 _ rfl
  have q4 := q 4 _ rfl
  have y5 := y 5 _ rfl
  have q5 := q 5 _ rfl
  have y6 := y 6 _ rfl
  have q6 := q 6 _ rfl
  have y7 := y 7 _ rfl
  have q7 := q 7 _ rfl
  have y8 := y 8 _ rfl
  have q8 := q 8 _ rfl
  have y9 := y 9 _ rfl
  have q9 := q 9 _ rfl
  have y10 := y 10 _ rfl
  have q10 := q 10 _ rfl
  have y11 := y 11 _ rfl
  have q11 := q 11 _ rfl
  have y12 := y 12 _ rfl
  have q12 := q 12 _ rfl
  have y13 := y 13 _ rfl
  have q13 := q 13 _ rfl
  have y14 := y 14 _ rfl
  have q14 := q 14 _ rfl
  have y15 := y 15 _ rfl
  have q15 := q 15 _ rfl
  have y16 := y 16 _ rfl
  have q16 := q 16 _ rfl
  have y17 := y 17 _ rfl
  have q17 := q 17 _ rfl
  have y18 := y 18 _ rfl
  have q18 := q 18 _ rfl
  have y19 := y 19 _ rfl
  have q19 := q 19 _ rfl
  have y20 := y 20 _ rfl
  have q20 := q 20 _ rfl
  have y21 := y 21 _ rfl
  have q21 := q 21 _ rfl
  have y22 := y 22 _ rfl
  have q22 := q 22 _ rfl
  have y23 := y 23 _ rfl
  have q23 := q 23 _ rfl
  have y24 := y 24 _ rfl
  have q24 := q 24 _ rfl
  have y25 := y 25 _ rfl
  have q25 := q 25 _ rfl
  have HW := Lib.hid hW
  obtain ⟨u0, hu0⟩ := ovr_self W
  have Hu0 := Lib.hid hu0
  have e1 := eqM_R R
  have e2 := eqB_R8 R
  have e3 := eqB_R14 R
  have e4 := eqB_R20 R
  clear y q hW hb0 r0 r1 hx hy hu0
  go_enter Tryd.func18, Tryd.ntmps18
  go_upto_region 1 with (fail)
  rw [← HW.out, Hu0.out]
  go_wp2_with fail
  clear e1 e2 e3 e4 y1 q1 y2 q2 y3 q3 y4 q4 y5 q5 y6 q6 y7 q7 y8 q8 y9 q9 y10 q10 y11 q11 y12 q12 y13 q13 y14 q14 y15 q15 y16 q16 y17 q17 y18 q18 y19 q19 y20 q20 y21 q21 y22 q22 y23 q23 y24 q24 y25 q25
  go_loopw [5] (fun i wr => ∃ k : Nat, k ≤ n ∧ i = .int .i64 k ∧ ∃ u, wr = ovr W u) (fun i _ => n - (intOf i).toNat)
  case atStart => exact ⟨0, by omega, rfl, u0, rfl⟩
  case round =>
    obtain ⟨k, hk, rfl, u, rfl⟩ := hrel
    by_cases hlt : k < n
    · have hki : decide ((k : Int) < (n : Int)) = true := decide_eq_true (by omega)
      have hkn : decide (k < n) = true := decide_eq_true hlt
      have hk0 : decide (0 ≤ (k : Int)) = true := decide_eq_true (by omega)
      have w9 : IntKind.i64.wrap ((k : Int) + 1) = (k : Int) + 1 := IntWalk.i64_in _ (by omega)
      go_upto_region 6 with (fail)
      obtain ⟨V, hV⟩ : ∃ V, V = ovr W u := ⟨_, rfl⟩
      have bV : Below W.heap.size W V := by rw [hV]; exact ovr_below W u
      have p0 := ovr_cell (show V.cell? ⟨w.heap.size, 0, none⟩ = _ by rw [hV]; exact y0 u)
      have p1 := ovr_cell (show V.cell? ⟨w.heap.size + 1, 0, none⟩ = _ by rw [hV]; exact q0 u)
      obtain ⟨h1, h2, _⟩ := HX.out V bV
      obtain ⟨b, o, rfl, x0, hx⟩ := h1.frz hlt
      obtain ⟨b', o', rfl, z0, hz⟩ := h2.frz hlt
      have x0 := ovr_cell x0
      have x1 := ovr_cell (hx 1 (by omega))
      have x2 := ovr_cell (hx 2 (by omega))
      have x3 := ovr_cell (hx 3 (by omega))
      have x4 := ovr_cell (hx 4 (by omega))
      have x5 := ovr_cell (hx 5 (by omega))
      have x6 := ovr_cell (hx 6 (by omega))
      have z0 := ovr_cell z0
      have z1 := ovr_cell (hz 1 (by omega))
      have z2 := ovr_cell (hz 2 (by omega))
      have z3 := ovr_cell (hz 3 (by omega))
      have z4 := ovr_cell (hz 4 (by omega))
      have z5 := ovr_cell (hz 5 (by omega))
      have z6 := ovr_cell (hz 6 (by omega))
      have heq := eqF_g (g k)
      have HV := Lib.hid bV
      rw [← hV]
      clear hV bV hx hz h1 h2
      refine wp_region_below_lit (by kernel_rfl) (by kernel_rfl) ?_
      repeat (go_big_quiet_step (fail))
      refine wpQuiet_nil ?_
      intro w5 hb5
      have h5 := HV.out.trans (hb5.mono HV.out.size)
      obtain ⟨u5, rfl⟩ : ∃ u, w5 = ovr W u := ⟨w5, ovr_of h5⟩
      clear hb5 h5 x0 x1 x2 x3 x4 x5 x6 z0 z1 z2 z3 z4 z5 z6 heq p0 p1
      go_wp2_with fail
      go_roundw
      case rel => exact ⟨k + 1, by omega, by go_num, u5, rfl⟩
      case measure => simp [intOf]; omega
    · obtain rfl : k = n := by omega
      have hki : decide ((k : Int) < (k : Int)) = false := decide_eq_false (by omega)
      go_wp2_with fail
      go_ret
      exact ⟨rfl, (HX.out _ (ovr_below W u)).2.2⟩
end Go.Proofs.YtfifdfagikbahaaDoor
