/- The bounds of a mix, and where they begin to hold: holds, sort.Search, Refill. -/
import Derived.Test.YtfifdfagikbahaaDoorNc
import Derived.Test.YtfifdfagikbahaaDoorNb
namespace Go.Proofs.YtfifdfagikbahaaDoor
open Go.RowKit
attribute [local go_sem] Oper.semAt_some
/-- A melt to which silicon is added. -/
structure Mix where
  ms : Nat
  ct : Nat
  fd : Nat
  sh : Nat
  bd : Nat
  ls : Bool
abbrev mixArr (a : Mix) : Array Value := #[I a.ms, I a.ct, I a.fd, I a.sh, I a.bd, .bool a.ls]
structure MixOk (a : Mix) : Prop where
  ms : a.ms ≤ 1000000000
  ct : a.ct ≤ 1000000000000
  fd : a.fd ≤ 1000000000
  sh : a.sh ≤ 20000
  bd : a.bd ≤ 1000000000
def mxL (a : Mix) (x : Nat) : Nat := (1000000 * a.ct + a.fd * x) * a.sh
def mxR (a : Mix) (x : Nat) : Nat := 10000 * a.bd * (a.ms + x)
def hld (a : Mix) (x : Nat) : Bool := if a.ls then decide (mxR a x ≤ mxL a x) else decide (mxL a x ≤ mxR a x)
set_option maxHeartbeats 1000000 in
set_option maxRecDepth 100000 in
theorem holds_any (a : Mix) (x : Nat) (w : World) (ha : MixOk a) (hx : x ≤ 1000000000) : Calls Tryd.prog 50 #[.agg (mixArr a), I x] w fun e w' => e = .returned (.bool (hld a x)) ∧ Below w.heap.size w w' := by
  obtain ⟨h1, h2, h3, h4, h5⟩ := ha
  have hfx : a.fd * x ≤ 1000000000 * 1000000000 := Nat.mul_le_mul h3 hx
  have hL : mxL a x ≤ (1000000 * 1000000000000 + 1000000000 * 1000000000) * 20000 := Nat.mul_le_mul (by omega) h4
  have p1 : Hid (∀ w', Calls Tryd.prog 75 #[I 1000000, I a.ct] w' fun e w'' => e = .returned (wN (1000000 * a.ct)) ∧ Below w'.heap.size w' w'') := fun w' => wprod_any 1000000 a.ct w' (by decide) (by omega)
  have p2 : Hid (∀ w', Calls Tryd.prog 75 #[I a.fd, I x] w' fun e w'' => e = .returned (wN (a.fd * x)) ∧ Below w'.heap.size w' w'') := fun w' => wprod_any a.fd x w' (by omega) (by omega)
  have p3 : Hid (∀ w', Calls Tryd.prog 76 #[wN (1000000 * a.ct), wN (a.fd * x)] w' fun e w'' => e = .returned (wN (1000000 * a.ct + a.fd * x)) ∧ Below w'.heap.size w' w'') := fun w' => wplus_any _ _ w' (by omega)
  have p4 : Hid (∀ w', Calls Tryd.prog 77 #[wN (1000000 * a.ct + a.fd * x), I a.sh] w' fun e w'' => e = .returned (wN (mxL a x)) ∧ Below w'.heap.size w' w'') := fun w' => wtimes_any _ _ w' (by omega) (by have : (1000000 * a.ct + a.fd * x) * a.sh = mxL a x := rfl; omega)
  have w1 : IntKind.i64.wrap (10000 * (a.bd : Int)) = ((10000 * a.bd : Nat) : Int) := by rw [show (10000 : Int) * (a.bd : Int) = ((10000 * a.bd : Nat) : Int) by omega]; exact IntWalk.i64_in _ (by omega)
  have w2 : IntKind.i64.wrap ((a.ms : Int) + (x : Int)) = ((a.ms + x : Nat) : Int) := by rw [addN]; exact IntWalk.i64_in _ (by omega)
  have p5 : Hid (∀ w', Calls Tryd.prog 75 #[I ((10000 * a.bd : Nat) : Int), I ((a.ms + x : Nat) : Int)] w' fun e w'' => e = .returned (wN (mxR a x)) ∧ Below w'.heap.size w' w'') := fun w' => wprod_any _ _ w' (by omega) (by omega)
  have p6 : Hid (∀ w', Calls Tryd.prog 78 #[wN (mxL a x), wN (mxR a x)] w' fun e w'' => e = .returned (I (cmN (mxL a x) (mxR a x))) ∧ Below w'.heap.size w' w'') := fun w' => wcmp_any _ _ w'
  have hh : hld a x = if a.ls then decide (cmN (mxL a x) (mxR a x) ≥ 0) else decide (cmN (mxL a x) (mxR a x) ≤ 0) := by
    unfold hld cmN
    rcases a.ls with _ | _
    · simp only [Bool.false_eq_true, if_false]
      congr 1
      apply propext
      split
      · omega
      · split <;> omega
    · simp only [if_true]
      congr 1
      apply propext
      split
      · omega
      · split <;> omega
  clear hfx hL h1 h2 h3 h4 h5 hx
  obtain ⟨L, hLL⟩ : ∃ q, mxL a x = q := ⟨_, rfl⟩
  obtain ⟨Rr, hRR⟩ : ∃ q, mxR a x = q := ⟨_, rfl⟩
  obtain ⟨P1, hP1⟩ : ∃ q, wN (1000000 * a.ct) = q := ⟨_, rfl⟩
  obtain ⟨P2, hP2⟩ : ∃ q, wN (a.fd * x) = q := ⟨_, rfl⟩
  obtain ⟨P3, hP3⟩ : ∃ q, wN (1000000 * a.ct + a.fd * x) = q := ⟨_, rfl⟩
  obtain ⟨z1, hz1⟩ : ∃ q : Int, ((10000 * a.bd : Nat) : Int) = q := ⟨_, rfl⟩
  obtain ⟨z2, hz2⟩ : ∃ q : Int, ((a.ms + x : Nat) : Int) = q := ⟨_, rfl⟩
  simp only [hLL, hRR, hP1, hP2, hP3, hz1, hz2] at p1 p2 p3 p4 p5 p6
  rw [hLL, hRR] at hh
  rw [hz1] at w1
  rw [hz2] at w2
  obtain ⟨Lh, hLh⟩ : ∃ q, L / 18446744073709551616 = q := ⟨_, rfl⟩
  obtain ⟨Ll, hLl⟩ : ∃ q, L % 18446744073709551616 = q := ⟨_, rfl⟩
  obtain ⟨Rh, hRh⟩ : ∃ q, Rr / 18446744073709551616 = q := ⟨_, rfl⟩
  obtain ⟨Rl, hRl⟩ : ∃ q, Rr % 18446744073709551616 = q := ⟨_, rfl⟩
  simp only [wN, hLh, hLl, hRh, hRl] at p4 p5 p6
  clear hLh hLl hRh hRl
  have Hh := Lib.hid hh
  clear hLL hRR hP1 hP2 hP3 hz1 hz2 hh
  obtain ⟨ms, ct, fd, sh, bd, lsb⟩ := a
  obtain ⟨W, hW⟩ : ∃ W, W = w.alloc (.cells (mixArr ⟨ms, ct, fd, sh, bd, lsb⟩) 112) := ⟨_, rfl⟩
  have HW := Lib.hid hW
  have hb0 : Below w.heap.size w W := by rw [hW]; exact (Below.refl _ _).alloc (Nat.le_refl _) _
  have r0 : W.heap[w.heap.size]? = some (.cells (mixArr ⟨ms, ct, fd, sh, bd, lsb⟩) 112 (0, 0)) := by rw [hW]; exact heap_last _ _ _ rfl
  have sW : W.heap.size = w.heap.size + 1 := by rw [hW]; simp
  have y := fun k (v : Value) (h : (mixArr ⟨ms, ct, fd, sh, bd, lsb⟩)[k]? = some v) => ovr_cell (show W.cell? ⟨w.heap.size, k, none⟩ = some v by rw [cell_of_row _ _ _ _ _ _ r0]; exact h)
  have y1 := y 1 _ rfl
  have y2 := y 2 _ rfl
  have y3 := y 3 _ rfl
  have Hr0 := Lib.hid r0
  have Hb0 := Lib.hid hb0
  clear y hW hb0 r0
  simp only at p1 p2 p3 p4 p5 p6 y1 y2 y3 w1 w2
  go_enter Tryd.func50, Tryd.ntmps50
  go_upto_region 1 with (fail)
  rw [← HW.out]
  refine wp_region_seq2 12 (fun j => if j = 2 then some (fun u _ => u = P1) else if j = 6 then some (fun u _ => u = P2) else if j = 7 then some (fun u _ => u = P3) else if j = 10 then some (fun u _ => u = wA Lh Ll) else if j = 11 then some (NewAt W #[.int .u64 0, .int .u64 0] 143) else none) (by kernel_rfl) (by kernel_rfl) (by kernel_rfl) (by kernel_rfl) (by kernel_rfl) ?_
  simp only [List.take_succ_cons, List.take_zero, List.drop_succ_cons, List.drop_zero]
  repeat (refine wpG_one rfl rfl rfl ?_; intro K hK; go_big_quiet_op; go_big_quiet_on)
  refine wpG_make (fun u _ => u = P1) rfl rfl (fun w' hw' _ => ?_) (fun u hu => ?_)
  · go_simp
    exact call_grow (p1.out w')
  obtain ⟨_, _, rfl⟩ := hu
  simp only [Act.put, List.setIfInBounds_toArray, List.set_cons_zero, List.set_cons_succ]
  repeat (refine wpG_one rfl rfl rfl ?_; intro K hK; go_big_quiet_op; go_big_quiet_on)
  refine wpG_make (fun u _ => u = P2) rfl rfl (fun w' hw' _ => ?_) (fun u hu => ?_)
  · go_simp
    exact call_grow (p2.out w')
  obtain ⟨_, _, rfl⟩ := hu
  simp only [Act.put, List.setIfInBounds_toArray, List.set_cons_zero, List.set_cons_succ]
  refine wpG_make (fun u _ => u = P3) rfl rfl (fun w' hw' _ => ?_) (fun u hu => ?_)
  · go_simp
    exact call_grow (p3.out w')
  obtain ⟨_, _, rfl⟩ := hu
  simp only [Act.put, List.setIfInBounds_toArray, List.set_cons_zero, List.set_cons_succ]
  repeat (refine wpG_one rfl rfl rfl ?_; intro K hK; go_big_quiet_op; go_big_quiet_on)
  refine wpG_make (fun u _ => u = wA Lh Ll) rfl rfl (fun w' hw' _ => ?_) (fun u hu => ?_)
  · go_simp
    exact call_grow (p4.out w')
  obtain ⟨_, _, rfl⟩ := hu
  simp only [Act.put, List.setIfInBounds_toArray, List.set_cons_zero, List.set_cons_succ]
  refine wpG_make (NewAt W #[.int .u64 0, .int .u64 0] 143) rfl rfl (fun w' hw' _ => ?_) (fun u hu => ?_)
  · go_simp
    exact new_grow hw'
  obtain ⟨_, _, bn, rfl, _, _⟩ := hu
  simp only [Act.put, List.setIfInBounds_toArray, List.set_cons_zero, List.set_cons_succ]
  refine wpG_nil (fun w5 hw5 hG => ?_)
  have hn := (Box.now hG.2).at
  clear hG
  refine wpTailIn_cons Wd.wide (by intro c h; cases h) ?_
  refine wp_store_row 143 _ _ rfl bn rfl _ _ hn.1 #[.int .u64 (Lh : Int), .int .u64 (Ll : Int)] rfl (one2 rfl rfl) rfl (by kernel_rfl) ?_
  refine wpTailIn_nil ?_
  simp only [Act.put]
  obtain ⟨Y, hY⟩ : ∃ Y, Y = w5.setRow bn #[.int .u64 (Lh : Int), .int .u64 (Ll : Int)] := ⟨_, rfl⟩
  have bY : Below W.heap.size W Y := by rw [hY]; exact below_setRow hw5.le hn.2 _
  have rY : Y.heap[bn]? = some (.cells #[.int .u64 (Lh : Int), .int .u64 (Ll : Int)] 143 (0, 0)) := by rw [hY]; exact setRow_same hn.1
  have hbn := hn.2
  have rM := (bY.block w.heap.size (by omega)).trans Hr0.out
  have HbY := Lib.hid bY
  have HrY := Lib.hid rY
  have HrM := Lib.hid rM
  have hbY := (Array.getElem?_eq_some_iff.1 rY).1
  have y := fun k (v : Value) (h : (mixArr ⟨ms, ct, fd, sh, bd, lsb⟩)[k]? = some v) => (show Y.cell? ⟨w.heap.size, k, none⟩ = some v by rw [cell_of_row _ _ _ _ _ _ rM]; exact h)
  have y0 := y 0 _ rfl
  have y4 := y 4 _ rfl
  rw [← hY]
  clear hY hn hw5 bY rY rM y y1 y2 y3
  go_wp2_with fail
  refine (p5.out Y).mono ?_
  rintro e w6 ⟨rfl, hb6⟩
  have rM := (hb6.block w.heap.size (by omega)).trans HrM.out
  have y5 : w6.cell? ⟨w.heap.size, 5, none⟩ = some (.bool lsb) := by rw [cell_of_row _ _ _ _ _ _ rM]; rfl
  have r6 := (hb6.block bn hbY).trans HrY.out
  have Hr6 := Lib.hid r6
  have Hb6 : Hid (Below w.heap.size w w6) := Hb0.out.trans ((HbY.out.mono (by omega)).trans (hb6.mono (by omega)))
  have hs6 := hb6.size
  have HM6 := Lib.hid rM
  clear y0 y4 rM r6 hb6
  go_upto_region 3 with (refine wpList_store_row rfl 143 _ _ rfl w6.heap.size rfl _ _ (heap_last w6 (.cells #[.int .u64 0, .int .u64 0] 143) _ rfl) #[.int .u64 (Rh : Int), .int .u64 (Rl : Int)] rfl (one2 rfl rfl) rfl (by kernel_rfl) ?_)
  refine name_w fun V hV => ?_
  simp only [Act.put]
  obtain ⟨bm, hbm⟩ : ∃ q, w6.heap.size = q := ⟨_, rfl⟩
  have rm : V.heap[bm]? = some (.cells #[.int .u64 (Rh : Int), .int .u64 (Rl : Int)] 143 (0, 0)) := by rw [hV, ← hbm]; exact setRow_same (heap_last _ _ _ rfl)
  have b6V : Below w6.heap.size w6 V := by rw [hV]; exact below_setRow ((Below.refl _ _).alloc (Nat.le_refl _) _) (Nat.le_refl _) _
  have rn := (b6V.block bn (by omega)).trans Hr6.out
  have ry := (b6V.block w.heap.size (by omega)).trans HM6.out
  have q0 : V.cell? ⟨bn, 0, none⟩ = some (.int .u64 Lh) := by rw [cell_of_row _ _ _ _ _ _ rn]; rfl
  have q1 : V.cell? ⟨bn, 1, none⟩ = some (.int .u64 Ll) := by rw [cell_of_row _ _ _ _ _ _ rn]; rfl
  have q2 : V.cell? ⟨bm, 0, none⟩ = some (.int .u64 Rh) := by rw [cell_of_row _ _ _ _ _ _ rm]; rfl
  have q3 : V.cell? ⟨bm, 1, none⟩ = some (.int .u64 Rl) := by rw [cell_of_row _ _ _ _ _ _ rm]; rfl
  have q5 : V.cell? ⟨w.heap.size, 5, none⟩ = some (.bool lsb) := by rw [cell_of_row _ _ _ _ _ _ ry]; rfl
  have HV : Hid (Below w.heap.size w V) := Hb6.out.trans (b6V.mono (by omega))
  rw [hbm]
  clear hV rm b6V rn ry y5 hbm
  obtain ⟨c, hc⟩ : ∃ q, cmN L Rr = q := ⟨_, rfl⟩
  rw [hc] at p6 Hh
  clear hc
  rcases lsb with _ | _
  · go_wp2_with fail
    refine (p6.out V).mono ?_
    rintro e w7 ⟨rfl, hb7⟩
    have H7 := Lib.hid hb7
    clear hb7
    go_wp2_with fail
    go_ret
    exact ⟨by rw [Hh.out]; simp, HV.out.trans (H7.out.mono HV.out.size)⟩
  · go_wp2_with fail
    refine (p6.out V).mono ?_
    rintro e w7 ⟨rfl, hb7⟩
    have H7 := Lib.hid hb7
    clear hb7
    go_wp2_with fail
    go_ret
    exact ⟨by rw [Hh.out]; simp, HV.out.trans (H7.out.mono HV.out.size)⟩
end Go.Proofs.YtfifdfagikbahaaDoor
