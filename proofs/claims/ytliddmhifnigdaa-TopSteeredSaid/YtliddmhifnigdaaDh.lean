/- Contracts of the closures of CheckGrowth of package defect. -/
import Derived.Test.YtliddmhifnigdaaDd
import Derived.Test.YtliddmhifnigdaaU6
namespace Go.Proofs.Ytliddmhifnigdaa.Un
open Go.RowKit
/-- A knot whose Y is outside of limits. -/
def outB (l h : Int) (k : Rng) : Bool := decide (k.hi < l) || decide (h < k.hi)
set_option maxRecDepth 100000 in
set_option maxHeartbeats 1000000 in
theorem growth11_any (k : Rng) (l h : Int) (q1 q2 : Nat) (w : World) (e1 : w.cell? ⟨q1, 0, none⟩ = some (I l)) (e2 : w.cell? ⟨q2, 0, none⟩ = some (I h)) : Calls Try.prog 60 #[k.val, .pointer (some ⟨q1, 0, none⟩), .pointer (some ⟨q2, 0, none⟩)] w fun e w' => e = .returned (.bool (outB l h k)) ∧ Below w.heap.size w w' := by
  obtain ⟨x, y⟩ := k
  have hf : Hid (outB l h ⟨x, y⟩ = (decide (y < l) || decide (h < y))) := rfl
  have E1 := Lib.hid (ovr_cell e1)
  have E2 := Lib.hid (ovr_cell e2)
  obtain ⟨W, hW⟩ : ∃ W, W = w.alloc (.cells #[I x, I y] 111) := ⟨_, rfl⟩
  have rW : W.heap[w.heap.size]? = some (.cells #[I x, I y] 111 (0, 0)) := by rw [hW]; exact heap_last _ _ _ rfl
  have bW : Below w.heap.size w W := by rw [hW]; exact (Below.refl _ _).alloc (Nat.le_refl _) _
  have y0 : W.cell? ⟨w.heap.size, 1, none⟩ = some (I y) := by rw [cell_of_row _ _ _ _ _ _ rW]; rfl
  have y1 : W.cell? ⟨q1, 0, none⟩ = some (I l) := by rw [ovr_of bW]; exact E1.out W
  have y2 : W.cell? ⟨q2, 0, none⟩ = some (I h) := by rw [ovr_of bW]; exact E2.out W
  have HW := Lib.hid hW
  have BW := Lib.hid bW
  clear hW bW rW e1 e2
  rcases h1 : decide (y < l) with _ | _ <;> rw [h1] at hf
  · rcases h2 : decide (h < y) with _ | _ <;> rw [h2] at hf
    all_goals
      go_enter Try.func60, Try.ntmps60
      go_upto_region 1 with fail
      rw [← HW.out]
      go_wp2_with fail
      go_ret
      exact ⟨by rw [hf.out]; rfl, BW.out⟩
  · go_enter Try.func60, Try.ntmps60
    go_upto_region 1 with fail
    rw [← HW.out]
    go_wp2_with fail
    go_ret
    exact ⟨by rw [hf.out]; rfl, BW.out⟩
set_option maxHeartbeats 1000000 in
theorem out_ix (l h : Int) (q1 q2 : Nat) (A : Option Addr) (c : Nat) (xs : List Rng) (w : World) (e1 : w.cell? ⟨q1, 0, none⟩ = some (I l)) (e2 : w.cell? ⟨q2, 0, none⟩ = some (I h)) (B : Nat) (hm : xs.length ≤ maxLen) (hB : B ≤ w.heap.size) (hx : Rd w B 2 A xs.length (rR xs)) :
    Calls Try.prog 86 #[.slice A xs.length c, .func (Fn.func 60) #[] #[.pointer (some ⟨q1, 0, none⟩), .pointer (some ⟨q2, 0, none⟩)]] w fun e w' => e = .returned (.int .i64 (ixOf (outB l h) xs)) ∧ Below w.heap.size w w' := by
  unfold maxLen at hm
  have HX : Hid (∀ u, Rd (ovr w u) B 2 A xs.length (rR xs)) := fun u => hx.below ((ovr_below w u).mono hB)
  have E1 := Lib.hid (ovr_cell e1)
  have E2 := Lib.hid (ovr_cell e2)
  clear e1 e2
  obtain ⟨u0, hu0⟩ := ovr_self w
  have H0 := Lib.hid hu0
  clear hx hB hu0
  go_enter Try.func86, Try.ntmps86
  go_wp2
  go_loopw [8] (fun i wr => ∃ k : Nat, k ≤ xs.length ∧ i = .int .i64 k ∧ (∀ j, j < k → outB l h (at0 xs j) = false) ∧ ∃ u, wr = ovr w u) (fun i _ => xs.length - (intOf i).toNat)
  case atStart => exact ⟨0, by omega, rfl, fun j hj => absurd hj (by omega), u0, H0.out⟩
  case round =>
    obtain ⟨k, hk, rfl, hb, u, rfl⟩ := hrel
    have Hb := Lib.hid hb
    clear hb
    by_cases hlt : k < xs.length
    · obtain ⟨b, o, rfl, _, x0, x1⟩ := (HX.out u).rng hlt
      have ca := growth11_any (at0 xs k) l h q1 q2 (ovr w u) (E1.out u) (E2.out u)
      rcases hp : outB l h (at0 xs k) with _ | _
      · rw [hp] at ca
        have Ca := Lib.hid ca
        clear ca
        go_wp2_with fail
        refine Ca.out.mono ?_
        rintro e w1 ⟨rfl, hb1⟩
        obtain ⟨u1, rfl⟩ := ovr_next hb1
        clear hb1
        go_wp2_with fail
        go_roundw
        case rel => exact ⟨k + 1, by omega, by go_num, succ_case Hb.out hp, u1, rfl⟩
        case measure => simp [intOf]; omega
      · rw [hp] at ca
        have Ca := Lib.hid ca
        have hfin := Lib.hid (ixOf_at hlt hp Hb.out)
        clear ca
        go_wp2_with fail
        refine Ca.out.mono ?_
        rintro e w1 ⟨rfl, hb1⟩
        obtain ⟨u1, rfl⟩ := ovr_next hb1
        clear hb1
        go_wp2_with fail
        go_ret
        exact ⟨ret_int hfin.out.symm, ovr_below _ _⟩
    · have hfin : Hid (ixOf (outB l h) xs = -1) := ixOf_none0 fun j hj => Hb.out j (by omega)
      go_wp2
      go_ret
      exact ⟨ret_int hfin.out.symm, ovr_below _ _⟩
set_option maxHeartbeats 1000000 in
theorem out_has (l h : Int) (q1 q2 : Nat) (A : Option Addr) (c : Nat) (xs : List Rng) (w : World) (e1 : w.cell? ⟨q1, 0, none⟩ = some (I l)) (e2 : w.cell? ⟨q2, 0, none⟩ = some (I h)) (B : Nat) (hm : xs.length ≤ maxLen) (hB : B ≤ w.heap.size) (hx : Rd w B 2 A xs.length (rR xs)) :
    Calls Try.prog 59 #[.slice A xs.length c, .func (Fn.func 60) #[] #[.pointer (some ⟨q1, 0, none⟩), .pointer (some ⟨q2, 0, none⟩)]] w fun e w' => e = .returned (.bool (xs.any (outB l h))) ∧ Below w.heap.size w w' := by
  have hfin := ixOf_any (p := outB l h) (xs := xs)
  have cx := Lib.hid (out_ix l h q1 q2 A c xs w e1 e2 B hm hB hx)
  clear hx hB hm e1 e2
  go_enter Try.func59, Try.ntmps59
  go_wp2_with fail
  refine cx.out.mono ?_
  rintro e w' ⟨rfl, hb⟩
  have HB := Lib.hid hb
  clear hb
  go_wp2_with fail
  go_ret
  exact ⟨rfl, HB.out⟩
set_option maxRecDepth 100000 in
set_option maxHeartbeats 1000000 in
theorem growth1_any (A : Option Addr) (c : Nat) (xs : List Rng) (l h : Int) (w : World) (B : Nat) (hm : xs.length ≤ maxLen) (hB : B ≤ w.heap.size) (hx : Rd w B 2 A xs.length (rR xs)) :
    Calls Try.prog 58 #[.slice A xs.length c, I l, I h] w fun e w' => e = .returned (.bool (xs.any (outB l h))) ∧ Below w.heap.size w w' := by
  obtain ⟨W, hW⟩ : ∃ W, W = (w.alloc (.cells #[I l] 3)).alloc (.cells #[I h] 3) := ⟨_, rfl⟩
  have e1 : W.cell? ⟨w.heap.size, 0, none⟩ = some (I l) := by rw [hW, cell_of_row _ _ _ _ _ _ (heap_before (heap_last _ _ _ rfl))]; rfl
  have e2 : W.cell? ⟨w.heap.size + 1, 0, none⟩ = some (I h) := by rw [hW, cell_of_row _ _ _ _ _ _ (heap_last _ _ _ (by simp))]; rfl
  have bW : Below w.heap.size w W := by rw [hW]; exact ((Below.refl _ _).alloc (Nat.le_refl _) _).alloc (by simp) _
  have CH := Lib.hid (out_has l h w.heap.size (w.heap.size + 1) A c xs W e1 e2 B hm (Nat.le_trans hB bW.size) (hx.below (bW.mono hB)))
  have HW := Lib.hid hW
  have BW := Lib.hid bW
  clear hW bW e1 e2 hx hB hm
  go_enter Try.func58, Try.ntmps58
  go_upto_region 1 with fail
  rw [← HW.out]
  go_wp2_with fail
  refine CH.out.mono ?_
  rintro e w1 ⟨rfl, hb1⟩
  have HB := Lib.hid (BW.out.trans (hb1.mono BW.out.size))
  clear hb1
  go_wp2_with fail
  go_ret
  exact ⟨rfl, HB.out⟩
set_option maxRecDepth 100000 in
set_option maxHeartbeats 1000000 in
theorem growth2_any (r : Rng) (w : World) : Calls Try.prog 61 #[r.val] w fun e w' => e = .returned (.bool (notGr r)) ∧ Below w.heap.size w w' := by
  have c1 := Lib.hid fun W => isGrad_any r W
  have hf : Hid (notGr r = !spanB r 1 1000000) := rfl
  obtain ⟨lo, hi⟩ := r
  obtain ⟨W, hW⟩ : ∃ W, W = (w.alloc (.cells #[I lo, I hi] 23)) := ⟨_, rfl⟩
  have rowW0 : W.heap[w.heap.size]? = some (.cells #[I lo, I hi] 23 (0, 0)) := by rw [hW]; exact heap_last _ _ _ rfl
  have yW00 := ovr_cell (W := W) (b := w.heap.size) (o := 0) (v := I lo) (by rw [cell_of_row _ _ _ _ _ _ rowW0]; rfl)
  have yW01 := ovr_cell (W := W) (b := w.heap.size) (o := 1) (v := I hi) (by rw [cell_of_row _ _ _ _ _ _ rowW0]; rfl)
  have RrowW0 := Lib.hid (ovr_row rowW0)
  clear rowW0
  have HUW : Hid (∀ u, Below w.heap.size w (ovr W u)) := U1 hW
  have HW := Lib.hid hW
  clear hW
  rcases hq : spanB ⟨lo, hi⟩ 1 1000000 with _ | _ <;> rw [hq] at c1 hf
  all_goals
    go_enter Try.func61, Try.ntmps61
    go_upto_region 1 with (fail)
    rw [← HW.out]
    obtain ⟨u0, hu0⟩ := ovr_self W
    rw [hu0]
    clear hu0
    go_wp2_with fail
    refine (c1.out _).mono ?_
    rintro e w1 ⟨rfl, hb1⟩
    obtain ⟨u1, rfl⟩ := ovr_next hb1
    clear hb1
    go_wp2_with fail
    go_ret
    exact ⟨by rw [hf.out]; rfl, HUW.out _⟩
set_option maxHeartbeats 1000000 in
theorem gr2_ix (A : Option Addr) (c : Nat) (xs : List Rng) (w : World) (B : Nat) (hm : xs.length ≤ maxLen) (hB : B ≤ w.heap.size) (hx : Rd w B 2 A xs.length (rR xs)) :
    Calls Try.prog 68 #[.slice A xs.length c, .func (Fn.func 61) #[] #[]] w fun e w' => e = .returned (.int .i64 (ixOf notGr xs)) ∧ Below w.heap.size w w' := by
  unfold maxLen at hm
  have HX : Hid (∀ u, Rd (ovr w u) B 2 A xs.length (rR xs)) := fun u => hx.below ((ovr_below w u).mono hB)
  obtain ⟨u0, hu0⟩ := ovr_self w
  have H0 := Lib.hid hu0
  clear hx hB hu0
  go_enter Try.func68, Try.ntmps68
  go_wp2
  go_loopw [8] (fun i wr => ∃ k : Nat, k ≤ xs.length ∧ i = .int .i64 k ∧ (∀ j, j < k → notGr (at0 xs j) = false) ∧ ∃ u, wr = ovr w u) (fun i _ => xs.length - (intOf i).toNat)
  case atStart => exact ⟨0, by omega, rfl, fun j hj => absurd hj (by omega), u0, H0.out⟩
  case round =>
    obtain ⟨k, hk, rfl, hb, u, rfl⟩ := hrel
    have Hb := Lib.hid hb
    clear hb
    by_cases hlt : k < xs.length
    · obtain ⟨b, o, rfl, _, e0, e1⟩ := (HX.out u).rng hlt
      have ca := growth2_any (at0 xs k) (ovr w u)
      rcases hp : notGr (at0 xs k) with _ | _
      · rw [hp] at ca
        have Ca := Lib.hid ca
        clear ca
        go_wp2_with fail
        refine Ca.out.mono ?_
        rintro e w1 ⟨rfl, hb1⟩
        obtain ⟨u1, rfl⟩ := ovr_next hb1
        clear hb1
        go_wp2_with fail
        go_roundw
        case rel => exact ⟨k + 1, by omega, by go_num, succ_case Hb.out hp, u1, rfl⟩
        case measure => simp [intOf]; omega
      · rw [hp] at ca
        have Ca := Lib.hid ca
        have hfin := Lib.hid (ixOf_at hlt hp Hb.out)
        clear ca
        go_wp2_with fail
        refine Ca.out.mono ?_
        rintro e w1 ⟨rfl, hb1⟩
        obtain ⟨u1, rfl⟩ := ovr_next hb1
        clear hb1
        go_wp2_with fail
        go_ret
        exact ⟨ret_int hfin.out.symm, ovr_below _ _⟩
    · have hfin : Hid (ixOf notGr xs = -1) := ixOf_none0 fun j hj => Hb.out j (by omega)
      go_wp2
      go_ret
      exact ⟨ret_int hfin.out.symm, ovr_below _ _⟩
set_option maxHeartbeats 1000000 in
theorem gr2_has (A : Option Addr) (c : Nat) (xs : List Rng) (w : World) (B : Nat) (hm : xs.length ≤ maxLen) (hB : B ≤ w.heap.size) (hx : Rd w B 2 A xs.length (rR xs)) :
    Calls Try.prog 42 #[.slice A xs.length c, .func (Fn.func 61) #[] #[]] w fun e w' => e = .returned (.bool (xs.any notGr)) ∧ Below w.heap.size w w' := by
  have hfin := ixOf_any (p := notGr) (xs := xs)
  have cx := Lib.hid (gr2_ix A c xs w B hm hB hx)
  clear hx hB hm
  go_enter Try.func42, Try.ntmps42
  go_wp2_with fail
  refine cx.out.mono ?_
  rintro e w' ⟨rfl, hb⟩
  have HB := Lib.hid hb
  clear hb
  go_wp2_with fail
  go_ret
  exact ⟨rfl, HB.out⟩
end Go.Proofs.Ytliddmhifnigdaa.Un
