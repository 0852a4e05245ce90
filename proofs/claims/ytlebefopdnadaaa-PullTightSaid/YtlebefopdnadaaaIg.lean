/- The contracts of Good, Holds and touches of the reference. -/
import Derived.Test.YtlebefopdnadaaaEg
namespace Go.Proofs.Ytlebefopdnadaaa
open Go.RowKit
theorem goodB_eq {p : Vec} {R : Run} (h : VRun R) (hp : VPul p) {t : Nat} (ht : (t : Int) + 1 ≤ R.e) : goodB p R t = (decide (0 < R.ms.length) && decide (p 112 ≤ (fromK p R t).lo) && decide ((fromK p R t).hi ≤ p 113)) := by
  rw [good_ref h hp ht, bet_ref h hp ht]
set_option maxRecDepth 100000 in
set_option maxHeartbeats 1000000 in
theorem refGood_any (A1 A2 A3 : Option Addr) (c1 c2 c3 : Nat) (p : Vec) (R : Run) (t : Nat) (w : World) (h : RunIn w A1 A2 A3 R) (hv : VRun R) (hp : VPul p) (ht : (t : Int) + 1 ≤ R.e) :
    Calls Try.prog 73 #[.agg (ia 117 p), runV A1 A2 A3 c1 c2 c3 R, I t] w fun e w' => e = .returned (.bool (goodB p R t)) ∧ Below w.heap.size w w' := by
  obtain ⟨W2, hW2⟩ : ∃ W2, W2 = ((w.alloc (.cells (ia 117 p) 30)).alloc (.cells #[.slice A1 R.ss.length c1, I R.e, .slice A2 R.ms.length c2, .slice A3 R.es.length c3] 35)) := ⟨_, rfl⟩
  have T : Hid (Two w A1 A2 A3 c1 c2 c3 p R W2) := hW2 ▸ two_mk h c1 c2 c3 p
  have HW := Lib.hid hW2
  have hg := goodB_eq hv hp ht
  have hb := refBet_any A1 A2 A3 c1 c2 c3 p R t W2 T.out.run hv hp ht
  generalize (fromK p R t).lo = x at *
  generalize (fromK p R t).hi = y at *
  have Hg := Lib.hid hg
  have Hb := Lib.hid hb
  have HB := Lib.hid (T.out.up _ (Below.refl _ _))
  clear h hv hp ht hg hb hW2
  have x0 := T.out.r0 _ (Below.refl _ _)
  have x1 := T.out.r1 _ (Below.refl _ _)
  have x2 := T.out.r2 _ (Below.refl _ _)
  have x3 := T.out.r3 _ (Below.refl _ _)
  by_cases hn : R.ms.length = 0
  · have hf : Hid (goodB p R t = false) := by show _ = _; rw [Hg.out, hn]; rfl
    have hn' : ((R.ms.length : Int) == 0) = true := by rw [hn]; rfl
    clear hn
    go_enter Try.func73, Try.ntmps73
    go_upto_region 1 with (fail)
    rw [← HW.out]
    go_wp2_with fail
    go_ret
    exact ⟨by rw [hf.out]; rfl, HB.out⟩
  · have hn' : ((R.ms.length : Int) == 0) = false := by rw [beq_eq_false_iff_ne]; omega
    have Hg2 : Hid (goodB p R t = (decide (p 112 ≤ x) && decide (y ≤ p 113))) := by show _ = _; rw [Hg.out, decide_eq_true (show 0 < R.ms.length by omega)]; rfl
    clear hn
    go_enter Try.func73, Try.ntmps73
    go_upto_region 1 with (fail)
    rw [← HW.out]
    go_wp2_with (refine wpList_load_ia rfl 30 _ rfl w.heap.size 0 rfl 117 p _ (T.out.pul _ (Below.refl _ _)) Try.underlying30 rfl (by kernel_rfl) ?_)
    refine Hb.out.mono ?_
    rintro e w4 ⟨rfl, hb4⟩
    have H4 : Hid (Below w.heap.size w (w4.alloc (.cells #[I x, I y] 23))) := (T.out.up _ hb4).alloc (T.out.up _ hb4).size _
    have y2 := fun o : Obj => T.out.pul (w4.alloc o) (hb4.alloc hb4.size _) 112 (by omega)
    have y3 := fun o : Obj => T.out.pul (w4.alloc o) (hb4.alloc hb4.size _) 113 (by omega)
    simp only [Nat.zero_add] at y2 y3
    clear hb4 x0 x1 x2 x3
    by_cases t1 : p 112 ≤ x
    · have hf : Hid (goodB p R t = decide (y ≤ p 113)) := by show _ = _; rw [Hg2.out, decide_eq_true t1]; rfl
      go_wp2_with fail
      go_ret
      exact ⟨congrArg (fun b => Ending.returned (.bool b)) hf.out.symm, H4.out⟩
    · have hf : Hid (goodB p R t = false) := by show _ = _; rw [Hg2.out, decide_eq_false t1]; simp
      go_wp2_with fail
      go_ret
      exact ⟨by rw [hf.out]; rfl, H4.out⟩
/-- Which setting holds at a time, of the first k. -/
def hldK (R : Run) (t : Int) : Nat → Nat
  | 0 => 0 | k + 1 => if (at0 R.ss k).t ≤ t then k else hldK R t k
set_option maxHeartbeats 1000000 in
theorem refHolds_any (A1 A2 A3 : Option Addr) (c1 c2 c3 : Nat) (R : Run) (t : Int) (w : World) (h : RunIn w A1 A2 A3 R) :
    Calls Try.prog 74 #[runV A1 A2 A3 c1 c2 c3 R, I t] w fun e w' => e = .returned (I (hldK R t R.ss.length)) ∧ Below w.heap.size w w' := by
  obtain ⟨W1, hW1⟩ : ∃ W1, W1 = w.alloc (.cells #[.slice A1 R.ss.length c1, I R.e, .slice A2 R.ms.length c2, .slice A3 R.es.length c3] 35) := ⟨_, rfl⟩
  obtain ⟨⟨x0, x1, x2, x3⟩, hin, hb⟩ := box_run h hW1 (Le.refl _)
  have HW := Lib.hid hW1
  have HB := Lib.hid hb
  have Hin := Lib.hid hin
  have ls : (R.ss.length : Int) ≤ 1000000 := by have := h.ls; omega
  clear h hW1 hin hb
  go_enter Try.func74, Try.ntmps74
  go_wp2_with fail
  rw [← HW.out]
  go_loop [5, 6] (fun a i => ∃ k : Nat, k ≤ R.ss.length ∧ i = .int .i64 k ∧ a = I (hldK R t k)) (fun _ i => R.ss.length - (intOf i).toNat)
  case atStart => exact ⟨0, by omega, rfl, rfl⟩
  case round =>
    obtain ⟨k, hk, rfl, rfl⟩ := hrel
    by_cases hlt : k < R.ss.length
    · obtain ⟨b, o, rfl, hB, s0, s1, s2, s3, s4, s5, s6, s7⟩ := Hin.out.s.stg hlt
      have hst : Hid (hldK R t (k + 1) = if (at0 R.ss k).t ≤ t then k else hldK R t k) := rfl
      generalize at0 R.ss k = q at *
      by_cases t1 : q.t ≤ t
      · have h1 : Hid (hldK R t (k + 1) = k) := by show _ = _; rw [hst.out, if_pos t1]
        go_wp2_with fail
        go_round
        case rel => exact ⟨k + 1, by omega, by go_num, by rw [h1.out]⟩
        case measure => simp [intOf]; omega
      · have h1 : Hid (hldK R t (k + 1) = hldK R t k) := by show _ = _; rw [hst.out, if_neg t1]
        go_wp2_with fail
        go_round
        case rel => exact ⟨k + 1, by omega, by go_num, by rw [h1.out]⟩
        case measure => simp [intOf]; omega
    · obtain rfl : k = R.ss.length := by omega
      go_wp2_with fail
      go_ret
      exact ⟨rfl, HB.out⟩
def toB (t : Int) (r : Rng) : Bool := decide (r.lo ≤ t) && decide (t < r.hi)
set_option maxHeartbeats 1000000 in
theorem touches_any (A : Option Addr) (n c : Nat) (l : List Rng) (t : Int) (w : World) (hn : n = l.length) (hl : n ≤ 1000000) (hx : Rd w w.heap.size 2 A n (rR l)) :
    Calls Try.prog 75 #[.slice A n c, I t] w fun e w' => e = .returned (.bool (l.any (toB t))) ∧ Below w.heap.size w w' := by
  have Hx := Lib.hid hx
  have Hn := Lib.hid hn
  clear hx hn
  go_enter Try.func75, Try.ntmps75
  go_wp2_with fail
  go_loop [5] (fun i => ∃ k : Nat, k ≤ n ∧ i = .int .i64 k ∧ (∀ j, j < k → toB t (at0 l j) = false)) (fun i => n - (intOf i).toNat)
  case atStart => exact ⟨0, by omega, rfl, by omega⟩
  case round =>
    obtain ⟨k, hk, rfl, hb⟩ := hrel
    have Hb := Lib.hid hb
    clear hb
    by_cases hlt : k < n
    · obtain ⟨b, o, rfl, hB, s0, s1⟩ := Hx.out.rng hlt
      have hto : Hid (toB t (at0 l k) = (decide ((at0 l k).lo ≤ t) && decide (t < (at0 l k).hi))) := rfl
      have hin : Hid (at0 l k ∈ l) := at0_in (by rw [← Hn.out]; exact hlt)
      generalize hq : at0 l k = q at *
      have HQ := Lib.hid hq
      clear hq
      by_cases t1 : q.lo ≤ t
      · by_cases t2 : t < q.hi
        · have hyes : Hid (l.any (toB t) = true) := List.any_eq_true.2 ⟨q, hin.out, by rw [hto.out, decide_eq_true t1, decide_eq_true t2]; rfl⟩
          go_wp2_with fail
          go_ret
          exact ⟨by rw [hyes.out]; rfl, Below.refl _ _⟩
        · have hno : Hid (toB t (at0 l k) = false) := by show _ = _; rw [HQ.out, hto.out, decide_eq_false t2]; simp
          go_wp2_with fail
          go_round
          case rel => exact ⟨k + 1, by omega, by go_num, succ_case Hb.out hno.out⟩
          case measure => simp [intOf]; omega
      · have hno : Hid (toB t (at0 l k) = false) := by show _ = _; rw [HQ.out, hto.out, decide_eq_false t1]; rfl
        go_wp2_with fail
        go_round
        case rel => exact ⟨k + 1, by omega, by go_num, succ_case Hb.out hno.out⟩
        case measure => simp [intOf]; omega
    · have hno : Hid (l.any (toB t) = false) := by
        show _ = _
        rw [List.any_eq_false]
        intro x hx
        obtain ⟨j, hj, rfl⟩ := at0_mem hx
        rw [Hb.out j (by rw [← Hn.out] at hj; omega)]; decide
      go_wp2_with fail
      go_ret
      exact ⟨by rw [hno.out]; rfl, Below.refl _ _⟩
end Go.Proofs.Ytlebefopdnadaaa
