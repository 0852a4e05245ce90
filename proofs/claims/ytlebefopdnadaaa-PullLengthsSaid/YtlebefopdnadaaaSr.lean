/- The contract of sameRanges of the statements' package. -/
import Derived.Test.YtlebefopdnadaaaSp
namespace Go.Proofs.Ytlebefopdnadaaa
open Go.RowKit
def sameL (a b : List Rng) : Bool := decide (a = b)
theorem sameL_at {a b : List Rng} {k : Nat} (_hk : k < a.length) (h : ¬ at0 a k = at0 b k) : sameL a b = false := by
  unfold sameL
  rw [decide_eq_false_iff_not]
  intro e
  exact h (by rw [e])
theorem sameL_all {a b : List Rng} (hl : a.length = b.length) (h : ∀ k, k < a.length → at0 a k = at0 b k) : sameL a b = true := by
  unfold sameL
  rw [decide_eq_true_eq]
  apply List.ext_getElem hl
  intro i h1 h2
  rw [← at0_get h1, ← at0_get h2]
  exact h i h1
set_option maxRecDepth 100000 in
set_option maxHeartbeats 1000000 in
theorem same_any (A A' : Option Addr) (n n' c c' : Nat) (a b : List Rng) (w : World) (hn : n = a.length) (hn' : n' = b.length) (hx : Rd w w.heap.size 2 A n (rR a)) (hy : Rd w w.heap.size 2 A' n' (rR b)) (hl : n ≤ 1000000) (hl' : n' ≤ 1000000) :
    Calls Try.prog 35 #[.slice A n c, .slice A' n' c'] w fun e w' => e = .returned (.bool (sameL a b)) ∧ Below w.heap.size w w' := by
  have Hx := Lib.hid hx
  have Hy := Lib.hid hy
  have Hn := Lib.hid (And.intro hn hn')
  have l1 : (n : Int) ≤ 1000000 := by omega
  have l2 : (n' : Int) ≤ 1000000 := by omega
  by_cases he : n = n'
  · subst he
    have hab : Hid (a.length = b.length) := by show _ = _; rw [← hn, ← hn']
    clear hx hy hn hn' l2 hl hl'
    go_enter Try.func35, Try.ntmps35
    go_wp2_with fail
    go_loopw [5] (fun i wr => ∃ k : Nat, k ≤ n ∧ i = .int .i64 k ∧ (∀ j, j < k → at0 a j = at0 b j) ∧ Below w.heap.size w wr) (fun i _ => n - (intOf i).toNat)
    case atStart => exact ⟨0, by omega, rfl, fun j hj => absurd hj (by omega), Below.refl _ _⟩
    case round =>
      obtain ⟨k, hk, rfl, hs, hbw⟩ := hrel
      have Hs := Lib.hid hs
      have HB := Lib.hid hbw
      clear hs hbw
      by_cases hlt : k < n
      · obtain ⟨b1, o1, rfl, _, x0, x1⟩ := (Hx.out.below HB.out).rng hlt
        obtain ⟨b2, o2, rfl, _, y0, y1⟩ := (Hy.out.below HB.out).rng hlt
        have z0 := ovr_cell x0
        have z1 := ovr_cell x1
        have z2 := ovr_cell y0
        have z3 := ovr_cell y1
        have hki : (k : Int) < (n : Int) := by omega
        by_cases hq : at0 a k = at0 b k
        · have hcase : Hid (∀ j, j < k + 1 → at0 a j = at0 b j) := succ_case Hs.out hq
          rw [← hq] at z2 z3 y0 y1
          generalize at0 a k = q at *
          clear hq x0 x1 y0 y1
          go_wp2_with fail
          refine wp_region_below_lit (by kernel_rfl) (by kernel_rfl) ?_
          repeat (go_big_quiet_step (fail))
          refine wpQuiet_nil ?_
          intro w1 hb1
          go_wp2_with fail
          go_roundw
          case rel => exact ⟨k + 1, by omega, by go_num, hcase.out, HB.out.trans (hb1.mono HB.out.size)⟩
          case measure => simp [intOf]; omega
        · have hfin : Hid (sameL a b = false) := sameL_at (by have := Hn.out.1; omega) hq
          have hne : (at0 a k).lo = (at0 b k).lo → (at0 a k).hi = (at0 b k).hi → False := fun h1 h2 => hq (by cases h3 : at0 a k; cases h4 : at0 b k; rw [h3, h4] at h1 h2; simp at h1 h2; rw [h1, h2])
          have Hne := Lib.hid hne
          clear hne hq x0 x1 y0 y1
          by_cases h1 : (at0 a k).lo = (at0 b k).lo
          · have h2 : ((at0 a k).hi == (at0 b k).hi) = false := by rw [beq_eq_false_iff_ne]; exact fun e => Hne.out h1 e
            rw [← h1] at z2
            generalize at0 a k = q at *
            generalize at0 b k = q' at *
            clear h1 Hne
            go_wp2_with fail
            refine wp_region_below_lit (by kernel_rfl) (by kernel_rfl) ?_
            repeat (go_big_quiet_step (fail))
            refine wpQuiet_nil ?_
            intro w1 hb1
            go_wp2_with fail
            go_ret
            exact ⟨by rw [hfin.out]; rfl, HB.out.trans (hb1.mono HB.out.size)⟩
          · have h2 : ((at0 a k).lo == (at0 b k).lo) = false := by rw [beq_eq_false_iff_ne]; exact h1
            generalize at0 a k = q at *
            generalize at0 b k = q' at *
            clear h1 Hne
            go_wp2_with fail
            refine wp_region_below_lit (by kernel_rfl) (by kernel_rfl) ?_
            repeat (go_big_quiet_step (fail))
            refine wpQuiet_nil ?_
            intro w1 hb1
            go_wp2_with fail
            go_ret
            exact ⟨by rw [hfin.out]; rfl, HB.out.trans (hb1.mono HB.out.size)⟩
      · have hfin : Hid (sameL a b = true) := sameL_all hab.out (fun j hj => Hs.out j (by have := Hn.out.1; omega))
        go_wp2_with fail
        go_ret
        exact ⟨by rw [hfin.out]; rfl, HB.out⟩
  · have hfin : Hid (sameL a b = false) := by
      show _ = _
      unfold sameL
      rw [decide_eq_false_iff_not]
      intro e
      exact he (by rw [hn, hn', e])
    have hne : ((n : Int) == (n' : Int)) = false := by rw [beq_eq_false_iff_ne]; omega
    clear hx hy hn hn' he hl hl'
    go_enter Try.func35, Try.ntmps35
    go_wp2_with fail
    go_ret
    exact ⟨by rw [hfin.out]; rfl, Below.refl _ _⟩
end Go.Proofs.Ytlebefopdnadaaa
