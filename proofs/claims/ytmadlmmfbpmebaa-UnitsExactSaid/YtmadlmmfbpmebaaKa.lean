/- The contracts of sameInts, sameRanges, hill; what the examples' calls return. -/
import Derived.Test.YtmadlmmfbpmebaaVk
namespace Go.Proofs.Ytmadlmmfbpmebaa
open Go.RowKit
set_option maxRecDepth 100000 in
set_option maxHeartbeats 2000000 in
theorem sameI_yes (A A' : Option Addr) (n c c' : Nat) (xs : List Int) (w : World) (B B' : Nat) (hn : n = xs.length) (hm : n ≤ 1000000) (hB : B ≤ w.heap.size) (hB' : B' ≤ w.heap.size) (hx : Rd w B 1 A n (rI xs)) (hy : Rd w B' 1 A' n (rI xs)) :
    Calls Try.prog 26 #[.slice A n c, .slice A' n c'] w fun e w' => e = .returned (.bool true) ∧ Below w.heap.size w w' := by
  subst hn
  have HX : Hid (∀ u, Rd (ovr w u) B 1 A xs.length (rI xs) ∧ Rd (ovr w u) B' 1 A' xs.length (rI xs)) := fun u => ⟨hx.below ((ovr_below w u).mono hB), hy.below ((ovr_below w u).mono hB')⟩
  obtain ⟨u0, hu0⟩ := ovr_self w
  have H0 := Lib.hid hu0
  clear hx hy hB hB' hu0
  have HUw : Hid (∀ u, Below w.heap.size w (ovr w u)) := fun u => ovr_below _ _
  go_enter Try.func26, Try.ntmps26
  go_wp2_with fail
  go_loopw [5] (fun i wr => ∃ k : Nat, k ≤ xs.length ∧ i = .int .i64 k ∧ ∃ u, wr = ovr w u) (fun i _ => xs.length - (intOf i).toNat)
  case atStart => exact ⟨0, by omega, rfl, u0, H0.out⟩
  case round =>
    obtain ⟨k, hk, rfl, u, rfl⟩ := hrel
    by_cases hlt : k < xs.length
    · have kb : decide (k < xs.length) = true := decide_eq_true hlt
      obtain ⟨X, hX⟩ : ∃ X, X = ovr w u := ⟨_, rfl⟩
      have hxx := HX.out u
      rw [← hX] at hxx
      rw [← hX]
      obtain ⟨b, o, rfl, _, e0⟩ := hxx.1.int hlt
      obtain ⟨b', o', rfl, _, e1⟩ := hxx.2.int hlt
      have e0 := ovr_cell e0
      have e1 := ovr_cell e1
      obtain ⟨v, hv⟩ : ∃ v, at0 xs k = v := ⟨_, rfl⟩
      rw [hv] at e0 e1
      have hXb : Hid (∀ u, ∃ q, ovr X u = ovr w q) := fun u2 => ⟨_, ovr_of (by rw [hX]; exact (ovr_below w u).trans ((ovr_below (ovr w u) u2).mono (ovr_below w u).size))⟩
      have t1 : (v != v) = false := by simp
      clear hxx hX hv
      go_upto_region 6 with (fail)
      refine wp_region_below_lit (by kernel_rfl) (by kernel_rfl) ?_
      repeat (go_big_quiet_step (fail))
      refine wpQuiet_nil ?_
      intro w1 hb1
      obtain ⟨u1, rfl⟩ : ∃ u, w1 = ovr X u := ⟨w1, ovr_of hb1⟩
      clear hb1 e0 e1
      obtain ⟨q, hq⟩ := hXb.out u1
      rw [hq]
      go_wp2_with fail
      go_roundw
      case rel => exact ⟨k + 1, by omega, by go_num, q, rfl⟩
      case measure => simp [intOf]; omega
    · obtain rfl : k = xs.length := by omega
      go_wp2_with fail
      go_ret
      exact ⟨rfl, ovr_below _ _⟩
set_option maxRecDepth 100000 in
set_option maxHeartbeats 2000000 in
theorem sameR_yes (A A' : Option Addr) (n c c' : Nat) (xs : List Rng) (w : World) (B B' : Nat) (hn : n = xs.length) (hm : n ≤ 1000000) (hB : B ≤ w.heap.size) (hB' : B' ≤ w.heap.size) (hx : Rd w B 2 A n (rR xs)) (hy : Rd w B' 2 A' n (rR xs)) :
    Calls Try.prog 30 #[.slice A n c, .slice A' n c'] w fun e w' => e = .returned (.bool true) ∧ Below w.heap.size w w' := by
  subst hn
  have HX : Hid (∀ u, Rd (ovr w u) B 2 A xs.length (rR xs) ∧ Rd (ovr w u) B' 2 A' xs.length (rR xs)) := fun u => ⟨hx.below ((ovr_below w u).mono hB), hy.below ((ovr_below w u).mono hB')⟩
  obtain ⟨u0, hu0⟩ := ovr_self w
  have H0 := Lib.hid hu0
  clear hx hy hB hB' hu0
  have HUw : Hid (∀ u, Below w.heap.size w (ovr w u)) := fun u => ovr_below _ _
  go_enter Try.func30, Try.ntmps30
  go_wp2_with fail
  go_loopw [5] (fun i wr => ∃ k : Nat, k ≤ xs.length ∧ i = .int .i64 k ∧ ∃ u, wr = ovr w u) (fun i _ => xs.length - (intOf i).toNat)
  case atStart => exact ⟨0, by omega, rfl, u0, H0.out⟩
  case round =>
    obtain ⟨k, hk, rfl, u, rfl⟩ := hrel
    by_cases hlt : k < xs.length
    · have kb : decide (k < xs.length) = true := decide_eq_true hlt
      obtain ⟨X, hX⟩ : ∃ X, X = ovr w u := ⟨_, rfl⟩
      have hxx := HX.out u
      rw [← hX] at hxx
      rw [← hX]
      obtain ⟨b, o, rfl, _, e0, e2⟩ := hxx.1.rng hlt
      obtain ⟨b', o', rfl, _, e1, e3⟩ := hxx.2.rng hlt
      have e0 := ovr_cell e0
      have e1 := ovr_cell e1
      have e2 := ovr_cell e2
      have e3 := ovr_cell e3
      obtain ⟨v, hv⟩ : ∃ v, at0 xs k = v := ⟨_, rfl⟩
      rw [hv] at e0 e1 e2 e3
      have hXb : Hid (∀ u, ∃ q, ovr X u = ovr w q) := fun u2 => ⟨_, ovr_of (by rw [hX]; exact (ovr_below w u).trans ((ovr_below (ovr w u) u2).mono (ovr_below w u).size))⟩
      clear hxx hX hv
      go_upto_region 6 with (fail)
      refine wp_region_below_lit (by kernel_rfl) (by kernel_rfl) ?_
      repeat (go_big_quiet_step (fail))
      refine wpQuiet_nil ?_
      intro w1 hb1
      obtain ⟨u1, rfl⟩ : ∃ u, w1 = ovr X u := ⟨w1, ovr_of hb1⟩
      clear hb1 e0 e1 e2 e3
      obtain ⟨q, hq⟩ := hXb.out u1
      rw [hq]
      go_wp2_with fail
      go_roundw
      case rel => exact ⟨k + 1, by omega, by go_num, q, rfl⟩
      case measure => simp [intOf]; omega
    · obtain rfl : k = xs.length := by omega
      go_wp2_with fail
      go_ret
      exact ⟨rfl, ovr_below _ _⟩
def hillT : List Rng := [⟨0, 0⟩, ⟨10, 5⟩, ⟨20, 0⟩]
theorem hill_any (w : World) : Calls Try.prog 72 #[] w fun e w' => e = .returned (.slice (some ⟨w.heap.size, 0, none⟩) 3 3) ∧ w' = w.alloc (.cells #[I 0, I 0, I 10, I 5, I 20, I 0] 50) := by
  go_enter Try.func72, Try.ntmps72
  go_wp2
  go_ret
  exact ⟨rfl, rfl⟩
theorem ex1 : mdF (-7) 5 3 3 = (-12, 1, 0) := by decide +kernel
theorem ex2 : siF ⟨314, 100⟩ ⟨315, 100⟩ = (⟨22, 7⟩, 0) := by rfl
theorem ex3 : poF 10 [2, 0, 1] = ([6, 0, 4], 0) := by decide +kernel
theorem ex4 : tmF ⟨2, 3⟩ ⟨-4, 5⟩ 2 = (⟨-6, 8⟩, 0) := by decide +kernel
theorem ex5 : baF [⟨0, 10⟩, ⟨3, 5⟩, ⟨2, 9⟩] ⟨18, 30⟩ = ([⟨4, 10⟩, ⟨3, 5⟩, ⟨3, 9⟩], ⟨18, 24⟩, 0) := by decide +kernel
theorem ex6 : weF hillT ⟨2, 4⟩ = ([⟨4, 8⟩, ⟨12, 16⟩], 0) := by decide +kernel
theorem ex7 : vaF hillT ⟨3, 12⟩ = (⟨1, 5⟩, 0) := by decide +kernel
end Go.Proofs.Ytmadlmmfbpmebaa
