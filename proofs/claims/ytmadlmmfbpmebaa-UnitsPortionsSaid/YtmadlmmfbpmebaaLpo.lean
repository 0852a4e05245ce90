/- The walk of the law UnitsPortions. -/
import Derived.Test.YtmadlmmfbpmebaaJe
namespace Go.Proofs.Ytmadlmmfbpmebaa
open Go.RowKit
theorem poF_len (n : Int) (ws : List Int) : (poF n ws).1.length ≤ ws.length := by
  unfold poF
  split
  · exact Nat.zero_le _
  · rename_i h1
    split
    · rename_i h2
      split
      · exact Nat.zero_le _
      · split
        · exact Nat.zero_le _
        · obtain ⟨h3, h4⟩ := Bool.and_eq_true_iff.1 h2
          have h5 : ws.any noP = false := by simpa using h4
          have h6 := sumK_bd h5 ws.length (Nat.le_refl _)
          rw [poL_out (wiP_iff.1 h3) h5 (by omega), parL_len]
          exact Nat.le_refl _
    · exact Nat.zero_le _
set_option maxRecDepth 100000 in
set_option maxHeartbeats 4000000 in
theorem unitsPortions_any (n : Int) (A : Option Addr) (c : Nat) (ws : List Int) (w : World) (_ : -9223372036854775808 ≤ n ∧ n ≤ 9223372036854775807) (hc : ws.length ≤ c) (hm : c ≤ maxLen) (hx : Rd w w.heap.size 1 A ws.length (rI ws))
    (_ : ∀ j, j < ws.length → -9223372036854775808 ≤ at0 ws j ∧ at0 ws j ≤ 9223372036854775807) :
    Calls Try.prog 4 #[I n, .slice A ws.length c] w fun e w' => e = .returned (.bool true) ∧ Below w.heap.size w w' := by
  have ck := Lib.hid fun W => known_any W
  by_cases hl : 110 < ws.length
  · have hb : decide (110 < (ws.length : Int)) = true := decide_eq_true (by omega)
    clear hx hc hm hl
    go_enter Try.func4, Try.ntmps4
    go_wp2_with fail
    refine (ck.out _).mono ?_
    rintro e w1 ⟨rfl, hb1⟩
    have HB := Lib.hid hb1
    clear hb1
    go_wp2_with fail
    go_ret
    exact ⟨rfl, HB.out⟩
  have hb : decide (110 < (ws.length : Int)) = false := decide_eq_false (by omega)
  have hlm : ws.length ≤ maxLen := by omega
  have co := Lib.hid (ownInts_any A ws.length c (rI ws) w w.heap.size (by omega) (Nat.le_refl _) hx)
  go_enter Try.func4, Try.ntmps4
  go_wp2_with fail
  refine co.out.mono ?_
  rintro e X0 ⟨A', c', rfl, h1, h2, h3, hb0⟩
  have HX : Hid (∀ W', Below X0.heap.size X0 W' → Rd W' w.heap.size 1 A ws.length (rI ws) ∧ Rd W' X0.heap.size 1 A' ws.length (rI ws) ∧ w.heap.size ≤ W'.heap.size ∧ X0.heap.size ≤ W'.heap.size) := fun W' h =>
    ⟨(hx.below hb0).below (h.mono hb0.size), h3.below h, Nat.le_trans hb0.size h.size, h.size⟩
  have H0 : Hid (∀ W', Below X0.heap.size X0 W' → Below w.heap.size w W') := fun W' h => hb0.trans (h.mono hb0.size)
  have c1 : Hid (∀ W', Below X0.heap.size X0 W' → Calls Try.prog 24 #[I n, .slice A' ws.length c'] W' (RetI W' (poF n ws))) := fun W' h => portions_any A' ws.length c' n ws W' X0.heap.size rfl hlm (HX.out W' h).2.2.2 (HX.out W' h).2.1
  have c2 : Hid (∀ W', Below X0.heap.size X0 W' → Calls Try.prog 25 #[I n, .slice A ws.length c] W' (RetI W' (poF n ws))) := fun W' h => refPortions_any A c n ws W' w.heap.size (HX.out W' h).2.2.1 (HX.out W' h).1
  have cs : Hid (∀ W', Below X0.heap.size X0 W' → Calls Try.prog 26 #[.slice A' ws.length c', .slice A ws.length c] W' fun e w' => e = .returned (.bool true) ∧ Below W'.heap.size W' w') := fun W' h => sameI_yes A' A ws.length c' c ws W' X0.heap.size w.heap.size rfl (by omega) (HX.out W' h).2.2.2 (HX.out W' h).2.2.1 (HX.out W' h).2.1 (HX.out W' h).1
  have hql := Lib.hid (Nat.le_trans (poF_len n ws) (show ws.length ≤ 1000000 by omega))
  clear hb0 h1 h2 h3 hx hc hm hlm hl co
  obtain ⟨⟨l, z⟩, hq⟩ : ∃ q, poF n ws = q := ⟨_, rfl⟩
  rw [hq] at c1 c2 hql
  clear hq
  go_wp2_with fail
  refine (c1.out _ (Below.refl _ _)).mono ?_
  rintro e X1 ⟨A1, n1, d1, rfl, rfl, _, hr1, hb1⟩
  have HR1 := Lib.hid hr1
  have HB1 := Lib.hid hb1
  clear hr1 hb1
  go_wp2_with fail
  refine (c2.out _ HB1.out).mono ?_
  rintro e X2 ⟨A2, n2, d2, rfl, rfl, _, hr2, hb2⟩
  have cl := Lib.hid (sameI_yes A1 A2 l.length d1 d2 l X2 X1.heap.size X2.heap.size rfl hql.out hb2.size (Nat.le_refl _) (HR1.out.below hb2) hr2)
  have HB2 := Lib.hid (HB1.out.trans (hb2.mono HB1.out.size))
  clear hr2 hb2
  go_wp2_with fail
  refine cl.out.mono ?_
  rintro e X3 ⟨rfl, hb3⟩
  have HB3 := Lib.hid (HB2.out.trans (hb3.mono HB2.out.size))
  clear hb3
  go_wp2_with fail
  refine (cs.out _ HB3.out).mono ?_
  rintro e X4 ⟨rfl, hb4⟩
  have HB4 := Lib.hid (HB3.out.trans (hb4.mono HB3.out.size))
  clear hb4
  go_wp2_with fail
  refine (ck.out _).mono ?_
  rintro e X5 ⟨rfl, hb5⟩
  have HB5 := Lib.hid (HB4.out.trans (hb5.mono HB4.out.size))
  clear hb5
  go_wp2_with fail
  go_ret
  exact ⟨rfl, H0.out _ HB5.out⟩
end Go.Proofs.Ytmadlmmfbpmebaa
