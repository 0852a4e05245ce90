/- The walk of the law UnitsMulDivs. -/
import Derived.Test.YtmadlmmfbpmebaaKb
import Derived.Test.YtmadlmmfbpmebaaRc
namespace Go.Proofs.Ytmadlmmfbpmebaa
open Go.RowKit
set_option maxRecDepth 100000 in
set_option maxHeartbeats 4000000 in
theorem unitsMulDivs_any (a b c how : Int) (w : World) (hq : (-9223372036854775808 ≤ a ∧ a ≤ 9223372036854775807) ∧ (-9223372036854775808 ≤ b ∧ b ≤ 9223372036854775807) ∧ (-9223372036854775808 ≤ c ∧ c ≤ 9223372036854775807) ∧ (0 ≤ how ∧ how ≤ 255)) :
    Calls Try.prog 3 #[.agg #[I a, I b, I c, .int .u8 how]] w fun e w' => e = .returned (.bool true) ∧ Below w.heap.size w w' := by
  have m := fun W => muldiv_any a b c how W hq.1 hq.2.1 hq.2.2.2
  have r := fun W => refMuldiv_any a b c how W hq.1 hq.2.1 hq.2.2.2
  have ck := Lib.hid fun W => known_any W
  obtain ⟨⟨x, y, z⟩, hx⟩ : ∃ q, mdF a b c how = q := ⟨_, rfl⟩
  rw [hx] at m r
  have M : Hid (∀ W : World, Calls Try.prog 20 #[I a, I b, I c, .int .u8 how] W fun e w' => e = .returned (.tuple #[I x, I y, I z]) ∧ Below W.heap.size W w') := m
  have R : Hid (∀ W : World, Calls Try.prog 21 #[I a, I b, I c, .int .u8 how] W fun e w' => e = .returned (.tuple #[I x, I y, I z]) ∧ Below W.heap.size W w') := r
  clear m r hx hq
  obtain ⟨W, hW⟩ : ∃ W, W = (w.alloc (.cells #[I a, I b, I c, .int .u8 how] 23)) := ⟨_, rfl⟩
  have rowW0 : W.heap[w.heap.size]? = some (.cells #[I a, I b, I c, .int .u8 how] 23 (0, 0)) := by rw [hW]; exact heap_last _ _ _ rfl
  have yW00 := ovr_cell (W := W) (b := w.heap.size) (o := 0) (v := I a) (by rw [cell_of_row _ _ _ _ _ _ rowW0]; rfl)
  have yW01 := ovr_cell (W := W) (b := w.heap.size) (o := 1) (v := I b) (by rw [cell_of_row _ _ _ _ _ _ rowW0]; rfl)
  have yW02 := ovr_cell (W := W) (b := w.heap.size) (o := 2) (v := I c) (by rw [cell_of_row _ _ _ _ _ _ rowW0]; rfl)
  have yW03 := ovr_cell (W := W) (b := w.heap.size) (o := 3) (v := .int .u8 how) (by rw [cell_of_row _ _ _ _ _ _ rowW0]; rfl)
  have RrowW0 := Lib.hid (ovr_row rowW0)
  clear rowW0
  have HUW : Hid (∀ u, Below w.heap.size w (ovr W u)) := U1 hW
  have HW := Lib.hid hW
  clear hW
  go_enter Try.func3, Try.ntmps3
  go_upto_region 1 with (fail)
  rw [← HW.out]
  obtain ⟨u0, hu0⟩ := ovr_self W
  rw [hu0]
  clear hu0
  go_wp2_with fail
  refine (M.out _).mono ?_
  rintro e w1 ⟨rfl, hb1⟩
  obtain ⟨u1, rfl⟩ := ovr_next hb1
  clear hb1
  go_wp2_with fail
  refine (R.out _).mono ?_
  rintro e w1 ⟨rfl, hb1⟩
  obtain ⟨u2, rfl⟩ := ovr_next hb1
  clear hb1
  go_wp2_with fail
  refine (ck.out _).mono ?_
  rintro e w1 ⟨rfl, hb1⟩
  obtain ⟨u3, rfl⟩ := ovr_next hb1
  clear hb1
  go_wp2_with fail
  go_ret
  exact ⟨rfl, HUW.out _⟩
end Go.Proofs.Ytmadlmmfbpmebaa
