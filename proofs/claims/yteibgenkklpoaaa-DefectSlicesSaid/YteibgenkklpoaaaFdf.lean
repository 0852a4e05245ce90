/- The frame's arguments of the defect rows: a model is integers; heat steps are integers. -/
import Derived.Test.YteibgenkklpoaaaFv
import Derived.Test.YteibgenkklpoaaaDd
namespace Go.Proofs.Yteibgenkklpoaaa.Un
open Go.RowKit Go.ChangeShapes Go.WideShapes Go.Deep
section
variable {H : Type} {enc : TypeId × Value → H} {w : World} {base : Nat} {spare : Nat → Bool} {held : Bool} {r : Reach} {b0 : Nat} {v : Value} {d : DataW H} {ps : List MemPlace}
set_option maxRecDepth 100000 in
theorem open_mdl (hv : Value.okWide Try.prog w r b0 26 v) (h : DataW.Trod enc Try.prog w base spare held 26 v d ps) : ∃ m : Mdl, v = .agg (mdA m) := by
  obtain ⟨z, h1, _⟩ := open_aggK (ks := [.i64, .i64, .i64, .i64, .i64, .i64, .i64, .i64, .i64]) Try.underlying26 (by kernel_rfl) (by kernel_rfl) hv h
  exact ⟨⟨z 0, fun k => ⟨z (1 + k * 2), z (2 + k * 2)⟩⟩, h1⟩
def toH (n : Nat) (z : Nat → Nat → Int) : List Hst := (List.range n).map fun k => ⟨z k 0, fun i => ⟨z k (1 + i * 2), z k (2 + i * 2)⟩⟩
theorem toH_len (n : Nat) (z : Nat → Nat → Int) : (toH n z).length = n := by simp [toH]
theorem toH_at {n k : Nat} (z : Nat → Nat → Int) (hk : k < n) : at0 (toH n z) k = ⟨z k 0, fun i => ⟨z k (1 + i * 2), z k (2 + i * 2)⟩⟩ := at0_map _ hk
set_option maxRecDepth 100000 in
theorem open_heat (hv : Value.okWide Try.prog w r b0 37 v) (h : DataW.Trod enc Try.prog w base spare held 37 v d ps) :
    ∃ A c xs, v = .slice A (xs : List Hst).length c ∧ xs.length ≤ c ∧ c ≤ maxLen ∧ Rd w w.heap.size 11 A xs.length (rH xs) := by
  obtain ⟨a, l, c, rfl⟩ := okWide_slice Try.underlying37 hv
  obtain ⟨fuel, hf⟩ := h
  obtain ⟨A, n, c', z, e, h1, h2, h3, _⟩ := open_listK (ks := [.i64, .i64, .i64, .i64, .i64, .i64, .i64, .i64, .i64, .i64, .i64]) Try.underlying37 (by kernel_rfl) (by decide) (by kernel_rfl) hf
  refine ⟨A, c', toH n z, by rw [e, toH_len], by rw [toH_len]; exact h1, h2, ?_⟩
  rw [toH_len]
  refine h3.same fun k hk j hj => ?_
  unfold rH
  rw [toH_at z hk]
  rcases j with _ | _ | _ | _ | _ | _ | _ | _ | _ | _ | _ | j
  all_goals first | rfl | (simp at hj; omega)
end
end Go.Proofs.Yteibgenkklpoaaa.Un
