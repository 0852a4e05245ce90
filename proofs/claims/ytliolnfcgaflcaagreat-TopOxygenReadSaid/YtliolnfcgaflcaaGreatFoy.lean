/- The frame's argument of TopOxygenRead: a heat treatment. -/
import Derived.Test.YtliolnfcgaflcaaGreatFgq
import Derived.Test.YtliolnfcgaflcaaGreatLoy
namespace Go.Proofs.YtliolnfcgaflcaaGreat.Un
open Go.RowKit Go.ChangeShapes Go.WideShapes Go.Deep
def toH (n : Nat) (z : Nat → Nat → Int) : List Hst := (List.range n).map fun k => ⟨z k 0, fun i => ⟨z k (1 + i * 2), z k (2 + i * 2)⟩⟩
theorem toH_len (n : Nat) (z : Nat → Nat → Int) : (toH n z).length = n := by simp [toH]
theorem toH_at {n k : Nat} (z : Nat → Nat → Int) (hk : k < n) : at0 (toH n z) k = ⟨z k 0, fun i => ⟨z k (1 + i * 2), z k (2 + i * 2)⟩⟩ := at0_map _ hk
section
variable {H : Type} {enc : TypeId × Value → H} {w : World} {base : Nat} {spare : Nat → Bool} {held : Bool} {r : Reach} {b0 : Nat} {v : Value} {d : DataW H} {ps : List MemPlace}
set_option maxRecDepth 100000 in
theorem open_heat (hv : Value.okWide Tryz.prog w r b0 42 v) (h : DataW.Trod enc Tryz.prog w base spare held 42 v d ps) :
 ∃ A c xs, v = .slice A (xs : List Hst).length c ∧ xs.length ≤ c ∧ c ≤ maxLen ∧ Rd w w.heap.size 11 A xs.length (rH xs) := by
 obtain ⟨a, l, c, rfl⟩ := okWide_slice Tryz.underlying42 hv
 obtain ⟨fuel, hf⟩ := h
 obtain ⟨A, n, c', z, e, h1, h2, h3, _⟩ := open_listK (ks := [.i64, .i64, .i64, .i64, .i64, .i64, .i64, .i64, .i64, .i64, .i64]) Tryz.underlying42 (by kernel_rfl) (by decide) (by kernel_rfl) hf
 refine ⟨A, c', toH n z, by rw [e, toH_len], by rw [toH_len]; exact h1, h2, ?_⟩
 rw [toH_len]
 refine h3.same fun k hk j hj => ?_
 unfold rH
 rw [toH_at z hk]
 rcases j with _ | _ | _ | _ | _ | _ | _ | _ | _ | _ | _ | j
 all_goals first | rfl | (simp at hj; omega)
end
end Go.Proofs.YtliolnfcgaflcaaGreat.Un
