/- The frame's arguments of the defect rows: a site, a truth, a look: integers of several kinds. -/
import Derived.Test.YteibgenkklpoaaaFdf
import Derived.Test.YteibgenkklpoaaaLtr
namespace Go.Proofs.Yteibgenkklpoaaa.Un
open Go.RowKit Go.ChangeShapes Go.WideShapes Go.Deep
section
variable {H : Type} {enc : TypeId × Value → H} {w : World} {base : Nat} {spare : Nat → Bool} {held : Bool} {r : Reach} {b0 : Nat} {v : Value} {d : DataW H} {ps : List MemPlace}
set_option maxRecDepth 100000 in
theorem open_site (hv : Value.okWide Try.prog w r b0 73 v) (h : DataW.Trod enc Try.prog w base spare held 73 v d ps) : ∃ (m : Mdl) (x y : Rng), v = .agg (stA m x y) := by
  obtain ⟨z, h1, _⟩ := open_aggK (ks := [.i64, .i64, .i64, .i64, .i64, .i64, .i64, .i64, .i64, .i64, .i64, .i64, .i64]) Try.underlying73 (by kernel_rfl) (by kernel_rfl) hv h
  exact ⟨⟨z 0, fun k => ⟨z (1 + k * 2), z (2 + k * 2)⟩⟩, ⟨z 9, z 10⟩, ⟨z 11, z 12⟩, h1⟩
set_option maxRecDepth 100000 in
theorem open_truth (hv : Value.okWide Try.prog w r b0 47 v) (h : DataW.Trod enc Try.prog w base spare held 47 v d ps) : ∃ (t : Nat → Int) (x y : Int), v = .agg (ttA t x y) ∧ TtOk t x y := by
  obtain ⟨z, h1, h2⟩ := open_aggK (ks := [.u16, .u16, .u16, .u16, .u16, .u16]) Try.underlying47 (by kernel_rfl) (by kernel_rfl) hv h
  refine ⟨fun i => if i = 0 then z 0 else if i = 1 then z 1 else if i = 2 then z 2 else z 3, z 4, z 5, h1, fun i => ?_, ku16_bd (h2 4 (by decide)), ku16_bd (h2 5 (by decide))⟩
  have a0 := ku16_bd (h2 0 (by decide))
  have a1 := ku16_bd (h2 1 (by decide))
  have a2 := ku16_bd (h2 2 (by decide))
  have a3 := ku16_bd (h2 3 (by decide))
  split
  · exact a0
  · split
    · exact a1
    · split
      · exact a2
      · exact a3
end
end Go.Proofs.Yteibgenkklpoaaa.Un
