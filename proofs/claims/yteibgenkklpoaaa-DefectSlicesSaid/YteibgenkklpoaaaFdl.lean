/- The frame's arguments of the defect rows: a look. -/
import Derived.Test.YteibgenkklpoaaaFda
import Derived.Test.YteibgenkklpoaaaLsl
namespace Go.Proofs.Yteibgenkklpoaaa.Un
open Go.RowKit Go.ChangeShapes Go.WideShapes Go.Deep
section
variable {H : Type} {enc : TypeId × Value → H} {w : World} {base : Nat} {spare : Nat → Bool} {held : Bool} {r : Reach} {b0 : Nat} {v : Value} {d : DataW H} {ps : List MemPlace}
set_option maxRecDepth 100000 in
theorem open_look (hv : Value.okWide Try.prog w r b0 80 v) (h : DataW.Trod enc Try.prog w base spare held 80 v d ps) :
    ∃ (p0 p1 p2 : Int) (t : Nat → Int) (tr tg wn : Int), v = .agg (lkA p0 p1 p2 t tr tg wn) ∧ ((0 ≤ p0 ∧ p0 ≤ 65535) ∧ (0 ≤ p1 ∧ p1 ≤ 65535) ∧ (0 ≤ p2 ∧ p2 ≤ 65535)) ∧ TtOk t tr tg ∧ (0 ≤ wn ∧ wn ≤ 255) := by
  obtain ⟨z, h1, h2⟩ := open_aggK (ks := [.u16, .u16, .u16, .u16, .u16, .u16, .u16, .u16, .u16, .u8]) Try.underlying80 (by kernel_rfl) (by kernel_rfl) hv h
  refine ⟨z 0, z 1, z 2, fun i => if i = 0 then z 3 else if i = 1 then z 4 else if i = 2 then z 5 else z 6, z 7, z 8, z 9, h1, ⟨ku16_bd (h2 0 (by decide)), ku16_bd (h2 1 (by decide)), ku16_bd (h2 2 (by decide))⟩, ⟨fun i => ?_, ku16_bd (h2 7 (by decide)), ku16_bd (h2 8 (by decide))⟩, u8_bd (h2 9 (by decide))⟩
  have a0 := ku16_bd (h2 3 (by decide))
  have a1 := ku16_bd (h2 4 (by decide))
  have a2 := ku16_bd (h2 5 (by decide))
  have a3 := ku16_bd (h2 6 (by decide))
  split
  · exact a0
  · split
    · exact a1
    · split
      · exact a2
      · exact a3
end
end Go.Proofs.Yteibgenkklpoaaa.Un
