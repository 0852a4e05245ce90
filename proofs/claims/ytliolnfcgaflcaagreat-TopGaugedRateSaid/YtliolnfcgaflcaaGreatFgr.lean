/- The frame's argument of TopGaugedRate: a model. -/
import Derived.Test.YtliolnfcgaflcaaGreatFgq
import Derived.Test.YtliolnfcgaflcaaGreatLgr
namespace Go.Proofs.YtliolnfcgaflcaaGreat.Un
open Go.RowKit Go.ChangeShapes Go.WideShapes Go.Deep
section
variable {H : Type} {enc : TypeId × Value → H} {w : World} {base : Nat} {spare : Nat → Bool} {held : Bool} {r : Reach} {b0 : Nat} {v : Value} {d : DataW H} {ps : List MemPlace}
set_option maxRecDepth 100000 in
theorem open_mdl (hv : Value.okWide Tryz.prog w r b0 27 v) (h : DataW.Trod enc Tryz.prog w base spare held 27 v d ps) : ∃ m : Mdl, v = .agg (mdA m) := by
 obtain ⟨z, h1, _⟩ := open_aggK (ks := [.i64, .i64, .i64, .i64, .i64, .i64, .i64, .i64, .i64]) Tryz.underlying27 (by kernel_rfl) (by kernel_rfl) hv h
 exact ⟨⟨z 0, fun k => ⟨z (1 + k * 2), z (2 + k * 2)⟩⟩, h1⟩
end
end Go.Proofs.YtliolnfcgaflcaaGreat.Un
