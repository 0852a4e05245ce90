/- The frame's arguments of TopPrinted: a model, a growth, two cuts. -/
import Derived.Test.YtliddmhifnigdaaFv
import Derived.Test.YtliddmhifnigdaaLtp
import Derived.Deep.Strs
import Derived.Lib.SmallJoins
namespace Go.Proofs.Ytliddmhifnigdaa.Un
open Go.RowKit Go.ChangeShapes Go.WideShapes Go.Deep
theorem array_4 {α : Type} {cs : Array α} (h : cs.size = 4) : ∃ c0 c1 c2 c3, cs = #[c0, c1, c2, c3] := by
  obtain ⟨l⟩ := cs
  match l, h with
  | [c0, c1, c2, c3], _ => exact ⟨c0, c1, c2, c3, rfl⟩
section
variable {H : Type} {enc : TypeId × Value → H} {w : World} {base : Nat} {spare : Nat → Bool} {held : Bool} {r : Reach} {b0 : Nat} {v : Value} {d : DataW H} {ps : List MemPlace}
set_option maxRecDepth 100000 in
theorem open_mdl (hv : Value.okWide Try.prog w r b0 33 v) (h : DataW.Trod enc Try.prog w base spare held 33 v d ps) : ∃ m : Mdl, v = .agg (mdA m) := by
  obtain ⟨z, h1, _⟩ := open_aggK (ks := [.i64, .i64, .i64, .i64, .i64, .i64, .i64, .i64, .i64]) Try.underlying33 (by kernel_rfl) (by kernel_rfl) hv h
  exact ⟨⟨z 0, fun k => ⟨z (1 + k * 2), z (2 + k * 2)⟩⟩, h1⟩
set_option maxRecDepth 100000 in
theorem open_two (hv : Value.okWide Try.prog w r b0 69 v) (h : DataW.Trod enc Try.prog w base spare held 69 v d ps) : ∃ x y : Int, v = .agg #[I x, I y] := by
  obtain ⟨z, h1, _⟩ := open_arrK (ks := [.i64, .i64]) Try.underlying69 (by kernel_rfl) (by kernel_rfl) hv h
  exact ⟨z 0, z 1, h1⟩
set_option maxRecDepth 100000 in
theorem open_growthK {g0 g1 g2 g3 : Field} (hg : Try.prog.underlying 68 = some (.struct #[g0, g1, g2, g3])) (hC : Try.prog.cellsOf 68 = 4)
    (e0 : g0.type = 66) (o0 : g0.offset = 0) (e1 : g1.type = 3) (o1 : g1.offset = 1) (e2 : g2.type = 34) (o2 : g2.offset = 2) (e3 : g3.type = 66) (o3 : g3.offset = 3)
    (c0 : Try.prog.cellsOf 66 = 1) (c1 : Try.prog.cellsOf 3 = 1) (c2 : Try.prog.cellsOf 34 = 1)
    (hv : Value.okWide Try.prog w r b0 68 v) (h : DataW.Trod enc Try.prog w base spare held 68 v d ps) :
    ∃ (g : Gro) (A Z F : Option Addr) (a c e : Nat), v = .agg (grA g A Z F a c e) ∧ GroRd w w.heap.size g A Z F := by
  obtain ⟨cs, rfl, hsz⟩ := okWide_struct hg hv
  obtain ⟨u0, u1, u2, u3, rfl⟩ := array_4 (hsz.trans hC)
  obtain ⟨fuel, hf⟩ := h
  obtain ⟨y0, y1, y2, y3, n, _, _, h0, h1, h2, h3⟩ := _root_.Go.Joins.trod_struct4 hg hf
  have r0 : DataW.trod enc Try.prog w base spare held n 66 [u0] = some y0 := by simpa [Value.cells, e0, o0, c0] using h0
  have r1 : DataW.trod enc Try.prog w base spare held n 3 [u1] = some y1 := by simpa [Value.cells, e1, o1, c1] using h1
  have r2 : DataW.trod enc Try.prog w base spare held n 34 [u2] = some y2 := by simpa [Value.cells, e2, o2, c2] using h2
  have r3 : DataW.trod enc Try.prog w base spare held n 66 [u3] = some y3 := by simpa [Value.cells, e3, o3, c0] using h3
  have n1 := nums_in (ks := [.i64]) (by kernel_rfl) r1
  obtain ⟨A, m, c, z, rfl, _, _, hr, _⟩ := open_listK (ks := [.i64, .i64]) Try.underlying66 (by kernel_rfl) (by decide) (by kernel_rfl) r0
  obtain ⟨Z, m2, c2', z2, rfl, _, _, hr2, _⟩ := open_listK (ks := [.i64, .i64]) Try.underlying34 (by kernel_rfl) (by decide) (by kernel_rfl) r2
  obtain ⟨F, m3, c3', z3, rfl, _, _, hr3, _⟩ := open_listK (ks := [.i64, .i64]) Try.underlying66 (by kernel_rfl) (by decide) (by kernel_rfl) r3
  obtain ⟨a1, ha1, _⟩ := n1 0 (by decide)
  simp at ha1
  subst ha1
  refine ⟨⟨toR m z, a1, toR m2 z2, toR m3 z3⟩, A, Z, F, c, c2', c3', by unfold grA; simp only [toR_len], ?_, ?_, ?_⟩
  · simp only [toR_len]; exact toR_rd hr (fun _ => rfl) (fun _ => rfl)
  · simp only [toR_len]; exact toR_rd hr2 (fun _ => rfl) (fun _ => rfl)
  · simp only [toR_len]; exact toR_rd hr3 (fun _ => rfl) (fun _ => rfl)
set_option maxRecDepth 100000 in
theorem open_growth (hv : Value.okWide Try.prog w r b0 68 v) (h : DataW.Trod enc Try.prog w base spare held 68 v d ps) :
    ∃ (g : Gro) (A Z F : Option Addr) (a c e : Nat), v = .agg (grA g A Z F a c e) ∧ GroRd w w.heap.size g A Z F :=
  open_growthK Try.underlying68 (by kernel_rfl) rfl rfl rfl rfl rfl rfl rfl rfl (by kernel_rfl) (by kernel_rfl) (by kernel_rfl) hv h
end
end Go.Proofs.Ytliddmhifnigdaa.Un
