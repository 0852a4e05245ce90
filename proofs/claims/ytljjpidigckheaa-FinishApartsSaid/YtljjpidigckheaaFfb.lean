/- The frame's arguments of the rows of chapter 9: what was treated. -/
import Derived.Test.YtljjpidigckheaaFfa
namespace Go.Proofs.Ytljjpidigckheaa.Un
open Go.RowKit Go.ChangeShapes Go.WideShapes Go.Deep
section
variable {H : Type} {enc : TypeId × Value → H} {w : World} {base : Nat} {spare : Nat → Bool} {held : Bool} {r : Reach} {b0 : Nat} {v : Value} {d : DataW H} {ps : List MemPlace}
set_option maxRecDepth 100000 in
theorem open_treatedK {g0 g1 : Field} (hg : Try.prog.underlying 72 = some (.struct #[g0, g1])) (hC : Try.prog.cellsOf 72 = 3)
    (e0 : g0.type = 24) (o0 : g0.offset = 0) (e1 : g1.type = 30) (o1 : g1.offset = 2)
    (c0 : Try.prog.cellsOf 24 = 2) (c1 : Try.prog.cellsOf 30 = 1)
    (hv : Value.okWide Try.prog w r b0 72 v) (h : DataW.Trod enc Try.prog w base spare held 72 v d ps) :
    ∃ (x : Trt) (A : Option Addr) (n : Nat), v = .agg #[I x.s.lo, I x.s.hi, .slice A x.b.length n] ∧ (x.b.length ≤ n ∧ n ≤ maxLen) ∧ Rd w w.heap.size 1 A x.b.length (rI x.b) := by
  obtain ⟨cs, rfl, hsz⟩ := okWide_struct hg hv
  obtain ⟨u0, u1, u2, rfl⟩ := array_k3 (hsz.trans hC)
  obtain ⟨fuel, hf⟩ := h
  obtain ⟨y0, y1, n, _, _, h0, h1⟩ := trod_struct2 hg hf
  have r0 : DataW.trod enc Try.prog w base spare held n 24 [u0, u1] = some y0 := by simpa [Value.cells, e0, o0, c0] using h0
  have r1 : DataW.trod enc Try.prog w base spare held n 30 [u2] = some y1 := by simpa [Value.cells, e1, o1, c1] using h1
  have n0 := nums_in (ks := [.i64, .i64]) (by kernel_rfl) r0
  obtain ⟨A, m, c, z, rfl, l1, l2, hr, _⟩ := open_listK (ks := [.i64]) Try.underlying30 (by kernel_rfl) (by decide) (by kernel_rfl) r1
  obtain ⟨a0, ha0, _⟩ := n0 0 (by decide)
  obtain ⟨a1, ha1, _⟩ := n0 1 (by decide)
  simp at ha0 ha1
  subst ha0 ha1
  refine ⟨⟨⟨a0, a1⟩, toL m z⟩, A, c, by show _ = Value.agg #[I a0, I a1, .slice A (toL m z).length c]; rw [toL_len], ?_, ?_⟩
  · simp only [toL_len]; exact ⟨l1, l2⟩
  · simp only [toL_len]; exact toI_rd hr (fun _ => rfl)
set_option maxRecDepth 100000 in
theorem open_treated (hv : Value.okWide Try.prog w r b0 72 v) (h : DataW.Trod enc Try.prog w base spare held 72 v d ps) :
    ∃ (x : Trt) (A : Option Addr) (n : Nat), v = .agg #[I x.s.lo, I x.s.hi, .slice A x.b.length n] ∧ (x.b.length ≤ n ∧ n ≤ maxLen) ∧ Rd w w.heap.size 1 A x.b.length (rI x.b) :=
  open_treatedK Try.underlying72 (by kernel_rfl) rfl rfl rfl rfl (by kernel_rfl) (by kernel_rfl) hv h
end
end Go.Proofs.Ytljjpidigckheaa.Un
