/- The frame's argument that is a crystal and a time. -/
import Derived.Test.YtlebefopdnadaaaFc
namespace Go.Proofs.Ytlebefopdnadaaa
open Go.RowKit Go.ChangeShapes Go.WideShapes Go.Deep
section
variable {H : Type} {enc : TypeId × Value → H} {w : World} {base : Nat} {spare : Nat → Bool} {held : Bool}
theorem array5 {α : Type} {cs : Array α} (h : cs.size = 5) : ∃ c0 c1 c2 c3 c4, cs = #[c0, c1, c2, c3, c4] := by
  obtain ⟨l⟩ := cs
  match l, h with
  | [c0, c1, c2, c3, c4], _ => exact ⟨c0, c1, c2, c3, c4, rfl⟩
set_option maxRecDepth 100000 in
theorem open_tgh {g0 g1 f0 f1 f2 f3 : Field} {r : Reach} {b0 : Nat} {v : Value} {d : DataW H} {p : List MemPlace} (hg : Try.prog.underlying 93 = some (.struct #[g0, g1])) (hC5 : Try.prog.cellsOf 93 = 5)
    (e0 : g0.type = 85) (o0 : g0.offset = 0) (o1 : g1.offset = 4) (c1 : Try.prog.cellsOf g1.type = 1) (k : Try.prog.underlying g1.type = some (.int .u16))
    (hu : Try.prog.underlying 85 = some (.struct #[f0, f1, f2, f3])) (hone : oneCellFields Try.prog #[f0, f1, f2, f3] = true) (hC : Try.prog.cellsOf 85 = 4)
    (k0 : Try.prog.underlying f0.type = some (.int .u16)) (k1 : Try.prog.underlying f1.type = some (.slice 155)) (k2 : Try.prog.underlying f2.type = some (.slice 5)) (k3 : Try.prog.underlying f3.type = some (.slice 156))
    (hv : Value.okWide Try.prog w r b0 93 v) (h : DataW.Trod enc Try.prog w base spare held 93 v d p) :
    ∃ A B C a b c x m, v = .agg #[.int .u16 x.f, .slice A (List.length x.st) a, .slice B (List.length x.sn) b, .slice C (List.length x.ar) c, .int .u16 m] ∧ CryIn w A B C x ∧ 0 ≤ m ∧ m ≤ 65535 := by
  obtain ⟨cs, rfl, hsz⟩ := okWide_struct hg hv
  obtain ⟨u0, u1, u2, u3, u4, rfl⟩ := array5 (hsz.trans hC5)
  obtain ⟨fuel, hf⟩ := h
  obtain ⟨y0, y1, n, _, _, h0, h1⟩ := trod_struct2 hg hf
  have r0 : DataW.trod enc Try.prog w base spare held n 85 [u0, u1, u2, u3] = some y0 := by simpa [Value.cells, e0, o0, hC] using h0
  have r1 : DataW.trod enc Try.prog w base spare held n g1.type [u4] = some y1 := by simpa [Value.cells, o1, c1] using h1
  obtain ⟨m, hm, _, wf⟩ := DataW.trod_int k r1
  obtain rfl : u4 = .int .u16 m := by simpa using hm
  obtain ⟨x0, x1, x2, x3, n2, _, _, g0', g1', g2', g3'⟩ := Go.Joins.trod_struct4 hu r0
  obtain ⟨p0, q0⟩ := hone_of hone 0 f0 rfl
  obtain ⟨p1, q1⟩ := hone_of hone 1 f1 rfl
  obtain ⟨p2, q2⟩ := hone_of hone 2 f2 rfl
  obtain ⟨p3, q3⟩ := hone_of hone 3 f3 rfl
  obtain ⟨A, B, C, a, b, c, x, hx, hc⟩ := fit_cry k0 k1 k2 k3 (by simpa [p0, q0] using g0') (by simpa [p1, q1] using g1') (by simpa [p2, q2] using g2') (by simpa [p3, q3] using g3')
  injection hx with hx
  have hl : [u0, u1, u2, u3] = [.int .u16 x.f, .slice A x.st.length a, .slice B x.sn.length b, .slice C x.ar.length c] := by injection hx
  injection hl with e0 hl
  injection hl with e1 hl
  injection hl with e2 hl
  injection hl with e3 _
  subst e0 e1 e2 e3
  exact ⟨A, B, C, a, b, c, x, m, rfl, hc, ku16_bd wf⟩
end
end Go.Proofs.Ytlebefopdnadaaa
