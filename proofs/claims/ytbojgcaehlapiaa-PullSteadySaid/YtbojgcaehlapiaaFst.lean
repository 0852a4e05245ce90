/- The frame of the claim PullSteady: a puller is integers; a drive is integers and a list of triples. -/
import Derived.Test.YtbojgcaehlapiaaFri
import Derived.Test.YtbojgcaehlapiaaLst
import Derived.Deep.Strs
namespace Go.Proofs.Ytbojgcaehlapiaa.Un
open Go.RowKit Go.ChangeShapes Go.WideShapes Go.Deep
theorem array13 {α : Type} {cs : Array α} (h : cs.size = 13) : ∃ c0 c1 c2 c3 c4 c5 c6 c7 c8 c9 c10 c11 c12, cs = #[c0, c1, c2, c3, c4, c5, c6, c7, c8, c9, c10, c11, c12] := by
  obtain ⟨l⟩ := cs
  match l, h with
  | [c0, c1, c2, c3, c4, c5, c6, c7, c8, c9, c10, c11, c12], _ => exact ⟨c0, c1, c2, c3, c4, c5, c6, c7, c8, c9, c10, c11, c12, rfl⟩
section
variable {H : Type} {enc : TypeId × Value → H} {w : World} {base : Nat} {spare : Nat → Bool} {held : Bool}
set_option maxRecDepth 100000 in
theorem open_pullerK {fs : Array Field} {r : Reach} {b0 : Nat} {v : Value} {d : DataW H} {ps : List MemPlace} (hu : Try.prog.underlying 30 = some (.struct fs)) (hv : Value.okWide Try.prog w r b0 30 v) (h : DataW.Trod enc Try.prog w base spare held 30 v d ps) : ∃ p : Vec, v = .agg (ia 117 p) := by
  obtain ⟨z, h1, _⟩ := open_aggK (ks := List.replicate 117 .i64) hu (by kernel_rfl) (by kernel_rfl) hv h
  refine ⟨z, ?_⟩
  rw [h1]
  congr 1
set_option maxRecDepth 100000 in
theorem open_drive {g0 g1 g2 : Field} {r : Reach} {b0 : Nat} {v : Value} {d : DataW H} {p : List MemPlace} (hg : Try.prog.underlying 40 = some (.struct #[g0, g1, g2])) (hC : Try.prog.cellsOf 40 = 13)
    (e0 : g0.type = 34) (o0 : g0.offset = 0) (e1 : g1.type = 37) (o1 : g1.offset = 4) (e2 : g2.type = 38) (o2 : g2.offset = 12)
    (c0 : Try.prog.cellsOf 34 = 4) (c1 : Try.prog.cellsOf 37 = 8) (c2 : Try.prog.cellsOf 38 = 1)
    (hv : Value.okWide Try.prog w r b0 40 v) (h : DataW.Trod enc Try.prog w base spare held 40 v d p) :
    ∃ (g h : Rng) (s : Stg) (A : Option Addr) (n c : Nat) (z : Nat → Nat → Int), v = .agg (dvA g h s A n c) ∧ Rd w w.heap.size 3 A n (fun k j => .int .u16 (z k j)) ∧ ∀ k, k < n → ∀ j, j < 3 → 0 ≤ z k j ∧ z k j ≤ 65535 := by
  obtain ⟨cs, rfl, hsz⟩ := okWide_struct hg hv
  obtain ⟨u0, u1, u2, u3, u4, u5, u6, u7, u8, u9, u10, u11, u12, rfl⟩ := array13 (hsz.trans hC)
  obtain ⟨fuel, hf⟩ := h
  obtain ⟨y0, y1, y2, n, _, _, h0, h1, h2⟩ := trod_struct3 hg hf
  have r0 : DataW.trod enc Try.prog w base spare held n 34 [u0, u1, u2, u3] = some y0 := by simpa [Value.cells, e0, o0, c0] using h0
  have r1 : DataW.trod enc Try.prog w base spare held n 37 [u4, u5, u6, u7, u8, u9, u10, u11] = some y1 := by simpa [Value.cells, e1, o1, c1] using h1
  have r2 : DataW.trod enc Try.prog w base spare held n 38 [u12] = some y2 := by simpa [Value.cells, e2, o2, c2] using h2
  have n0 := nums_in (ks := [.i64, .i64, .i64, .i64]) (by kernel_rfl) r0
  have n1 := nums_in (ks := [.i64, .i64, .i64, .i64, .i64, .i64, .i64, .i64]) (by kernel_rfl) r1
  obtain ⟨A, m, c, z, rfl, _, _, hr, hz⟩ := open_listK (ks := [.u16, .u16, .u16]) Try.underlying38 (by kernel_rfl) (by decide) (by kernel_rfl) r2
  obtain ⟨a0, ha0, _⟩ := n0 0 (by decide)
  obtain ⟨a1, ha1, _⟩ := n0 1 (by decide)
  obtain ⟨a2, ha2, _⟩ := n0 2 (by decide)
  obtain ⟨a3, ha3, _⟩ := n0 3 (by decide)
  obtain ⟨b0', hb0, _⟩ := n1 0 (by decide)
  obtain ⟨b1, hb1, _⟩ := n1 1 (by decide)
  obtain ⟨b2, hb2, _⟩ := n1 2 (by decide)
  obtain ⟨b3, hb3, _⟩ := n1 3 (by decide)
  obtain ⟨b4, hb4, _⟩ := n1 4 (by decide)
  obtain ⟨b5, hb5, _⟩ := n1 5 (by decide)
  obtain ⟨b6, hb6, _⟩ := n1 6 (by decide)
  obtain ⟨b7, hb7, _⟩ := n1 7 (by decide)
  have hz' : ∀ k, k < m → ∀ j, j < 3 → 0 ≤ z k j ∧ z k j ≤ 65535 := fun k hk j hj => by
    have := hz k hk j hj
    match j, hj with
    | 0, _ => exact ku16_bd this
    | 1, _ => exact ku16_bd this
    | 2, _ => exact ku16_bd this
  simp at ha0 ha1 ha2 ha3 hb0 hb1 hb2 hb3 hb4 hb5 hb6 hb7
  subst ha0 ha1 ha2 ha3 hb0 hb1 hb2 hb3 hb4 hb5 hb6 hb7
  refine ⟨⟨a0, a1⟩, ⟨a2, a3⟩, ⟨b0', b1, fun k => match k with | 0 => b2 | 1 => b3 | 2 => b4 | 3 => b5 | 4 => b6 | _ => b7⟩, A, m, c, z, rfl, Rd.same (g := fun k j => .int ([IntKind.u16, .u16, .u16].getD j .i64) (z k j)) hr fun k hk j hj => ?_, hz'⟩
  match j, hj with
  | 0, _ => rfl
  | 1, _ => rfl
  | 2, _ => rfl
end
end Go.Proofs.Ytbojgcaehlapiaa.Un
