/- The frame's arguments of the defect rows: what is asked of a window; a growth; a look. -/
import Derived.Test.YteibgenkklpoaaaFdf
import Derived.Test.YteibgenkklpoaaaDi
import Derived.Deep.Strs
import Derived.Lib.SmallJoins
namespace Go.Proofs.Yteibgenkklpoaaa.Un
open Go.RowKit Go.ChangeShapes Go.WideShapes Go.Deep
theorem array_3 {α : Type} {cs : Array α} (h : cs.size = 3) : ∃ c0 c1 c2, cs = #[c0, c1, c2] := by
  obtain ⟨l⟩ := cs
  match l, h with
  | [c0, c1, c2], _ => exact ⟨c0, c1, c2, rfl⟩
theorem array_4 {α : Type} {cs : Array α} (h : cs.size = 4) : ∃ c0 c1 c2 c3, cs = #[c0, c1, c2, c3] := by
  obtain ⟨l⟩ := cs
  match l, h with
  | [c0, c1, c2, c3], _ => exact ⟨c0, c1, c2, c3, rfl⟩
/-- A growth that lies in memory, however long its lists are. -/
structure GroRd (w : World) (B : Nat) (g : Gro) (A Z F : Option Addr) : Prop where
  r : Rd w B 2 A g.r.length (rR g.r)
  z : Rd w B 2 Z g.z.length (rR g.z)
  f : Rd w B 2 F g.f.length (rR g.f)
  lr : g.r.length ≤ maxLen
  lz : g.z.length ≤ maxLen
  lf : g.f.length ≤ maxLen
  br : ∀ j, j < g.r.length → (-9223372036854775808 ≤ (at0 g.r j).lo ∧ (at0 g.r j).lo ≤ 9223372036854775807) ∧ (-9223372036854775808 ≤ (at0 g.r j).hi ∧ (at0 g.r j).hi ≤ 9223372036854775807)
  bf : ∀ j, j < g.f.length → (-9223372036854775808 ≤ (at0 g.f j).lo ∧ (at0 g.f j).lo ≤ 9223372036854775807) ∧ (-9223372036854775808 ≤ (at0 g.f j).hi ∧ (at0 g.f j).hi ≤ 9223372036854775807)
section
variable {H : Type} {enc : TypeId × Value → H} {w : World} {base : Nat} {spare : Nat → Bool} {held : Bool} {r : Reach} {b0 : Nat} {v : Value} {d : DataW H} {ps : List MemPlace}
set_option maxRecDepth 100000 in
theorem open_askedK {g0 g1 g2 : Field} (hg : Try.prog.underlying 43 = some (.struct #[g0, g1, g2])) (hC : Try.prog.cellsOf 43 = 3)
    (e0 : g0.type = 41) (o0 : g0.offset = 0) (e1 : g1.type = 29) (o1 : g1.offset = 1) (e2 : g2.type = 3) (o2 : g2.offset = 2)
    (c0 : Try.prog.cellsOf 41 = 1) (c1 : Try.prog.cellsOf 29 = 1) (c2 : Try.prog.cellsOf 3 = 1)
    (hv : Value.okWide Try.prog w r b0 43 v) (h : DataW.Trod enc Try.prog w base spare held 43 v d ps) :
    ∃ (A : Option Addr) (c : Nat) (L : List Rng) (u i : Int), v = .agg #[.slice A L.length c, .int .u8 u, I i] ∧ L.length ≤ maxLen ∧ Rd w w.heap.size 2 A L.length (rR L) ∧ (0 ≤ u ∧ u ≤ 255) := by
  obtain ⟨cs, rfl, hsz⟩ := okWide_struct hg hv
  obtain ⟨u0, u1, u2, rfl⟩ := array_3 (hsz.trans hC)
  obtain ⟨fuel, hf⟩ := h
  obtain ⟨y0, y1, y2, n, _, _, h0, h1, h2⟩ := trod_struct3 hg hf
  have r0 : DataW.trod enc Try.prog w base spare held n 41 [u0] = some y0 := by simpa [Value.cells, e0, o0, c0] using h0
  have r1 : DataW.trod enc Try.prog w base spare held n 29 [u1] = some y1 := by simpa [Value.cells, e1, o1, c1] using h1
  have r2 : DataW.trod enc Try.prog w base spare held n 3 [u2] = some y2 := by simpa [Value.cells, e2, o2, c2] using h2
  have n1 := nums_in (ks := [.u8]) (by kernel_rfl) r1
  have n2 := nums_in (ks := [.i64]) (by kernel_rfl) r2
  obtain ⟨A, m, c, z, rfl, l1, l2, hr, _⟩ := open_listK (ks := [.i64, .i64]) Try.underlying41 (by kernel_rfl) (by decide) (by kernel_rfl) r0
  obtain ⟨a1, ha1, hb1⟩ := n1 0 (by decide)
  obtain ⟨a2, ha2, hb2⟩ := n2 0 (by decide)
  simp at ha1 ha2
  subst ha1 ha2
  exact ⟨A, c, toR m z, a1, a2, by rw [toR_len], by rw [toR_len]; exact Nat.le_trans l1 l2, by rw [toR_len]; exact toR_rd hr (fun _ => rfl) (fun _ => rfl), u8_bd hb1⟩
set_option maxRecDepth 100000 in
theorem open_asked (hv : Value.okWide Try.prog w r b0 43 v) (h : DataW.Trod enc Try.prog w base spare held 43 v d ps) :
    ∃ (A : Option Addr) (c : Nat) (L : List Rng) (u i : Int), v = .agg #[.slice A L.length c, .int .u8 u, I i] ∧ L.length ≤ maxLen ∧ Rd w w.heap.size 2 A L.length (rR L) ∧ (0 ≤ u ∧ u ≤ 255) :=
  open_askedK Try.underlying43 (by kernel_rfl) rfl rfl rfl rfl rfl rfl (by kernel_rfl) (by kernel_rfl) (by kernel_rfl) hv h
set_option maxRecDepth 100000 in
theorem open_growthK {g0 g1 g2 g3 : Field} (hg : Try.prog.underlying 77 = some (.struct #[g0, g1, g2, g3])) (hC : Try.prog.cellsOf 77 = 4)
    (e0 : g0.type = 75) (o0 : g0.offset = 0) (e1 : g1.type = 3) (o1 : g1.offset = 1) (e2 : g2.type = 41) (o2 : g2.offset = 2) (e3 : g3.type = 75) (o3 : g3.offset = 3)
    (c0 : Try.prog.cellsOf 75 = 1) (c1 : Try.prog.cellsOf 3 = 1) (c2 : Try.prog.cellsOf 41 = 1)
    (hv : Value.okWide Try.prog w r b0 77 v) (h : DataW.Trod enc Try.prog w base spare held 77 v d ps) :
    ∃ (g : Gro) (A Z F : Option Addr) (a c e : Nat), v = .agg (grA g A Z F a c e) ∧ GroRd w w.heap.size g A Z F := by
  obtain ⟨cs, rfl, hsz⟩ := okWide_struct hg hv
  obtain ⟨u0, u1, u2, u3, rfl⟩ := array_4 (hsz.trans hC)
  obtain ⟨fuel, hf⟩ := h
  obtain ⟨y0, y1, y2, y3, n, _, _, h0, h1, h2, h3⟩ := _root_.Go.Joins.trod_struct4 hg hf
  have r0 : DataW.trod enc Try.prog w base spare held n 75 [u0] = some y0 := by simpa [Value.cells, e0, o0, c0] using h0
  have r1 : DataW.trod enc Try.prog w base spare held n 3 [u1] = some y1 := by simpa [Value.cells, e1, o1, c1] using h1
  have r2 : DataW.trod enc Try.prog w base spare held n 41 [u2] = some y2 := by simpa [Value.cells, e2, o2, c2] using h2
  have r3 : DataW.trod enc Try.prog w base spare held n 75 [u3] = some y3 := by simpa [Value.cells, e3, o3, c0] using h3
  have n1 := nums_in (ks := [.i64]) (by kernel_rfl) r1
  obtain ⟨A, m, c, z, rfl, l1, l2, hr, hb1⟩ := open_listK (ks := [.i64, .i64]) Try.underlying75 (by kernel_rfl) (by decide) (by kernel_rfl) r0
  obtain ⟨Z, m2, c2', z2, rfl, l3, l4, hr2, _⟩ := open_listK (ks := [.i64, .i64]) Try.underlying41 (by kernel_rfl) (by decide) (by kernel_rfl) r2
  obtain ⟨F, m3, c3', z3, rfl, l5, l6, hr3, hb3⟩ := open_listK (ks := [.i64, .i64]) Try.underlying75 (by kernel_rfl) (by decide) (by kernel_rfl) r3
  obtain ⟨a1, ha1, _⟩ := n1 0 (by decide)
  simp at ha1
  subst ha1
  refine ⟨⟨toR m z, a1, toR m2 z2, toR m3 z3⟩, A, Z, F, c, c2', c3', by unfold grA; simp only [toR_len], ?_, ?_, ?_, ?_, ?_, ?_, fun j hj => ?_, fun j hj => ?_⟩
  · simp only [toR_len]; exact toR_rd hr (fun _ => rfl) (fun _ => rfl)
  · simp only [toR_len]; exact toR_rd hr2 (fun _ => rfl) (fun _ => rfl)
  · simp only [toR_len]; exact toR_rd hr3 (fun _ => rfl) (fun _ => rfl)
  · simp only [toR_len]; exact Nat.le_trans l1 l2
  · simp only [toR_len]; exact Nat.le_trans l3 l4
  · simp only [toR_len]; exact Nat.le_trans l5 l6
  · simp only [toR_len] at hj
    simp only [toR_at z hj]
    exact ⟨i64_bd (hb1 j hj 0 (by decide)), i64_bd (hb1 j hj 1 (by decide))⟩
  · simp only [toR_len] at hj
    simp only [toR_at z3 hj]
    exact ⟨i64_bd (hb3 j hj 0 (by decide)), i64_bd (hb3 j hj 1 (by decide))⟩
set_option maxRecDepth 100000 in
theorem open_growth (hv : Value.okWide Try.prog w r b0 77 v) (h : DataW.Trod enc Try.prog w base spare held 77 v d ps) :
    ∃ (g : Gro) (A Z F : Option Addr) (a c e : Nat), v = .agg (grA g A Z F a c e) ∧ GroRd w w.heap.size g A Z F :=
  open_growthK Try.underlying77 (by kernel_rfl) rfl rfl rfl rfl rfl rfl rfl rfl (by kernel_rfl) (by kernel_rfl) (by kernel_rfl) hv h
end
end Go.Proofs.Yteibgenkklpoaaa.Un
