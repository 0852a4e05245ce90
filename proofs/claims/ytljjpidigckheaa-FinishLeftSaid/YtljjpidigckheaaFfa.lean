/- The frame's arguments of the rows of chapter 9: a sheet; areas treated; a force with its places. The frame's arguments of the rows of chapter 9: a proof of flatness, a truth value, a small number. -/
import Derived.Test.YtljjpidigckheaaFv
import Derived.Test.YtljjpidigckheaaMpr
import Derived.Deep.Strs
import Derived.Lib.SmallJoins
namespace Go.Proofs.Ytljjpidigckheaa.Un
open Go.RowKit Go.ChangeShapes Go.WideShapes Go.Deep
theorem array_k3 {α : Type} {cs : Array α} (h : cs.size = 3) : ∃ c0 c1 c2, cs = #[c0, c1, c2] := by
  obtain ⟨l⟩ := cs
  match l, h with
  | [c0, c1, c2], _ => exact ⟨c0, c1, c2, rfl⟩
theorem array_k4 {α : Type} {cs : Array α} (h : cs.size = 4) : ∃ c0 c1 c2 c3, cs = #[c0, c1, c2, c3] := by
  obtain ⟨l⟩ := cs
  match l, h with
  | [c0, c1, c2, c3], _ => exact ⟨c0, c1, c2, c3, rfl⟩
theorem array_k5 {α : Type} {cs : Array α} (h : cs.size = 5) : ∃ c0 c1 c2 c3 c4, cs = #[c0, c1, c2, c3, c4] := by
  obtain ⟨l⟩ := cs
  match l, h with
  | [c0, c1, c2, c3, c4], _ => exact ⟨c0, c1, c2, c3, c4, rfl⟩
section
variable {H : Type} {enc : TypeId × Value → H} {w : World} {base : Nat} {spare : Nat → Bool} {held : Bool} {r : Reach} {b0 : Nat} {v : Value} {d : DataW H} {ps : List MemPlace}
set_option maxRecDepth 100000 in
theorem open_sheetK {g0 g1 g2 g3 : Field} (hg : Try.prog.underlying 37 = some (.struct #[g0, g1, g2, g3])) (hC : Try.prog.cellsOf 37 = 5)
    (e0 : g0.type = 3) (o0 : g0.offset = 0) (e1 : g1.type = 3) (o1 : g1.offset = 1) (e2 : g2.type = 24) (o2 : g2.offset = 2) (e3 : g3.type = 35) (o3 : g3.offset = 4)
    (c0 : Try.prog.cellsOf 3 = 1) (c1 : Try.prog.cellsOf 24 = 2) (c2 : Try.prog.cellsOf 35 = 1)
    (hv : Value.okWide Try.prog w r b0 37 v) (h : DataW.Trod enc Try.prog w base spare held 37 v d ps) :
    ∃ (x : Sht) (A : Option Addr) (n : Nat), v = .agg (shA x A n) ∧ (x.s.length ≤ n ∧ n ≤ maxLen) ∧ Rd w w.heap.size 2 A x.s.length (rR x.s) := by
  obtain ⟨cs, rfl, hsz⟩ := okWide_struct hg hv
  obtain ⟨u0, u1, u2, u3, u4, rfl⟩ := array_k5 (hsz.trans hC)
  obtain ⟨fuel, hf⟩ := h
  obtain ⟨y0, y1, y2, y3, n, _, _, h0, h1, h2, h3⟩ := _root_.Go.Joins.trod_struct4 hg hf
  have r0 : DataW.trod enc Try.prog w base spare held n 3 [u0] = some y0 := by simpa [Value.cells, e0, o0, c0] using h0
  have r1 : DataW.trod enc Try.prog w base spare held n 3 [u1] = some y1 := by simpa [Value.cells, e1, o1, c0] using h1
  have r2 : DataW.trod enc Try.prog w base spare held n 24 [u2, u3] = some y2 := by simpa [Value.cells, e2, o2, c1] using h2
  have r3 : DataW.trod enc Try.prog w base spare held n 35 [u4] = some y3 := by simpa [Value.cells, e3, o3, c2] using h3
  have n0 := nums_in (ks := [.i64]) (by kernel_rfl) r0
  have n1 := nums_in (ks := [.i64]) (by kernel_rfl) r1
  have n2 := nums_in (ks := [.i64, .i64]) (by kernel_rfl) r2
  obtain ⟨A, m, c, z, rfl, l1, l2, hr, _⟩ := open_listK (ks := [.i64, .i64]) Try.underlying35 (by kernel_rfl) (by decide) (by kernel_rfl) r3
  obtain ⟨a0, ha0, _⟩ := n0 0 (by decide)
  obtain ⟨a1, ha1, _⟩ := n1 0 (by decide)
  obtain ⟨a2, ha2, _⟩ := n2 0 (by decide)
  obtain ⟨a3, ha3, _⟩ := n2 1 (by decide)
  simp at ha0 ha1 ha2 ha3
  subst ha0 ha1 ha2 ha3
  refine ⟨⟨a0, a1, ⟨a2, a3⟩, toR m z⟩, A, c, by show _ = Value.agg #[I a0, I a1, I a2, I a3, .slice A (toR m z).length c]; rw [toR_len], ?_, ?_⟩
  · simp only [toR_len]; exact ⟨l1, l2⟩
  · simp only [toR_len]; exact toR_rd hr (fun _ => rfl) (fun _ => rfl)
set_option maxRecDepth 100000 in
theorem open_sheet (hv : Value.okWide Try.prog w r b0 37 v) (h : DataW.Trod enc Try.prog w base spare held 37 v d ps) :
    ∃ (x : Sht) (A : Option Addr) (n : Nat), v = .agg (shA x A n) ∧ (x.s.length ≤ n ∧ n ≤ maxLen) ∧ Rd w w.heap.size 2 A x.s.length (rR x.s) :=
  open_sheetK Try.underlying37 (by kernel_rfl) rfl rfl rfl rfl rfl rfl rfl rfl (by kernel_rfl) (by kernel_rfl) (by kernel_rfl) hv h
end
end Go.Proofs.Ytljjpidigckheaa.Un
namespace Go.Proofs.Ytljjpidigckheaa.Un
open Go.RowKit Go.ChangeShapes Go.WideShapes Go.Deep
section
variable {H : Type} {enc : TypeId × Value → H} {w : World} {base : Nat} {spare : Nat → Bool} {held : Bool} {r : Reach} {b0 : Nat} {v : Value} {d : DataW H} {ps : List MemPlace}
set_option maxRecDepth 100000 in
theorem open_flatK {g0 g1 g2 : Field} (hg : Try.prog.underlying 60 = some (.struct #[g0, g1, g2])) (hC : Try.prog.cellsOf 60 = 4)
    (e0 : g0.type = 49) (o0 : g0.offset = 0) (e1 : g1.type = 30) (o1 : g1.offset = 2) (e2 : g2.type = 30) (o2 : g2.offset = 3)
    (c0 : Try.prog.cellsOf 49 = 2) (c1 : Try.prog.cellsOf 30 = 1)
    (hv : Value.okWide Try.prog w r b0 60 v) (h : DataW.Trod enc Try.prog w base spare held 60 v d ps) :
    ∃ (f : Frc) (S T : List Int) (A C : Option Addr) (m n : Nat), v = .agg #[I f.n, I f.d, .slice A S.length m, .slice C T.length n] ∧ Rd w w.heap.size 1 A S.length (rI S) ∧ Rd w w.heap.size 1 C T.length (rI T) := by
  obtain ⟨cs, rfl, hsz⟩ := okWide_struct hg hv
  obtain ⟨u0, u1, u2, u3, rfl⟩ := array_k4 (hsz.trans hC)
  obtain ⟨fuel, hf⟩ := h
  obtain ⟨y0, y1, y2, n, _, _, h0, h1, h2⟩ := trod_struct3 hg hf
  have r0 : DataW.trod enc Try.prog w base spare held n 49 [u0, u1] = some y0 := by simpa [Value.cells, e0, o0, c0] using h0
  have r1 : DataW.trod enc Try.prog w base spare held n 30 [u2] = some y1 := by simpa [Value.cells, e1, o1, c1] using h1
  have r2 : DataW.trod enc Try.prog w base spare held n 30 [u3] = some y2 := by simpa [Value.cells, e2, o2, c1] using h2
  have n0 := nums_in (ks := [.i64, .i64]) (by kernel_rfl) r0
  obtain ⟨A, m, c, z, rfl, _, _, hr, _⟩ := open_listK (ks := [.i64]) Try.underlying30 (by kernel_rfl) (by decide) (by kernel_rfl) r1
  obtain ⟨C, m', c', z', rfl, _, _, hr', _⟩ := open_listK (ks := [.i64]) Try.underlying30 (by kernel_rfl) (by decide) (by kernel_rfl) r2
  obtain ⟨a0, ha0, _⟩ := n0 0 (by decide)
  obtain ⟨a1, ha1, _⟩ := n0 1 (by decide)
  simp at ha0 ha1
  subst ha0 ha1
  refine ⟨⟨a0, a1⟩, toL m z, toL m' z', A, C, c, c', by show _ = Value.agg #[I a0, I a1, .slice A (toL m z).length c, .slice C (toL m' z').length c']; rw [toL_len, toL_len], ?_, ?_⟩
  · simp only [toL_len]; exact toI_rd hr (fun _ => rfl)
  · simp only [toL_len]; exact toI_rd hr' (fun _ => rfl)
set_option maxRecDepth 100000 in
theorem open_flat (hv : Value.okWide Try.prog w r b0 60 v) (h : DataW.Trod enc Try.prog w base spare held 60 v d ps) :
    ∃ (f : Frc) (S T : List Int) (A C : Option Addr) (m n : Nat), v = .agg #[I f.n, I f.d, .slice A S.length m, .slice C T.length n] ∧ Rd w w.heap.size 1 A S.length (rI S) ∧ Rd w w.heap.size 1 C T.length (rI T) :=
  open_flatK Try.underlying60 (by kernel_rfl) rfl rfl rfl rfl rfl rfl (by kernel_rfl) (by kernel_rfl) hv h
set_option maxRecDepth 100000 in
theorem open_boolF (hv : Value.okWide Try.prog w r b0 4 v) (h : DataW.Trod enc Try.prog w base spare held 4 v d ps) : ∃ b, v = .bool b := by
  obtain ⟨b, rfl, _, _⟩ := Go.RowKit.open_bool Try.underlying4 hv h
  exact ⟨b, rfl⟩
set_option maxRecDepth 100000 in
theorem open_u8F (hv : Value.okWide Try.prog w r b0 5 v) (h : DataW.Trod enc Try.prog w base spare held 5 v d ps) : ∃ n, v = .int .u8 n ∧ (0 ≤ n ∧ n ≤ 255) := by
  obtain ⟨n, rfl, _, _, hw⟩ := Go.ChangeShapes.open_int Try.underlying5 hv h
  exact ⟨n, rfl, u8_bd hw⟩
set_option maxRecDepth 100000 in
theorem open_rangeF (hv : Value.okWide Try.prog w r b0 24 v) (h : DataW.Trod enc Try.prog w base spare held 24 v d ps) : ∃ a : Rng, v = .agg #[I a.lo, I a.hi] := by
  obtain ⟨z, h1, _⟩ := open_aggK (ks := [.i64, .i64]) Try.underlying24 (by kernel_rfl) (by kernel_rfl) hv h
  exact ⟨⟨z 0, z 1⟩, h1⟩
set_option maxRecDepth 100000 in
theorem open_intF (hv : Value.okWide Try.prog w r b0 3 v) (h : DataW.Trod enc Try.prog w base spare held 3 v d ps) : ∃ n, v = I n ∧ (-9223372036854775808 ≤ n ∧ n ≤ 9223372036854775807) := by
  obtain ⟨n, rfl, _, _, hw⟩ := Go.ChangeShapes.open_int Try.underlying3 hv h
  exact ⟨n, rfl, i64_bd hw⟩
end
end Go.Proofs.Ytljjpidigckheaa.Un
