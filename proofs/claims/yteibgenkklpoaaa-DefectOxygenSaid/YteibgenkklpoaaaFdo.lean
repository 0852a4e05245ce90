/- The frame's arguments of the defect rows: an oven: two integers and a list of integers. -/
import Derived.Test.YteibgenkklpoaaaFdg
import Derived.Deep.Strs
namespace Go.Proofs.Yteibgenkklpoaaa.Un
open Go.RowKit Go.ChangeShapes Go.WideShapes Go.Deep
theorem array3 {α : Type} {cs : Array α} (h : cs.size = 3) : ∃ c0 c1 c2, cs = #[c0, c1, c2] := by
  obtain ⟨l⟩ := cs
  match l, h with
  | [c0, c1, c2], _ => exact ⟨c0, c1, c2, rfl⟩
section
variable {H : Type} {enc : TypeId × Value → H} {w : World} {base : Nat} {spare : Nat → Bool} {held : Bool} {r : Reach} {b0 : Nat} {v : Value} {d : DataW H} {ps : List MemPlace}
set_option maxRecDepth 100000 in
theorem open_ovenK {g0 g1 g2 : Field} (hg : Try.prog.underlying 63 = some (.struct #[g0, g1, g2])) (hC : Try.prog.cellsOf 63 = 3)
    (e0 : g0.type = 44) (o0 : g0.offset = 0) (e1 : g1.type = 5) (o1 : g1.offset = 1) (e2 : g2.type = 61) (o2 : g2.offset = 2)
    (c0 : Try.prog.cellsOf 44 = 1) (c1 : Try.prog.cellsOf 5 = 1) (c2 : Try.prog.cellsOf 61 = 1)
    (hv : Value.okWide Try.prog w r b0 63 v) (h : DataW.Trod enc Try.prog w base spare held 63 v d ps) :
    ∃ (o g : Int) (A : Option Addr) (n c : Nat) (p : Nat → Int), v = .agg #[.int .u16 o, .int .u8 g, .slice A n c] ∧ (0 ≤ o ∧ o ≤ 65535) ∧ (0 ≤ g ∧ g ≤ 255) ∧ n ≤ maxLen ∧ Rd w w.heap.size 1 A n (fun i _ => .int .u16 (p i)) ∧ ∀ i, i < n → 0 ≤ p i ∧ p i ≤ 65535 := by
  obtain ⟨cs, rfl, hsz⟩ := okWide_struct hg hv
  obtain ⟨u0, u1, u2, rfl⟩ := array3 (hsz.trans hC)
  obtain ⟨fuel, hf⟩ := h
  obtain ⟨y0, y1, y2, n, _, _, h0, h1, h2⟩ := trod_struct3 hg hf
  have r0 : DataW.trod enc Try.prog w base spare held n 44 [u0] = some y0 := by simpa [Value.cells, e0, o0, c0] using h0
  have r1 : DataW.trod enc Try.prog w base spare held n 5 [u1] = some y1 := by simpa [Value.cells, e1, o1, c1] using h1
  have r2 : DataW.trod enc Try.prog w base spare held n 61 [u2] = some y2 := by simpa [Value.cells, e2, o2, c2] using h2
  have n0 := nums_in (ks := [.u16]) (by kernel_rfl) r0
  have n1 := nums_in (ks := [.u8]) (by kernel_rfl) r1
  obtain ⟨A, m, c, z, rfl, l1, l2, hr, hz⟩ := open_listK (ks := [.u16]) Try.underlying61 (by kernel_rfl) (by decide) (by kernel_rfl) r2
  obtain ⟨a0, ha0, hb0⟩ := n0 0 (by decide)
  obtain ⟨a1, ha1, hb1⟩ := n1 0 (by decide)
  simp at ha0 ha1
  subst ha0 ha1
  refine ⟨a0, a1, A, m, c, fun i => z i 0, rfl, ku16_bd hb0, u8_bd hb1, Nat.le_trans l1 l2, Rd.same (g := fun k j => .int ([IntKind.u16].getD j .i64) (z k j)) hr fun k hk j hj => ?_, fun i hi => ku16_bd (hz i hi 0 (by decide))⟩
  match j, hj with
  | 0, _ => rfl
set_option maxRecDepth 100000 in
theorem open_oven (hv : Value.okWide Try.prog w r b0 63 v) (h : DataW.Trod enc Try.prog w base spare held 63 v d ps) :
    ∃ (o g : Int) (A : Option Addr) (n c : Nat) (p : Nat → Int), v = .agg #[.int .u16 o, .int .u8 g, .slice A n c] ∧ (0 ≤ o ∧ o ≤ 65535) ∧ (0 ≤ g ∧ g ≤ 255) ∧ n ≤ maxLen ∧ Rd w w.heap.size 1 A n (fun i _ => .int .u16 (p i)) ∧ ∀ i, i < n → 0 ≤ p i ∧ p i ≤ 65535 :=
  open_ovenK Try.underlying63 (by kernel_rfl) rfl rfl rfl rfl rfl rfl (by kernel_rfl) (by kernel_rfl) (by kernel_rfl) hv h
end
end Go.Proofs.Yteibgenkklpoaaa.Un
