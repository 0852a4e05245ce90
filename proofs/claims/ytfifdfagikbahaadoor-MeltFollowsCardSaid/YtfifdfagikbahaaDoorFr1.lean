/- The frame for courses: contents and a list of contents. -/
import Derived.Test.YtfifdfagikbahaaDoorFq
import Derived.Test.YtfifdfagikbahaaDoorLmc
import Derived.Lib.SmallJoins
namespace Go.Proofs.YtfifdfagikbahaaDoor
open Go.RowKit Go.ChangeShapes Go.WideShapes Go.Deep
theorem array4 {cs : Array Value} (h : cs.size = 4) : ∃ a b c d, cs = #[a, b, c, d] := by
  obtain ⟨l⟩ := cs
  match l, h with
  | [a, b, c, d], _ => exact ⟨a, b, c, d, rfl⟩
def toC (n : Nat) (z : Nat → Nat → Int) : List (Nat → Int) := (List.range n).map fun k => z k
theorem toC_len (n : Nat) (z : Nat → Nat → Int) : (toC n z).length = n := by simp [toC]
theorem toC_at {n k : Nat} (z : Nat → Nat → Int) (hk : k < n) : at0 (toC n z) k = z k := at0_map _ hk
section
variable {H : Type} {enc : TypeId × Value → H} {w : World} {base : Nat} {spare : Nat → Bool} {held : Bool} {r : Reach} {b0 : Nat} {v : Value} {d : DataW H} {ps : List MemPlace}
set_option maxRecDepth 100000 in
theorem open_course {g0 g1 : Field} (hg : Tryd.prog.underlying 66 = some (.struct #[g0, g1])) (hC : Tryd.prog.cellsOf 66 = 4) (o0 : g0.offset = 0) (n0 : Tryd.prog.cellsOf g0.type = 3) (hn : numsOf Tryd.prog g0.type [.i64, .i64, .i64] = true) (o1 : g1.offset = 3) (c1 : Tryd.prog.cellsOf g1.type = 1) (k : Tryd.prog.underlying g1.type = some (.slice 63))
    (hv : Value.okWide Tryd.prog w r b0 66 v) (h : DataW.Trod enc Tryd.prog w base spare held 66 v d ps) : ∃ (st : Nat → Int) (Ch : Option Addr) (cc : Nat) (cs : List (Nat → Int)), v = .agg (csArr st Ch cs.length cc) ∧ cs.length ≤ maxLen ∧ Rd w w.heap.size 3 Ch cs.length (rN3 cs) := by
  obtain ⟨cs, rfl, hsz⟩ := okWide_struct hg hv
  obtain ⟨u0, u1, u2, u3, rfl⟩ := array4 (hsz.trans hC)
  obtain ⟨fuel, hf⟩ := h
  obtain ⟨y0, y1, n, _, _, h0, h1⟩ := trod_struct2 hg hf
  have r0 : DataW.trod enc Tryd.prog w base spare held n g0.type [u0, u1, u2] = some y0 := by simpa [Value.cells, o0, n0] using h0
  have r1 : DataW.trod enc Tryd.prog w base spare held n g1.type [u3] = some y1 := by simpa [Value.cells, o1, c1] using h1
  have q := nums_in hn r0
  obtain ⟨s0, e0, _⟩ := q 0 (by decide)
  obtain ⟨s1, e1, _⟩ := q 1 (by decide)
  obtain ⟨s2, e2, _⟩ := q 2 (by decide)
  obtain rfl : u0 = I s0 := by simpa using e0
  obtain rfl : u1 = I s1 := by simpa using e1
  obtain rfl : u2 = I s2 := by simpa using e2
  obtain ⟨A, n', c', z, rfl, l1, l2, l3, _⟩ := open_listK (ks := [.i64, .i64, .i64]) k (by kernel_rfl) (by decide) (by kernel_rfl) r1
  refine ⟨fun j => if j = 0 then s0 else if j = 1 then s1 else s2, A, c', toC n' z, by rw [toC_len]; rfl, by rw [toC_len]; omega, ?_⟩
  rw [toC_len]
  refine Rd.same l3 fun k hk j hj => ?_
  have hj3 : j < 3 := hj
  unfold rN3
  rw [toC_at z hk]
  match j, hj3 with
  | 0, _ => rfl | 1, _ => rfl | 2, _ => rfl
end
end Go.Proofs.YtfifdfagikbahaaDoor
