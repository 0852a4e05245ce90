/- The frame's argument of TopBaked: a heat treatment, regions, a slice, and from which end. -/
import Derived.Test.YtnkaoplgmglijaaDoorFq
import Derived.Test.YtnkaoplgmglijaaDoorLbk
namespace Go.Proofs.YtnkaoplgmglijaaDoor
open Go.RowKit Go.ChangeShapes Go.WideShapes Go.Deep
def toH (n : Nat) (z : Nat → Nat → Int) : List Un.Hst := (List.range n).map fun k => ⟨z k 0, fun i => ⟨z k (1 + i * 2), z k (2 + i * 2)⟩⟩
theorem toH_len (n : Nat) (z : Nat → Nat → Int) : (toH n z).length = n := by simp [toH]
theorem toH_at {n k : Nat} (z : Nat → Nat → Int) (hk : k < n) : at0 (toH n z) k = ⟨z k 0, fun i => ⟨z k (1 + i * 2), z k (2 + i * 2)⟩⟩ := at0_map _ hk
theorem arr_4 {α : Type} {cs : Array α} (h : cs.size = 4) : ∃ c0 c1 c2 c3, cs = #[c0, c1, c2, c3] := by
 obtain ⟨l⟩ := cs
 match l, h with
 | [c0, c1, c2, c3], _ => exact ⟨c0, c1, c2, c3, rfl⟩
section
variable {H : Type} {enc : TypeId × Value → H} {w : World} {base : Nat} {spare : Nat → Bool} {held : Bool} {r : Reach} {b0 : Nat} {v : Value} {d : DataW H} {ps : List MemPlace}
set_option maxRecDepth 100000 in
theorem open_bakedK {g0 g1 g2 g3 : Field} (hg : Tryd.prog.underlying 54 = some (.struct #[g0, g1, g2, g3])) (hC : Tryd.prog.cellsOf 54 = 4)
 (e0 : g0.type = 52) (o0 : g0.offset = 0) (e1 : g1.type = 5) (o1 : g1.offset = 1) (e2 : g2.type = 5) (o2 : g2.offset = 2) (e3 : g3.type = 4) (o3 : g3.offset = 3)
 (c0 : Tryd.prog.cellsOf 52 = 1) (c1 : Tryd.prog.cellsOf 5 = 1) (c2 : Tryd.prog.cellsOf 4 = 1)
 (hv : Value.okWide Tryd.prog w r b0 54 v) (h : DataW.Trod enc Tryd.prog w base spare held 54 v d ps) :
 ∃ (A : Option Addr) (c : Nat) (L : List Un.Hst) (cn sl : Int) (mo : Bool), v = .agg (bkArr A L.length c cn sl mo) ∧ Rd w w.heap.size 11 A L.length (Un.rH L) ∧ (0 ≤ cn ∧ cn ≤ 255) ∧ (0 ≤ sl ∧ sl ≤ 255) := by
 obtain ⟨cs, rfl, hsz⟩ := okWide_struct hg hv
 obtain ⟨u0, u1, u2, u3, rfl⟩ := arr_4 (hsz.trans hC)
 obtain ⟨fuel, hf⟩ := h
 obtain ⟨y0, y1, y2, y3, n, _, _, h0, h1, h2, h3⟩ := _root_.Go.Joins.trod_struct4 hg hf
 have r0 : DataW.trod enc Tryd.prog w base spare held n 52 [u0] = some y0 := by simpa [Value.cells, e0, o0, c0] using h0
 have r1 : DataW.trod enc Tryd.prog w base spare held n 5 [u1] = some y1 := by simpa [Value.cells, e1, o1, c1] using h1
 have r2 : DataW.trod enc Tryd.prog w base spare held n 5 [u2] = some y2 := by simpa [Value.cells, e2, o2, c1] using h2
 have r3 : DataW.trod enc Tryd.prog w base spare held n 4 [u3] = some y3 := by simpa [Value.cells, e3, o3, c2] using h3
 have n1 := nums_in (ks := [.u8]) (by kernel_rfl) r1
 have n2 := nums_in (ks := [.u8]) (by kernel_rfl) r2
 obtain ⟨bb, hb3, _⟩ := DataW.trod_bool Tryd.underlying4 r3
 obtain ⟨A, m, c, z, rfl, l1, l2, hr, _⟩ := open_listK (ks := [.i64, .i64, .i64, .i64, .i64, .i64, .i64, .i64, .i64, .i64, .i64]) Tryd.underlying52 (by kernel_rfl) (by decide) (by kernel_rfl) r0
 obtain ⟨a1, ha1, hb1⟩ := n1 0 (by decide)
 obtain ⟨a2, ha2, hb2⟩ := n2 0 (by decide)
 simp at ha1 ha2 hb3
 subst ha1 ha2 hb3
 refine ⟨A, c, toH m z, a1, a2, bb, by rw [toH_len], ?_, u8_bd hb1, u8_bd hb2⟩
 rw [toH_len]
 refine Rd.same hr fun k hk j hj => ?_
 have hj11 : j < 11 := hj
 unfold Un.rH
 rw [toH_at z hk]
 match j, hj11 with
 | 0, _ => rfl | 1, _ => rfl | 2, _ => rfl | 3, _ => rfl | 4, _ => rfl | 5, _ => rfl | 6, _ => rfl | 7, _ => rfl | 8, _ => rfl | 9, _ => rfl | 10, _ => rfl
set_option maxRecDepth 100000 in
theorem open_baked (hv : Value.okWide Tryd.prog w r b0 54 v) (h : DataW.Trod enc Tryd.prog w base spare held 54 v d ps) :
 ∃ (A : Option Addr) (c : Nat) (L : List Un.Hst) (cn sl : Int) (mo : Bool), v = .agg (bkArr A L.length c cn sl mo) ∧ Rd w w.heap.size 11 A L.length (Un.rH L) ∧ (0 ≤ cn ∧ cn ≤ 255) ∧ (0 ≤ sl ∧ sl ≤ 255) :=
 open_bakedK Tryd.underlying54 (by kernel_rfl) rfl rfl rfl rfl rfl rfl rfl rfl (by kernel_rfl) (by kernel_rfl) (by kernel_rfl) hv h
end
end Go.Proofs.YtnkaoplgmglijaaDoor
