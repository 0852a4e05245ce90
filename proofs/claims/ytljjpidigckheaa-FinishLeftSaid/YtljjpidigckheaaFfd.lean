/- The frame's arguments of the plain rows of chapter 9: two pieces, lists of uint16. -/
import Derived.Test.YtljjpidigckheaaFv
import Derived.Test.YtljjpidigckheaaMpr
import Derived.Deep.Strs
import Derived.Lib.SmallJoins
import Derived.Test.YtljjpidigckheaaPck
namespace Go.Proofs.Ytljjpidigckheaa.Un
open Go.RowKit Go.ChangeShapes Go.WideShapes Go.Deep
def toH (n : Nat) (z : Nat → Nat → Int) : List Int := (List.range n).map fun k => z k 0
theorem toH_len (n : Nat) (z : Nat → Nat → Int) : (toH n z).length = n := by simp [toH]
theorem toH_at {n k : Nat} (z : Nat → Nat → Int) (hk : k < n) : at0 (toH n z) k = z k 0 := at0_map _ hk
theorem array_k6 {α : Type} {cs : Array α} (h : cs.size = 6) : ∃ c0 c1 c2 c3 c4 c5, cs = #[c0, c1, c2, c3, c4, c5] := by
  obtain ⟨l⟩ := cs
  match l, h with
  | [c0, c1, c2, c3, c4, c5], _ => exact ⟨c0, c1, c2, c3, c4, c5, rfl⟩
section
variable {H : Type} {enc : TypeId × Value → H} {w : World} {base : Nat} {spare : Nat → Bool} {held : Bool} {r : Reach} {b0 : Nat} {v : Value} {d : DataW H} {ps : List MemPlace}
set_option maxRecDepth 100000 in
theorem open_h16 {fuel : Nat} {x : DataW H × List MemPlace} (h : DataW.trod enc Try.prog w base spare held fuel 78 [v] = some x) :
    ∃ (A : Option Addr) (c : Nat) (xs : List Int), v = .slice A xs.length c ∧ xs.length ≤ c ∧ c ≤ maxLen ∧ Rd w w.heap.size 1 A xs.length (rH xs) ∧ Is16 xs := by
  obtain ⟨A, m, c', z, he, l1, l2, hr, hz⟩ := open_listK (ks := [.u16]) Try.underlying78 (by kernel_rfl) (by decide) (by kernel_rfl) h
  refine ⟨A, c', toH m z, by rw [toH_len]; exact he, by rw [toH_len]; exact l1, l2, ?_, fun k => ?_⟩
  · rw [toH_len]
    exact hr.same fun k hk j hj => by
      obtain rfl : j = 0 := by simp at hj; exact hj
      show _ = H16 (at0 (toH m z) k)
      rw [toH_at z hk]
      rfl
  · by_cases hk : k < m
    · rw [toH_at z hk]
      exact ku16_bd (hz k hk 0 (by decide))
    · have e : at0 (toH m z) k = 0 := by
        unfold at0
        rw [List.getD_eq_getElem?_getD, List.getElem?_eq_none (by rw [toH_len]; omega)]
        rfl
      rw [e]
      omega
set_option maxRecDepth 100000 in
theorem open_listH (hv : Value.okWide Try.prog w r b0 78 v) (h : DataW.Trod enc Try.prog w base spare held 78 v d ps) :
    ∃ (A : Option Addr) (c : Nat) (xs : List Int), v = .slice A xs.length c ∧ xs.length ≤ c ∧ c ≤ maxLen ∧ Rd w w.heap.size 1 A xs.length (rH xs) ∧ Is16 xs := by
  obtain ⟨a, l, c, rfl⟩ := okWide_slice Try.underlying78 hv
  obtain ⟨fuel, hf⟩ := h
  exact open_h16 hf
set_option maxRecDepth 100000 in
theorem treated_in {g0 g1 : Field} (hg : Try.prog.underlying 72 = some (.struct #[g0, g1]))
    (e0 : g0.type = 24) (o0 : g0.offset = 0) (e1 : g1.type = 30) (o1 : g1.offset = 2)
    (c0 : Try.prog.cellsOf 24 = 2) (c1 : Try.prog.cellsOf 30 = 1) {u0 u1 u2 : Value} {fuel : Nat} {y : DataW H × List MemPlace}
    (hf : DataW.trod enc Try.prog w base spare held fuel 72 [u0, u1, u2] = some y) :
    ∃ (x : Trt) (A : Option Addr) (n : Nat), u0 = I x.s.lo ∧ u1 = I x.s.hi ∧ u2 = .slice A x.b.length n ∧ Rd w w.heap.size 1 A x.b.length (rI x.b) := by
  obtain ⟨y0, y1, n, _, _, h0, h1⟩ := trod_struct2 hg hf
  have r0 : DataW.trod enc Try.prog w base spare held n 24 [u0, u1] = some y0 := by simpa [e0, o0, c0] using h0
  have r1 : DataW.trod enc Try.prog w base spare held n 30 [u2] = some y1 := by simpa [e1, o1, c1] using h1
  have n0 := nums_in (ks := [.i64, .i64]) (by kernel_rfl) r0
  obtain ⟨A, m, c, z, rfl, l1, l2, hr, _⟩ := open_listK (ks := [.i64]) Try.underlying30 (by kernel_rfl) (by decide) (by kernel_rfl) r1
  obtain ⟨a0, ha0, _⟩ := n0 0 (by decide)
  obtain ⟨a1, ha1, _⟩ := n0 1 (by decide)
  simp at ha0 ha1
  subst ha0 ha1
  exact ⟨⟨⟨a0, a1⟩, toL m z⟩, A, c, rfl, rfl, by simp only [toL_len], by simp only [toL_len]; exact toI_rd hr (fun _ => rfl)⟩
set_option maxRecDepth 100000 in
theorem open_twoK {g0 g1 : Field} (hg : Try.prog.underlying 105 = some (.struct #[g0, g1])) (hC : Try.prog.cellsOf 105 = 6)
    (e0 : g0.type = 72) (o0 : g0.offset = 0) (e1 : g1.type = 72) (o1 : g1.offset = 3)
    (c0 : Try.prog.cellsOf 72 = 3)
    (hv : Value.okWide Try.prog w r b0 105 v) (h : DataW.Trod enc Try.prog w base spare held 105 v d ps) :
    ∃ (x y : Trt) (A C : Option Addr) (n m : Nat), v = .agg #[I x.s.lo, I x.s.hi, .slice A x.b.length n, I y.s.lo, I y.s.hi, .slice C y.b.length m] ∧ Rd w w.heap.size 1 A x.b.length (rI x.b) ∧ Rd w w.heap.size 1 C y.b.length (rI y.b) := by
  obtain ⟨cs, rfl, hsz⟩ := okWide_struct hg hv
  obtain ⟨u0, u1, u2, u3, u4, u5, rfl⟩ := array_k6 (hsz.trans hC)
  obtain ⟨fuel, hf⟩ := h
  obtain ⟨y0, y1, n, _, _, h0, h1⟩ := trod_struct2 hg hf
  have r0 : DataW.trod enc Try.prog w base spare held n 72 [u0, u1, u2] = some y0 := by simpa [Value.cells, e0, o0, c0] using h0
  have r1 : DataW.trod enc Try.prog w base spare held n 72 [u3, u4, u5] = some y1 := by simpa [Value.cells, e1, o1, c0] using h1
  obtain ⟨x, A, n1, rfl, rfl, rfl, ra⟩ := treated_in Try.underlying72 rfl rfl rfl rfl (by kernel_rfl) (by kernel_rfl) r0
  obtain ⟨y, C, n2, rfl, rfl, rfl, rb⟩ := treated_in Try.underlying72 rfl rfl rfl rfl (by kernel_rfl) (by kernel_rfl) r1
  exact ⟨x, y, A, C, n1, n2, rfl, ra, rb⟩
set_option maxRecDepth 100000 in
theorem open_two (hv : Value.okWide Try.prog w r b0 105 v) (h : DataW.Trod enc Try.prog w base spare held 105 v d ps) :
    ∃ (x y : Trt) (A C : Option Addr) (n m : Nat), v = .agg #[I x.s.lo, I x.s.hi, .slice A x.b.length n, I y.s.lo, I y.s.hi, .slice C y.b.length m] ∧ Rd w w.heap.size 1 A x.b.length (rI x.b) ∧ Rd w w.heap.size 1 C y.b.length (rI y.b) :=
  open_twoK Try.underlying105 (by kernel_rfl) rfl rfl rfl rfl (by kernel_rfl) hv h
end
end Go.Proofs.Ytljjpidigckheaa.Un
