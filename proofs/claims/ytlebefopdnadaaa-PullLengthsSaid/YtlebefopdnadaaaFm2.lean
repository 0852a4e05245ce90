/- The frame's arguments that are arrays of integers. -/
import Derived.Test.YtlebefopdnadaaaFm
namespace Go.Proofs.Ytlebefopdnadaaa
open Go.RowKit Go.ChangeShapes Go.WideShapes Go.Deep
section
variable {H : Type} {enc : TypeId × Value → H} {w : World} {base : Nat} {spare : Nat → Bool} {held : Bool}
theorem arr_of {P : Program} {t e : TypeId} {m : Nat} {r : Reach} {b : Nat} {v : Value} {n : Nat} (hu : P.underlying t = some (.array m e)) (hv : Value.okWide P w r b t v) (hc : P.cellsOf t = n) : ∃ cs : Array Value, v = .agg cs ∧ cs.size = n := by
  simp only [Value.okWide, hu] at hv
  obtain ⟨cs, h1, h2, _⟩ := hv
  exact ⟨cs, h1, h2.trans hc⟩
theorem ints_two : (List.range 2).all (fun j => (intAt Try.prog 6 44).contains j) = true := by kernel_rfl
set_option maxRecDepth 100000 in
theorem open_two {m : Nat} {e : TypeId} {r : Reach} {b0 : Nat} {v : Value} {d : DataW H} {ps : List MemPlace} (hu : Try.prog.underlying 44 = some (.array m e)) (hv : Value.okWide Try.prog w r b0 44 v) (h : DataW.Trod enc Try.prog w base spare held 44 v d ps) : ∃ x y : Int, v = .agg #[I x, I y] := by
  obtain ⟨cs, rfl, hsz⟩ := arr_of hu hv (show Try.prog.cellsOf 44 = 2 by kernel_rfl)
  obtain ⟨fuel, hf⟩ := h
  have h1 := ints_in ints_two hf
  obtain ⟨x, hx⟩ := h1 0 (by decide)
  obtain ⟨y, hy⟩ := h1 1 (by decide)
  refine ⟨x, y, ?_⟩
  congr 1
  apply Array.ext'
  simp only [Value.cells] at hx hy
  have hl : cs.toList.length = 2 := by rw [Array.length_toList]; exact hsz
  match hcs : cs.toList, hl with
  | [p, q], _ =>
    rw [hcs] at hx hy
    have e1 : p = I x := by simpa using hx
    have e2 : q = I y := by simpa using hy
    rw [e1, e2]
end
end Go.Proofs.Ytlebefopdnadaaa
