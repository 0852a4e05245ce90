/- What the reach of a row says of the zones that are asked for. -/
import Derived.Test.YteibgenkklpoaaaFda
import Derived.SizedLaws
namespace Go.Proofs.Yteibgenkklpoaaa.Un
open Go.RowKit Go.ChangeShapes Go.WideShapes Go.Deep
section
variable {H : Type} {enc : TypeId × Value → H} {w : World} {base : Nat} {spare : Nat → Bool} {held : Bool} {d : DataW H} {ps : List MemPlace}
set_option maxRecDepth 100000 in
theorem asked_sizedK {g0 g1 g2 : Field} (hg : Try.prog.underlying 43 = some (.struct #[g0, g1, g2]))
    (e0 : g0.type = 41) (o0 : g0.offset = 0) (c0 : Try.prog.cellsOf 41 = 1) (hb : Try.prog.bytesOf 23 = 16)
    {A : Option Addr} {n c : Nat} {u i : Int} (h : DataW.Trod enc Try.prog w base spare held 43 (.agg #[.slice A n c, .int .u8 u, I i]) d ps) (hz : ∀ k ∈ d.weights Try.prog 43, k ≤ reachBytes) : n * 16 ≤ 140737488355328 := by
  obtain ⟨fuel, hf⟩ := h
  obtain ⟨y0, y1, y2, m, hx, _, h0, h1, h2⟩ := trod_struct3 hg hf
  have r0 : DataW.trod enc Try.prog w base spare held m 41 [.slice A n c] = some y0 := by simpa [Value.cells, e0, o0, c0] using h0
  injection hx with hd _
  subst hd
  rcases open_slice Try.underlying41 r0 with ⟨h3, _⟩ | ⟨a, len, cap, m', q, D, Pl, h3, _, _, _, _, hy, _⟩
  · obtain ⟨rfl, rfl, rfl⟩ : A = none ∧ n = 0 ∧ c = 0 := by simpa using h3
    omega
  · obtain ⟨rfl, rfl, rfl⟩ : A = some a ∧ n = len ∧ c = cap := by simpa using h3
    have hy1 := congrArg Prod.fst hy
    simp only at hy1
    have h9 := hz ((n + (m' - n)) * 16) (by
      rw [hy1]
      simp [DataW.weights, hg, DataW.weightsEach, e0, Try.underlying41, hb])
    have h8 : reachBytes ≤ 140737488355328 := by decide
    have h7 : n * 16 ≤ (n + (m' - n)) * 16 := Nat.mul_le_mul_right _ (by omega)
    omega
set_option maxRecDepth 100000 in
theorem asked_sized {A : Option Addr} {n c : Nat} {u i : Int} (h : DataW.Trod enc Try.prog w base spare held 43 (.agg #[.slice A n c, .int .u8 u, I i]) d ps) (hz : ∀ k ∈ d.weights Try.prog 43, k ≤ reachBytes) : n * 16 ≤ 140737488355328 :=
  asked_sizedK Try.underlying43 rfl rfl (by kernel_rfl) (by kernel_rfl) h hz
end
end Go.Proofs.Yteibgenkklpoaaa.Un
