/- The frame's argument that is a crystal. -/
import Derived.Test.YtlebefopdnadaaaFk
import Derived.Test.YtlebefopdnadaaaCs
namespace Go.Proofs.Ytlebefopdnadaaa
open Go.RowKit Go.ChangeShapes Go.WideShapes Go.Deep
section
variable {H : Type} {enc : TypeId × Value → H} {w : World} {base : Nat} {spare : Nat → Bool} {held : Bool}
/-- What fits as a crystal. -/
def FitC (w : World) (v : Value) : Prop := ∃ A B C a b c x, v = cryV A B C a b c x ∧ CryIn w A B C x
theorem fit_cry {t0 t1 t2 t3 : TypeId} {v0 v1 v2 v3 : Value} {y0 y1 y2 y3 : DataW H × List MemPlace} {n0 n1 n2 n3 : Nat}
    (k0 : Try.prog.underlying t0 = some (.int .u16)) (k1 : Try.prog.underlying t1 = some (.slice 155)) (k2 : Try.prog.underlying t2 = some (.slice 5)) (k3 : Try.prog.underlying t3 = some (.slice 156))
    (h0 : DataW.trod enc Try.prog w base spare held n0 t0 [v0] = some y0) (h1 : DataW.trod enc Try.prog w base spare held n1 t1 [v1] = some y1) (h2 : DataW.trod enc Try.prog w base spare held n2 t2 [v2] = some y2) (h3 : DataW.trod enc Try.prog w base spare held n3 t3 [v3] = some y3) :
    FitC w (.agg #[v0, v1, v2, v3]) := by
  obtain ⟨f, hf, _, wf⟩ := DataW.trod_int k0 h0
  obtain rfl : v0 = .int .u16 f := by simpa using hf
  obtain ⟨A, n1, a, z1, rfl, l1, m1, q1, w1⟩ := open_listK (ks := [.i8]) k1 (by kernel_rfl) (by decide) (by kernel_rfl) h1
  obtain ⟨B, n2, b, z2, rfl, l2, m2, q2, w2⟩ := open_listK (ks := [.u8]) k2 (by kernel_rfl) (by decide) (by kernel_rfl) h2
  obtain ⟨C, n3, c, z3, rfl, l3, m3, q3, w3⟩ := open_listK (ks := [.u8, .u8]) k3 (by kernel_rfl) (by decide) (by kernel_rfl) h3
  refine ⟨A, B, C, a, b, c, ⟨f, toL n1 z1, toL n2 z2, toR n3 z3⟩, ?_, ?_⟩
  · simp [cryV, toL, toR]
  · refine ⟨?_, ?_, ?_, ku16_bd wf, fun k hk => ?_, fun k hk => ?_, fun k hk => ?_, ?_, ?_⟩
    · simp only [toL_len]
      exact q1.same fun k hk j hj => by obtain rfl : j = 0 := (by simpa using hj); rw [rKd, toL_at z1 hk]; rfl
    · simp only [toL_len]
      exact q2.same fun k hk j hj => by obtain rfl : j = 0 := (by simpa using hj); rw [rKd, toL_at z2 hk]; rfl
    · simp only [toR_len]
      refine q3.same fun k hk j hj => ?_
      unfold rU
      rw [toR_at z3 hk]
      rcases j with _ | _ | j
      · rfl
      · rfl
      · simp at hj; omega
    · rw [toL_len] at hk
      rw [toL_at z1 hk]; exact i8_bd (w1 k hk 0 (by decide))
    · rw [toL_len] at hk
      rw [toL_at z2 hk]; exact u8_bd (w2 k hk 0 (by decide))
    · rw [toR_len] at hk
      rw [toR_at z3 hk]
      have g1 := u8_bd (w3 k hk 0 (by decide))
      have g2 := u8_bd (w3 k hk 1 (by decide))
      exact ⟨g1.1, g1.2, g2.1, g2.2⟩
    · rw [toL_len]; omega
    · rw [toR_len]; omega
set_option maxRecDepth 100000 in
theorem open_cry {f0 f1 f2 f3 : Field} {r : Reach} {b0 : Nat} {v : Value} {d : DataW H} {p : List MemPlace} (hu : Try.prog.underlying 85 = some (.struct #[f0, f1, f2, f3])) (hone : oneCellFields Try.prog #[f0, f1, f2, f3] = true) (hC : Try.prog.cellsOf 85 = 4)
    (k0 : Try.prog.underlying f0.type = some (.int .u16)) (k1 : Try.prog.underlying f1.type = some (.slice 155)) (k2 : Try.prog.underlying f2.type = some (.slice 5)) (k3 : Try.prog.underlying f3.type = some (.slice 156))
    (hv : Value.okWide Try.prog w r b0 85 v) (h : DataW.Trod enc Try.prog w base spare held 85 v d p) : FitC w v := by
  obtain ⟨v0, v1, v2, v3, y0, y1, y2, y3, n, rfl, _, _, h0, h1, h2, h3⟩ := Go.Joins.open_agg4 hu hone hC hv h
  exact fit_cry k0 k1 k2 k3 h0 h1 h2 h3
end
end Go.Proofs.Ytlebefopdnadaaa
