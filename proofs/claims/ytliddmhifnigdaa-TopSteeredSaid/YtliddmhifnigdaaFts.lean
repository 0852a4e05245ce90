/- The frame's arguments of TopSteered: a puller, a model, what is asked. -/
import Derived.Test.YtliddmhifnigdaaFv
import Derived.Test.YtliddmhifnigdaaLts
import Derived.Deep.Strs
import Derived.Lib.SmallJoins
namespace Go.Proofs.Ytliddmhifnigdaa.Un
open Go.RowKit Go.ChangeShapes Go.WideShapes Go.Deep
theorem array_8 {α : Type} {cs : Array α} (h : cs.size = 8) : ∃ c0 c1 c2 c3 c4 c5 c6 c7, cs = #[c0, c1, c2, c3, c4, c5, c6, c7] := by
  obtain ⟨l⟩ := cs
  match l, h with
  | [c0, c1, c2, c3, c4, c5, c6, c7], _ => exact ⟨c0, c1, c2, c3, c4, c5, c6, c7, rfl⟩
section
variable {H : Type} {enc : TypeId × Value → H} {w : World} {base : Nat} {spare : Nat → Bool} {held : Bool} {r : Reach} {b0 : Nat} {v : Value} {d : DataW H} {ps : List MemPlace}
theorem trod_struct5 {P : Program} {t : TypeId} {f0 f1 f2 f3 f4 : Field} {fuel : Nat} {cs : List Value} {x : DataW H × List MemPlace} (ht : P.underlying t = some (.struct #[f0, f1, f2, f3, f4])) (h : DataW.trod enc P w base spare held fuel t cs = some x) :
    ∃ y0 y1 y2 y3 y4 n, DataW.trod enc P w base spare held n f0.type ((cs.drop f0.offset).take (P.cellsOf f0.type)) = some y0 ∧
      DataW.trod enc P w base spare held n f1.type ((cs.drop f1.offset).take (P.cellsOf f1.type)) = some y1 ∧ DataW.trod enc P w base spare held n f2.type ((cs.drop f2.offset).take (P.cellsOf f2.type)) = some y2 ∧
      DataW.trod enc P w base spare held n f3.type ((cs.drop f3.offset).take (P.cellsOf f3.type)) = some y3 ∧ DataW.trod enc P w base spare held n f4.type ((cs.drop f4.offset).take (P.cellsOf f4.type)) = some y4 := by
  obtain ⟨xs, n, _, rfl, hl, hlen, hf⟩ := DataW.trod_struct ht h
  match xs, hlen with
  | [y0, y1, y2, y3, y4], _ => exact ⟨y0, y1, y2, y3, y4, n, by simpa using hf 0 f0 rfl, by simpa using hf 1 f1 rfl, by simpa using hf 2 f2 rfl, by simpa using hf 3 f3 rfl, by simpa using hf 4 f4 rfl⟩
set_option maxRecDepth 100000 in
theorem open_puller (hv : Value.okWide Try.prog w r b0 30 v) (h : DataW.Trod enc Try.prog w base spare held 30 v d ps) : ∃ p : Vec, v = .agg (ia 117 p) := by
  obtain ⟨z, h1, _⟩ := open_aggK (ks := List.replicate 117 .i64) Try.underlying30 (by kernel_rfl) (by kernel_rfl) hv h
  refine ⟨z, ?_⟩
  rw [h1]
  congr 1
set_option maxRecDepth 100000 in
theorem open_mdl (hv : Value.okWide Try.prog w r b0 33 v) (h : DataW.Trod enc Try.prog w base spare held 33 v d ps) : ∃ m : Mdl, v = .agg (mdA m) := by
  obtain ⟨z, h1, _⟩ := open_aggK (ks := [.i64, .i64, .i64, .i64, .i64, .i64, .i64, .i64, .i64]) Try.underlying33 (by kernel_rfl) (by kernel_rfl) hv h
  exact ⟨⟨z 0, fun k => ⟨z (1 + k * 2), z (2 + k * 2)⟩⟩, h1⟩
set_option maxRecDepth 100000 in
theorem open_quietK {g0 g1 g2 g3 g4 : Field} (hg : Try.prog.underlying 41 = some (.struct #[g0, g1, g2, g3, g4])) (hC : Try.prog.cellsOf 41 = 8)
    (e0 : g0.type = 34) (o0 : g0.offset = 0) (e1 : g1.type = 5) (o1 : g1.offset = 1) (e2 : g2.type = 5) (o2 : g2.offset = 2) (e3 : g3.type = 38) (o3 : g3.offset = 3) (e4 : g4.type = 39) (o4 : g4.offset = 7)
    (c0 : Try.prog.cellsOf 34 = 1) (c1 : Try.prog.cellsOf 5 = 1) (c3 : Try.prog.cellsOf 38 = 4) (c4 : Try.prog.cellsOf 39 = 1)
    (hv : Value.okWide Try.prog w r b0 41 v) (h : DataW.Trod enc Try.prog w base spare held 41 v d ps) :
    ∃ (A Z : Option Addr) (a n c : Nat) (zs : List Rng) (wt wh : Int) (g h : Rng) (z : Nat → Nat → Int), v = .agg (qtA A a zs wt wh g h Z n c) ∧ Rd w w.heap.size 2 A zs.length (rR zs) ∧ Rd w w.heap.size 3 Z n (fun k j => .int .u16 (z k j)) ∧ (∀ k, k < n → ∀ j, j < 3 → 0 ≤ z k j ∧ z k j ≤ 65535) ∧ (0 ≤ wt ∧ wt ≤ 255) ∧ (0 ≤ wh ∧ wh ≤ 255) := by
  obtain ⟨cs, rfl, hsz⟩ := okWide_struct hg hv
  obtain ⟨u0, u1, u2, u3, u4, u5, u6, u7, rfl⟩ := array_8 (hsz.trans hC)
  obtain ⟨fuel, hf⟩ := h
  obtain ⟨y0, y1, y2, y3, y4, n, h0, h1, h2, h3, h4⟩ := trod_struct5 hg hf
  have r0 : DataW.trod enc Try.prog w base spare held n 34 [u0] = some y0 := by simpa [Value.cells, e0, o0, c0] using h0
  have r1 : DataW.trod enc Try.prog w base spare held n 5 [u1] = some y1 := by simpa [Value.cells, e1, o1, c1] using h1
  have r2 : DataW.trod enc Try.prog w base spare held n 5 [u2] = some y2 := by simpa [Value.cells, e2, o2, c1] using h2
  have r3 : DataW.trod enc Try.prog w base spare held n 38 [u3, u4, u5, u6] = some y3 := by simpa [Value.cells, e3, o3, c3] using h3
  have r4 : DataW.trod enc Try.prog w base spare held n 39 [u7] = some y4 := by simpa [Value.cells, e4, o4, c4] using h4
  have n1 := nums_in (ks := [.u8]) (by kernel_rfl) r1
  have n2 := nums_in (ks := [.u8]) (by kernel_rfl) r2
  have n3 := nums_in (ks := [.i64, .i64, .i64, .i64]) (by kernel_rfl) r3
  obtain ⟨Z, m2, c2', z2, rfl, _, _, hr2, _⟩ := open_listK (ks := [.i64, .i64]) Try.underlying34 (by kernel_rfl) (by decide) (by kernel_rfl) r0
  obtain ⟨A, m, c, z, rfl, _, _, hr, hz⟩ := open_listK (ks := [.u16, .u16, .u16]) Try.underlying39 (by kernel_rfl) (by decide) (by kernel_rfl) r4
  obtain ⟨a0, ha0, hb0⟩ := n1 0 (by decide)
  obtain ⟨a1, ha1, hb1⟩ := n2 0 (by decide)
  obtain ⟨b0', hc0, _⟩ := n3 0 (by decide)
  obtain ⟨b1, hc1, _⟩ := n3 1 (by decide)
  obtain ⟨b2, hc2, _⟩ := n3 2 (by decide)
  obtain ⟨b3, hc3, _⟩ := n3 3 (by decide)
  have hz' : ∀ k, k < m → ∀ j, j < 3 → 0 ≤ z k j ∧ z k j ≤ 65535 := fun k hk j hj => by
    have := hz k hk j hj
    match j, hj with
    | 0, _ => exact ku16_bd this
    | 1, _ => exact ku16_bd this
    | 2, _ => exact ku16_bd this
  simp at ha0 ha1 hc0 hc1 hc2 hc3
  subst ha0 ha1 hc0 hc1 hc2 hc3
  refine ⟨Z, A, c2', m, c, toR m2 z2, a0, a1, ⟨b0', b1⟩, ⟨b2, b3⟩, z, by unfold qtA; simp only [toR_len], ?_, Rd.same (g := fun k j => .int ([IntKind.u16, .u16, .u16].getD j .i64) (z k j)) hr fun k hk j hj => ?_, hz', u8_bd hb0, u8_bd hb1⟩
  · simp only [toR_len]; exact toR_rd hr2 (fun _ => rfl) (fun _ => rfl)
  · match j, hj with
    | 0, _ => rfl
    | 1, _ => rfl
    | 2, _ => rfl
set_option maxRecDepth 100000 in
theorem open_quiet (hv : Value.okWide Try.prog w r b0 41 v) (h : DataW.Trod enc Try.prog w base spare held 41 v d ps) :
    ∃ (A Z : Option Addr) (a n c : Nat) (zs : List Rng) (wt wh : Int) (g h : Rng) (z : Nat → Nat → Int), v = .agg (qtA A a zs wt wh g h Z n c) ∧ Rd w w.heap.size 2 A zs.length (rR zs) ∧ Rd w w.heap.size 3 Z n (fun k j => .int .u16 (z k j)) ∧ (∀ k, k < n → ∀ j, j < 3 → 0 ≤ z k j ∧ z k j ≤ 65535) ∧ (0 ≤ wt ∧ wt ≤ 255) ∧ (0 ≤ wh ∧ wh ≤ 255) :=
  open_quietK Try.underlying41 (by kernel_rfl) rfl rfl rfl rfl rfl rfl rfl rfl rfl rfl (by kernel_rfl) (by kernel_rfl) (by kernel_rfl) (by kernel_rfl) hv h
end
end Go.Proofs.Ytliddmhifnigdaa.Un
