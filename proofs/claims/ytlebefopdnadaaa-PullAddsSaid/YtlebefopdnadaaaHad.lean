/- PullAdds holds of every run and every three times, without a condition: the joined row. -/
import Derived.Test.YtlebefopdnadaaaFma
import Derived.Test.YtlebefopdnadaaaLa
import Derived.Laws.IdiomArrays
namespace Go.Proofs.Ytlebefopdnadaaa
open Go.ChangeShapes Go.WideShapes Go.ChangeAt Go.RowKit
section
variable {H : Type} {enc : TypeId × Value → H} {w : World} {base : Nat} {spare : Nat → Bool} {held : Bool}
theorem u16_bd {n : Int} (h : (Lit.int .u16 n).wf = true) : 0 ≤ n ∧ n ≤ 65535 := by
  simp [Lit.wf, IntKind.min, IntKind.max, IntKind.signed, IntKind.bits] at h
  omega
set_option maxRecDepth 100000 in
theorem open_three {e : TypeId} {r : Reach} {b0 : Nat} {v : Value} {d : DataW H} {ps : List MemPlace} (hu : Try.prog.underlying 97 = some (.array 3 e)) (hue : Try.prog.underlying e = some (.int .u16)) (hce : Try.prog.cellsOf e = 1) (hv : Value.okWide Try.prog w r b0 97 v) (h : DataW.Trod enc Try.prog w base spare held 97 v d ps) :
    ∃ x y z : Int, v = .agg #[U x, U y, U z] ∧ (0 ≤ x ∧ x ≤ 65535) ∧ (0 ≤ y ∧ y ≤ 65535) ∧ (0 ≤ z ∧ z ≤ 65535) := by
  obtain ⟨cs, rfl, hsz⟩ := arr_of hu hv (show Try.prog.cellsOf 97 = 3 by kernel_rfl)
  obtain ⟨fuel, hf⟩ := h
  simp only [Value.cells] at hf
  have hl : cs.toList.length = 3 := by rw [Array.length_toList]; exact hsz
  match hcs : cs.toList, hl with
  | [p, q, s], _ =>
    rw [hcs] at hf
    obtain ⟨y0, y1, y2, n, _, g0, g1, g2⟩ := trod_array3 hu hce hf
    obtain ⟨x, hx, _, wx⟩ := DataW.trod_int hue g0
    obtain ⟨y, hy, _, wy⟩ := DataW.trod_int hue g1
    obtain ⟨z, hz, _, wz⟩ := DataW.trod_int hue g2
    refine ⟨x, y, z, ?_, u16_bd wx, u16_bd wy, u16_bd wz⟩
    congr 1
    apply Array.ext'
    rw [hcs]
    have e1 : p = .int .u16 x := by simpa using hx
    have e2 : q = .int .u16 y := by simpa using hy
    have e3 : s = .int .u16 z := by simpa using hz
    rw [e1, e2, e3]
end
theorem ownK : ownKnob Try.prog.godebug = none := by kernel_rfl
theorem laidOut : laidOutB Try.prog = true := by kernel_rfl
set_option maxRecDepth 100000 in
theorem pullAdds_lifted (os : Os) (started : os.Started) (H : Type) (enc : TypeId × Value → H) :
    ReturnsInHanded {} Try.checked os 11 .any (Rows.pullAddsSpec.pre6 enc Try.prog Try.f11 Rows.pullAddsRow.domain false) (Rows.pullAddsSpec.post enc Try.prog Try.f11 false true false false) := by
  refine returnsInHanded_of_change (C := Try.checked) ownK started (by kernel_rfl) Try.func11
    (ChangeSpec.witness6 (enc := enc) (C := Try.checked) false ⟨#[], #[.agg #[.slice none 0 0, .int .i64 0, .slice none 0 0, .slice none 0 0], .agg #[.int .u16 0, .int .u16 0, .int .u16 0]], []⟩ 8 (by kernel_rfl) (by kernel_rfl) (by kernel_rfl) (by kernel_rfl)) ?_
  intro W base args ds gs before hval0 hW _ _
  have hval : ∀ (j : Nat) t v, Try.f11.params[j]? = some t → args[j]? = some v → Value.okWide Try.prog W .any base t v := hval0
  have hW' := hW
  obtain ⟨p, q, hA0, hV, rfl, _, _⟩ := hW
  have hA : DataW.TrodAll enc Try.prog W 0 (fun _ => true) true Try.f11.params.toList args.toList ds p := hA0
  rw [Try.params11] at hA hval
  obtain ⟨v0, v1, d0, d1, p0, p1, rfl, rfl, rfl, h0, h1⟩ := trodAll_two hA
  obtain ⟨rfl, rfl⟩ := trodVars_none hV
  clear hA0 hval0
  simp only [List.append_nil] at hW'
  have hlt : ∀ x ∈ p0 ++ p1, x.block < W.heap.size := fun x hx => by simpa using hW'.lt x hx
  obtain ⟨A1, A2, A3, c1, c2, c3, R, e0, _, k1, k2, k3⟩ := open_run Try.underlying35 (by kernel_rfl) (by kernel_rfl) Try.underlying31 Try.underlying3 Try.underlying32 Try.underlying33 (hval 0 35 v0 rfl rfl) h0
  obtain ⟨x, y, z, e1, b0, b1, b2⟩ := open_three Try.underlying97 Try.underlying80 (by kernel_rfl) (hval 1 97 v1 rfl rfl) h1
  have hc := pullAdds_any A1 A2 A3 c1 c2 c3 R x y z b0 b1 b2 W k1 k2 k3
  rw [← e0, ← e1] at hc
  refine hc.mono fun e W' ⟨he, hb⟩ => ?_
  subst he
  have a0 := Below.trod laidOut (by kernel_rfl) (of_decide_eq_true (by kernel_rfl)) h0 hb (fun x hx => hlt x (List.mem_append_left _ hx))
  have a1 := Below.trod laidOut (by kernel_rfl) (of_decide_eq_true (by kernel_rfl)) h1 hb (fun x hx => hlt x (List.mem_append_right _ hx))
  exact ⟨_, rfl, ⟨_, _, _, [], _, [], hW', trodAll_mk1 (shut_bool Try.underlying4 _), trodAll_mk2 a0 a1, rfl, hb.frame _, fun h => by cases h⟩⟩
theorem pullAdds_holds : Rows.PullAddsSaid :=
  OpenClaim.holds_of_wide 11 Try.f11 rfl rfl rfl rfl rfl rfl rfl ⟨rfl, rfl, rfl, rfl, rfl⟩ rfl rfl rfl rfl rfl (by kernel_rfl) Try.func11 (by kernel_rfl)
    (of_decide_eq_true (by kernel_rfl)) (by unfold Func.isWrapper; rw [if_neg (of_decide_eq_false (by kernel_rfl))]; exact ⟨rfl, rfl⟩)
    (fun os started H enc _ => pullAdds_lifted os started H enc)
end Go.Proofs.Ytlebefopdnadaaa
