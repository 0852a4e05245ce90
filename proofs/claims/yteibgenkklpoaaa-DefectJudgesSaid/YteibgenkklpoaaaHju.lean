/- DefectJudges holds of every input, without a condition: the joined row. -/
import Derived.Test.YteibgenkklpoaaaFdf
import Derived.Test.YteibgenkklpoaaaLrg
namespace Go.Proofs.Yteibgenkklpoaaa
open Go.ChangeShapes Go.WideShapes Go.ChangeAt Go.RowKit
set_option maxRecDepth 100000 in
theorem defectJudges_lifted (os : Os) (started : os.Started) (H : Type) (enc : TypeId × Value → H) :
    ReturnsInHanded {} Try.checked os 7 .any (Rows.defectJudgesSpec.pre6 enc Try.prog Try.f7 Rows.defectJudgesRow.domain false) (Rows.defectJudgesSpec.post enc Try.prog Try.f7 false true false false) := by
  refine returnsInHanded_of_change (C := Try.checked) Un.ownK started (by kernel_rfl) Try.func7
    (ChangeSpec.witness6 (enc := enc) (C := Try.checked) false ⟨#[], #[.int .u8 0, .int .u8 0], []⟩ 8 (by kernel_rfl) (by kernel_rfl) (by kernel_rfl) (by kernel_rfl)) ?_
  intro W base args ds gs before hval0 hW _ _
  have hval : ∀ (j : Nat) t v, Try.f7.params[j]? = some t → args[j]? = some v → Value.okWide Try.prog W .any base t v := hval0
  have hW' := hW
  obtain ⟨p, q, hA0, hV, rfl, _, _⟩ := hW
  have hA : DataW.TrodAll enc Try.prog W 0 (fun _ => true) true Try.f7.params.toList args.toList ds p := hA0
  rw [Try.params7] at hA hval
  obtain ⟨v0, v1, d0, d1, p0, p1, rfl, rfl, rfl, h0, h1⟩ := trodAll_two hA
  obtain ⟨rfl, rfl⟩ := trodVars_none hV
  clear hA0 hval0
  simp only [List.append_nil] at hW'
  have hlt : ∀ x, x ∈ p0 ∨ x ∈ p1 → x.block < W.heap.size := fun x hx => by
    have := hW'.lt x (by rcases hx with h | h <;> simp [h])
    simpa using this
  obtain ⟨a0, e0, k0⟩ := Un.open_u8 (hval 0 5 v0 rfl rfl) h0
  obtain ⟨a1, e1, k1⟩ := Un.open_u8 (hval 1 5 v1 rfl rfl) h1
  have hc := Un.defectJudges_any a0 a1 W k0 k1
  rw [← e0, ← e1] at hc
  refine hc.mono fun e W' ⟨he, hb⟩ => ?_
  subst he
  have a0x := Below.trod Un.laidOut (by kernel_rfl) (of_decide_eq_true (by kernel_rfl)) h0 hb (fun x hx => hlt x (Or.inl hx))
  have a1x := Below.trod Un.laidOut (by kernel_rfl) (of_decide_eq_true (by kernel_rfl)) h1 hb (fun x hx => hlt x (Or.inr hx))
  exact ⟨_, rfl, ⟨_, _, _, [], _, [], hW', trodAll_mk1 (shut_bool Try.underlying4 _), trodAll_mk2 a0x a1x, rfl, hb.frame _, fun h => by cases h⟩⟩
theorem defectJudges_holds : Rows.DefectJudgesSaid :=
  OpenClaim.holds_of_wide 7 Try.f7 rfl rfl rfl rfl rfl rfl rfl ⟨rfl, rfl, rfl, rfl, rfl⟩ rfl rfl rfl rfl rfl (by kernel_rfl) Try.func7 (by kernel_rfl)
    (of_decide_eq_true (by kernel_rfl)) (by unfold Func.isWrapper; rw [if_neg (of_decide_eq_false (by kernel_rfl))]; exact ⟨rfl, rfl⟩)
    (fun os started H enc _ => defectJudges_lifted os started H enc)
end Go.Proofs.Yteibgenkklpoaaa
