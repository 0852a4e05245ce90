/- FinishBetween holds of every input, without a condition: the joined row. -/
import Derived.Test.YtljjpidigckheaaFbt
import Derived.Test.YtljjpidigckheaaLbt
namespace Go.Proofs.Ytljjpidigckheaa
open Go.ChangeShapes Go.WideShapes Go.ChangeAt Go.RowKit
set_option maxRecDepth 100000 in
theorem finishBetween_lifted (os : Os) (started : os.Started) (H : Type) (enc : TypeId × Value → H) :
 ReturnsInHanded {} Try.checked os 13 .any (Rows.finishBetweenSpec.pre6 enc Try.prog Try.f13 Rows.finishBetweenRow.domain false) (Rows.finishBetweenSpec.post enc Try.prog Try.f13 false true false false) := by
 refine returnsInHanded_of_change (C := Try.checked) Un.ownK started (by kernel_rfl) Try.func13
  (ChangeSpec.witness6 (enc := enc) (C := Try.checked) false ⟨#[], #[.agg #[I 0, I 0, I 0, I 0, .slice none 0 0], .slice none 0 0], []⟩ 8 (by kernel_rfl) (by kernel_rfl) (by kernel_rfl) (by kernel_rfl)) ?_
 intro W base args ds gs before hval0 hW _ _
 have hval : ∀ (j : Nat) t v, Try.f13.params[j]? = some t → args[j]? = some v → Value.okWide Try.prog W .any base t v := hval0
 have hW' := hW
 obtain ⟨p, q, hA0, hV, rfl, _, _⟩ := hW
 have hA : DataW.TrodAll enc Try.prog W 0 (fun _ => true) true Try.f13.params.toList args.toList ds p := hA0
 rw [Try.params13] at hA hval
 obtain ⟨v0, v1, d0, d1, p0, p1, rfl, rfl, rfl, h0, h1⟩ := trodAll_two hA
 obtain ⟨rfl, rfl⟩ := trodVars_none hV
 clear hA0 hval0
 simp only [List.append_nil] at hW'
 have hlt : ∀ x, x ∈ p0 ∨ x ∈ p1 → x.block < W.heap.size := fun x hx => by
  have := hW'.lt x (by rcases hx with h | h <;> simp [h])
  simpa using this
 obtain ⟨x0, A0, n0, e0, l0, r0⟩ := Un.open_sheet (hval 0 37 v0 rfl rfl) h0
 obtain ⟨A1, c1, L1, e1, l1, q1, r1, z1⟩ := Un.open_listH (hval 1 78 v1 rfl rfl) h1
 have hc := Un.finishBetween_any x0 A0 n0 A1 c1 L1 W l0 r0 r1 z1
 rw [← e0, ← e1] at hc
 refine hc.mono fun e W' ⟨he, hb⟩ => ?_
 subst he
 have a0x := Below.trod Un.laidOut (by kernel_rfl) (of_decide_eq_true (by kernel_rfl)) h0 hb (fun x hx => hlt x (Or.inl hx))
 have a1x := Below.trod Un.laidOut (by kernel_rfl) (of_decide_eq_true (by kernel_rfl)) h1 hb (fun x hx => hlt x (Or.inr hx))
 exact ⟨_, rfl, ⟨_, _, _, [], _, [], hW', trodAll_mk1 (shut_bool Try.underlying4 _), trodAll_mk2 a0x a1x, rfl, hb.frame _, fun h => by cases h⟩⟩
theorem finishBetween_holds : Rows.FinishBetweenSaid :=
 OpenClaim.holds_of_wide 13 Try.f13 rfl rfl rfl rfl rfl rfl rfl ⟨rfl, rfl, rfl, rfl, rfl⟩ rfl rfl rfl rfl rfl (by kernel_rfl) Try.func13 (by kernel_rfl)
  (of_decide_eq_true (by kernel_rfl)) (by unfold Func.isWrapper; rw [if_neg (of_decide_eq_false (by kernel_rfl))]; exact ⟨rfl, rfl⟩)
  (fun os started H enc _ => finishBetween_lifted os started H enc)
end Go.Proofs.Ytljjpidigckheaa
