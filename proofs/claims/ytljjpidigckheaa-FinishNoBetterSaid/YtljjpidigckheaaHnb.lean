/- FinishNoBetter holds of every input, without a condition: the joined row. -/
import Derived.Test.YtljjpidigckheaaFnb
import Derived.Test.YtljjpidigckheaaLnb
namespace Go.Proofs.Ytljjpidigckheaa
open Go.ChangeShapes Go.WideShapes Go.ChangeAt Go.RowKit
set_option maxRecDepth 100000 in
theorem finishNoBetter_lifted (os : Os) (started : os.Started) (H : Type) (enc : TypeId × Value → H) :
 ReturnsInHanded {} Try.checked os 12 .any (Rows.finishNoBetterSpec.pre6 enc Try.prog Try.f12 Rows.finishNoBetterRow.domain false) (Rows.finishNoBetterSpec.post enc Try.prog Try.f12 false true false false) := by
 refine returnsInHanded_of_change (C := Try.checked) Un.ownK started (by kernel_rfl) Try.func12
  (ChangeSpec.witness6 (enc := enc) (C := Try.checked) false ⟨#[], #[I 0, I 0, .agg #[.slice none 0 0, .int .i16 0, .int .i16 0, .int .i32 0, .int .u8 0, .int .i8 0, .int .i8 0, .int .i8 0]], []⟩ 8 (by kernel_rfl) (by kernel_rfl) (by kernel_rfl) (by kernel_rfl)) ?_
 intro W base args ds gs before hval0 hW _ _
 have hval : ∀ (j : Nat) t v, Try.f12.params[j]? = some t → args[j]? = some v → Value.okWide Try.prog W .any base t v := hval0
 have hW' := hW
 obtain ⟨p, q, hA0, hV, rfl, _, _⟩ := hW
 have hA : DataW.TrodAll enc Try.prog W 0 (fun _ => true) true Try.f12.params.toList args.toList ds p := hA0
 rw [Try.params12] at hA hval
 obtain ⟨v0, v1, v2, d0, d1, d2, p0, p1, p2, rfl, rfl, rfl, h0, h1, h2⟩ := trodAll_three hA
 obtain ⟨rfl, rfl⟩ := trodVars_none hV
 clear hA0 hval0
 simp only [List.append_nil] at hW'
 have hlt : ∀ x, x ∈ p0 ∨ x ∈ p1 ∨ x ∈ p2 → x.block < W.heap.size := fun x hx => by
  have := hW'.lt x (by rcases hx with h | h | h <;> simp [h])
  simpa using this
 obtain ⟨a0, e0, k0⟩ := Un.open_intF (hval 0 3 v0 rfl rfl) h0
 obtain ⟨a1, e1, k1⟩ := Un.open_intF (hval 1 3 v1 rfl rfl) h1
 obtain ⟨HA2, Hn2, HL2, ta2, tb2, tc2, td2, aa2, ab2, ac2, e2, l2, q2, r2, b2⟩ := Un.open_heights (hval 2 101 v2 rfl rfl) h2
 have hc := Un.finishNoBetter_any a0 a1 HA2 Hn2 HL2 ta2 tb2 tc2 td2 aa2 ab2 ac2 W k0 k1 l2 q2 r2 b2
 rw [← e0, ← e1, ← e2] at hc
 refine hc.mono fun e W' ⟨he, hb⟩ => ?_
 subst he
 have a0x := Below.trod Un.laidOut (by kernel_rfl) (of_decide_eq_true (by kernel_rfl)) h0 hb (fun x hx => hlt x (Or.inl hx))
 have a1x := Below.trod Un.laidOut (by kernel_rfl) (of_decide_eq_true (by kernel_rfl)) h1 hb (fun x hx => hlt x (Or.inr (Or.inl hx)))
 have a2x := Below.trod Un.laidOut (by kernel_rfl) (of_decide_eq_true (by kernel_rfl)) h2 hb (fun x hx => hlt x (Or.inr (Or.inr hx)))
 exact ⟨_, rfl, ⟨_, _, _, [], _, [], hW', trodAll_mk1 (shut_bool Try.underlying4 _), trodAll_mk3 a0x a1x a2x, rfl, hb.frame _, fun h => by cases h⟩⟩
theorem finishNoBetter_holds : Rows.FinishNoBetterSaid :=
 OpenClaim.holds_of_wide 12 Try.f12 rfl rfl rfl rfl rfl rfl rfl ⟨rfl, rfl, rfl, rfl, rfl⟩ rfl rfl rfl rfl rfl (by kernel_rfl) Try.func12 (by kernel_rfl)
  (of_decide_eq_true (by kernel_rfl)) (by unfold Func.isWrapper; rw [if_neg (of_decide_eq_false (by kernel_rfl))]; exact ⟨rfl, rfl⟩)
  (fun os started H enc _ => finishNoBetter_lifted os started H enc)
end Go.Proofs.Ytljjpidigckheaa
