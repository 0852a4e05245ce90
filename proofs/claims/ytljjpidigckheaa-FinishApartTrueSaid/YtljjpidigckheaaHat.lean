/- FinishApartTrue holds of every input, without a condition: the joined row. -/
import Derived.Test.YtljjpidigckheaaFfd
import Derived.Test.YtljjpidigckheaaLat
namespace Go.Proofs.Ytljjpidigckheaa
open Go.ChangeShapes Go.WideShapes Go.ChangeAt Go.RowKit
set_option maxRecDepth 100000 in
theorem finishApartTrue_lifted (os : Os) (started : os.Started) (H : Type) (enc : TypeId × Value → H) :
    ReturnsInHanded {} Try.checked os 14 .any (Rows.finishApartTrueSpec.pre6 enc Try.prog Try.f14 Rows.finishApartTrueRow.domain false) (Rows.finishApartTrueSpec.post enc Try.prog Try.f14 false true false false) := by
  refine returnsInHanded_of_change (C := Try.checked) Un.ownK started (by kernel_rfl) Try.func14
    (ChangeSpec.witness6 (enc := enc) (C := Try.checked) false ⟨#[], #[.slice none 0 0, .agg #[I 0, I 0, .slice none 0 0, I 0, I 0, .slice none 0 0], .slice none 0 0], []⟩ 8 (by kernel_rfl) (by kernel_rfl) (by kernel_rfl) (by kernel_rfl)) ?_
  intro W base args ds gs before hval0 hW _ _
  have hval : ∀ (j : Nat) t v, Try.f14.params[j]? = some t → args[j]? = some v → Value.okWide Try.prog W .any base t v := hval0
  have hW' := hW
  obtain ⟨p, q, hA0, hV, rfl, _, _⟩ := hW
  have hA : DataW.TrodAll enc Try.prog W 0 (fun _ => true) true Try.f14.params.toList args.toList ds p := hA0
  rw [Try.params14] at hA hval
  obtain ⟨v0, v1, v2, d0, d1, d2, p0, p1, p2, rfl, rfl, rfl, h0, h1, h2⟩ := trodAll_three hA
  obtain ⟨rfl, rfl⟩ := trodVars_none hV
  clear hA0 hval0
  simp only [List.append_nil] at hW'
  have hlt : ∀ x, x ∈ p0 ∨ x ∈ p1 ∨ x ∈ p2 → x.block < W.heap.size := fun x hx => by
    have := hW'.lt x (by rcases hx with h | h | h <;> simp [h])
    simpa using this
  obtain ⟨A0, c0, L0, e0, l0, q0, r0, z0⟩ := Un.open_listR (hval 0 35 v0 rfl rfl) h0
  obtain ⟨x1, y1, A1, C1, n1, m1, e1, r1, s1⟩ := Un.open_two (hval 1 105 v1 rfl rfl) h1
  obtain ⟨A2, c2, L2, e2, l2, q2, r2, z2⟩ := Un.open_listH (hval 2 78 v2 rfl rfl) h2
  have hc := Un.finishApartTrue_any A0 c0 L0 x1 y1 A1 C1 n1 m1 A2 c2 L2 W r0 r1 s1 r2 z2
  rw [← e0, ← e1, ← e2] at hc
  refine hc.mono fun e W' ⟨he, hb⟩ => ?_
  subst he
  have a0x := Below.trod Un.laidOut (by kernel_rfl) (of_decide_eq_true (by kernel_rfl)) h0 hb (fun x hx => hlt x (Or.inl hx))
  have a1x := Below.trod Un.laidOut (by kernel_rfl) (of_decide_eq_true (by kernel_rfl)) h1 hb (fun x hx => hlt x (Or.inr (Or.inl hx)))
  have a2x := Below.trod Un.laidOut (by kernel_rfl) (of_decide_eq_true (by kernel_rfl)) h2 hb (fun x hx => hlt x (Or.inr (Or.inr hx)))
  exact ⟨_, rfl, ⟨_, _, _, [], _, [], hW', trodAll_mk1 (shut_bool Try.underlying4 _), trodAll_mk3 a0x a1x a2x, rfl, hb.frame _, fun h => by cases h⟩⟩
theorem finishApartTrue_holds : Rows.FinishApartTrueSaid :=
  OpenClaim.holds_of_wide 14 Try.f14 rfl rfl rfl rfl rfl rfl rfl ⟨rfl, rfl, rfl, rfl, rfl⟩ rfl rfl rfl rfl rfl (by kernel_rfl) Try.func14 (by kernel_rfl)
    (of_decide_eq_true (by kernel_rfl)) (by unfold Func.isWrapper; rw [if_neg (of_decide_eq_false (by kernel_rfl))]; exact ⟨rfl, rfl⟩)
    (fun os started H enc _ => finishApartTrue_lifted os started H enc)
end Go.Proofs.Ytljjpidigckheaa
