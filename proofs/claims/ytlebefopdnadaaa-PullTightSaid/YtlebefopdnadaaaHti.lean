/- PullTight holds of every puller, every run, every crystal and time, without a condition: the joined row. -/
import Derived.Test.YtlebefopdnadaaaFma
import Derived.Test.YtlebefopdnadaaaFd
import Derived.Test.YtlebefopdnadaaaLti
namespace Go.Proofs.Ytlebefopdnadaaa
open Go.ChangeShapes Go.WideShapes Go.ChangeAt Go.RowKit
theorem ownK : ownKnob Try.prog.godebug = none := by kernel_rfl
theorem laidOut : laidOutB Try.prog = true := by kernel_rfl
set_option maxRecDepth 100000 in
theorem pullTight_lifted (os : Os) (started : os.Started) (H : Type) (enc : TypeId × Value → H) :
    ReturnsInHanded {} Try.checked os 9 .any (Rows.pullTightSpec.pre6 enc Try.prog Try.f9 Rows.pullTightRow.domain false) (Rows.pullTightSpec.post enc Try.prog Try.f9 false true false false) := by
  refine returnsInHanded_of_change (C := Try.checked) ownK started (by kernel_rfl) Try.func9
    (ChangeSpec.witness6 (enc := enc) (C := Try.checked) false ⟨#[], #[.agg (ia 117 fun _ => 0), .agg #[.slice none 0 0, .int .i64 0, .slice none 0 0, .slice none 0 0], .agg #[.int .u16 0, .slice none 0 0, .slice none 0 0, .slice none 0 0, .int .u16 0]], []⟩ 8 (by kernel_rfl) (by kernel_rfl) (by kernel_rfl) (by kernel_rfl)) ?_
  intro W base args ds gs before hval0 hW _ _
  have hval : ∀ (j : Nat) t v, Try.f9.params[j]? = some t → args[j]? = some v → Value.okWide Try.prog W .any base t v := hval0
  have hW' := hW
  obtain ⟨p, q, hA0, hV, rfl, _, _⟩ := hW
  have hA : DataW.TrodAll enc Try.prog W 0 (fun _ => true) true Try.f9.params.toList args.toList ds p := hA0
  rw [Try.params9] at hA hval
  obtain ⟨v0, v1, v2, d0, d1, d2, p0, p1, p2, rfl, rfl, rfl, h0, h1, h2⟩ := trodAll_three hA
  obtain ⟨rfl, rfl⟩ := trodVars_none hV
  clear hA0 hval0
  simp only [List.append_nil] at hW'
  have hlt : ∀ x, x ∈ p0 ∨ x ∈ p1 ∨ x ∈ p2 → x.block < W.heap.size := fun x hx => by
    have := hW'.lt x (by simpa using hx)
    simpa using this
  obtain ⟨P, e0⟩ := open_puller Try.underlying30 (hval 0 30 v0 rfl rfl) h0
  obtain ⟨A1, A2, A3, c1, c2, c3, R, e1, _, k1, k2, k3⟩ := open_run Try.underlying35 (by kernel_rfl) (by kernel_rfl) Try.underlying31 Try.underlying3 Try.underlying32 Try.underlying33 (hval 1 35 v1 rfl rfl) h1
  obtain ⟨B1, B2, B3, b1, b2, b3, X, M, e2, k4, k5⟩ := open_tgh Try.underlying93 (by kernel_rfl) rfl rfl rfl (by kernel_rfl) Try.underlying80 Try.underlying85 (by kernel_rfl) (by kernel_rfl) Try.underlying80 Try.underlying81 Try.underlying82 Try.underlying83 (hval 2 93 v2 rfl rfl) h2
  have hc := pullTight_any P A1 A2 A3 c1 c2 c3 R B1 B2 B3 b1 b2 b3 X M k5 W k1 k2 k3 k4
  rw [← e0, ← e1, ← e2] at hc
  refine hc.mono fun e W' ⟨he, hb⟩ => ?_
  subst he
  have a0 := Below.trod laidOut (by kernel_rfl) (of_decide_eq_true (by kernel_rfl)) h0 hb (fun x hx => hlt x (Or.inl hx))
  have a1 := Below.trod laidOut (by kernel_rfl) (of_decide_eq_true (by kernel_rfl)) h1 hb (fun x hx => hlt x (Or.inr (Or.inl hx)))
  have a2 := Below.trod laidOut (by kernel_rfl) (of_decide_eq_true (by kernel_rfl)) h2 hb (fun x hx => hlt x (Or.inr (Or.inr hx)))
  exact ⟨_, rfl, ⟨_, _, _, [], _, [], hW', trodAll_mk1 (shut_bool Try.underlying4 _), trodAll_mk3 a0 a1 a2, rfl, hb.frame _, fun h => by cases h⟩⟩
theorem pullTight_holds : Rows.PullTightSaid :=
  OpenClaim.holds_of_wide 9 Try.f9 rfl rfl rfl rfl rfl rfl rfl ⟨rfl, rfl, rfl, rfl, rfl⟩ rfl rfl rfl rfl rfl (by kernel_rfl) Try.func9 (by kernel_rfl)
    (of_decide_eq_true (by kernel_rfl)) (by unfold Func.isWrapper; rw [if_neg (of_decide_eq_false (by kernel_rfl))]; exact ⟨rfl, rfl⟩)
    (fun os started H enc _ => pullTight_lifted os started H enc)
end Go.Proofs.Ytlebefopdnadaaa
