/- TopOxygenRead holds of every input, without a condition: the joined row. -/
import Derived.Test.YtliolnfcgaflcaaGreatFoy
import Derived.Test.YtliolnfcgaflcaaGreatLoy
namespace Go.Proofs.YtliolnfcgaflcaaGreat
open Go.ChangeShapes Go.WideShapes Go.ChangeAt Go.RowKit
set_option maxRecDepth 100000 in
theorem topOxygenRead_lifted (os : Os) (started : os.Started) (H : Type) (enc : TypeId × Value → H) :
 ReturnsInHanded {} Tryz.checked os 4 .any (Rows.topOxygenReadSpec.pre6 enc Tryz.prog Tryz.f4 Rows.topOxygenReadRow.domain false) (Rows.topOxygenReadSpec.post enc Tryz.prog Tryz.f4 false true false false) := by
 refine returnsInHanded_of_change (C := Tryz.checked) Un.ownK started (by kernel_rfl) Tryz.func4
  (ChangeSpec.witness6 (enc := enc) (C := Tryz.checked) false ⟨#[], #[.slice none 0 0, .slice none 0 0, .agg #[I 0, I 0, I 0, I 0, I 0, I 0, .int .u8 0]], []⟩ 8 (by kernel_rfl) (by kernel_rfl) (by kernel_rfl) (by kernel_rfl)) ?_
 intro W base args ds gs before hval0 hW _ _
 have hval : ∀ (j : Nat) t v, Tryz.f4.params[j]? = some t → args[j]? = some v → Value.okWide Tryz.prog W .any base t v := hval0
 have hW' := hW
 obtain ⟨p, q, hA0, hV, rfl, _, _⟩ := hW
 have hA : DataW.TrodAll enc Tryz.prog W 0 (fun _ => true) true Tryz.f4.params.toList args.toList ds p := hA0
 rw [Tryz.params4] at hA hval
 obtain ⟨v0, v1, v2, d0, d1, d2, p0, p1, p2, rfl, rfl, rfl, h0, h1, h2⟩ := trodAll_three hA
 obtain ⟨rfl, rfl⟩ := trodVars_none hV
 clear hA0 hval0
 simp only [List.append_nil] at hW'
 have hlt : ∀ x, x ∈ p0 ∨ x ∈ p1 ∨ x ∈ p2 → x.block < W.heap.size := fun x hx => by
  have := hW'.lt x (by rcases hx with h | h | h <;> simp [h])
  simpa using this
 obtain ⟨A0, c0, L0, e0, l0, q0, r0⟩ := Un.open_gauges (hval 0 22 v0 rfl rfl) h0
 obtain ⟨A1, c1, L1, e1, l1, q1, r1⟩ := Un.open_heat (hval 1 42 v1 rfl rfl) h1
 obtain ⟨g2, y2, x2, q2, b2, e2, k2⟩ := Un.open_read (hval 2 29 v2 rfl rfl) h2
 have hc := Un.topOxygenRead_any A0 c0 L0 A1 c1 L1 g2 y2 x2 q2 b2 W r0 r1 k2
 rw [← e0, ← e1, ← e2] at hc
 refine hc.mono fun e W' ⟨he, hb⟩ => ?_
 subst he
 have a0x := Below.trod Un.laidOut (by kernel_rfl) (of_decide_eq_true (by kernel_rfl)) h0 hb (fun x hx => hlt x (Or.inl hx))
 have a1x := Below.trod Un.laidOut (by kernel_rfl) (of_decide_eq_true (by kernel_rfl)) h1 hb (fun x hx => hlt x (Or.inr (Or.inl hx)))
 have a2x := Below.trod Un.laidOut (by kernel_rfl) (of_decide_eq_true (by kernel_rfl)) h2 hb (fun x hx => hlt x (Or.inr (Or.inr hx)))
 exact ⟨_, rfl, ⟨_, _, _, [], _, [], hW', trodAll_mk1 (shut_bool Tryz.underlying4 _), trodAll_mk3 a0x a1x a2x, rfl, hb.frame _, fun h => by cases h⟩⟩
theorem topOxygenRead_holds : Rows.TopOxygenReadSaid :=
 OpenClaim.holds_of_wide 4 Tryz.f4 rfl rfl rfl rfl rfl rfl rfl ⟨rfl, rfl, rfl, rfl, rfl⟩ rfl rfl rfl rfl rfl (by kernel_rfl) Tryz.func4 (by kernel_rfl)
  (of_decide_eq_true (by kernel_rfl)) (by unfold Func.isWrapper; rw [if_neg (of_decide_eq_false (by kernel_rfl))]; exact ⟨rfl, rfl⟩)
  (fun os started H enc _ => topOxygenRead_lifted os started H enc)
end Go.Proofs.YtliolnfcgaflcaaGreat
