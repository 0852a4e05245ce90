/- DefectWindowHolds holds of every input, without a condition: the joined row. -/
import Derived.Test.YteibgenkklpoaaaFdg
import Derived.Test.YteibgenkklpoaaaFds
import Derived.Test.YteibgenkklpoaaaLwn
namespace Go.Proofs.Yteibgenkklpoaaa
open Go.ChangeShapes Go.WideShapes Go.ChangeAt Go.RowKit
set_option maxRecDepth 100000 in
theorem defectWindowHolds_lifted (os : Os) (started : os.Started) (H : Type) (enc : TypeId × Value → H) :
    ReturnsInHanded {} Try.checked os 5 .any (Rows.defectWindowHoldsSpec.pre6 enc Try.prog Try.f5 Rows.defectWindowHoldsRow.domain false) (Rows.defectWindowHoldsSpec.post enc Try.prog Try.f5 false true false false) := by
  refine returnsInHanded_of_change_sized (C := Try.checked) Un.ownK started (by kernel_rfl) Try.func5
    (ChangeSpec.witness6 (enc := enc) (C := Try.checked) false ⟨#[], #[.agg #[I 0, I 0, I 0, I 0, I 0, I 0, I 0, I 0, I 0], .agg #[.slice none 0 0, .int .u8 0, I 0], .agg #[.int .u16 0, .int .u16 0, .int .u16 0, .int .u16 0, .int .u16 0, .int .u16 0]], []⟩ 8 (by kernel_rfl) (by kernel_rfl) (by kernel_rfl) (by kernel_rfl)) ?_
  intro W base args ds gs before hval0 hW _ hsz0 _
  have hval : ∀ (j : Nat) t v, Try.f5.params[j]? = some t → args[j]? = some v → Value.okWide Try.prog W .any base t v := hval0
  have hW' := hW
  obtain ⟨p, q, hA0, hV, rfl, _, _⟩ := hW
  have hA : DataW.TrodAll enc Try.prog W 0 (fun _ => true) true Try.f5.params.toList args.toList ds p := hA0
  rw [Try.params5] at hA hval
  obtain ⟨v0, v1, v2, d0, d1, d2, p0, p1, p2, rfl, rfl, rfl, h0, h1, h2⟩ := trodAll_three hA
  obtain ⟨rfl, rfl⟩ := trodVars_none hV
  clear hA0 hval0
  simp only [List.append_nil] at hW'
  have hlt : ∀ x, x ∈ p0 ∨ x ∈ p1 ∨ x ∈ p2 → x.block < W.heap.size := fun x hx => by
    have := hW'.lt x (by rcases hx with h | h | h <;> simp [h])
    simpa using this
  obtain ⟨m0, e0⟩ := Un.open_mdl (hval 0 26 v0 rfl rfl) h0
  obtain ⟨A1, c1, L1, u1, i1, e1, l1, q1, k1⟩ := Un.open_asked (hval 1 43 v1 rfl rfl) h1
  obtain ⟨t2, x2, y2, e2, k2⟩ := Un.open_truth (hval 2 47 v2 rfl rfl) h2
  have hsz : ∀ k ∈ d1.weights Try.prog 43, k ≤ reachBytes := fun k hk => by
    have h9 := List.all_eq_true.1 hsz0 k (DataW.weights_mem_each (P := Try.prog) (j := 1) (t := 43) (d := d1) rfl rfl k hk)
    simpa using h9
  have h1' := h1
  rw [e1] at h1'
  have hfit : Un.Fits L1.length := ⟨l1, Un.asked_sized h1' hsz⟩
  have hc := Un.defectWindowHolds_any m0 A1 c1 L1 u1 i1 t2 x2 y2 W hfit q1 k1 k2
  rw [← e0, ← e1, ← e2] at hc
  refine hc.mono fun e W' ⟨he, hb⟩ => ?_
  subst he
  have a0x := Below.trod Un.laidOut (by kernel_rfl) (of_decide_eq_true (by kernel_rfl)) h0 hb (fun x hx => hlt x (Or.inl hx))
  have a1x := Below.trod Un.laidOut (by kernel_rfl) (of_decide_eq_true (by kernel_rfl)) h1 hb (fun x hx => hlt x (Or.inr (Or.inl hx)))
  have a2x := Below.trod Un.laidOut (by kernel_rfl) (of_decide_eq_true (by kernel_rfl)) h2 hb (fun x hx => hlt x (Or.inr (Or.inr hx)))
  exact ⟨_, rfl, ⟨_, _, _, [], _, [], hW', trodAll_mk1 (shut_bool Try.underlying4 _), trodAll_mk3 a0x a1x a2x, rfl, hb.frame _, fun h => by cases h⟩⟩
theorem defectWindowHolds_holds : Rows.DefectWindowHoldsSaid :=
  OpenClaim.holds_of_wide 5 Try.f5 rfl rfl rfl rfl rfl rfl rfl ⟨rfl, rfl, rfl, rfl, rfl⟩ rfl rfl rfl rfl rfl (by kernel_rfl) Try.func5 (by kernel_rfl)
    (of_decide_eq_true (by kernel_rfl)) (by unfold Func.isWrapper; rw [if_neg (of_decide_eq_false (by kernel_rfl))]; exact ⟨rfl, rfl⟩)
    (fun os started H enc _ => defectWindowHolds_lifted os started H enc)
end Go.Proofs.Yteibgenkklpoaaa
