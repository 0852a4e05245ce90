/- FinishAparts holds of every input, without a condition: the joined row. -/
import Derived.Test.YtljjpidigckheaaFfb
import Derived.Test.YtljjpidigckheaaLap
namespace Go.Proofs.Ytljjpidigckheaa.Un
open Go.RowKit
theorem finishAparts_all (BA : Option Addr) (bn : Nat) (bs : List Rng) (a : Trt) (A : Option Addr) (n : Nat) (b : Trt) (C : Option Addr) (m : Nat) (w : World) (_ : bs.length ≤ bn) (_ : bn ≤ maxLen) (hx : Rd w w.heap.size 2 BA bs.length (rR bs)) (_ : a.b.length ≤ n ∧ n ≤ maxLen) (ha : Rd w w.heap.size 1 A a.b.length (rI a.b)) (_ : b.b.length ≤ m ∧ m ≤ maxLen) (hb : Rd w w.heap.size 1 C b.b.length (rI b.b)) :
    Calls Try.prog 9 #[.slice BA bs.length bn, .agg (trA a A n), .agg (trA b C m)] w fun e w' => e = .returned (.bool true) ∧ Below w.heap.size w w' := finishAparts_any bs BA bn a b A C n m w hx ha hb
end Go.Proofs.Ytljjpidigckheaa.Un
namespace Go.Proofs.Ytljjpidigckheaa
open Go.ChangeShapes Go.WideShapes Go.ChangeAt Go.RowKit
set_option maxRecDepth 100000 in
theorem finishAparts_lifted (os : Os) (started : os.Started) (H : Type) (enc : TypeId × Value → H) :
    ReturnsInHanded {} Try.checked os 9 .any (Rows.finishApartsSpec.pre6 enc Try.prog Try.f9 Rows.finishApartsRow.domain false) (Rows.finishApartsSpec.post enc Try.prog Try.f9 false true false false) := by
  refine returnsInHanded_of_change (C := Try.checked) Un.ownK started (by kernel_rfl) Try.func9
    (ChangeSpec.witness6 (enc := enc) (C := Try.checked) false ⟨#[], #[.slice none 0 0, .agg #[I 0, I 0, .slice none 0 0], .agg #[I 0, I 0, .slice none 0 0]], []⟩ 8 (by kernel_rfl) (by kernel_rfl) (by kernel_rfl) (by kernel_rfl)) ?_
  intro W base args ds gs before hval0 hW _ _
  have hval : ∀ (j : Nat) t v, Try.f9.params[j]? = some t → args[j]? = some v → Value.okWide Try.prog W .any base t v := hval0
  have hW' := hW
  obtain ⟨p, q, hA0, hV, rfl, _, _⟩ := hW
  have hA : DataW.TrodAll enc Try.prog W 0 (fun _ => true) true Try.f9.params.toList args.toList ds p := hA0
  rw [Try.params9] at hA hval
  obtain ⟨v0, v1, v2, d0, d1, d2, p0, p1, p2, rfl, rfl, rfl, h0, h1, h2⟩ := trodAll_three hA
  obtain ⟨rfl, rfl⟩ := trodVars_none hV
  clear hA0 hval0
  simp only [List.append_nil] at hW'
  have hlt : ∀ x, x ∈ p0 ∨ x ∈ p1 ∨ x ∈ p2 → x.block < W.heap.size := fun x hx => by
    have := hW'.lt x (by rcases hx with h | h | h <;> simp [h])
    simpa using this
  obtain ⟨A0, c0, L0, e0, l0, q0, r0, z0⟩ := Un.open_listR (hval 0 35 v0 rfl rfl) h0
  obtain ⟨x1, A1, n1, e1, l1, r1⟩ := Un.open_treated (hval 1 72 v1 rfl rfl) h1
  obtain ⟨x2, A2, n2, e2, l2, r2⟩ := Un.open_treated (hval 2 72 v2 rfl rfl) h2
  have hc := Un.finishAparts_all A0 c0 L0 x1 A1 n1 x2 A2 n2 W l0 q0 r0 l1 r1 l2 r2
  rw [← e0, ← e1, ← e2] at hc
  refine hc.mono fun e W' ⟨he, hb⟩ => ?_
  subst he
  have a0x := Below.trod Un.laidOut (by kernel_rfl) (of_decide_eq_true (by kernel_rfl)) h0 hb (fun x hx => hlt x (Or.inl hx))
  have a1x := Below.trod Un.laidOut (by kernel_rfl) (of_decide_eq_true (by kernel_rfl)) h1 hb (fun x hx => hlt x (Or.inr (Or.inl hx)))
  have a2x := Below.trod Un.laidOut (by kernel_rfl) (of_decide_eq_true (by kernel_rfl)) h2 hb (fun x hx => hlt x (Or.inr (Or.inr hx)))
  exact ⟨_, rfl, ⟨_, _, _, [], _, [], hW', trodAll_mk1 (shut_bool Try.underlying4 _), trodAll_mk3 a0x a1x a2x, rfl, hb.frame _, fun h => by cases h⟩⟩
theorem finishAparts_holds : Rows.FinishApartsSaid :=
  OpenClaim.holds_of_wide 9 Try.f9 rfl rfl rfl rfl rfl rfl rfl ⟨rfl, rfl, rfl, rfl, rfl⟩ rfl rfl rfl rfl rfl (by kernel_rfl) Try.func9 (by kernel_rfl)
    (of_decide_eq_true (by kernel_rfl)) (by unfold Func.isWrapper; rw [if_neg (of_decide_eq_false (by kernel_rfl))]; exact ⟨rfl, rfl⟩)
    (fun os started H enc _ => finishAparts_lifted os started H enc)
end Go.Proofs.Ytljjpidigckheaa
