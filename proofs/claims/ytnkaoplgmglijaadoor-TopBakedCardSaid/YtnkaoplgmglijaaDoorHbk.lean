/- TopBaked holds of every input; the package's variables poor, rich and limits start as the program's text lays them (the card ties them to it). -/
import Derived.Test.YtnkaoplgmglijaaDoorFq
import Derived.Test.YtnkaoplgmglijaaDoorFbk
import Derived.Test.YtnkaoplgmglijaaDoorCards
import Derived.Test.YtnkaoplgmglijaaDoorTie
import Derived.SevenTiedAt
import Derived.Lib.SmallJoins
namespace Go.Proofs.YtnkaoplgmglijaaDoor
open Go.ChangeShapes Go.WideShapes Go.ChangeAt Go.RowKit
set_option maxRecDepth 100000 in
theorem topBaked_lifted (os : Os) (started : os.Started) (H : Type) (enc : TypeId × Value → H) :
 ReturnsInHanded {} Tryd.checked os 4 .any (fun w args => (Rows.topBakedSpec.pre enc Tryd.prog Tryd.f4 [] false w args ∧ laidMetH Tryd.prog laidM w) ∧ sizedMet enc Tryd.prog Tryd.f4 (OpenSpec.ofChange Rows.topBakedSpec) false w args)
  (Rows.topBakedSpec.post enc Tryd.prog Tryd.f4 false true false false) := by
 refine returnsInHanded_of_change_and (C := Tryd.checked) (X := fun w _ => laidMetH Tryd.prog laidM w) (fun _ _ _ hh h => h.of_heap hh) ownK started (by kernel_rfl) Tryd.func4
  (ChangeSpec.witness_shaped (enc := enc) (C := Tryd.checked) (os := os) (X := fun w _ => laidMetH Tryd.prog laidM w) false (World.doorLaid Tryd.prog 400 os) #[.agg #[I 0, I 0, I 0, I 0, I 0, I 0, I 0], .slice none 0 0, .agg #[.slice none 0 0, .int .u8 0, .int .u8 0, .bool false]] 8 rfl (World.shaped_of_RefB (by kernel_rfl) (by kernel_rfl)) (by kernel_rfl) (by kernel_rfl) (by kernel_rfl) (door_met os _)) ?_
 intro W base args ds gs before hval0 hW _ _ hL _
 have hval : ∀ (j : Nat) t v, Tryd.f4.params[j]? = some t → args[j]? = some v → Value.okWide Tryd.prog W .any base t v := hval0
 have hW' := hW
 obtain ⟨p, q, hA0, hV, rfl, _, _⟩ := hW
 have hA : DataW.TrodAll enc Tryd.prog W 0 (fun _ => true) true Tryd.f4.params.toList args.toList ds p := hA0
 rw [Tryd.params4] at hA hval
 obtain ⟨v0, v1, v2, d0, d1, d2, p0, p1, p2, rfl, rfl, rfl, h0, h1, h2⟩ := trodAll_three hA
 obtain ⟨rfl, rfl⟩ := trodVars_none hV
 clear hA0 hval0
 simp only [List.append_nil] at hW'
 have hlt : ∀ x, x ∈ p0 ∨ x ∈ p1 ∨ x ∈ p2 → x.block < W.heap.size := fun x hx => by
  have := hW'.lt x (by rcases hx with h | h | h <;> simp [h])
  simpa using this
 have hGl := of_laid hL
 obtain ⟨m, e0⟩ := open_melt (hval 0 27 v0 rfl rfl) h0
 obtain ⟨A1, c1, L1, e1, l1, m1, r1, z1⟩ := open_steps (hval 1 28 v1 rfl rfl) h1
 obtain ⟨A2, c2, L2, n2, s2, o2, e2, r2, n3, s3⟩ := open_baked (hval 2 54 v2 rfl rfl) h2
 have hc := topBaked_any m A1 c1 L1 A2 c2 L2 n2 s2 o2 W hGl r1 z1 (by omega) r2 n3 s3
 rw [← e0, ← e1, ← e2] at hc
 refine hc.mono fun e W' ⟨he, hb⟩ => ?_
 subst he
 have a0x := Below.trod laidOut (by kernel_rfl) (of_decide_eq_true (by kernel_rfl)) h0 hb (fun x hx => hlt x (Or.inl hx))
 have a1x := Below.trod laidOut (by kernel_rfl) (of_decide_eq_true (by kernel_rfl)) h1 hb (fun x hx => hlt x (Or.inr (Or.inl hx)))
 have a2x := Below.trod laidOut (by kernel_rfl) (of_decide_eq_true (by kernel_rfl)) h2 hb (fun x hx => hlt x (Or.inr (Or.inr hx)))
 exact ⟨_, rfl, ⟨_, _, _, [], _, [], hW', trodAll_mk1 (shut_bool Tryd.underlying4 _), trodAll_mk3 a0x a1x a2x, rfl, hb.frame _, fun h => by cases h⟩⟩
theorem topBaked_said : Rows.TopBakedSaid :=
 OpenClaim.holds_of_wide 4 Tryd.f4 rfl rfl rfl rfl rfl rfl rfl ⟨rfl, rfl, rfl, rfl, rfl⟩ rfl rfl rfl rfl rfl (by kernel_rfl) Tryd.func4 (by kernel_rfl)
  (of_decide_eq_true (by kernel_rfl)) (by unfold Func.isWrapper; first | (rw [if_pos (by decide +kernel)]; kernel_rfl) | (rw [if_neg (by decide +kernel)]; exact ⟨rfl, rfl⟩))
  (fun os started H enc _ => topBaked_lifted os started H enc)
theorem topBakedCard_holds : Rows.TopBakedCardSaid :=
 Claim7.holds_tied_plain_at .later [] [.data, .wider, .wider] true (true, "0aeb92e8cc2e052ef3ac5b173043bdbc811f9830d66b16f9bd7ee5a0dfbfcc54") false
  topBaked_said (fun _ h => by cases h) (by kernel_rfl) (fun _ h => by cases h) topBaked_row_tie rfl ⟨rfl, rfl⟩ (by kernel_rfl) rfl
  (fun f fn hf hfn => by
   obtain rfl : f = 4 := Option.some.inj ((show Tryd.prog.funcNamed "boule/bouletop.TopBaked" = some 4 by kernel_rfl).symm.trans hf) |>.symm
   obtain rfl : fn = Tryd.f4 := (Option.some.inj (Tryd.func4.symm.trans hfn)).symm
   exact ⟨by kernel_rfl, fun j t ht => by
        rw [Tryd.params4] at ht
        have hm : t ∈ [27, 28, 54] := by simpa using Array.mem_of_getElem? ht
        have hall : ([27, 28, 54].all fun u => !Tryd.prog.wantsStandIn u) = true := by kernel_rfl
        exact (show Tryd.prog.wantsStandIn t = false by simpa using List.all_eq_true.1 hall t hm)⟩)
  (by kernel_rfl)
end Go.Proofs.YtnkaoplgmglijaaDoor
