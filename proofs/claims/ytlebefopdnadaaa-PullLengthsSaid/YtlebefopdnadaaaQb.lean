/- A region that draws its order, whose operations only read or call functions that leave alone what was there: one walk in the order of the text serves every order. -/
import Derived.Test.YtlebefopdnadaaaAgg
namespace Go.Proofs.Ytlebefopdnadaaa
open Go.RowKit Classical
/-- u, if it is as W below the end of W's memory; else W. -/
noncomputable def ovr (W u : World) : World := if Below W.heap.size W u then u else W
theorem ovr_below (W u : World) : Below W.heap.size W (ovr W u) := by
  unfold ovr
  split
  · assumption
  · exact Below.refl _ _
theorem ovr_of {W u : World} (h : Below W.heap.size W u) : u = ovr W u := by unfold ovr; rw [if_pos h]
theorem ovr_cell {W : World} {b o : Nat} {v : Value} (h : W.cell? ⟨b, o, none⟩ = some v) (u : World) : (ovr W u).cell? ⟨b, o, none⟩ = some v :=
  ((ovr_below W u).cell (p := ⟨b, o, none⟩) (block_lt_of_cell h)).trans h
theorem wp_region_below_lit {P : Program} {id : Nat} {Q : Exit → Act → World → Prop} {a : Act} {w : World} {l : List Oper} (hm : P.follows .mixedOrders = true) (hB : Region.lexB .any l.toArray = true)
    (h : wpQuiet P l.toArray (fun w' => ∃ u, w' = ovr w u) (fun a' => ∀ w', Below w.heap.size w w' → Q .normal a' w') l a) : (Code.region id l.toArray true).wp P Q a w := by
  refine wp_region_quiet (C := fun w' => ∃ u, w' = ovr w u) hm hB ⟨w.drew, ovr_of (Below.refl _ _).drew⟩ ?_
  have e : (fun a' => ∀ w', Below w.heap.size w w' → Q .normal a' w') = (fun a' => ∀ w', (∃ u, w' = ovr w u) → Q .normal a' w') := by
    funext a'
    apply propext
    constructor
    · rintro h w' ⟨u, rfl⟩; exact h _ (ovr_below _ _)
    · intro h w' hb; exact h w' ⟨w', ovr_of hb⟩
  rw [e] at h
  simpa using h
theorem call_below {P : Program} {f : FuncId} {args : Array Value} {w u : World} {v : Value} (h : Calls P f args (ovr w u) fun e w' => e = .returned v ∧ Below (ovr w u).heap.size (ovr w u) w') :
    Calls P f args (ovr w u) fun e w' => e = .returned v ∧ ∃ m, w' = ovr w m :=
  h.mono fun _ w' ⟨he, hb⟩ => ⟨he, w', ovr_of ((ovr_below w u).trans (hb.mono (ovr_below w u).size))⟩
end Go.Proofs.Ytlebefopdnadaaa
