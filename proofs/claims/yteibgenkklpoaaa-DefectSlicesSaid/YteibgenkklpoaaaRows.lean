/-
  No cell of these rows narrows 'for every input' (looked for: loops, veiled, ifaces, maps, wideKeys, modest, calm, conditions, laid).
  DERIVED. THE GIVEN ROWS OF THIS SEAT. 8 by the template 'for every input the law returns true; each argument reads behind the call as it read before'; 0 by the template 'total and deterministic' (their statements: YteibgenkklpoaaaTotals.lean).
  GIVEN WITH THE SEED: the statements are not yours to turn. If you find one false, say at which input.
  Laid BY PROGRAM, IN A SANDBOX (cutbox-rows.mjs): the forced cells as the released guide's own fill.sh prints them over the translation 7712f76de7595711… (all of the seat's roots in one cut). By AI agents, Wed Nov 11 2026. No macro, syntax, notation, axiom, sorry.
-/
import Derived.Test.YteibgenkklpoaaaChecked
import GoSem.Claim
import GoSem.ClaimJoined
import GoSem.ClaimMapViews
import Derived.JoinedTies
import Derived.KernelRfl
namespace Go.Proofs.Yteibgenkklpoaaa
/- THE CELL 'sum', in the pinned program and in every row, IS THE sha256 OF THE DUMP (.gsa) THAT YteibgenkklpoaaaProg.lean LOADS. Nothing in Lean hashes anything: it is a label: what it is worth is what the hold of that sum in a sandbox is worth. -/
noncomputable def Try.pinned : Pinned := { name := "yteibgenkklpoaaa", sum := "7712f76de75957115398ab9c3dfad4580fb9e0cfc8fef22699fc1e0754cd0048", checked := Try.checked }
namespace Rows
def none {H : Type} : Left H := { results := [], args := [] }

/-- 'boulelaw05.DefectRegions': WHATEVER THE INPUT: true; the input reads as it did. -/
def defectRegionsSpec : ChangeSpec := { name := "defectRegions", fn := fun _ => fun
  | [d1, d2, d3] => { results := [.lit (.bool true)], args := [d1, d2, d3] }
  | _ => none }
def defectRegionsRow : OpenClaim := { program := "yteibgenkklpoaaa", sum := "7712f76de75957115398ab9c3dfad4580fb9e0cfc8fef22699fc1e0754cd0048", func := "boule/boulelaw05.DefectRegions", spec := "defectRegions", unfollowed := true, recurses := true, named := ["math/bits.divideError", "math/bits.overflowError"], apart := false }
def DefectRegionsSaid : Prop := defectRegionsRow.holds Try.pinned (OpenSpec.ofChange defectRegionsSpec)

/-- ITS FALSE NEIGHBOUR: 'it returns false'. Refute it at one input. -/
def defectRegionsWrong : ChangeSpec := { name := "defectRegions", fn := fun _ => fun
  | [d1, d2, d3] => { results := [.lit (.bool false)], args := [d1, d2, d3] }
  | _ => none }
def DefectRegionsWrongFalsely : Prop := defectRegionsRow.holds Try.pinned (OpenSpec.ofChange defectRegionsWrong)

/-- 'boulelaw05.DefectAnneals': WHATEVER THE INPUT: true; the input reads as it did. -/
def defectAnnealsSpec : ChangeSpec := { name := "defectAnneals", fn := fun _ => fun
  | [d1, d2, d3] => { results := [.lit (.bool true)], args := [d1, d2, d3] }
  | _ => none }
def defectAnnealsRow : OpenClaim := { program := "yteibgenkklpoaaa", sum := "7712f76de75957115398ab9c3dfad4580fb9e0cfc8fef22699fc1e0754cd0048", func := "boule/boulelaw05.DefectAnneals", spec := "defectAnneals", unfollowed := true, recurses := true, named := ["math/bits.divideError", "math/bits.overflowError"], apart := false }
def DefectAnnealsSaid : Prop := defectAnnealsRow.holds Try.pinned (OpenSpec.ofChange defectAnnealsSpec)

/-- ITS FALSE NEIGHBOUR: 'it returns false'. Refute it at one input. -/
def defectAnnealsWrong : ChangeSpec := { name := "defectAnneals", fn := fun _ => fun
  | [d1, d2, d3] => { results := [.lit (.bool false)], args := [d1, d2, d3] }
  | _ => none }
def DefectAnnealsWrongFalsely : Prop := defectAnnealsRow.holds Try.pinned (OpenSpec.ofChange defectAnnealsWrong)

/-- 'boulelaw05.DefectWindowHolds': WHATEVER THE INPUT: true; the input reads as it did. -/
def defectWindowHoldsSpec : ChangeSpec := { name := "defectWindowHolds", fn := fun _ => fun
  | [d1, d2, d3] => { results := [.lit (.bool true)], args := [d1, d2, d3] }
  | _ => none }
def defectWindowHoldsRow : OpenClaim := { program := "yteibgenkklpoaaa", sum := "7712f76de75957115398ab9c3dfad4580fb9e0cfc8fef22699fc1e0754cd0048", func := "boule/boulelaw05.DefectWindowHolds", spec := "defectWindowHolds", unfollowed := true, recurses := true, named := ["math/bits.divideError", "math/bits.overflowError"], apart := false }
def DefectWindowHoldsSaid : Prop := defectWindowHoldsRow.holds Try.pinned (OpenSpec.ofChange defectWindowHoldsSpec)

/-- ITS FALSE NEIGHBOUR: 'it returns false'. Refute it at one input. -/
def defectWindowHoldsWrong : ChangeSpec := { name := "defectWindowHolds", fn := fun _ => fun
  | [d1, d2, d3] => { results := [.lit (.bool false)], args := [d1, d2, d3] }
  | _ => none }
def DefectWindowHoldsWrongFalsely : Prop := defectWindowHoldsRow.holds Try.pinned (OpenSpec.ofChange defectWindowHoldsWrong)

/-- 'boulelaw05.DefectOxygen': WHATEVER THE INPUT: true; the input reads as it did. -/
def defectOxygenSpec : ChangeSpec := { name := "defectOxygen", fn := fun _ => fun
  | [d1, d2, d3] => { results := [.lit (.bool true)], args := [d1, d2, d3] }
  | _ => none }
def defectOxygenRow : OpenClaim := { program := "yteibgenkklpoaaa", sum := "7712f76de75957115398ab9c3dfad4580fb9e0cfc8fef22699fc1e0754cd0048", func := "boule/boulelaw05.DefectOxygen", spec := "defectOxygen", unfollowed := true, recurses := true, named := ["math/bits.divideError", "math/bits.overflowError"], apart := false }
def DefectOxygenSaid : Prop := defectOxygenRow.holds Try.pinned (OpenSpec.ofChange defectOxygenSpec)

/-- ITS FALSE NEIGHBOUR: 'it returns false'. Refute it at one input. -/
def defectOxygenWrong : ChangeSpec := { name := "defectOxygen", fn := fun _ => fun
  | [d1, d2, d3] => { results := [.lit (.bool false)], args := [d1, d2, d3] }
  | _ => none }
def DefectOxygenWrongFalsely : Prop := defectOxygenRow.holds Try.pinned (OpenSpec.ofChange defectOxygenWrong)

/-- 'boulelaw05.DefectJudges': WHATEVER THE INPUT: true; the input reads as it did. -/
def defectJudgesSpec : ChangeSpec := { name := "defectJudges", fn := fun _ => fun
  | [d1, d2] => { results := [.lit (.bool true)], args := [d1, d2] }
  | _ => none }
def defectJudgesRow : OpenClaim := { program := "yteibgenkklpoaaa", sum := "7712f76de75957115398ab9c3dfad4580fb9e0cfc8fef22699fc1e0754cd0048", func := "boule/boulelaw05.DefectJudges", spec := "defectJudges", unfollowed := true, recurses := true, named := ["math/bits.divideError", "math/bits.overflowError"], apart := false }
def DefectJudgesSaid : Prop := defectJudgesRow.holds Try.pinned (OpenSpec.ofChange defectJudgesSpec)

/-- ITS FALSE NEIGHBOUR: 'it returns false'. Refute it at one input. -/
def defectJudgesWrong : ChangeSpec := { name := "defectJudges", fn := fun _ => fun
  | [d1, d2] => { results := [.lit (.bool false)], args := [d1, d2] }
  | _ => none }
def DefectJudgesWrongFalsely : Prop := defectJudgesRow.holds Try.pinned (OpenSpec.ofChange defectJudgesWrong)

/-- 'boulelaw05.DefectTrue': WHATEVER THE INPUT: true; the input reads as it did. -/
def defectTrueSpec : ChangeSpec := { name := "defectTrue", fn := fun _ => fun
  | [d1, d2, d3] => { results := [.lit (.bool true)], args := [d1, d2, d3] }
  | _ => none }
def defectTrueRow : OpenClaim := { program := "yteibgenkklpoaaa", sum := "7712f76de75957115398ab9c3dfad4580fb9e0cfc8fef22699fc1e0754cd0048", func := "boule/boulelaw05.DefectTrue", spec := "defectTrue", unfollowed := true, recurses := true, named := ["math/bits.divideError", "math/bits.overflowError"], apart := false }
def DefectTrueSaid : Prop := defectTrueRow.holds Try.pinned (OpenSpec.ofChange defectTrueSpec)

/-- ITS FALSE NEIGHBOUR: 'it returns false'. Refute it at one input. -/
def defectTrueWrong : ChangeSpec := { name := "defectTrue", fn := fun _ => fun
  | [d1, d2, d3] => { results := [.lit (.bool false)], args := [d1, d2, d3] }
  | _ => none }
def DefectTrueWrongFalsely : Prop := defectTrueRow.holds Try.pinned (OpenSpec.ofChange defectTrueWrong)

/-- 'boulelaw05.DefectSlices': WHATEVER THE INPUT: true; the input reads as it did. -/
def defectSlicesSpec : ChangeSpec := { name := "defectSlices", fn := fun _ => fun
  | [d1, d2, d3] => { results := [.lit (.bool true)], args := [d1, d2, d3] }
  | _ => none }
def defectSlicesRow : OpenClaim := { program := "yteibgenkklpoaaa", sum := "7712f76de75957115398ab9c3dfad4580fb9e0cfc8fef22699fc1e0754cd0048", func := "boule/boulelaw05.DefectSlices", spec := "defectSlices", unfollowed := true, recurses := true, named := ["math/bits.divideError", "math/bits.overflowError"], apart := false }
def DefectSlicesSaid : Prop := defectSlicesRow.holds Try.pinned (OpenSpec.ofChange defectSlicesSpec)

/-- ITS FALSE NEIGHBOUR: 'it returns false'. Refute it at one input. -/
def defectSlicesWrong : ChangeSpec := { name := "defectSlices", fn := fun _ => fun
  | [d1, d2, d3] => { results := [.lit (.bool false)], args := [d1, d2, d3] }
  | _ => none }
def DefectSlicesWrongFalsely : Prop := defectSlicesRow.holds Try.pinned (OpenSpec.ofChange defectSlicesWrong)

/-- 'boulelaw05.DefectReached': WHATEVER THE INPUT: true; the input reads as it did. -/
def defectReachedSpec : ChangeSpec := { name := "defectReached", fn := fun _ => fun
  | [d] => { results := [.lit (.bool true)], args := [d] }
  | _ => none }
def defectReachedRow : OpenClaim := { program := "yteibgenkklpoaaa", sum := "7712f76de75957115398ab9c3dfad4580fb9e0cfc8fef22699fc1e0754cd0048", func := "boule/boulelaw05.DefectReached", spec := "defectReached", inPlace := ["math/bits.Sub64"], unfollowed := true, recurses := true, named := ["math/bits.divideError", "math/bits.overflowError"], apart := false }
def DefectReachedSaid : Prop := defectReachedRow.holds Try.pinned (OpenSpec.ofChange defectReachedSpec)

/-- ITS FALSE NEIGHBOUR: 'it returns false'. Refute it at one input. -/
def defectReachedWrong : ChangeSpec := { name := "defectReached", fn := fun _ => fun
  | [d] => { results := [.lit (.bool false)], args := [d] }
  | _ => none }
def DefectReachedWrongFalsely : Prop := defectReachedRow.holds Try.pinned (OpenSpec.ofChange defectReachedWrong)

/- THE SECOND FORM. 'bulk': how many values and letters a reading holds, each counted each time it is reached (what is shared counts as often as it is met; a slice's spare places count too). A statement '..UptoSaid' is the law's where the arguments, and the package variables that the reading takes, are together of bulk at most 1048576: NARROWER than '..Said'. Prove '..Said' where nothing that the law and all that it calls make is longer than what came in: it says more and counts as full. Else prove '..UptoSaid'. A law counts once. -/
mutual
def uptoBulk {H : Type} : DataW H → Nat
  | .lit (.string bytes) => bytes.length + 1
  | .lit _ => 1
  | .nil => 1
  | .ptr d => uptoBulk d + 1
  | .slice elems spare => uptoBulkAll elems + uptoBulkAll spare + 1
  | .agg parts => uptoBulkAll parts + 1
  | .iface _ d => uptoBulk d + 1
  | .map entries => uptoBulkEntries entries + 1
  | .held _ => 1
def uptoBulkAll {H : Type} : List (DataW H) → Nat
  | [] => 0
  | d :: r => uptoBulk d + uptoBulkAll r
def uptoBulkEntries {H : Type} : List (Lit × DataW H) → Nat
  | [] => 0
  | x :: r => uptoBulkEntry x + uptoBulkEntries r
def uptoBulkEntry {H : Type} : Lit × DataW H → Nat
  | (.string bytes, d) => bytes.length + uptoBulk d + 1
  | (_, d) => uptoBulk d + 1
 end
def uptoSmall : (H : Type) → List (DataW H) → Bool := fun _ ds => decide (uptoBulkAll ds ≤ 1048576)
def OpenSpec.upto (s : _root_.Go.ChangeSpec) : _root_.Go.OpenSpec := { _root_.Go.OpenSpec.ofChange s with cond := some uptoSmall }

/-- 'boulelaw05.DefectRegions', WHERE WHAT IT READS IS OF BULK AT MOST 1048576: true; the input reads as it did. -/
def defectRegionsUptoRow : OpenClaim := { program := "yteibgenkklpoaaa", sum := "7712f76de75957115398ab9c3dfad4580fb9e0cfc8fef22699fc1e0754cd0048", func := "boule/boulelaw05.DefectRegions", spec := "defectRegions", unfollowed := true, recurses := true, named := ["math/bits.divideError", "math/bits.overflowError"], apart := false, narrowed := true }
def DefectRegionsUptoSaid : Prop := defectRegionsUptoRow.holds Try.pinned (OpenSpec.upto defectRegionsSpec)

/-- 'boulelaw05.DefectAnneals', WHERE WHAT IT READS IS OF BULK AT MOST 1048576: true; the input reads as it did. -/
def defectAnnealsUptoRow : OpenClaim := { program := "yteibgenkklpoaaa", sum := "7712f76de75957115398ab9c3dfad4580fb9e0cfc8fef22699fc1e0754cd0048", func := "boule/boulelaw05.DefectAnneals", spec := "defectAnneals", unfollowed := true, recurses := true, named := ["math/bits.divideError", "math/bits.overflowError"], apart := false, narrowed := true }
def DefectAnnealsUptoSaid : Prop := defectAnnealsUptoRow.holds Try.pinned (OpenSpec.upto defectAnnealsSpec)

/-- 'boulelaw05.DefectWindowHolds', WHERE WHAT IT READS IS OF BULK AT MOST 1048576: true; the input reads as it did. -/
def defectWindowHoldsUptoRow : OpenClaim := { program := "yteibgenkklpoaaa", sum := "7712f76de75957115398ab9c3dfad4580fb9e0cfc8fef22699fc1e0754cd0048", func := "boule/boulelaw05.DefectWindowHolds", spec := "defectWindowHolds", unfollowed := true, recurses := true, named := ["math/bits.divideError", "math/bits.overflowError"], apart := false, narrowed := true }
def DefectWindowHoldsUptoSaid : Prop := defectWindowHoldsUptoRow.holds Try.pinned (OpenSpec.upto defectWindowHoldsSpec)

/-- 'boulelaw05.DefectOxygen', WHERE WHAT IT READS IS OF BULK AT MOST 1048576: true; the input reads as it did. -/
def defectOxygenUptoRow : OpenClaim := { program := "yteibgenkklpoaaa", sum := "7712f76de75957115398ab9c3dfad4580fb9e0cfc8fef22699fc1e0754cd0048", func := "boule/boulelaw05.DefectOxygen", spec := "defectOxygen", unfollowed := true, recurses := true, named := ["math/bits.divideError", "math/bits.overflowError"], apart := false, narrowed := true }
def DefectOxygenUptoSaid : Prop := defectOxygenUptoRow.holds Try.pinned (OpenSpec.upto defectOxygenSpec)

/-- 'boulelaw05.DefectJudges', WHERE WHAT IT READS IS OF BULK AT MOST 1048576: true; the input reads as it did. -/
def defectJudgesUptoRow : OpenClaim := { program := "yteibgenkklpoaaa", sum := "7712f76de75957115398ab9c3dfad4580fb9e0cfc8fef22699fc1e0754cd0048", func := "boule/boulelaw05.DefectJudges", spec := "defectJudges", unfollowed := true, recurses := true, named := ["math/bits.divideError", "math/bits.overflowError"], apart := false, narrowed := true }
def DefectJudgesUptoSaid : Prop := defectJudgesUptoRow.holds Try.pinned (OpenSpec.upto defectJudgesSpec)

/-- 'boulelaw05.DefectTrue', WHERE WHAT IT READS IS OF BULK AT MOST 1048576: true; the input reads as it did. -/
def defectTrueUptoRow : OpenClaim := { program := "yteibgenkklpoaaa", sum := "7712f76de75957115398ab9c3dfad4580fb9e0cfc8fef22699fc1e0754cd0048", func := "boule/boulelaw05.DefectTrue", spec := "defectTrue", unfollowed := true, recurses := true, named := ["math/bits.divideError", "math/bits.overflowError"], apart := false, narrowed := true }
def DefectTrueUptoSaid : Prop := defectTrueUptoRow.holds Try.pinned (OpenSpec.upto defectTrueSpec)

/-- 'boulelaw05.DefectSlices', WHERE WHAT IT READS IS OF BULK AT MOST 1048576: true; the input reads as it did. -/
def defectSlicesUptoRow : OpenClaim := { program := "yteibgenkklpoaaa", sum := "7712f76de75957115398ab9c3dfad4580fb9e0cfc8fef22699fc1e0754cd0048", func := "boule/boulelaw05.DefectSlices", spec := "defectSlices", unfollowed := true, recurses := true, named := ["math/bits.divideError", "math/bits.overflowError"], apart := false, narrowed := true }
def DefectSlicesUptoSaid : Prop := defectSlicesUptoRow.holds Try.pinned (OpenSpec.upto defectSlicesSpec)

/-- 'boulelaw05.DefectReached', WHERE WHAT IT READS IS OF BULK AT MOST 1048576: true; the input reads as it did. -/
def defectReachedUptoRow : OpenClaim := { program := "yteibgenkklpoaaa", sum := "7712f76de75957115398ab9c3dfad4580fb9e0cfc8fef22699fc1e0754cd0048", func := "boule/boulelaw05.DefectReached", spec := "defectReached", inPlace := ["math/bits.Sub64"], unfollowed := true, recurses := true, named := ["math/bits.divideError", "math/bits.overflowError"], apart := false, narrowed := true }
def DefectReachedUptoSaid : Prop := defectReachedUptoRow.holds Try.pinned (OpenSpec.upto defectReachedSpec)

end Rows
end Go.Proofs.Yteibgenkklpoaaa
