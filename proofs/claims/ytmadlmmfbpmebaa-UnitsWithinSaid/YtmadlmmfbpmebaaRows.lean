/-
  No cell of these rows narrows 'for every input' (looked for: loops, veiled, ifaces, maps, wideKeys, modest, calm, conditions, laid).
  DERIVED. THE GIVEN ROWS OF THIS SEAT. 17 by the template 'for every input the law returns true; each argument reads behind the call as it read before'; 0 by the template 'total and deterministic' (their statements: YtmadlmmfbpmebaaTotals.lean).
  GIVEN WITH THE SEED: the statements are not yours to turn. If you find one false, say at which input.
  Laid BY PROGRAM, IN A SANDBOX (cutbox-rows.mjs): the forced cells as the released guide's own fill.sh prints them over the translation 1e6a992b902fe1c0… (all of the seat's roots in one cut). By AI agents, Wed Nov 11 2026. No macro, syntax, notation, axiom, sorry.
-/
import Derived.Test.YtmadlmmfbpmebaaChecked
import GoSem.Claim
import GoSem.ClaimJoined
import GoSem.ClaimMapViews
import Derived.JoinedTies
import Derived.KernelRfl
namespace Go.Proofs.Ytmadlmmfbpmebaa
/- THE CELL 'sum', in the pinned program and in every row, IS THE sha256 OF THE DUMP (.gsa) THAT YtmadlmmfbpmebaaProg.lean LOADS. Nothing in Lean hashes anything: it is a label: what it is worth is what the hold of that sum in a sandbox is worth. -/
noncomputable def Try.pinned : Pinned := { name := "ytmadlmmfbpmebaa", sum := "1e6a992b902fe1c070583952006c58d4ad666588eb59da8667b47b6e2e926089", checked := Try.checked }
namespace Rows
def none {H : Type} : Left H := { results := [], args := [] }

/-- 'boulelaw01.UnitsMulDivs': WHATEVER THE INPUT: true; the input reads as it did. -/
def unitsMulDivsSpec : ChangeSpec := { name := "unitsMulDivs", fn := fun _ => fun
  | [d] => { results := [.lit (.bool true)], args := [d] }
  | _ => none }
def unitsMulDivsRow : OpenClaim := { program := "ytmadlmmfbpmebaa", sum := "1e6a992b902fe1c070583952006c58d4ad666588eb59da8667b47b6e2e926089", func := "boule/boulelaw01.UnitsMulDivs", spec := "unitsMulDivs", inPlace := ["math/bits.Sub64"], unfollowed := true, recurses := true, named := ["math/bits.divideError", "math/bits.overflowError"], apart := false }
def UnitsMulDivsSaid : Prop := unitsMulDivsRow.holds Try.pinned (OpenSpec.ofChange unitsMulDivsSpec)

/-- ITS FALSE NEIGHBOUR: 'it returns false'. Refute it at one input. -/
def unitsMulDivsWrong : ChangeSpec := { name := "unitsMulDivs", fn := fun _ => fun
  | [d] => { results := [.lit (.bool false)], args := [d] }
  | _ => none }
def UnitsMulDivsWrongFalsely : Prop := unitsMulDivsRow.holds Try.pinned (OpenSpec.ofChange unitsMulDivsWrong)

/-- 'boulelaw01.UnitsPortions': WHATEVER THE INPUT: true; the input reads as it did. -/
def unitsPortionsSpec : ChangeSpec := { name := "unitsPortions", fn := fun _ => fun
  | [d1, d2] => { results := [.lit (.bool true)], args := [d1, d2] }
  | _ => none }
def unitsPortionsRow : OpenClaim := { program := "ytmadlmmfbpmebaa", sum := "1e6a992b902fe1c070583952006c58d4ad666588eb59da8667b47b6e2e926089", func := "boule/boulelaw01.UnitsPortions", spec := "unitsPortions", inPlace := ["math/bits.Sub64"], unfollowed := true, recurses := true, named := ["math/bits.divideError", "math/bits.overflowError"], apart := false }
def UnitsPortionsSaid : Prop := unitsPortionsRow.holds Try.pinned (OpenSpec.ofChange unitsPortionsSpec)

/-- ITS FALSE NEIGHBOUR: 'it returns false'. Refute it at one input. -/
def unitsPortionsWrong : ChangeSpec := { name := "unitsPortions", fn := fun _ => fun
  | [d1, d2] => { results := [.lit (.bool false)], args := [d1, d2] }
  | _ => none }
def UnitsPortionsWrongFalsely : Prop := unitsPortionsRow.holds Try.pinned (OpenSpec.ofChange unitsPortionsWrong)

/-- 'boulelaw01.UnitsBalances': WHATEVER THE INPUT: true; the input reads as it did. -/
def unitsBalancesSpec : ChangeSpec := { name := "unitsBalances", fn := fun _ => fun
  | [d1, d2] => { results := [.lit (.bool true)], args := [d1, d2] }
  | _ => none }
def unitsBalancesRow : OpenClaim := { program := "ytmadlmmfbpmebaa", sum := "1e6a992b902fe1c070583952006c58d4ad666588eb59da8667b47b6e2e926089", func := "boule/boulelaw01.UnitsBalances", spec := "unitsBalances", inPlace := ["math/bits.Sub64"], unfollowed := true, recurses := true, named := ["math/bits.divideError", "math/bits.overflowError"], apart := false }
def UnitsBalancesSaid : Prop := unitsBalancesRow.holds Try.pinned (OpenSpec.ofChange unitsBalancesSpec)

/-- ITS FALSE NEIGHBOUR: 'it returns false'. Refute it at one input. -/
def unitsBalancesWrong : ChangeSpec := { name := "unitsBalances", fn := fun _ => fun
  | [d1, d2] => { results := [.lit (.bool false)], args := [d1, d2] }
  | _ => none }
def UnitsBalancesWrongFalsely : Prop := unitsBalancesRow.holds Try.pinned (OpenSpec.ofChange unitsBalancesWrong)

/-- 'boulelaw01.UnitsTables': WHATEVER THE INPUT: true; the input reads as it did. -/
def unitsTablesSpec : ChangeSpec := { name := "unitsTables", fn := fun _ => fun
  | [d1, d2] => { results := [.lit (.bool true)], args := [d1, d2] }
  | _ => none }
def unitsTablesRow : OpenClaim := { program := "ytmadlmmfbpmebaa", sum := "1e6a992b902fe1c070583952006c58d4ad666588eb59da8667b47b6e2e926089", func := "boule/boulelaw01.UnitsTables", spec := "unitsTables", inPlace := ["math/bits.Sub64"], unfollowed := true, recurses := true, named := ["math/bits.divideError", "math/bits.overflowError"], apart := false }
def UnitsTablesSaid : Prop := unitsTablesRow.holds Try.pinned (OpenSpec.ofChange unitsTablesSpec)

/-- ITS FALSE NEIGHBOUR: 'it returns false'. Refute it at one input. -/
def unitsTablesWrong : ChangeSpec := { name := "unitsTables", fn := fun _ => fun
  | [d1, d2] => { results := [.lit (.bool false)], args := [d1, d2] }
  | _ => none }
def UnitsTablesWrongFalsely : Prop := unitsTablesRow.holds Try.pinned (OpenSpec.ofChange unitsTablesWrong)

/-- 'boulelaw01.UnitsExact': WHATEVER THE INPUT: true; the input reads as it did. -/
def unitsExactSpec : ChangeSpec := { name := "unitsExact", fn := fun _ => fun
  | [d] => { results := [.lit (.bool true)], args := [d] }
  | _ => none }
def unitsExactRow : OpenClaim := { program := "ytmadlmmfbpmebaa", sum := "1e6a992b902fe1c070583952006c58d4ad666588eb59da8667b47b6e2e926089", func := "boule/boulelaw01.UnitsExact", spec := "unitsExact", inPlace := ["math/bits.Sub64"], unfollowed := true, recurses := true, named := ["math/bits.divideError", "math/bits.overflowError"], apart := false }
def UnitsExactSaid : Prop := unitsExactRow.holds Try.pinned (OpenSpec.ofChange unitsExactSpec)

/-- ITS FALSE NEIGHBOUR: 'it returns false'. Refute it at one input. -/
def unitsExactWrong : ChangeSpec := { name := "unitsExact", fn := fun _ => fun
  | [d] => { results := [.lit (.bool false)], args := [d] }
  | _ => none }
def UnitsExactWrongFalsely : Prop := unitsExactRow.holds Try.pinned (OpenSpec.ofChange unitsExactWrong)

/-- 'boulelaw01.UnitsAddUp': WHATEVER THE INPUT: true; the input reads as it did. -/
def unitsAddUpSpec : ChangeSpec := { name := "unitsAddUp", fn := fun _ => fun
  | [d1, d2, d3] => { results := [.lit (.bool true)], args := [d1, d2, d3] }
  | _ => none }
def unitsAddUpRow : OpenClaim := { program := "ytmadlmmfbpmebaa", sum := "1e6a992b902fe1c070583952006c58d4ad666588eb59da8667b47b6e2e926089", func := "boule/boulelaw01.UnitsAddUp", spec := "unitsAddUp", inPlace := ["math/bits.Sub64"], unfollowed := true, recurses := true, named := ["math/bits.divideError", "math/bits.overflowError"], apart := false }
def UnitsAddUpSaid : Prop := unitsAddUpRow.holds Try.pinned (OpenSpec.ofChange unitsAddUpSpec)

/-- ITS FALSE NEIGHBOUR: 'it returns false'. Refute it at one input. -/
def unitsAddUpWrong : ChangeSpec := { name := "unitsAddUp", fn := fun _ => fun
  | [d1, d2, d3] => { results := [.lit (.bool false)], args := [d1, d2, d3] }
  | _ => none }
def UnitsAddUpWrongFalsely : Prop := unitsAddUpRow.holds Try.pinned (OpenSpec.ofChange unitsAddUpWrong)

/-- 'boulelaw01.UnitsBalanced': WHATEVER THE INPUT: true; the input reads as it did. -/
def unitsBalancedSpec : ChangeSpec := { name := "unitsBalanced", fn := fun _ => fun
  | [d1, d2, d3] => { results := [.lit (.bool true)], args := [d1, d2, d3] }
  | _ => none }
def unitsBalancedRow : OpenClaim := { program := "ytmadlmmfbpmebaa", sum := "1e6a992b902fe1c070583952006c58d4ad666588eb59da8667b47b6e2e926089", func := "boule/boulelaw01.UnitsBalanced", spec := "unitsBalanced", inPlace := ["math/bits.Sub64"], unfollowed := true, recurses := true, named := ["math/bits.divideError", "math/bits.overflowError"], apart := false }
def UnitsBalancedSaid : Prop := unitsBalancedRow.holds Try.pinned (OpenSpec.ofChange unitsBalancedSpec)

/-- ITS FALSE NEIGHBOUR: 'it returns false'. Refute it at one input. -/
def unitsBalancedWrong : ChangeSpec := { name := "unitsBalanced", fn := fun _ => fun
  | [d1, d2, d3] => { results := [.lit (.bool false)], args := [d1, d2, d3] }
  | _ => none }
def UnitsBalancedWrongFalsely : Prop := unitsBalancedRow.holds Try.pinned (OpenSpec.ofChange unitsBalancedWrong)

/-- 'boulelaw01.UnitsWithin': WHATEVER THE INPUT: true; the input reads as it did. -/
def unitsWithinSpec : ChangeSpec := { name := "unitsWithin", fn := fun _ => fun
  | [d1, d2, d3] => { results := [.lit (.bool true)], args := [d1, d2, d3] }
  | _ => none }
def unitsWithinRow : OpenClaim := { program := "ytmadlmmfbpmebaa", sum := "1e6a992b902fe1c070583952006c58d4ad666588eb59da8667b47b6e2e926089", func := "boule/boulelaw01.UnitsWithin", spec := "unitsWithin", inPlace := ["math/bits.Sub64"], unfollowed := true, recurses := true, named := ["math/bits.divideError", "math/bits.overflowError"], apart := false }
def UnitsWithinSaid : Prop := unitsWithinRow.holds Try.pinned (OpenSpec.ofChange unitsWithinSpec)

/-- ITS FALSE NEIGHBOUR: 'it returns false'. Refute it at one input. -/
def unitsWithinWrong : ChangeSpec := { name := "unitsWithin", fn := fun _ => fun
  | [d1, d2, d3] => { results := [.lit (.bool false)], args := [d1, d2, d3] }
  | _ => none }
def UnitsWithinWrongFalsely : Prop := unitsWithinRow.holds Try.pinned (OpenSpec.ofChange unitsWithinWrong)

/-- 'boulelaw01.UnitsCompares': WHATEVER THE INPUT: true; the input reads as it did. -/
def unitsComparesSpec : ChangeSpec := { name := "unitsCompares", fn := fun _ => fun
  | [d1, d2] => { results := [.lit (.bool true)], args := [d1, d2] }
  | _ => none }
def unitsComparesRow : OpenClaim := { program := "ytmadlmmfbpmebaa", sum := "1e6a992b902fe1c070583952006c58d4ad666588eb59da8667b47b6e2e926089", func := "boule/boulelaw01.UnitsCompares", spec := "unitsCompares", inPlace := ["math/bits.Sub64"], unfollowed := true, recurses := true, named := ["math/bits.divideError", "math/bits.overflowError"], apart := false }
def UnitsComparesSaid : Prop := unitsComparesRow.holds Try.pinned (OpenSpec.ofChange unitsComparesSpec)

/-- ITS FALSE NEIGHBOUR: 'it returns false'. Refute it at one input. -/
def unitsComparesWrong : ChangeSpec := { name := "unitsCompares", fn := fun _ => fun
  | [d1, d2] => { results := [.lit (.bool false)], args := [d1, d2] }
  | _ => none }
def UnitsComparesWrongFalsely : Prop := unitsComparesRow.holds Try.pinned (OpenSpec.ofChange unitsComparesWrong)

/-- 'boulelaw01.UnitsOrder': WHATEVER THE INPUT: true; the input reads as it did. -/
def unitsOrderSpec : ChangeSpec := { name := "unitsOrder", fn := fun _ => fun
  | [d1, d2, d3] => { results := [.lit (.bool true)], args := [d1, d2, d3] }
  | _ => none }
def unitsOrderRow : OpenClaim := { program := "ytmadlmmfbpmebaa", sum := "1e6a992b902fe1c070583952006c58d4ad666588eb59da8667b47b6e2e926089", func := "boule/boulelaw01.UnitsOrder", spec := "unitsOrder", inPlace := ["math/bits.Sub64"], unfollowed := true, recurses := true, named := ["math/bits.divideError", "math/bits.overflowError"], apart := false }
def UnitsOrderSaid : Prop := unitsOrderRow.holds Try.pinned (OpenSpec.ofChange unitsOrderSpec)

/-- ITS FALSE NEIGHBOUR: 'it returns false'. Refute it at one input. -/
def unitsOrderWrong : ChangeSpec := { name := "unitsOrder", fn := fun _ => fun
  | [d1, d2, d3] => { results := [.lit (.bool false)], args := [d1, d2, d3] }
  | _ => none }
def UnitsOrderWrongFalsely : Prop := unitsOrderRow.holds Try.pinned (OpenSpec.ofChange unitsOrderWrong)

/-- 'boulelaw01.UnitsNoSimpler': WHATEVER THE INPUT: true; the input reads as it did. -/
def unitsNoSimplerSpec : ChangeSpec := { name := "unitsNoSimpler", fn := fun _ => fun
  | [d] => { results := [.lit (.bool true)], args := [d] }
  | _ => none }
def unitsNoSimplerRow : OpenClaim := { program := "ytmadlmmfbpmebaa", sum := "1e6a992b902fe1c070583952006c58d4ad666588eb59da8667b47b6e2e926089", func := "boule/boulelaw01.UnitsNoSimpler", spec := "unitsNoSimpler", inPlace := ["math/bits.Sub64"], unfollowed := true, recurses := true, named := ["math/bits.divideError", "math/bits.overflowError"], apart := false }
def UnitsNoSimplerSaid : Prop := unitsNoSimplerRow.holds Try.pinned (OpenSpec.ofChange unitsNoSimplerSpec)

/-- ITS FALSE NEIGHBOUR: 'it returns false'. Refute it at one input. -/
def unitsNoSimplerWrong : ChangeSpec := { name := "unitsNoSimpler", fn := fun _ => fun
  | [d] => { results := [.lit (.bool false)], args := [d] }
  | _ => none }
def UnitsNoSimplerWrongFalsely : Prop := unitsNoSimplerRow.holds Try.pinned (OpenSpec.ofChange unitsNoSimplerWrong)

/-- 'boulelaw01.UnitsScales': WHATEVER THE INPUT: true; the input reads as it did. -/
def unitsScalesSpec : ChangeSpec := { name := "unitsScales", fn := fun _ => fun
  | [d1, d2] => { results := [.lit (.bool true)], args := [d1, d2] }
  | _ => none }
def unitsScalesRow : OpenClaim := { program := "ytmadlmmfbpmebaa", sum := "1e6a992b902fe1c070583952006c58d4ad666588eb59da8667b47b6e2e926089", func := "boule/boulelaw01.UnitsScales", spec := "unitsScales", inPlace := ["math/bits.Sub64"], unfollowed := true, recurses := true, named := ["math/bits.divideError", "math/bits.overflowError"], apart := false }
def UnitsScalesSaid : Prop := unitsScalesRow.holds Try.pinned (OpenSpec.ofChange unitsScalesSpec)

/-- ITS FALSE NEIGHBOUR: 'it returns false'. Refute it at one input. -/
def unitsScalesWrong : ChangeSpec := { name := "unitsScales", fn := fun _ => fun
  | [d1, d2] => { results := [.lit (.bool false)], args := [d1, d2] }
  | _ => none }
def UnitsScalesWrongFalsely : Prop := unitsScalesRow.holds Try.pinned (OpenSpec.ofChange unitsScalesWrong)

/-- 'boulelaw01.UnitsWheres': WHATEVER THE INPUT: true; the input reads as it did. -/
def unitsWheresSpec : ChangeSpec := { name := "unitsWheres", fn := fun _ => fun
  | [d1, d2] => { results := [.lit (.bool true)], args := [d1, d2] }
  | _ => none }
def unitsWheresRow : OpenClaim := { program := "ytmadlmmfbpmebaa", sum := "1e6a992b902fe1c070583952006c58d4ad666588eb59da8667b47b6e2e926089", func := "boule/boulelaw01.UnitsWheres", spec := "unitsWheres", inPlace := ["math/bits.Sub64"], unfollowed := true, recurses := true, named := ["math/bits.divideError", "math/bits.overflowError"], apart := false }
def UnitsWheresSaid : Prop := unitsWheresRow.holds Try.pinned (OpenSpec.ofChange unitsWheresSpec)

/-- ITS FALSE NEIGHBOUR: 'it returns false'. Refute it at one input. -/
def unitsWheresWrong : ChangeSpec := { name := "unitsWheres", fn := fun _ => fun
  | [d1, d2] => { results := [.lit (.bool false)], args := [d1, d2] }
  | _ => none }
def UnitsWheresWrongFalsely : Prop := unitsWheresRow.holds Try.pinned (OpenSpec.ofChange unitsWheresWrong)

/-- 'boulelaw01.UnitsThroughs': WHATEVER THE INPUT: true; the input reads as it did. -/
def unitsThroughsSpec : ChangeSpec := { name := "unitsThroughs", fn := fun _ => fun
  | [d1, d2] => { results := [.lit (.bool true)], args := [d1, d2] }
  | _ => none }
def unitsThroughsRow : OpenClaim := { program := "ytmadlmmfbpmebaa", sum := "1e6a992b902fe1c070583952006c58d4ad666588eb59da8667b47b6e2e926089", func := "boule/boulelaw01.UnitsThroughs", spec := "unitsThroughs", inPlace := ["math/bits.Sub64"], unfollowed := true, recurses := true, named := ["math/bits.divideError", "math/bits.overflowError"], apart := false }
def UnitsThroughsSaid : Prop := unitsThroughsRow.holds Try.pinned (OpenSpec.ofChange unitsThroughsSpec)

/-- ITS FALSE NEIGHBOUR: 'it returns false'. Refute it at one input. -/
def unitsThroughsWrong : ChangeSpec := { name := "unitsThroughs", fn := fun _ => fun
  | [d1, d2] => { results := [.lit (.bool false)], args := [d1, d2] }
  | _ => none }
def UnitsThroughsWrongFalsely : Prop := unitsThroughsRow.holds Try.pinned (OpenSpec.ofChange unitsThroughsWrong)

/-- 'boulelaw01.UnitsPairs': WHATEVER THE INPUT: true; the input reads as it did. -/
def unitsPairsSpec : ChangeSpec := { name := "unitsPairs", fn := fun _ => fun
  | [d1, d2, d3] => { results := [.lit (.bool true)], args := [d1, d2, d3] }
  | _ => none }
def unitsPairsRow : OpenClaim := { program := "ytmadlmmfbpmebaa", sum := "1e6a992b902fe1c070583952006c58d4ad666588eb59da8667b47b6e2e926089", func := "boule/boulelaw01.UnitsPairs", spec := "unitsPairs", inPlace := ["math/bits.Sub64"], unfollowed := true, recurses := true, named := ["math/bits.divideError", "math/bits.overflowError"], apart := false }
def UnitsPairsSaid : Prop := unitsPairsRow.holds Try.pinned (OpenSpec.ofChange unitsPairsSpec)

/-- ITS FALSE NEIGHBOUR: 'it returns false'. Refute it at one input. -/
def unitsPairsWrong : ChangeSpec := { name := "unitsPairs", fn := fun _ => fun
  | [d1, d2, d3] => { results := [.lit (.bool false)], args := [d1, d2, d3] }
  | _ => none }
def UnitsPairsWrongFalsely : Prop := unitsPairsRow.holds Try.pinned (OpenSpec.ofChange unitsPairsWrong)

/-- 'boulelaw01.UnitsLists': WHATEVER THE INPUT: true; the input reads as it did. -/
def unitsListsSpec : ChangeSpec := { name := "unitsLists", fn := fun _ => fun
  | [d] => { results := [.lit (.bool true)], args := [d] }
  | _ => none }
def unitsListsRow : OpenClaim := { program := "ytmadlmmfbpmebaa", sum := "1e6a992b902fe1c070583952006c58d4ad666588eb59da8667b47b6e2e926089", func := "boule/boulelaw01.UnitsLists", spec := "unitsLists", inPlace := ["math/bits.Sub64"], unfollowed := true, recurses := true, named := ["math/bits.divideError", "math/bits.overflowError"], apart := false }
def UnitsListsSaid : Prop := unitsListsRow.holds Try.pinned (OpenSpec.ofChange unitsListsSpec)

/-- ITS FALSE NEIGHBOUR: 'it returns false'. Refute it at one input. -/
def unitsListsWrong : ChangeSpec := { name := "unitsLists", fn := fun _ => fun
  | [d] => { results := [.lit (.bool false)], args := [d] }
  | _ => none }
def UnitsListsWrongFalsely : Prop := unitsListsRow.holds Try.pinned (OpenSpec.ofChange unitsListsWrong)

/-- 'boulelaw01.UnitsAllResults': WHATEVER THE INPUT: true; the input reads as it did. -/
def unitsAllResultsSpec : ChangeSpec := { name := "unitsAllResults", fn := fun _ => fun
  | [d1, d2, d3] => { results := [.lit (.bool true)], args := [d1, d2, d3] }
  | _ => none }
def unitsAllResultsRow : OpenClaim := { program := "ytmadlmmfbpmebaa", sum := "1e6a992b902fe1c070583952006c58d4ad666588eb59da8667b47b6e2e926089", func := "boule/boulelaw01.UnitsAllResults", spec := "unitsAllResults", inPlace := ["math/bits.Sub64"], unfollowed := true, recurses := true, named := ["math/bits.divideError", "math/bits.overflowError"], apart := false }
def UnitsAllResultsSaid : Prop := unitsAllResultsRow.holds Try.pinned (OpenSpec.ofChange unitsAllResultsSpec)

/-- ITS FALSE NEIGHBOUR: 'it returns false'. Refute it at one input. -/
def unitsAllResultsWrong : ChangeSpec := { name := "unitsAllResults", fn := fun _ => fun
  | [d1, d2, d3] => { results := [.lit (.bool false)], args := [d1, d2, d3] }
  | _ => none }
def UnitsAllResultsWrongFalsely : Prop := unitsAllResultsRow.holds Try.pinned (OpenSpec.ofChange unitsAllResultsWrong)

/- THE SECOND FORM. 'bulk': how many values and letters a reading holds, each counted each time it is reached (what is shared counts as often as it is met; a slice's spare places count too). A statement '..UptoSaid' is the law's where the arguments, and the package variables that the reading takes, are together of bulk at most 1048576: NARROWER than '..Said'. Prove '..Said' where nothing that the law and all that it calls make is longer than what came in: it says more and counts as full. Else prove '..UptoSaid'. A law counts once. -/
mutual
def uptoBulk {H : Type} : DataW H → Nat
  | .lit (.string bytes) => bytes.length + 1
  | .lit _ => 1
  | .nil => 1
  | .ptr d => uptoBulk d + 1
  | .slice elems spare => uptoBulkAll elems + uptoBulkAll spare + 1
  | .agg parts => uptoBulkAll parts + 1
  | .iface _ d => uptoBulk d + 1
  | .map entries => uptoBulkEntries entries + 1
  | .held _ => 1
def uptoBulkAll {H : Type} : List (DataW H) → Nat
  | [] => 0
  | d :: r => uptoBulk d + uptoBulkAll r
def uptoBulkEntries {H : Type} : List (Lit × DataW H) → Nat
  | [] => 0
  | x :: r => uptoBulkEntry x + uptoBulkEntries r
def uptoBulkEntry {H : Type} : Lit × DataW H → Nat
  | (.string bytes, d) => bytes.length + uptoBulk d + 1
  | (_, d) => uptoBulk d + 1
 end
def uptoSmall : (H : Type) → List (DataW H) → Bool := fun _ ds => decide (uptoBulkAll ds ≤ 1048576)
def OpenSpec.upto (s : _root_.Go.ChangeSpec) : _root_.Go.OpenSpec := { _root_.Go.OpenSpec.ofChange s with cond := some uptoSmall }

/-- 'boulelaw01.UnitsMulDivs', WHERE WHAT IT READS IS OF BULK AT MOST 1048576: true; the input reads as it did. -/
def unitsMulDivsUptoRow : OpenClaim := { program := "ytmadlmmfbpmebaa", sum := "1e6a992b902fe1c070583952006c58d4ad666588eb59da8667b47b6e2e926089", func := "boule/boulelaw01.UnitsMulDivs", spec := "unitsMulDivs", inPlace := ["math/bits.Sub64"], unfollowed := true, recurses := true, named := ["math/bits.divideError", "math/bits.overflowError"], apart := false, narrowed := true }
def UnitsMulDivsUptoSaid : Prop := unitsMulDivsUptoRow.holds Try.pinned (OpenSpec.upto unitsMulDivsSpec)

/-- 'boulelaw01.UnitsPortions', WHERE WHAT IT READS IS OF BULK AT MOST 1048576: true; the input reads as it did. -/
def unitsPortionsUptoRow : OpenClaim := { program := "ytmadlmmfbpmebaa", sum := "1e6a992b902fe1c070583952006c58d4ad666588eb59da8667b47b6e2e926089", func := "boule/boulelaw01.UnitsPortions", spec := "unitsPortions", inPlace := ["math/bits.Sub64"], unfollowed := true, recurses := true, named := ["math/bits.divideError", "math/bits.overflowError"], apart := false, narrowed := true }
def UnitsPortionsUptoSaid : Prop := unitsPortionsUptoRow.holds Try.pinned (OpenSpec.upto unitsPortionsSpec)

/-- 'boulelaw01.UnitsBalances', WHERE WHAT IT READS IS OF BULK AT MOST 1048576: true; the input reads as it did. -/
def unitsBalancesUptoRow : OpenClaim := { program := "ytmadlmmfbpmebaa", sum := "1e6a992b902fe1c070583952006c58d4ad666588eb59da8667b47b6e2e926089", func := "boule/boulelaw01.UnitsBalances", spec := "unitsBalances", inPlace := ["math/bits.Sub64"], unfollowed := true, recurses := true, named := ["math/bits.divideError", "math/bits.overflowError"], apart := false, narrowed := true }
def UnitsBalancesUptoSaid : Prop := unitsBalancesUptoRow.holds Try.pinned (OpenSpec.upto unitsBalancesSpec)

/-- 'boulelaw01.UnitsTables', WHERE WHAT IT READS IS OF BULK AT MOST 1048576: true; the input reads as it did. -/
def unitsTablesUptoRow : OpenClaim := { program := "ytmadlmmfbpmebaa", sum := "1e6a992b902fe1c070583952006c58d4ad666588eb59da8667b47b6e2e926089", func := "boule/boulelaw01.UnitsTables", spec := "unitsTables", inPlace := ["math/bits.Sub64"], unfollowed := true, recurses := true, named := ["math/bits.divideError", "math/bits.overflowError"], apart := false, narrowed := true }
def UnitsTablesUptoSaid : Prop := unitsTablesUptoRow.holds Try.pinned (OpenSpec.upto unitsTablesSpec)

/-- 'boulelaw01.UnitsExact', WHERE WHAT IT READS IS OF BULK AT MOST 1048576: true; the input reads as it did. -/
def unitsExactUptoRow : OpenClaim := { program := "ytmadlmmfbpmebaa", sum := "1e6a992b902fe1c070583952006c58d4ad666588eb59da8667b47b6e2e926089", func := "boule/boulelaw01.UnitsExact", spec := "unitsExact", inPlace := ["math/bits.Sub64"], unfollowed := true, recurses := true, named := ["math/bits.divideError", "math/bits.overflowError"], apart := false, narrowed := true }
def UnitsExactUptoSaid : Prop := unitsExactUptoRow.holds Try.pinned (OpenSpec.upto unitsExactSpec)

/-- 'boulelaw01.UnitsAddUp', WHERE WHAT IT READS IS OF BULK AT MOST 1048576: true; the input reads as it did. -/
def unitsAddUpUptoRow : OpenClaim := { program := "ytmadlmmfbpmebaa", sum := "1e6a992b902fe1c070583952006c58d4ad666588eb59da8667b47b6e2e926089", func := "boule/boulelaw01.UnitsAddUp", spec := "unitsAddUp", inPlace := ["math/bits.Sub64"], unfollowed := true, recurses := true, named := ["math/bits.divideError", "math/bits.overflowError"], apart := false, narrowed := true }
def UnitsAddUpUptoSaid : Prop := unitsAddUpUptoRow.holds Try.pinned (OpenSpec.upto unitsAddUpSpec)

/-- 'boulelaw01.UnitsBalanced', WHERE WHAT IT READS IS OF BULK AT MOST 1048576: true; the input reads as it did. -/
def unitsBalancedUptoRow : OpenClaim := { program := "ytmadlmmfbpmebaa", sum := "1e6a992b902fe1c070583952006c58d4ad666588eb59da8667b47b6e2e926089", func := "boule/boulelaw01.UnitsBalanced", spec := "unitsBalanced", inPlace := ["math/bits.Sub64"], unfollowed := true, recurses := true, named := ["math/bits.divideError", "math/bits.overflowError"], apart := false, narrowed := true }
def UnitsBalancedUptoSaid : Prop := unitsBalancedUptoRow.holds Try.pinned (OpenSpec.upto unitsBalancedSpec)

/-- 'boulelaw01.UnitsWithin', WHERE WHAT IT READS IS OF BULK AT MOST 1048576: true; the input reads as it did. -/
def unitsWithinUptoRow : OpenClaim := { program := "ytmadlmmfbpmebaa", sum := "1e6a992b902fe1c070583952006c58d4ad666588eb59da8667b47b6e2e926089", func := "boule/boulelaw01.UnitsWithin", spec := "unitsWithin", inPlace := ["math/bits.Sub64"], unfollowed := true, recurses := true, named := ["math/bits.divideError", "math/bits.overflowError"], apart := false, narrowed := true }
def UnitsWithinUptoSaid : Prop := unitsWithinUptoRow.holds Try.pinned (OpenSpec.upto unitsWithinSpec)

/-- 'boulelaw01.UnitsCompares', WHERE WHAT IT READS IS OF BULK AT MOST 1048576: true; the input reads as it did. -/
def unitsComparesUptoRow : OpenClaim := { program := "ytmadlmmfbpmebaa", sum := "1e6a992b902fe1c070583952006c58d4ad666588eb59da8667b47b6e2e926089", func := "boule/boulelaw01.UnitsCompares", spec := "unitsCompares", inPlace := ["math/bits.Sub64"], unfollowed := true, recurses := true, named := ["math/bits.divideError", "math/bits.overflowError"], apart := false, narrowed := true }
def UnitsComparesUptoSaid : Prop := unitsComparesUptoRow.holds Try.pinned (OpenSpec.upto unitsComparesSpec)

/-- 'boulelaw01.UnitsOrder', WHERE WHAT IT READS IS OF BULK AT MOST 1048576: true; the input reads as it did. -/
def unitsOrderUptoRow : OpenClaim := { program := "ytmadlmmfbpmebaa", sum := "1e6a992b902fe1c070583952006c58d4ad666588eb59da8667b47b6e2e926089", func := "boule/boulelaw01.UnitsOrder", spec := "unitsOrder", inPlace := ["math/bits.Sub64"], unfollowed := true, recurses := true, named := ["math/bits.divideError", "math/bits.overflowError"], apart := false, narrowed := true }
def UnitsOrderUptoSaid : Prop := unitsOrderUptoRow.holds Try.pinned (OpenSpec.upto unitsOrderSpec)

/-- 'boulelaw01.UnitsNoSimpler', WHERE WHAT IT READS IS OF BULK AT MOST 1048576: true; the input reads as it did. -/
def unitsNoSimplerUptoRow : OpenClaim := { program := "ytmadlmmfbpmebaa", sum := "1e6a992b902fe1c070583952006c58d4ad666588eb59da8667b47b6e2e926089", func := "boule/boulelaw01.UnitsNoSimpler", spec := "unitsNoSimpler", inPlace := ["math/bits.Sub64"], unfollowed := true, recurses := true, named := ["math/bits.divideError", "math/bits.overflowError"], apart := false, narrowed := true }
def UnitsNoSimplerUptoSaid : Prop := unitsNoSimplerUptoRow.holds Try.pinned (OpenSpec.upto unitsNoSimplerSpec)

/-- 'boulelaw01.UnitsScales', WHERE WHAT IT READS IS OF BULK AT MOST 1048576: true; the input reads as it did. -/
def unitsScalesUptoRow : OpenClaim := { program := "ytmadlmmfbpmebaa", sum := "1e6a992b902fe1c070583952006c58d4ad666588eb59da8667b47b6e2e926089", func := "boule/boulelaw01.UnitsScales", spec := "unitsScales", inPlace := ["math/bits.Sub64"], unfollowed := true, recurses := true, named := ["math/bits.divideError", "math/bits.overflowError"], apart := false, narrowed := true }
def UnitsScalesUptoSaid : Prop := unitsScalesUptoRow.holds Try.pinned (OpenSpec.upto unitsScalesSpec)

/-- 'boulelaw01.UnitsWheres', WHERE WHAT IT READS IS OF BULK AT MOST 1048576: true; the input reads as it did. -/
def unitsWheresUptoRow : OpenClaim := { program := "ytmadlmmfbpmebaa", sum := "1e6a992b902fe1c070583952006c58d4ad666588eb59da8667b47b6e2e926089", func := "boule/boulelaw01.UnitsWheres", spec := "unitsWheres", inPlace := ["math/bits.Sub64"], unfollowed := true, recurses := true, named := ["math/bits.divideError", "math/bits.overflowError"], apart := false, narrowed := true }
def UnitsWheresUptoSaid : Prop := unitsWheresUptoRow.holds Try.pinned (OpenSpec.upto unitsWheresSpec)

/-- 'boulelaw01.UnitsThroughs', WHERE WHAT IT READS IS OF BULK AT MOST 1048576: true; the input reads as it did. -/
def unitsThroughsUptoRow : OpenClaim := { program := "ytmadlmmfbpmebaa", sum := "1e6a992b902fe1c070583952006c58d4ad666588eb59da8667b47b6e2e926089", func := "boule/boulelaw01.UnitsThroughs", spec := "unitsThroughs", inPlace := ["math/bits.Sub64"], unfollowed := true, recurses := true, named := ["math/bits.divideError", "math/bits.overflowError"], apart := false, narrowed := true }
def UnitsThroughsUptoSaid : Prop := unitsThroughsUptoRow.holds Try.pinned (OpenSpec.upto unitsThroughsSpec)

/-- 'boulelaw01.UnitsPairs', WHERE WHAT IT READS IS OF BULK AT MOST 1048576: true; the input reads as it did. -/
def unitsPairsUptoRow : OpenClaim := { program := "ytmadlmmfbpmebaa", sum := "1e6a992b902fe1c070583952006c58d4ad666588eb59da8667b47b6e2e926089", func := "boule/boulelaw01.UnitsPairs", spec := "unitsPairs", inPlace := ["math/bits.Sub64"], unfollowed := true, recurses := true, named := ["math/bits.divideError", "math/bits.overflowError"], apart := false, narrowed := true }
def UnitsPairsUptoSaid : Prop := unitsPairsUptoRow.holds Try.pinned (OpenSpec.upto unitsPairsSpec)

/-- 'boulelaw01.UnitsLists', WHERE WHAT IT READS IS OF BULK AT MOST 1048576: true; the input reads as it did. -/
def unitsListsUptoRow : OpenClaim := { program := "ytmadlmmfbpmebaa", sum := "1e6a992b902fe1c070583952006c58d4ad666588eb59da8667b47b6e2e926089", func := "boule/boulelaw01.UnitsLists", spec := "unitsLists", inPlace := ["math/bits.Sub64"], unfollowed := true, recurses := true, named := ["math/bits.divideError", "math/bits.overflowError"], apart := false, narrowed := true }
def UnitsListsUptoSaid : Prop := unitsListsUptoRow.holds Try.pinned (OpenSpec.upto unitsListsSpec)

/-- 'boulelaw01.UnitsAllResults', WHERE WHAT IT READS IS OF BULK AT MOST 1048576: true; the input reads as it did. -/
def unitsAllResultsUptoRow : OpenClaim := { program := "ytmadlmmfbpmebaa", sum := "1e6a992b902fe1c070583952006c58d4ad666588eb59da8667b47b6e2e926089", func := "boule/boulelaw01.UnitsAllResults", spec := "unitsAllResults", inPlace := ["math/bits.Sub64"], unfollowed := true, recurses := true, named := ["math/bits.divideError", "math/bits.overflowError"], apart := false, narrowed := true }
def UnitsAllResultsUptoSaid : Prop := unitsAllResultsUptoRow.holds Try.pinned (OpenSpec.upto unitsAllResultsSpec)

end Rows
end Go.Proofs.Ytmadlmmfbpmebaa
