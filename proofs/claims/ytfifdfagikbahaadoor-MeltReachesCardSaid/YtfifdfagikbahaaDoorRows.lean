/-
  NARROWER THAN 'FOR EVERY INPUT', by the rows' own cells (each row's printed sentence says how): MeltPredicts: laid · MeltRefills: laid · MeltNarrows: laid · MeltFollows: laid · MeltConserves: laid · MeltAll: laid · MeltFreezes: laid · MeltJudges: laid · MeltReaches: laid.
  DERIVED. THE GIVEN ROWS OF THIS SEAT. 9 by the template 'for every input the law returns true; each argument reads behind the call as it read before'; 0 by the template 'total and deterministic' (their statements: YtfifdfagikbahaaDoorTotals.lean).
  GIVEN WITH THE SEED: the statements are not yours to turn. If you find one false, say at which input.
  Laid BY PROGRAM, IN A SANDBOX (cutbox-rows.mjs): the forced cells as the released guide's own fill.sh prints them over the translation 45f5f4f91e1aa802… (all of the seat's roots in one cut). By AI agents, Wed Nov 11 2026. No macro, syntax, notation, axiom, sorry.
-/
import Derived.Test.YtfifdfagikbahaaDoorChecked
import GoSem.Claim
import GoSem.ClaimJoined
import GoSem.ClaimMapViews
import Derived.JoinedTies
import Derived.KernelRfl
namespace Go.Proofs.YtfifdfagikbahaaDoor
/- THE CELL 'sum', in the pinned program and in every row, IS THE sha256 OF THE DUMP (.gsa) THAT YtfifdfagikbahaaDoorProg.lean LOADS. Nothing in Lean hashes anything: it is a label: what it is worth is what the hold of that sum in a sandbox is worth. -/
noncomputable def Tryd.pinned : Pinned := { name := "ytfifdfagikbahaadoor", sum := "45f5f4f91e1aa802bc05b902bdf3cc43cc861548fd857719763cc500e76b70e4", checked := Tryd.checked }
namespace Rows
def none {H : Type} : Left H := { results := [], args := [] }

/- WHAT THE LISTED PACKAGE-LEVEL VARIABLES READ AS WHEN THE CALL BEGINS. Each datum BY PROGRAM (the guide's laid-datum.mjs) off the statement by which the dump's own 'gosem.cut.vars' lays the variable. In a bare row this is a premise. The card (YtfifdfagikbahaaDoorCards.lean) ties it to the program's text. -/
def laid_boule_melt_limits {H : Type} : DataW H := .agg [.agg [.lit (.int .i64 0), .lit (.bool false)], .agg [.lit (.int .i64 20000), .lit (.bool true)], .agg [.lit (.int .i64 1000000000000), .lit (.bool true)], .agg [.lit (.int .i64 1000000000000), .lit (.bool false)], .agg [.lit (.int .i64 10000), .lit (.bool false)]]
def laid_boule_melt_poor {H : Type} : DataW H := .agg [.lit (.bool false), .lit (.bool true), .lit (.bool true)]
def laid_boule_melt_rich {H : Type} : DataW H := .agg [.lit (.bool true), .lit (.bool false), .lit (.bool false)]

/-- 'boulelaw03.MeltPredicts': WHATEVER THE INPUT: true; the input reads as it did. -/
def meltPredictsSpec : ChangeSpec := { name := "meltPredicts", fn := fun _ => fun
  | [d1, d2] => { results := [.lit (.bool true)], args := [d1, d2] }
  | _ => none }
def meltPredictsRow : OpenClaim := { program := "ytfifdfagikbahaadoor", sum := "45f5f4f91e1aa802bc05b902bdf3cc43cc861548fd857719763cc500e76b70e4", func := "boule/boulelaw03.MeltPredicts", spec := "meltPredicts", inPlace := ["math/bits.Add64"], unfollowed := true, recurses := true, named := ["boule/melt.limits", "boule/melt.rich", "boule/melt.poor", "math/bits.divideError", "math/bits.overflowError"], apart := false, laid := [("boule/melt.limits", laid_boule_melt_limits), ("boule/melt.poor", laid_boule_melt_poor), ("boule/melt.rich", laid_boule_melt_rich)] }
def MeltPredictsSaid : Prop := meltPredictsRow.holds Tryd.pinned (OpenSpec.ofChange meltPredictsSpec)

/-- ITS FALSE NEIGHBOUR: 'it returns false'. Refute it at one input. -/
def meltPredictsWrong : ChangeSpec := { name := "meltPredicts", fn := fun _ => fun
  | [d1, d2] => { results := [.lit (.bool false)], args := [d1, d2] }
  | _ => none }
def MeltPredictsWrongFalsely : Prop := meltPredictsRow.holds Tryd.pinned (OpenSpec.ofChange meltPredictsWrong)

/-- 'boulelaw03.MeltRefills': WHATEVER THE INPUT: true; the input reads as it did. -/
def meltRefillsSpec : ChangeSpec := { name := "meltRefills", fn := fun _ => fun
  | [d1, d2] => { results := [.lit (.bool true)], args := [d1, d2] }
  | _ => none }
def meltRefillsRow : OpenClaim := { program := "ytfifdfagikbahaadoor", sum := "45f5f4f91e1aa802bc05b902bdf3cc43cc861548fd857719763cc500e76b70e4", func := "boule/boulelaw03.MeltRefills", spec := "meltRefills", inPlace := ["math/bits.Add64"], unfollowed := true, recurses := true, named := ["boule/melt.limits", "boule/melt.rich", "boule/melt.poor", "math/bits.divideError", "math/bits.overflowError"], apart := false, laid := [("boule/melt.limits", laid_boule_melt_limits), ("boule/melt.poor", laid_boule_melt_poor), ("boule/melt.rich", laid_boule_melt_rich)] }
def MeltRefillsSaid : Prop := meltRefillsRow.holds Tryd.pinned (OpenSpec.ofChange meltRefillsSpec)

/-- ITS FALSE NEIGHBOUR: 'it returns false'. Refute it at one input. -/
def meltRefillsWrong : ChangeSpec := { name := "meltRefills", fn := fun _ => fun
  | [d1, d2] => { results := [.lit (.bool false)], args := [d1, d2] }
  | _ => none }
def MeltRefillsWrongFalsely : Prop := meltRefillsRow.holds Tryd.pinned (OpenSpec.ofChange meltRefillsWrong)

/-- 'boulelaw03.MeltNarrows': WHATEVER THE INPUT: true; the input reads as it did. -/
def meltNarrowsSpec : ChangeSpec := { name := "meltNarrows", fn := fun _ => fun
  | [d1, d2, d3] => { results := [.lit (.bool true)], args := [d1, d2, d3] }
  | _ => none }
def meltNarrowsRow : OpenClaim := { program := "ytfifdfagikbahaadoor", sum := "45f5f4f91e1aa802bc05b902bdf3cc43cc861548fd857719763cc500e76b70e4", func := "boule/boulelaw03.MeltNarrows", spec := "meltNarrows", inPlace := ["math/bits.Add64"], unfollowed := true, recurses := true, named := ["boule/melt.limits", "boule/melt.rich", "boule/melt.poor", "math/bits.divideError", "math/bits.overflowError"], apart := false, laid := [("boule/melt.limits", laid_boule_melt_limits), ("boule/melt.poor", laid_boule_melt_poor), ("boule/melt.rich", laid_boule_melt_rich)] }
def MeltNarrowsSaid : Prop := meltNarrowsRow.holds Tryd.pinned (OpenSpec.ofChange meltNarrowsSpec)

/-- ITS FALSE NEIGHBOUR: 'it returns false'. Refute it at one input. -/
def meltNarrowsWrong : ChangeSpec := { name := "meltNarrows", fn := fun _ => fun
  | [d1, d2, d3] => { results := [.lit (.bool false)], args := [d1, d2, d3] }
  | _ => none }
def MeltNarrowsWrongFalsely : Prop := meltNarrowsRow.holds Tryd.pinned (OpenSpec.ofChange meltNarrowsWrong)

/-- 'boulelaw03.MeltFollows': WHATEVER THE INPUT: true; the input reads as it did. -/
def meltFollowsSpec : ChangeSpec := { name := "meltFollows", fn := fun _ => fun
  | [d1, d2, d3] => { results := [.lit (.bool true)], args := [d1, d2, d3] }
  | _ => none }
def meltFollowsRow : OpenClaim := { program := "ytfifdfagikbahaadoor", sum := "45f5f4f91e1aa802bc05b902bdf3cc43cc861548fd857719763cc500e76b70e4", func := "boule/boulelaw03.MeltFollows", spec := "meltFollows", inPlace := ["math/bits.Add64"], unfollowed := true, recurses := true, named := ["boule/melt.limits", "boule/melt.rich", "boule/melt.poor", "math/bits.divideError", "math/bits.overflowError"], apart := false, laid := [("boule/melt.limits", laid_boule_melt_limits), ("boule/melt.poor", laid_boule_melt_poor), ("boule/melt.rich", laid_boule_melt_rich)] }
def MeltFollowsSaid : Prop := meltFollowsRow.holds Tryd.pinned (OpenSpec.ofChange meltFollowsSpec)

/-- ITS FALSE NEIGHBOUR: 'it returns false'. Refute it at one input. -/
def meltFollowsWrong : ChangeSpec := { name := "meltFollows", fn := fun _ => fun
  | [d1, d2, d3] => { results := [.lit (.bool false)], args := [d1, d2, d3] }
  | _ => none }
def MeltFollowsWrongFalsely : Prop := meltFollowsRow.holds Tryd.pinned (OpenSpec.ofChange meltFollowsWrong)

/-- 'boulelaw03.MeltConserves': WHATEVER THE INPUT: true; the input reads as it did. -/
def meltConservesSpec : ChangeSpec := { name := "meltConserves", fn := fun _ => fun
  | [d1, d2, d3] => { results := [.lit (.bool true)], args := [d1, d2, d3] }
  | _ => none }
def meltConservesRow : OpenClaim := { program := "ytfifdfagikbahaadoor", sum := "45f5f4f91e1aa802bc05b902bdf3cc43cc861548fd857719763cc500e76b70e4", func := "boule/boulelaw03.MeltConserves", spec := "meltConserves", inPlace := ["math/bits.Add64"], unfollowed := true, recurses := true, named := ["boule/melt.limits", "boule/melt.rich", "boule/melt.poor", "math/bits.divideError", "math/bits.overflowError"], apart := false, laid := [("boule/melt.limits", laid_boule_melt_limits), ("boule/melt.poor", laid_boule_melt_poor), ("boule/melt.rich", laid_boule_melt_rich)] }
def MeltConservesSaid : Prop := meltConservesRow.holds Tryd.pinned (OpenSpec.ofChange meltConservesSpec)

/-- ITS FALSE NEIGHBOUR: 'it returns false'. Refute it at one input. -/
def meltConservesWrong : ChangeSpec := { name := "meltConserves", fn := fun _ => fun
  | [d1, d2, d3] => { results := [.lit (.bool false)], args := [d1, d2, d3] }
  | _ => none }
def MeltConservesWrongFalsely : Prop := meltConservesRow.holds Tryd.pinned (OpenSpec.ofChange meltConservesWrong)

/-- 'boulelaw03.MeltAll': WHATEVER THE INPUT: true; the input reads as it did. -/
def meltAllSpec : ChangeSpec := { name := "meltAll", fn := fun _ => fun
  | [d1, d2] => { results := [.lit (.bool true)], args := [d1, d2] }
  | _ => none }
def meltAllRow : OpenClaim := { program := "ytfifdfagikbahaadoor", sum := "45f5f4f91e1aa802bc05b902bdf3cc43cc861548fd857719763cc500e76b70e4", func := "boule/boulelaw03.MeltAll", spec := "meltAll", inPlace := ["math/bits.Add64"], unfollowed := true, recurses := true, named := ["boule/melt.limits", "boule/melt.rich", "boule/melt.poor", "math/bits.divideError", "math/bits.overflowError"], apart := false, laid := [("boule/melt.limits", laid_boule_melt_limits), ("boule/melt.poor", laid_boule_melt_poor), ("boule/melt.rich", laid_boule_melt_rich)] }
def MeltAllSaid : Prop := meltAllRow.holds Tryd.pinned (OpenSpec.ofChange meltAllSpec)

/-- ITS FALSE NEIGHBOUR: 'it returns false'. Refute it at one input. -/
def meltAllWrong : ChangeSpec := { name := "meltAll", fn := fun _ => fun
  | [d1, d2] => { results := [.lit (.bool false)], args := [d1, d2] }
  | _ => none }
def MeltAllWrongFalsely : Prop := meltAllRow.holds Tryd.pinned (OpenSpec.ofChange meltAllWrong)

/-- 'boulelaw03.MeltFreezes': WHATEVER THE INPUT: true; the input reads as it did. -/
def meltFreezesSpec : ChangeSpec := { name := "meltFreezes", fn := fun _ => fun
  | [d1, d2, d3] => { results := [.lit (.bool true)], args := [d1, d2, d3] }
  | _ => none }
def meltFreezesRow : OpenClaim := { program := "ytfifdfagikbahaadoor", sum := "45f5f4f91e1aa802bc05b902bdf3cc43cc861548fd857719763cc500e76b70e4", func := "boule/boulelaw03.MeltFreezes", spec := "meltFreezes", inPlace := ["math/bits.Add64"], unfollowed := true, recurses := true, named := ["boule/melt.limits", "boule/melt.rich", "boule/melt.poor", "math/bits.divideError", "math/bits.overflowError"], apart := false, laid := [("boule/melt.limits", laid_boule_melt_limits), ("boule/melt.poor", laid_boule_melt_poor), ("boule/melt.rich", laid_boule_melt_rich)] }
def MeltFreezesSaid : Prop := meltFreezesRow.holds Tryd.pinned (OpenSpec.ofChange meltFreezesSpec)

/-- ITS FALSE NEIGHBOUR: 'it returns false'. Refute it at one input. -/
def meltFreezesWrong : ChangeSpec := { name := "meltFreezes", fn := fun _ => fun
  | [d1, d2, d3] => { results := [.lit (.bool false)], args := [d1, d2, d3] }
  | _ => none }
def MeltFreezesWrongFalsely : Prop := meltFreezesRow.holds Tryd.pinned (OpenSpec.ofChange meltFreezesWrong)

/-- 'boulelaw03.MeltJudges': WHATEVER THE INPUT: true; the input reads as it did. -/
def meltJudgesSpec : ChangeSpec := { name := "meltJudges", fn := fun _ => fun
  | [d1, d2, d3] => { results := [.lit (.bool true)], args := [d1, d2, d3] }
  | _ => none }
def meltJudgesRow : OpenClaim := { program := "ytfifdfagikbahaadoor", sum := "45f5f4f91e1aa802bc05b902bdf3cc43cc861548fd857719763cc500e76b70e4", func := "boule/boulelaw03.MeltJudges", spec := "meltJudges", inPlace := ["math/bits.Add64"], unfollowed := true, recurses := true, named := ["boule/melt.limits", "boule/melt.rich", "boule/melt.poor", "math/bits.divideError", "math/bits.overflowError"], apart := false, laid := [("boule/melt.limits", laid_boule_melt_limits), ("boule/melt.poor", laid_boule_melt_poor), ("boule/melt.rich", laid_boule_melt_rich)] }
def MeltJudgesSaid : Prop := meltJudgesRow.holds Tryd.pinned (OpenSpec.ofChange meltJudgesSpec)

/-- ITS FALSE NEIGHBOUR: 'it returns false'. Refute it at one input. -/
def meltJudgesWrong : ChangeSpec := { name := "meltJudges", fn := fun _ => fun
  | [d1, d2, d3] => { results := [.lit (.bool false)], args := [d1, d2, d3] }
  | _ => none }
def MeltJudgesWrongFalsely : Prop := meltJudgesRow.holds Tryd.pinned (OpenSpec.ofChange meltJudgesWrong)

/-- 'boulelaw03.MeltReaches': WHATEVER THE INPUT: true; the input reads as it did. -/
def meltReachesSpec : ChangeSpec := { name := "meltReaches", fn := fun _ => fun
  | [d1, d2, d3] => { results := [.lit (.bool true)], args := [d1, d2, d3] }
  | _ => none }
def meltReachesRow : OpenClaim := { program := "ytfifdfagikbahaadoor", sum := "45f5f4f91e1aa802bc05b902bdf3cc43cc861548fd857719763cc500e76b70e4", func := "boule/boulelaw03.MeltReaches", spec := "meltReaches", inPlace := ["math/bits.Add64"], unfollowed := true, recurses := true, named := ["boule/melt.limits", "boule/melt.rich", "boule/melt.poor", "math/bits.divideError", "math/bits.overflowError"], apart := false, laid := [("boule/melt.limits", laid_boule_melt_limits), ("boule/melt.poor", laid_boule_melt_poor), ("boule/melt.rich", laid_boule_melt_rich)] }
def MeltReachesSaid : Prop := meltReachesRow.holds Tryd.pinned (OpenSpec.ofChange meltReachesSpec)

/-- ITS FALSE NEIGHBOUR: 'it returns false'. Refute it at one input. -/
def meltReachesWrong : ChangeSpec := { name := "meltReaches", fn := fun _ => fun
  | [d1, d2, d3] => { results := [.lit (.bool false)], args := [d1, d2, d3] }
  | _ => none }
def MeltReachesWrongFalsely : Prop := meltReachesRow.holds Tryd.pinned (OpenSpec.ofChange meltReachesWrong)

/- THE SECOND FORM. 'bulk': how many values and letters a reading holds, each counted each time it is reached (what is shared counts as often as it is met; a slice's spare places count too). A statement '..UptoSaid' is the law's where the arguments, and the package variables that the reading takes, are together of bulk at most 1048576: NARROWER than '..Said'. Prove '..Said' where nothing that the law and all that it calls make is longer than what came in: it says more and counts as full. Else prove '..UptoSaid'. A law counts once. -/
mutual
def uptoBulk {H : Type} : DataW H → Nat
  | .lit (.string bytes) => bytes.length + 1
  | .lit _ => 1
  | .nil => 1
  | .ptr d => uptoBulk d + 1
  | .slice elems spare => uptoBulkAll elems + uptoBulkAll spare + 1
  | .agg parts => uptoBulkAll parts + 1
  | .iface _ d => uptoBulk d + 1
  | .map entries => uptoBulkEntries entries + 1
  | .held _ => 1
def uptoBulkAll {H : Type} : List (DataW H) → Nat
  | [] => 0
  | d :: r => uptoBulk d + uptoBulkAll r
def uptoBulkEntries {H : Type} : List (Lit × DataW H) → Nat
  | [] => 0
  | x :: r => uptoBulkEntry x + uptoBulkEntries r
def uptoBulkEntry {H : Type} : Lit × DataW H → Nat
  | (.string bytes, d) => bytes.length + uptoBulk d + 1
  | (_, d) => uptoBulk d + 1
 end
def uptoSmall : (H : Type) → List (DataW H) → Bool := fun _ ds => decide (uptoBulkAll ds ≤ 1048576)
def OpenSpec.upto (s : _root_.Go.ChangeSpec) : _root_.Go.OpenSpec := { _root_.Go.OpenSpec.ofChange s with cond := some uptoSmall }

/-- 'boulelaw03.MeltPredicts', WHERE WHAT IT READS IS OF BULK AT MOST 1048576: true; the input reads as it did. -/
def meltPredictsUptoRow : OpenClaim := { program := "ytfifdfagikbahaadoor", sum := "45f5f4f91e1aa802bc05b902bdf3cc43cc861548fd857719763cc500e76b70e4", func := "boule/boulelaw03.MeltPredicts", spec := "meltPredicts", inPlace := ["math/bits.Add64"], unfollowed := true, recurses := true, named := ["boule/melt.limits", "boule/melt.rich", "boule/melt.poor", "math/bits.divideError", "math/bits.overflowError"], apart := false, laid := [("boule/melt.limits", laid_boule_melt_limits), ("boule/melt.poor", laid_boule_melt_poor), ("boule/melt.rich", laid_boule_melt_rich)], narrowed := true }
def MeltPredictsUptoSaid : Prop := meltPredictsUptoRow.holds Tryd.pinned (OpenSpec.upto meltPredictsSpec)

/-- 'boulelaw03.MeltRefills', WHERE WHAT IT READS IS OF BULK AT MOST 1048576: true; the input reads as it did. -/
def meltRefillsUptoRow : OpenClaim := { program := "ytfifdfagikbahaadoor", sum := "45f5f4f91e1aa802bc05b902bdf3cc43cc861548fd857719763cc500e76b70e4", func := "boule/boulelaw03.MeltRefills", spec := "meltRefills", inPlace := ["math/bits.Add64"], unfollowed := true, recurses := true, named := ["boule/melt.limits", "boule/melt.rich", "boule/melt.poor", "math/bits.divideError", "math/bits.overflowError"], apart := false, laid := [("boule/melt.limits", laid_boule_melt_limits), ("boule/melt.poor", laid_boule_melt_poor), ("boule/melt.rich", laid_boule_melt_rich)], narrowed := true }
def MeltRefillsUptoSaid : Prop := meltRefillsUptoRow.holds Tryd.pinned (OpenSpec.upto meltRefillsSpec)

/-- 'boulelaw03.MeltNarrows', WHERE WHAT IT READS IS OF BULK AT MOST 1048576: true; the input reads as it did. -/
def meltNarrowsUptoRow : OpenClaim := { program := "ytfifdfagikbahaadoor", sum := "45f5f4f91e1aa802bc05b902bdf3cc43cc861548fd857719763cc500e76b70e4", func := "boule/boulelaw03.MeltNarrows", spec := "meltNarrows", inPlace := ["math/bits.Add64"], unfollowed := true, recurses := true, named := ["boule/melt.limits", "boule/melt.rich", "boule/melt.poor", "math/bits.divideError", "math/bits.overflowError"], apart := false, laid := [("boule/melt.limits", laid_boule_melt_limits), ("boule/melt.poor", laid_boule_melt_poor), ("boule/melt.rich", laid_boule_melt_rich)], narrowed := true }
def MeltNarrowsUptoSaid : Prop := meltNarrowsUptoRow.holds Tryd.pinned (OpenSpec.upto meltNarrowsSpec)

/-- 'boulelaw03.MeltFollows', WHERE WHAT IT READS IS OF BULK AT MOST 1048576: true; the input reads as it did. -/
def meltFollowsUptoRow : OpenClaim := { program := "ytfifdfagikbahaadoor", sum := "45f5f4f91e1aa802bc05b902bdf3cc43cc861548fd857719763cc500e76b70e4", func := "boule/boulelaw03.MeltFollows", spec := "meltFollows", inPlace := ["math/bits.Add64"], unfollowed := true, recurses := true, named := ["boule/melt.limits", "boule/melt.rich", "boule/melt.poor", "math/bits.divideError", "math/bits.overflowError"], apart := false, laid := [("boule/melt.limits", laid_boule_melt_limits), ("boule/melt.poor", laid_boule_melt_poor), ("boule/melt.rich", laid_boule_melt_rich)], narrowed := true }
def MeltFollowsUptoSaid : Prop := meltFollowsUptoRow.holds Tryd.pinned (OpenSpec.upto meltFollowsSpec)

/-- 'boulelaw03.MeltConserves', WHERE WHAT IT READS IS OF BULK AT MOST 1048576: true; the input reads as it did. -/
def meltConservesUptoRow : OpenClaim := { program := "ytfifdfagikbahaadoor", sum := "45f5f4f91e1aa802bc05b902bdf3cc43cc861548fd857719763cc500e76b70e4", func := "boule/boulelaw03.MeltConserves", spec := "meltConserves", inPlace := ["math/bits.Add64"], unfollowed := true, recurses := true, named := ["boule/melt.limits", "boule/melt.rich", "boule/melt.poor", "math/bits.divideError", "math/bits.overflowError"], apart := false, laid := [("boule/melt.limits", laid_boule_melt_limits), ("boule/melt.poor", laid_boule_melt_poor), ("boule/melt.rich", laid_boule_melt_rich)], narrowed := true }
def MeltConservesUptoSaid : Prop := meltConservesUptoRow.holds Tryd.pinned (OpenSpec.upto meltConservesSpec)

/-- 'boulelaw03.MeltAll', WHERE WHAT IT READS IS OF BULK AT MOST 1048576: true; the input reads as it did. -/
def meltAllUptoRow : OpenClaim := { program := "ytfifdfagikbahaadoor", sum := "45f5f4f91e1aa802bc05b902bdf3cc43cc861548fd857719763cc500e76b70e4", func := "boule/boulelaw03.MeltAll", spec := "meltAll", inPlace := ["math/bits.Add64"], unfollowed := true, recurses := true, named := ["boule/melt.limits", "boule/melt.rich", "boule/melt.poor", "math/bits.divideError", "math/bits.overflowError"], apart := false, laid := [("boule/melt.limits", laid_boule_melt_limits), ("boule/melt.poor", laid_boule_melt_poor), ("boule/melt.rich", laid_boule_melt_rich)], narrowed := true }
def MeltAllUptoSaid : Prop := meltAllUptoRow.holds Tryd.pinned (OpenSpec.upto meltAllSpec)

/-- 'boulelaw03.MeltFreezes', WHERE WHAT IT READS IS OF BULK AT MOST 1048576: true; the input reads as it did. -/
def meltFreezesUptoRow : OpenClaim := { program := "ytfifdfagikbahaadoor", sum := "45f5f4f91e1aa802bc05b902bdf3cc43cc861548fd857719763cc500e76b70e4", func := "boule/boulelaw03.MeltFreezes", spec := "meltFreezes", inPlace := ["math/bits.Add64"], unfollowed := true, recurses := true, named := ["boule/melt.limits", "boule/melt.rich", "boule/melt.poor", "math/bits.divideError", "math/bits.overflowError"], apart := false, laid := [("boule/melt.limits", laid_boule_melt_limits), ("boule/melt.poor", laid_boule_melt_poor), ("boule/melt.rich", laid_boule_melt_rich)], narrowed := true }
def MeltFreezesUptoSaid : Prop := meltFreezesUptoRow.holds Tryd.pinned (OpenSpec.upto meltFreezesSpec)

/-- 'boulelaw03.MeltJudges', WHERE WHAT IT READS IS OF BULK AT MOST 1048576: true; the input reads as it did. -/
def meltJudgesUptoRow : OpenClaim := { program := "ytfifdfagikbahaadoor", sum := "45f5f4f91e1aa802bc05b902bdf3cc43cc861548fd857719763cc500e76b70e4", func := "boule/boulelaw03.MeltJudges", spec := "meltJudges", inPlace := ["math/bits.Add64"], unfollowed := true, recurses := true, named := ["boule/melt.limits", "boule/melt.rich", "boule/melt.poor", "math/bits.divideError", "math/bits.overflowError"], apart := false, laid := [("boule/melt.limits", laid_boule_melt_limits), ("boule/melt.poor", laid_boule_melt_poor), ("boule/melt.rich", laid_boule_melt_rich)], narrowed := true }
def MeltJudgesUptoSaid : Prop := meltJudgesUptoRow.holds Tryd.pinned (OpenSpec.upto meltJudgesSpec)

/-- 'boulelaw03.MeltReaches', WHERE WHAT IT READS IS OF BULK AT MOST 1048576: true; the input reads as it did. -/
def meltReachesUptoRow : OpenClaim := { program := "ytfifdfagikbahaadoor", sum := "45f5f4f91e1aa802bc05b902bdf3cc43cc861548fd857719763cc500e76b70e4", func := "boule/boulelaw03.MeltReaches", spec := "meltReaches", inPlace := ["math/bits.Add64"], unfollowed := true, recurses := true, named := ["boule/melt.limits", "boule/melt.rich", "boule/melt.poor", "math/bits.divideError", "math/bits.overflowError"], apart := false, laid := [("boule/melt.limits", laid_boule_melt_limits), ("boule/melt.poor", laid_boule_melt_poor), ("boule/melt.rich", laid_boule_melt_rich)], narrowed := true }
def MeltReachesUptoSaid : Prop := meltReachesUptoRow.holds Tryd.pinned (OpenSpec.upto meltReachesSpec)

end Rows
end Go.Proofs.YtfifdfagikbahaaDoor
