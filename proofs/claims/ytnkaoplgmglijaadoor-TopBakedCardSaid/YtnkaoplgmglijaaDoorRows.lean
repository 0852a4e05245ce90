/-
  NARROWER THAN 'FOR EVERY INPUT', by the rows' own cells (each row's printed sentence says how): MeltAll: laid · TopBaked: laid.
  DERIVED. THE GIVEN ROWS OF THIS SEAT. 2 by the template 'for every input the law returns true; each argument reads behind the call as it read before'; 0 by the template 'total and deterministic' (their statements: YtnkaoplgmglijaaDoorTotals.lean).
  GIVEN WITH THE SEED: the statements are not yours to turn. If you find one false, say at which input.
  Laid BY PROGRAM, IN A SANDBOX (cutbox-rows.mjs): the forced cells as the released guide's own fill.sh prints them over the translation 157507f8cda8c142… (all of the seat's roots in one cut). By AI agents, Wed Nov 11 2026. No macro, syntax, notation, axiom, sorry.
-/
import Derived.Test.YtnkaoplgmglijaaDoorChecked
import GoSem.Claim
import GoSem.ClaimJoined
import GoSem.ClaimMapViews
import Derived.JoinedTies
import Derived.KernelRfl
namespace Go.Proofs.YtnkaoplgmglijaaDoor
/- THE CELL 'sum', in the pinned program and in every row, IS THE sha256 OF THE DUMP (.gsa) THAT YtnkaoplgmglijaaDoorProg.lean LOADS. Nothing in Lean hashes anything: it is a label: what it is worth is what the hold of that sum in a sandbox is worth. -/
noncomputable def Tryd.pinned : Pinned := { name := "ytnkaoplgmglijaadoor", sum := "157507f8cda8c142a6fa4c089bd6588385e0a9e7051153325f1de5254695920f", checked := Tryd.checked }
namespace Rows
def none {H : Type} : Left H := { results := [], args := [] }

/- WHAT THE LISTED PACKAGE-LEVEL VARIABLES READ AS WHEN THE CALL BEGINS. Each datum BY PROGRAM (the guide's laid-datum.mjs) off the statement by which the dump's own 'gosem.cut.vars' lays the variable. In a bare row this is a premise. The card (YtnkaoplgmglijaaDoorCards.lean) ties it to the program's text. -/
def laid_boule_melt_limits {H : Type} : DataW H := .agg [.agg [.lit (.int .i64 0), .lit (.bool false)], .agg [.lit (.int .i64 20000), .lit (.bool true)], .agg [.lit (.int .i64 1000000000000), .lit (.bool true)], .agg [.lit (.int .i64 1000000000000), .lit (.bool false)], .agg [.lit (.int .i64 10000), .lit (.bool false)]]
def laid_boule_melt_poor {H : Type} : DataW H := .agg [.lit (.bool false), .lit (.bool true), .lit (.bool true)]
def laid_boule_melt_rich {H : Type} : DataW H := .agg [.lit (.bool true), .lit (.bool false), .lit (.bool false)]

/-- 'boulelaw03.MeltAll': WHATEVER THE INPUT: true; the input reads as it did. -/
def meltAllSpec : ChangeSpec := { name := "meltAll", fn := fun _ => fun
  | [d1, d2] => { results := [.lit (.bool true)], args := [d1, d2] }
  | _ => none }
def meltAllRow : OpenClaim := { program := "ytnkaoplgmglijaadoor", sum := "157507f8cda8c142a6fa4c089bd6588385e0a9e7051153325f1de5254695920f", func := "boule/boulelaw03.MeltAll", spec := "meltAll", inPlace := ["math/bits.Add64"], unfollowed := true, recurses := true, named := ["boule/melt.limits", "boule/melt.rich", "boule/melt.poor", "math/bits.divideError", "math/bits.overflowError"], apart := false, laid := [("boule/melt.limits", laid_boule_melt_limits), ("boule/melt.poor", laid_boule_melt_poor), ("boule/melt.rich", laid_boule_melt_rich)] }
def MeltAllSaid : Prop := meltAllRow.holds Tryd.pinned (OpenSpec.ofChange meltAllSpec)

/-- ITS FALSE NEIGHBOUR: 'it returns false'. Refute it at one input. -/
def meltAllWrong : ChangeSpec := { name := "meltAll", fn := fun _ => fun
  | [d1, d2] => { results := [.lit (.bool false)], args := [d1, d2] }
  | _ => none }
def MeltAllWrongFalsely : Prop := meltAllRow.holds Tryd.pinned (OpenSpec.ofChange meltAllWrong)

/-- 'bouletop.TopBaked': WHATEVER THE INPUT: true; the input reads as it did. -/
def topBakedSpec : ChangeSpec := { name := "topBaked", fn := fun _ => fun
  | [d1, d2, d3] => { results := [.lit (.bool true)], args := [d1, d2, d3] }
  | _ => none }
def topBakedRow : OpenClaim := { program := "ytnkaoplgmglijaadoor", sum := "157507f8cda8c142a6fa4c089bd6588385e0a9e7051153325f1de5254695920f", func := "boule/bouletop.TopBaked", spec := "topBaked", unfollowed := true, recurses := true, named := ["boule/melt.limits", "boule/melt.rich", "boule/melt.poor", "math/bits.divideError", "math/bits.overflowError"], apart := false, laid := [("boule/melt.limits", laid_boule_melt_limits), ("boule/melt.poor", laid_boule_melt_poor), ("boule/melt.rich", laid_boule_melt_rich)] }
def TopBakedSaid : Prop := topBakedRow.holds Tryd.pinned (OpenSpec.ofChange topBakedSpec)

/-- ITS FALSE NEIGHBOUR: 'it returns false'. Refute it at one input. -/
def topBakedWrong : ChangeSpec := { name := "topBaked", fn := fun _ => fun
  | [d1, d2, d3] => { results := [.lit (.bool false)], args := [d1, d2, d3] }
  | _ => none }
def TopBakedWrongFalsely : Prop := topBakedRow.holds Tryd.pinned (OpenSpec.ofChange topBakedWrong)

/- THE SECOND FORM. 'bulk': how many values and letters a reading holds, each counted each time it is reached (what is shared counts as often as it is met; a slice's spare places count too). A statement '..UptoSaid' is the law's where the arguments, and the package variables that the reading takes, are together of bulk at most 1048576: NARROWER than '..Said'. Prove '..Said' where nothing that the law and all that it calls make is longer than what came in: it says more and counts as full. Else prove '..UptoSaid'. A law counts once. -/
mutual
def uptoBulk {H : Type} : DataW H → Nat
  | .lit (.string bytes) => bytes.length + 1
  | .lit _ => 1
  | .nil => 1
  | .ptr d => uptoBulk d + 1
  | .slice elems spare => uptoBulkAll elems + uptoBulkAll spare + 1
  | .agg parts => uptoBulkAll parts + 1
  | .iface _ d => uptoBulk d + 1
  | .map entries => uptoBulkEntries entries + 1
  | .held _ => 1
def uptoBulkAll {H : Type} : List (DataW H) → Nat
  | [] => 0
  | d :: r => uptoBulk d + uptoBulkAll r
def uptoBulkEntries {H : Type} : List (Lit × DataW H) → Nat
  | [] => 0
  | x :: r => uptoBulkEntry x + uptoBulkEntries r
def uptoBulkEntry {H : Type} : Lit × DataW H → Nat
  | (.string bytes, d) => bytes.length + uptoBulk d + 1
  | (_, d) => uptoBulk d + 1
 end
def uptoSmall : (H : Type) → List (DataW H) → Bool := fun _ ds => decide (uptoBulkAll ds ≤ 1048576)
def OpenSpec.upto (s : _root_.Go.ChangeSpec) : _root_.Go.OpenSpec := { _root_.Go.OpenSpec.ofChange s with cond := some uptoSmall }

/-- 'boulelaw03.MeltAll', WHERE WHAT IT READS IS OF BULK AT MOST 1048576: true; the input reads as it did. -/
def meltAllUptoRow : OpenClaim := { program := "ytnkaoplgmglijaadoor", sum := "157507f8cda8c142a6fa4c089bd6588385e0a9e7051153325f1de5254695920f", func := "boule/boulelaw03.MeltAll", spec := "meltAll", inPlace := ["math/bits.Add64"], unfollowed := true, recurses := true, named := ["boule/melt.limits", "boule/melt.rich", "boule/melt.poor", "math/bits.divideError", "math/bits.overflowError"], apart := false, laid := [("boule/melt.limits", laid_boule_melt_limits), ("boule/melt.poor", laid_boule_melt_poor), ("boule/melt.rich", laid_boule_melt_rich)], narrowed := true }
def MeltAllUptoSaid : Prop := meltAllUptoRow.holds Tryd.pinned (OpenSpec.upto meltAllSpec)

/-- 'bouletop.TopBaked', WHERE WHAT IT READS IS OF BULK AT MOST 1048576: true; the input reads as it did. -/
def topBakedUptoRow : OpenClaim := { program := "ytnkaoplgmglijaadoor", sum := "157507f8cda8c142a6fa4c089bd6588385e0a9e7051153325f1de5254695920f", func := "boule/bouletop.TopBaked", spec := "topBaked", unfollowed := true, recurses := true, named := ["boule/melt.limits", "boule/melt.rich", "boule/melt.poor", "math/bits.divideError", "math/bits.overflowError"], apart := false, laid := [("boule/melt.limits", laid_boule_melt_limits), ("boule/melt.poor", laid_boule_melt_poor), ("boule/melt.rich", laid_boule_melt_rich)], narrowed := true }
def TopBakedUptoSaid : Prop := topBakedUptoRow.holds Tryd.pinned (OpenSpec.upto topBakedSpec)

end Rows
end Go.Proofs.YtnkaoplgmglijaaDoor
