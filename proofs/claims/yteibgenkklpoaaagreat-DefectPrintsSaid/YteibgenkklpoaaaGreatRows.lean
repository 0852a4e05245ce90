/-
  No cell of these rows narrows 'for every input' (looked for: loops, veiled, ifaces, maps, wideKeys, modest, calm, conditions, laid).
  DERIVED. THE GIVEN ROWS OF THIS SEAT. 3 by the template 'for every input the law returns true; each argument reads behind the call as it read before'; 0 by the template 'total and deterministic' (their statements: YteibgenkklpoaaaGreatTotals.lean).
  GIVEN WITH THE SEED: the statements are not yours to turn. If you find one false, say at which input.
  Laid BY PROGRAM, IN A SANDBOX (cutbox-rows.mjs): the forced cells as the released guide's own fill.sh prints them over the translation 40b070f6c44ddef7… (all of the seat's roots in one cut). By AI agents, Wed Nov 11 2026. No macro, syntax, notation, axiom, sorry.
-/
import Derived.Test.YteibgenkklpoaaaGreatChecked
import GoSem.Claim
import GoSem.ClaimJoined
import GoSem.ClaimMapViews
import Derived.JoinedTies
import Derived.KernelRfl
namespace Go.Proofs.YteibgenkklpoaaaGreat
/- THE CELL 'sum', in the pinned program and in every row, IS THE sha256 OF THE DUMP (.gsa) THAT YteibgenkklpoaaaGreatProg.lean LOADS. Nothing in Lean hashes anything: it is a label: what it is worth is what the hold of that sum in a sandbox is worth. -/
noncomputable def Tryz.pinned : Pinned := { name := "yteibgenkklpoaaagreat", sum := "40b070f6c44ddef769ca0dbef04151301044533e0bd8d7405aba90d7dc53ff60", checked := Tryz.checked }
namespace Rows
def none {H : Type} : Left H := { results := [], args := [] }

/-- 'boulelaw05.DefectWindows': WHATEVER THE INPUT: true; the input reads as it did. -/
def defectWindowsSpec : ChangeSpec := { name := "defectWindows", fn := fun _ => fun
  | [d1, d2] => { results := [.lit (.bool true)], args := [d1, d2] }
  | _ => none }
def defectWindowsRow : OpenClaim := { program := "yteibgenkklpoaaagreat", sum := "40b070f6c44ddef769ca0dbef04151301044533e0bd8d7405aba90d7dc53ff60", func := "boule/boulelaw05.DefectWindows", spec := "defectWindows", unfollowed := true, recurses := true, named := ["math/bits.divideError", "math/bits.overflowError"], apart := false }
def DefectWindowsSaid : Prop := defectWindowsRow.holds Tryz.pinned (OpenSpec.ofChange defectWindowsSpec)

/-- ITS FALSE NEIGHBOUR: 'it returns false'. Refute it at one input. -/
def defectWindowsWrong : ChangeSpec := { name := "defectWindows", fn := fun _ => fun
  | [d1, d2] => { results := [.lit (.bool false)], args := [d1, d2] }
  | _ => none }
def DefectWindowsWrongFalsely : Prop := defectWindowsRow.holds Tryz.pinned (OpenSpec.ofChange defectWindowsWrong)

/-- 'boulelaw05.DefectPrints': WHATEVER THE INPUT: true; the input reads as it did. -/
def defectPrintsSpec : ChangeSpec := { name := "defectPrints", fn := fun _ => fun
  | [d1, d2, d3] => { results := [.lit (.bool true)], args := [d1, d2, d3] }
  | _ => none }
def defectPrintsRow : OpenClaim := { program := "yteibgenkklpoaaagreat", sum := "40b070f6c44ddef769ca0dbef04151301044533e0bd8d7405aba90d7dc53ff60", func := "boule/boulelaw05.DefectPrints", spec := "defectPrints", unfollowed := true, recurses := true, named := ["math/bits.divideError", "math/bits.overflowError"], apart := false }
def DefectPrintsSaid : Prop := defectPrintsRow.holds Tryz.pinned (OpenSpec.ofChange defectPrintsSpec)

/-- ITS FALSE NEIGHBOUR: 'it returns false'. Refute it at one input. -/
def defectPrintsWrong : ChangeSpec := { name := "defectPrints", fn := fun _ => fun
  | [d1, d2, d3] => { results := [.lit (.bool false)], args := [d1, d2, d3] }
  | _ => none }
def DefectPrintsWrongFalsely : Prop := defectPrintsRow.holds Tryz.pinned (OpenSpec.ofChange defectPrintsWrong)

/-- 'boulelaw05.DefectUsables': WHATEVER THE INPUT: true; the input reads as it did. -/
def defectUsablesSpec : ChangeSpec := { name := "defectUsables", fn := fun _ => fun
  | [d1, d2, d3] => { results := [.lit (.bool true)], args := [d1, d2, d3] }
  | _ => none }
def defectUsablesRow : OpenClaim := { program := "yteibgenkklpoaaagreat", sum := "40b070f6c44ddef769ca0dbef04151301044533e0bd8d7405aba90d7dc53ff60", func := "boule/boulelaw05.DefectUsables", spec := "defectUsables", unfollowed := true, recurses := true, named := ["math/bits.divideError", "math/bits.overflowError"], apart := false }
def DefectUsablesSaid : Prop := defectUsablesRow.holds Tryz.pinned (OpenSpec.ofChange defectUsablesSpec)

/-- ITS FALSE NEIGHBOUR: 'it returns false'. Refute it at one input. -/
def defectUsablesWrong : ChangeSpec := { name := "defectUsables", fn := fun _ => fun
  | [d1, d2, d3] => { results := [.lit (.bool false)], args := [d1, d2, d3] }
  | _ => none }
def DefectUsablesWrongFalsely : Prop := defectUsablesRow.holds Tryz.pinned (OpenSpec.ofChange defectUsablesWrong)

/- THE SECOND FORM. 'bulk': how many values and letters a reading holds, each counted each time it is reached (what is shared counts as often as it is met; a slice's spare places count too). A statement '..UptoSaid' is the law's where the arguments, and the package variables that the reading takes, are together of bulk at most 1048576: NARROWER than '..Said'. Prove '..Said' where nothing that the law and all that it calls make is longer than what came in: it says more and counts as full. Else prove '..UptoSaid'. A law counts once. -/
mutual
def uptoBulk {H : Type} : DataW H → Nat
  | .lit (.string bytes) => bytes.length + 1
  | .lit _ => 1
  | .nil => 1
  | .ptr d => uptoBulk d + 1
  | .slice elems spare => uptoBulkAll elems + uptoBulkAll spare + 1
  | .agg parts => uptoBulkAll parts + 1
  | .iface _ d => uptoBulk d + 1
  | .map entries => uptoBulkEntries entries + 1
  | .held _ => 1
def uptoBulkAll {H : Type} : List (DataW H) → Nat
  | [] => 0
  | d :: r => uptoBulk d + uptoBulkAll r
def uptoBulkEntries {H : Type} : List (Lit × DataW H) → Nat
  | [] => 0
  | x :: r => uptoBulkEntry x + uptoBulkEntries r
def uptoBulkEntry {H : Type} : Lit × DataW H → Nat
  | (.string bytes, d) => bytes.length + uptoBulk d + 1
  | (_, d) => uptoBulk d + 1
 end
def uptoSmall : (H : Type) → List (DataW H) → Bool := fun _ ds => decide (uptoBulkAll ds ≤ 1048576)
def OpenSpec.upto (s : _root_.Go.ChangeSpec) : _root_.Go.OpenSpec := { _root_.Go.OpenSpec.ofChange s with cond := some uptoSmall }

/-- 'boulelaw05.DefectWindows', WHERE WHAT IT READS IS OF BULK AT MOST 1048576: true; the input reads as it did. -/
def defectWindowsUptoRow : OpenClaim := { program := "yteibgenkklpoaaagreat", sum := "40b070f6c44ddef769ca0dbef04151301044533e0bd8d7405aba90d7dc53ff60", func := "boule/boulelaw05.DefectWindows", spec := "defectWindows", unfollowed := true, recurses := true, named := ["math/bits.divideError", "math/bits.overflowError"], apart := false, narrowed := true }
def DefectWindowsUptoSaid : Prop := defectWindowsUptoRow.holds Tryz.pinned (OpenSpec.upto defectWindowsSpec)

/-- 'boulelaw05.DefectPrints', WHERE WHAT IT READS IS OF BULK AT MOST 1048576: true; the input reads as it did. -/
def defectPrintsUptoRow : OpenClaim := { program := "yteibgenkklpoaaagreat", sum := "40b070f6c44ddef769ca0dbef04151301044533e0bd8d7405aba90d7dc53ff60", func := "boule/boulelaw05.DefectPrints", spec := "defectPrints", unfollowed := true, recurses := true, named := ["math/bits.divideError", "math/bits.overflowError"], apart := false, narrowed := true }
def DefectPrintsUptoSaid : Prop := defectPrintsUptoRow.holds Tryz.pinned (OpenSpec.upto defectPrintsSpec)

/-- 'boulelaw05.DefectUsables', WHERE WHAT IT READS IS OF BULK AT MOST 1048576: true; the input reads as it did. -/
def defectUsablesUptoRow : OpenClaim := { program := "yteibgenkklpoaaagreat", sum := "40b070f6c44ddef769ca0dbef04151301044533e0bd8d7405aba90d7dc53ff60", func := "boule/boulelaw05.DefectUsables", spec := "defectUsables", unfollowed := true, recurses := true, named := ["math/bits.divideError", "math/bits.overflowError"], apart := false, narrowed := true }
def DefectUsablesUptoSaid : Prop := defectUsablesUptoRow.holds Tryz.pinned (OpenSpec.upto defectUsablesSpec)

end Rows
end Go.Proofs.YteibgenkklpoaaaGreat
