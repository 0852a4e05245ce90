/-
  No cell of these rows narrows 'for every input' (looked for: loops, veiled, ifaces, maps, wideKeys, modest, calm, conditions, laid).
  DERIVED. THE GIVEN ROWS OF THIS SEAT. 13 by the template 'for every input the law returns true; each argument reads behind the call as it read before'; 0 by the template 'total and deterministic' (their statements: YtljjpidigckheaaTotals.lean).
  GIVEN WITH THE SEED: the statements are not yours to turn. If you find one false, say at which input.
  Laid BY PROGRAM, IN A SANDBOX (cutbox-rows.mjs): the forced cells as the released guide's own fill.sh prints them over the translation 966e6a636af2ab5b… (all of the seat's roots in one cut). By AI agents, Wed Nov 11 2026. No macro, syntax, notation, axiom, sorry.
-/
import Derived.Test.YtljjpidigckheaaChecked
import GoSem.Claim
import GoSem.ClaimJoined
import GoSem.ClaimMapViews
import Derived.JoinedTies
import Derived.KernelRfl
namespace Go.Proofs.Ytljjpidigckheaa
/- THE CELL 'sum', in the pinned program and in every row, IS THE sha256 OF THE DUMP (.gsa) THAT YtljjpidigckheaaProg.lean LOADS. Nothing in Lean hashes anything: it is a label: what it is worth is what the hold of that sum in a sandbox is worth. -/
noncomputable def Try.pinned : Pinned := { name := "ytljjpidigckheaa", sum := "966e6a636af2ab5b7be8ae428ca7dce2bded5ddd604b5aebdd3482d2f112758b", checked := Try.checked }
namespace Rows
def none {H : Type} : Left H := { results := [], args := [] }

/-- 'boulelaw09.FinishTraces': WHATEVER THE INPUT: true; the input reads as it did. -/
def finishTracesSpec : ChangeSpec := { name := "finishTraces", fn := fun _ => fun
  | [d1, d2] => { results := [.lit (.bool true)], args := [d1, d2] }
  | _ => none }
def finishTracesRow : OpenClaim := { program := "ytljjpidigckheaa", sum := "966e6a636af2ab5b7be8ae428ca7dce2bded5ddd604b5aebdd3482d2f112758b", func := "boule/boulelaw09.FinishTraces", spec := "finishTraces", inPlace := ["math/bits.Sub64"], unfollowed := true, recurses := true, named := ["math/bits.divideError", "math/bits.overflowError"], apart := false }
def FinishTracesSaid : Prop := finishTracesRow.holds Try.pinned (OpenSpec.ofChange finishTracesSpec)

/-- ITS FALSE NEIGHBOUR: 'it returns false'. Refute it at one input. -/
def finishTracesWrong : ChangeSpec := { name := "finishTraces", fn := fun _ => fun
  | [d1, d2] => { results := [.lit (.bool false)], args := [d1, d2] }
  | _ => none }
def FinishTracesWrongFalsely : Prop := finishTracesRow.holds Try.pinned (OpenSpec.ofChange finishTracesWrong)

/-- 'boulelaw09.FinishSheets': WHATEVER THE INPUT: true; the input reads as it did. -/
def finishSheetsSpec : ChangeSpec := { name := "finishSheets", fn := fun _ => fun
  | [d] => { results := [.lit (.bool true)], args := [d] }
  | _ => none }
def finishSheetsRow : OpenClaim := { program := "ytljjpidigckheaa", sum := "966e6a636af2ab5b7be8ae428ca7dce2bded5ddd604b5aebdd3482d2f112758b", func := "boule/boulelaw09.FinishSheets", spec := "finishSheets", inPlace := ["math/bits.Sub64"], unfollowed := true, recurses := true, named := ["math/bits.divideError", "math/bits.overflowError"], apart := false }
def FinishSheetsSaid : Prop := finishSheetsRow.holds Try.pinned (OpenSpec.ofChange finishSheetsSpec)

/-- ITS FALSE NEIGHBOUR: 'it returns false'. Refute it at one input. -/
def finishSheetsWrong : ChangeSpec := { name := "finishSheets", fn := fun _ => fun
  | [d] => { results := [.lit (.bool false)], args := [d] }
  | _ => none }
def FinishSheetsWrongFalsely : Prop := finishSheetsRow.holds Try.pinned (OpenSpec.ofChange finishSheetsWrong)

/-- 'boulelaw09.FinishBests': WHATEVER THE INPUT: true; the input reads as it did. -/
def finishBestsSpec : ChangeSpec := { name := "finishBests", fn := fun _ => fun
  | [d1, d2, d3] => { results := [.lit (.bool true)], args := [d1, d2, d3] }
  | _ => none }
def finishBestsRow : OpenClaim := { program := "ytljjpidigckheaa", sum := "966e6a636af2ab5b7be8ae428ca7dce2bded5ddd604b5aebdd3482d2f112758b", func := "boule/boulelaw09.FinishBests", spec := "finishBests", inPlace := ["math/bits.Sub64"], unfollowed := true, recurses := true, named := ["math/bits.divideError", "math/bits.overflowError"], apart := false }
def FinishBestsSaid : Prop := finishBestsRow.holds Try.pinned (OpenSpec.ofChange finishBestsSpec)

/-- ITS FALSE NEIGHBOUR: 'it returns false'. Refute it at one input. -/
def finishBestsWrong : ChangeSpec := { name := "finishBests", fn := fun _ => fun
  | [d1, d2, d3] => { results := [.lit (.bool false)], args := [d1, d2, d3] }
  | _ => none }
def FinishBestsWrongFalsely : Prop := finishBestsRow.holds Try.pinned (OpenSpec.ofChange finishBestsWrong)

/-- 'boulelaw09.FinishFlats': WHATEVER THE INPUT: true; the input reads as it did. -/
def finishFlatsSpec : ChangeSpec := { name := "finishFlats", fn := fun _ => fun
  | [d] => { results := [.lit (.bool true)], args := [d] }
  | _ => none }
def finishFlatsRow : OpenClaim := { program := "ytljjpidigckheaa", sum := "966e6a636af2ab5b7be8ae428ca7dce2bded5ddd604b5aebdd3482d2f112758b", func := "boule/boulelaw09.FinishFlats", spec := "finishFlats", inPlace := ["math/bits.Sub64"], unfollowed := true, recurses := true, named := ["math/bits.divideError", "math/bits.overflowError"], apart := false }
def FinishFlatsSaid : Prop := finishFlatsRow.holds Try.pinned (OpenSpec.ofChange finishFlatsSpec)

/-- ITS FALSE NEIGHBOUR: 'it returns false'. Refute it at one input. -/
def finishFlatsWrong : ChangeSpec := { name := "finishFlats", fn := fun _ => fun
  | [d] => { results := [.lit (.bool false)], args := [d] }
  | _ => none }
def FinishFlatsWrongFalsely : Prop := finishFlatsRow.holds Try.pinned (OpenSpec.ofChange finishFlatsWrong)

/-- 'boulelaw09.FinishProves': WHATEVER THE INPUT: true; the input reads as it did. -/
def finishProvesSpec : ChangeSpec := { name := "finishProves", fn := fun _ => fun
  | [d1, d2, d3] => { results := [.lit (.bool true)], args := [d1, d2, d3] }
  | _ => none }
def finishProvesRow : OpenClaim := { program := "ytljjpidigckheaa", sum := "966e6a636af2ab5b7be8ae428ca7dce2bded5ddd604b5aebdd3482d2f112758b", func := "boule/boulelaw09.FinishProves", spec := "finishProves", inPlace := ["math/bits.Sub64"], unfollowed := true, recurses := true, named := ["math/bits.divideError", "math/bits.overflowError"], apart := false }
def FinishProvesSaid : Prop := finishProvesRow.holds Try.pinned (OpenSpec.ofChange finishProvesSpec)

/-- ITS FALSE NEIGHBOUR: 'it returns false'. Refute it at one input. -/
def finishProvesWrong : ChangeSpec := { name := "finishProves", fn := fun _ => fun
  | [d1, d2, d3] => { results := [.lit (.bool false)], args := [d1, d2, d3] }
  | _ => none }
def FinishProvesWrongFalsely : Prop := finishProvesRow.holds Try.pinned (OpenSpec.ofChange finishProvesWrong)

/-- 'boulelaw09.FinishWindows': WHATEVER THE INPUT: true; the input reads as it did. -/
def finishWindowsSpec : ChangeSpec := { name := "finishWindows", fn := fun _ => fun
  | [d1, d2, d3] => { results := [.lit (.bool true)], args := [d1, d2, d3] }
  | _ => none }
def finishWindowsRow : OpenClaim := { program := "ytljjpidigckheaa", sum := "966e6a636af2ab5b7be8ae428ca7dce2bded5ddd604b5aebdd3482d2f112758b", func := "boule/boulelaw09.FinishWindows", spec := "finishWindows", inPlace := ["math/bits.Sub64"], unfollowed := true, recurses := true, named := ["math/bits.divideError", "math/bits.overflowError"], apart := false }
def FinishWindowsSaid : Prop := finishWindowsRow.holds Try.pinned (OpenSpec.ofChange finishWindowsSpec)

/-- ITS FALSE NEIGHBOUR: 'it returns false'. Refute it at one input. -/
def finishWindowsWrong : ChangeSpec := { name := "finishWindows", fn := fun _ => fun
  | [d1, d2, d3] => { results := [.lit (.bool false)], args := [d1, d2, d3] }
  | _ => none }
def FinishWindowsWrongFalsely : Prop := finishWindowsRow.holds Try.pinned (OpenSpec.ofChange finishWindowsWrong)

/-- 'boulelaw09.FinishAparts': WHATEVER THE INPUT: true; the input reads as it did. -/
def finishApartsSpec : ChangeSpec := { name := "finishAparts", fn := fun _ => fun
  | [d1, d2, d3] => { results := [.lit (.bool true)], args := [d1, d2, d3] }
  | _ => none }
def finishApartsRow : OpenClaim := { program := "ytljjpidigckheaa", sum := "966e6a636af2ab5b7be8ae428ca7dce2bded5ddd604b5aebdd3482d2f112758b", func := "boule/boulelaw09.FinishAparts", spec := "finishAparts", inPlace := ["math/bits.Sub64"], unfollowed := true, recurses := true, named := ["math/bits.divideError", "math/bits.overflowError"], apart := false }
def FinishApartsSaid : Prop := finishApartsRow.holds Try.pinned (OpenSpec.ofChange finishApartsSpec)

/-- ITS FALSE NEIGHBOUR: 'it returns false'. Refute it at one input. -/
def finishApartsWrong : ChangeSpec := { name := "finishAparts", fn := fun _ => fun
  | [d1, d2, d3] => { results := [.lit (.bool false)], args := [d1, d2, d3] }
  | _ => none }
def FinishApartsWrongFalsely : Prop := finishApartsRow.holds Try.pinned (OpenSpec.ofChange finishApartsWrong)

/-- 'boulelaw09.FinishLeft': WHATEVER THE INPUT: true; the input reads as it did. -/
def finishLeftSpec : ChangeSpec := { name := "finishLeft", fn := fun _ => fun
  | [d1, d2, d3] => { results := [.lit (.bool true)], args := [d1, d2, d3] }
  | _ => none }
def finishLeftRow : OpenClaim := { program := "ytljjpidigckheaa", sum := "966e6a636af2ab5b7be8ae428ca7dce2bded5ddd604b5aebdd3482d2f112758b", func := "boule/boulelaw09.FinishLeft", spec := "finishLeft", inPlace := ["math/bits.Sub64"], unfollowed := true, recurses := true, named := ["math/bits.divideError", "math/bits.overflowError"], apart := false }
def FinishLeftSaid : Prop := finishLeftRow.holds Try.pinned (OpenSpec.ofChange finishLeftSpec)

/-- ITS FALSE NEIGHBOUR: 'it returns false'. Refute it at one input. -/
def finishLeftWrong : ChangeSpec := { name := "finishLeft", fn := fun _ => fun
  | [d1, d2, d3] => { results := [.lit (.bool false)], args := [d1, d2, d3] }
  | _ => none }
def FinishLeftWrongFalsely : Prop := finishLeftRow.holds Try.pinned (OpenSpec.ofChange finishLeftWrong)

/-- 'boulelaw09.FinishCommon': WHATEVER THE INPUT: true; the input reads as it did. -/
def finishCommonSpec : ChangeSpec := { name := "finishCommon", fn := fun _ => fun
  | [d1, d2, d3] => { results := [.lit (.bool true)], args := [d1, d2, d3] }
  | _ => none }
def finishCommonRow : OpenClaim := { program := "ytljjpidigckheaa", sum := "966e6a636af2ab5b7be8ae428ca7dce2bded5ddd604b5aebdd3482d2f112758b", func := "boule/boulelaw09.FinishCommon", spec := "finishCommon", inPlace := ["math/bits.Sub64"], unfollowed := true, recurses := true, named := ["math/bits.divideError", "math/bits.overflowError"], apart := false }
def FinishCommonSaid : Prop := finishCommonRow.holds Try.pinned (OpenSpec.ofChange finishCommonSpec)

/-- ITS FALSE NEIGHBOUR: 'it returns false'. Refute it at one input. -/
def finishCommonWrong : ChangeSpec := { name := "finishCommon", fn := fun _ => fun
  | [d1, d2, d3] => { results := [.lit (.bool false)], args := [d1, d2, d3] }
  | _ => none }
def FinishCommonWrongFalsely : Prop := finishCommonRow.holds Try.pinned (OpenSpec.ofChange finishCommonWrong)

/-- 'boulelaw09.FinishNoBetter': WHATEVER THE INPUT: true; the input reads as it did. -/
def finishNoBetterSpec : ChangeSpec := { name := "finishNoBetter", fn := fun _ => fun
  | [d1, d2, d3] => { results := [.lit (.bool true)], args := [d1, d2, d3] }
  | _ => none }
def finishNoBetterRow : OpenClaim := { program := "ytljjpidigckheaa", sum := "966e6a636af2ab5b7be8ae428ca7dce2bded5ddd604b5aebdd3482d2f112758b", func := "boule/boulelaw09.FinishNoBetter", spec := "finishNoBetter", inPlace := ["math/bits.Sub64"], unfollowed := true, recurses := true, named := ["math/bits.divideError", "math/bits.overflowError"], apart := false }
def FinishNoBetterSaid : Prop := finishNoBetterRow.holds Try.pinned (OpenSpec.ofChange finishNoBetterSpec)

/-- ITS FALSE NEIGHBOUR: 'it returns false'. Refute it at one input. -/
def finishNoBetterWrong : ChangeSpec := { name := "finishNoBetter", fn := fun _ => fun
  | [d1, d2, d3] => { results := [.lit (.bool false)], args := [d1, d2, d3] }
  | _ => none }
def FinishNoBetterWrongFalsely : Prop := finishNoBetterRow.holds Try.pinned (OpenSpec.ofChange finishNoBetterWrong)

/-- 'boulelaw09.FinishBetween': WHATEVER THE INPUT: true; the input reads as it did. -/
def finishBetweenSpec : ChangeSpec := { name := "finishBetween", fn := fun _ => fun
  | [d1, d2] => { results := [.lit (.bool true)], args := [d1, d2] }
  | _ => none }
def finishBetweenRow : OpenClaim := { program := "ytljjpidigckheaa", sum := "966e6a636af2ab5b7be8ae428ca7dce2bded5ddd604b5aebdd3482d2f112758b", func := "boule/boulelaw09.FinishBetween", spec := "finishBetween", inPlace := ["math/bits.Sub64"], unfollowed := true, recurses := true, named := ["math/bits.divideError", "math/bits.overflowError"], apart := false }
def FinishBetweenSaid : Prop := finishBetweenRow.holds Try.pinned (OpenSpec.ofChange finishBetweenSpec)

/-- ITS FALSE NEIGHBOUR: 'it returns false'. Refute it at one input. -/
def finishBetweenWrong : ChangeSpec := { name := "finishBetween", fn := fun _ => fun
  | [d1, d2] => { results := [.lit (.bool false)], args := [d1, d2] }
  | _ => none }
def FinishBetweenWrongFalsely : Prop := finishBetweenRow.holds Try.pinned (OpenSpec.ofChange finishBetweenWrong)

/-- 'boulelaw09.FinishApartTrue': WHATEVER THE INPUT: true; the input reads as it did. -/
def finishApartTrueSpec : ChangeSpec := { name := "finishApartTrue", fn := fun _ => fun
  | [d1, d2, d3] => { results := [.lit (.bool true)], args := [d1, d2, d3] }
  | _ => none }
def finishApartTrueRow : OpenClaim := { program := "ytljjpidigckheaa", sum := "966e6a636af2ab5b7be8ae428ca7dce2bded5ddd604b5aebdd3482d2f112758b", func := "boule/boulelaw09.FinishApartTrue", spec := "finishApartTrue", inPlace := ["math/bits.Sub64"], unfollowed := true, recurses := true, named := ["math/bits.divideError", "math/bits.overflowError"], apart := false }
def FinishApartTrueSaid : Prop := finishApartTrueRow.holds Try.pinned (OpenSpec.ofChange finishApartTrueSpec)

/-- ITS FALSE NEIGHBOUR: 'it returns false'. Refute it at one input. -/
def finishApartTrueWrong : ChangeSpec := { name := "finishApartTrue", fn := fun _ => fun
  | [d1, d2, d3] => { results := [.lit (.bool false)], args := [d1, d2, d3] }
  | _ => none }
def FinishApartTrueWrongFalsely : Prop := finishApartTrueRow.holds Try.pinned (OpenSpec.ofChange finishApartTrueWrong)

/-- 'boulelaw09.FinishTrue': WHATEVER THE INPUT: true; the input reads as it did. -/
def finishTrueSpec : ChangeSpec := { name := "finishTrue", fn := fun _ => fun
  | [d1, d2, d3] => { results := [.lit (.bool true)], args := [d1, d2, d3] }
  | _ => none }
def finishTrueRow : OpenClaim := { program := "ytljjpidigckheaa", sum := "966e6a636af2ab5b7be8ae428ca7dce2bded5ddd604b5aebdd3482d2f112758b", func := "boule/boulelaw09.FinishTrue", spec := "finishTrue", inPlace := ["math/bits.Sub64"], unfollowed := true, recurses := true, named := ["math/bits.divideError", "math/bits.overflowError"], apart := false }
def FinishTrueSaid : Prop := finishTrueRow.holds Try.pinned (OpenSpec.ofChange finishTrueSpec)

/-- ITS FALSE NEIGHBOUR: 'it returns false'. Refute it at one input. -/
def finishTrueWrong : ChangeSpec := { name := "finishTrue", fn := fun _ => fun
  | [d1, d2, d3] => { results := [.lit (.bool false)], args := [d1, d2, d3] }
  | _ => none }
def FinishTrueWrongFalsely : Prop := finishTrueRow.holds Try.pinned (OpenSpec.ofChange finishTrueWrong)

/- THE SECOND FORM. 'bulk': how many values and letters a reading holds, each counted each time it is reached (what is shared counts as often as it is met; a slice's spare places count too). A statement '..UptoSaid' is the law's where the arguments, and the package variables that the reading takes, are together of bulk at most 1048576: NARROWER than '..Said'. Prove '..Said' where nothing that the law and all that it calls make is longer than what came in: it says more and counts as full. Else prove '..UptoSaid'. A law counts once. -/
mutual
def uptoBulk {H : Type} : DataW H → Nat
  | .lit (.string bytes) => bytes.length + 1
  | .lit _ => 1
  | .nil => 1
  | .ptr d => uptoBulk d + 1
  | .slice elems spare => uptoBulkAll elems + uptoBulkAll spare + 1
  | .agg parts => uptoBulkAll parts + 1
  | .iface _ d => uptoBulk d + 1
  | .map entries => uptoBulkEntries entries + 1
  | .held _ => 1
def uptoBulkAll {H : Type} : List (DataW H) → Nat
  | [] => 0
  | d :: r => uptoBulk d + uptoBulkAll r
def uptoBulkEntries {H : Type} : List (Lit × DataW H) → Nat
  | [] => 0
  | x :: r => uptoBulkEntry x + uptoBulkEntries r
def uptoBulkEntry {H : Type} : Lit × DataW H → Nat
  | (.string bytes, d) => bytes.length + uptoBulk d + 1
  | (_, d) => uptoBulk d + 1
 end
def uptoSmall : (H : Type) → List (DataW H) → Bool := fun _ ds => decide (uptoBulkAll ds ≤ 1048576)
def OpenSpec.upto (s : _root_.Go.ChangeSpec) : _root_.Go.OpenSpec := { _root_.Go.OpenSpec.ofChange s with cond := some uptoSmall }

/-- 'boulelaw09.FinishTraces', WHERE WHAT IT READS IS OF BULK AT MOST 1048576: true; the input reads as it did. -/
def finishTracesUptoRow : OpenClaim := { program := "ytljjpidigckheaa", sum := "966e6a636af2ab5b7be8ae428ca7dce2bded5ddd604b5aebdd3482d2f112758b", func := "boule/boulelaw09.FinishTraces", spec := "finishTraces", inPlace := ["math/bits.Sub64"], unfollowed := true, recurses := true, named := ["math/bits.divideError", "math/bits.overflowError"], apart := false, narrowed := true }
def FinishTracesUptoSaid : Prop := finishTracesUptoRow.holds Try.pinned (OpenSpec.upto finishTracesSpec)

/-- 'boulelaw09.FinishSheets', WHERE WHAT IT READS IS OF BULK AT MOST 1048576: true; the input reads as it did. -/
def finishSheetsUptoRow : OpenClaim := { program := "ytljjpidigckheaa", sum := "966e6a636af2ab5b7be8ae428ca7dce2bded5ddd604b5aebdd3482d2f112758b", func := "boule/boulelaw09.FinishSheets", spec := "finishSheets", inPlace := ["math/bits.Sub64"], unfollowed := true, recurses := true, named := ["math/bits.divideError", "math/bits.overflowError"], apart := false, narrowed := true }
def FinishSheetsUptoSaid : Prop := finishSheetsUptoRow.holds Try.pinned (OpenSpec.upto finishSheetsSpec)

/-- 'boulelaw09.FinishBests', WHERE WHAT IT READS IS OF BULK AT MOST 1048576: true; the input reads as it did. -/
def finishBestsUptoRow : OpenClaim := { program := "ytljjpidigckheaa", sum := "966e6a636af2ab5b7be8ae428ca7dce2bded5ddd604b5aebdd3482d2f112758b", func := "boule/boulelaw09.FinishBests", spec := "finishBests", inPlace := ["math/bits.Sub64"], unfollowed := true, recurses := true, named := ["math/bits.divideError", "math/bits.overflowError"], apart := false, narrowed := true }
def FinishBestsUptoSaid : Prop := finishBestsUptoRow.holds Try.pinned (OpenSpec.upto finishBestsSpec)

/-- 'boulelaw09.FinishFlats', WHERE WHAT IT READS IS OF BULK AT MOST 1048576: true; the input reads as it did. -/
def finishFlatsUptoRow : OpenClaim := { program := "ytljjpidigckheaa", sum := "966e6a636af2ab5b7be8ae428ca7dce2bded5ddd604b5aebdd3482d2f112758b", func := "boule/boulelaw09.FinishFlats", spec := "finishFlats", inPlace := ["math/bits.Sub64"], unfollowed := true, recurses := true, named := ["math/bits.divideError", "math/bits.overflowError"], apart := false, narrowed := true }
def FinishFlatsUptoSaid : Prop := finishFlatsUptoRow.holds Try.pinned (OpenSpec.upto finishFlatsSpec)

/-- 'boulelaw09.FinishProves', WHERE WHAT IT READS IS OF BULK AT MOST 1048576: true; the input reads as it did. -/
def finishProvesUptoRow : OpenClaim := { program := "ytljjpidigckheaa", sum := "966e6a636af2ab5b7be8ae428ca7dce2bded5ddd604b5aebdd3482d2f112758b", func := "boule/boulelaw09.FinishProves", spec := "finishProves", inPlace := ["math/bits.Sub64"], unfollowed := true, recurses := true, named := ["math/bits.divideError", "math/bits.overflowError"], apart := false, narrowed := true }
def FinishProvesUptoSaid : Prop := finishProvesUptoRow.holds Try.pinned (OpenSpec.upto finishProvesSpec)

/-- 'boulelaw09.FinishWindows', WHERE WHAT IT READS IS OF BULK AT MOST 1048576: true; the input reads as it did. -/
def finishWindowsUptoRow : OpenClaim := { program := "ytljjpidigckheaa", sum := "966e6a636af2ab5b7be8ae428ca7dce2bded5ddd604b5aebdd3482d2f112758b", func := "boule/boulelaw09.FinishWindows", spec := "finishWindows", inPlace := ["math/bits.Sub64"], unfollowed := true, recurses := true, named := ["math/bits.divideError", "math/bits.overflowError"], apart := false, narrowed := true }
def FinishWindowsUptoSaid : Prop := finishWindowsUptoRow.holds Try.pinned (OpenSpec.upto finishWindowsSpec)

/-- 'boulelaw09.FinishAparts', WHERE WHAT IT READS IS OF BULK AT MOST 1048576: true; the input reads as it did. -/
def finishApartsUptoRow : OpenClaim := { program := "ytljjpidigckheaa", sum := "966e6a636af2ab5b7be8ae428ca7dce2bded5ddd604b5aebdd3482d2f112758b", func := "boule/boulelaw09.FinishAparts", spec := "finishAparts", inPlace := ["math/bits.Sub64"], unfollowed := true, recurses := true, named := ["math/bits.divideError", "math/bits.overflowError"], apart := false, narrowed := true }
def FinishApartsUptoSaid : Prop := finishApartsUptoRow.holds Try.pinned (OpenSpec.upto finishApartsSpec)

/-- 'boulelaw09.FinishLeft', WHERE WHAT IT READS IS OF BULK AT MOST 1048576: true; the input reads as it did. -/
def finishLeftUptoRow : OpenClaim := { program := "ytljjpidigckheaa", sum := "966e6a636af2ab5b7be8ae428ca7dce2bded5ddd604b5aebdd3482d2f112758b", func := "boule/boulelaw09.FinishLeft", spec := "finishLeft", inPlace := ["math/bits.Sub64"], unfollowed := true, recurses := true, named := ["math/bits.divideError", "math/bits.overflowError"], apart := false, narrowed := true }
def FinishLeftUptoSaid : Prop := finishLeftUptoRow.holds Try.pinned (OpenSpec.upto finishLeftSpec)

/-- 'boulelaw09.FinishCommon', WHERE WHAT IT READS IS OF BULK AT MOST 1048576: true; the input reads as it did. -/
def finishCommonUptoRow : OpenClaim := { program := "ytljjpidigckheaa", sum := "966e6a636af2ab5b7be8ae428ca7dce2bded5ddd604b5aebdd3482d2f112758b", func := "boule/boulelaw09.FinishCommon", spec := "finishCommon", inPlace := ["math/bits.Sub64"], unfollowed := true, recurses := true, named := ["math/bits.divideError", "math/bits.overflowError"], apart := false, narrowed := true }
def FinishCommonUptoSaid : Prop := finishCommonUptoRow.holds Try.pinned (OpenSpec.upto finishCommonSpec)

/-- 'boulelaw09.FinishNoBetter', WHERE WHAT IT READS IS OF BULK AT MOST 1048576: true; the input reads as it did. -/
def finishNoBetterUptoRow : OpenClaim := { program := "ytljjpidigckheaa", sum := "966e6a636af2ab5b7be8ae428ca7dce2bded5ddd604b5aebdd3482d2f112758b", func := "boule/boulelaw09.FinishNoBetter", spec := "finishNoBetter", inPlace := ["math/bits.Sub64"], unfollowed := true, recurses := true, named := ["math/bits.divideError", "math/bits.overflowError"], apart := false, narrowed := true }
def FinishNoBetterUptoSaid : Prop := finishNoBetterUptoRow.holds Try.pinned (OpenSpec.upto finishNoBetterSpec)

/-- 'boulelaw09.FinishBetween', WHERE WHAT IT READS IS OF BULK AT MOST 1048576: true; the input reads as it did. -/
def finishBetweenUptoRow : OpenClaim := { program := "ytljjpidigckheaa", sum := "966e6a636af2ab5b7be8ae428ca7dce2bded5ddd604b5aebdd3482d2f112758b", func := "boule/boulelaw09.FinishBetween", spec := "finishBetween", inPlace := ["math/bits.Sub64"], unfollowed := true, recurses := true, named := ["math/bits.divideError", "math/bits.overflowError"], apart := false, narrowed := true }
def FinishBetweenUptoSaid : Prop := finishBetweenUptoRow.holds Try.pinned (OpenSpec.upto finishBetweenSpec)

/-- 'boulelaw09.FinishApartTrue', WHERE WHAT IT READS IS OF BULK AT MOST 1048576: true; the input reads as it did. -/
def finishApartTrueUptoRow : OpenClaim := { program := "ytljjpidigckheaa", sum := "966e6a636af2ab5b7be8ae428ca7dce2bded5ddd604b5aebdd3482d2f112758b", func := "boule/boulelaw09.FinishApartTrue", spec := "finishApartTrue", inPlace := ["math/bits.Sub64"], unfollowed := true, recurses := true, named := ["math/bits.divideError", "math/bits.overflowError"], apart := false, narrowed := true }
def FinishApartTrueUptoSaid : Prop := finishApartTrueUptoRow.holds Try.pinned (OpenSpec.upto finishApartTrueSpec)

/-- 'boulelaw09.FinishTrue', WHERE WHAT IT READS IS OF BULK AT MOST 1048576: true; the input reads as it did. -/
def finishTrueUptoRow : OpenClaim := { program := "ytljjpidigckheaa", sum := "966e6a636af2ab5b7be8ae428ca7dce2bded5ddd604b5aebdd3482d2f112758b", func := "boule/boulelaw09.FinishTrue", spec := "finishTrue", inPlace := ["math/bits.Sub64"], unfollowed := true, recurses := true, named := ["math/bits.divideError", "math/bits.overflowError"], apart := false, narrowed := true }
def FinishTrueUptoSaid : Prop := finishTrueUptoRow.holds Try.pinned (OpenSpec.upto finishTrueSpec)

end Rows
end Go.Proofs.Ytljjpidigckheaa
