/-
  No cell of these rows narrows 'for every input' (looked for: loops, veiled, ifaces, maps, wideKeys, modest, calm, conditions, laid).
  DERIVED. THE GIVEN ROWS OF THIS SEAT. 9 by the template 'for every input the law returns true; each argument reads behind the call as it read before'; 0 by the template 'total and deterministic' (their statements: YtlebefopdnadaaaTotals.lean).
  GIVEN WITH THE SEED: the statements are not yours to turn. If you find one false, say at which input.
  Laid BY PROGRAM, IN A SANDBOX (cutbox-rows.mjs): the forced cells as the released guide's own fill.sh prints them over the translation de3cae307b7ffd93… (all of the seat's roots in one cut). By AI agents, Wed Nov 11 2026. No macro, syntax, notation, axiom, sorry.
-/
import Derived.Test.YtlebefopdnadaaaChecked
import GoSem.Claim
import GoSem.ClaimJoined
import GoSem.ClaimMapViews
import Derived.JoinedTies
import Derived.KernelRfl
namespace Go.Proofs.Ytlebefopdnadaaa
/- THE CELL 'sum', in the pinned program and in every row, IS THE sha256 OF THE DUMP (.gsa) THAT YtlebefopdnadaaaProg.lean LOADS. Nothing in Lean hashes anything: it is a label: what it is worth is what the hold of that sum in a sandbox is worth. -/
noncomputable def Try.pinned : Pinned := { name := "ytlebefopdnadaaa", sum := "de3cae307b7ffd9362a8f5f98153f3e43d64ae40d37081064d7c401b76897f7f", checked := Try.checked }
namespace Rows
def none {H : Type} : Left H := { results := [], args := [] }

/-- 'boulelaw04.PullChecks': WHATEVER THE INPUT: true; the input reads as it did. -/
def pullChecksSpec : ChangeSpec := { name := "pullChecks", fn := fun _ => fun
  | [d1, d2] => { results := [.lit (.bool true)], args := [d1, d2] }
  | _ => none }
def pullChecksRow : OpenClaim := { program := "ytlebefopdnadaaa", sum := "de3cae307b7ffd9362a8f5f98153f3e43d64ae40d37081064d7c401b76897f7f", func := "boule/boulelaw04.PullChecks", spec := "pullChecks", unfollowed := true, recurses := true, apart := false }
def PullChecksSaid : Prop := pullChecksRow.holds Try.pinned (OpenSpec.ofChange pullChecksSpec)

/-- ITS FALSE NEIGHBOUR: 'it returns false'. Refute it at one input. -/
def pullChecksWrong : ChangeSpec := { name := "pullChecks", fn := fun _ => fun
  | [d1, d2] => { results := [.lit (.bool false)], args := [d1, d2] }
  | _ => none }
def PullChecksWrongFalsely : Prop := pullChecksRow.holds Try.pinned (OpenSpec.ofChange pullChecksWrong)

/-- 'boulelaw04.PullLengths': WHATEVER THE INPUT: true; the input reads as it did. -/
def pullLengthsSpec : ChangeSpec := { name := "pullLengths", fn := fun _ => fun
  | [d1, d2, d3] => { results := [.lit (.bool true)], args := [d1, d2, d3] }
  | _ => none }
def pullLengthsRow : OpenClaim := { program := "ytlebefopdnadaaa", sum := "de3cae307b7ffd9362a8f5f98153f3e43d64ae40d37081064d7c401b76897f7f", func := "boule/boulelaw04.PullLengths", spec := "pullLengths", unfollowed := true, recurses := true, apart := false }
def PullLengthsSaid : Prop := pullLengthsRow.holds Try.pinned (OpenSpec.ofChange pullLengthsSpec)

/-- ITS FALSE NEIGHBOUR: 'it returns false'. Refute it at one input. -/
def pullLengthsWrong : ChangeSpec := { name := "pullLengths", fn := fun _ => fun
  | [d1, d2, d3] => { results := [.lit (.bool false)], args := [d1, d2, d3] }
  | _ => none }
def PullLengthsWrongFalsely : Prop := pullLengthsRow.holds Try.pinned (OpenSpec.ofChange pullLengthsWrong)

/-- 'boulelaw04.PullObeys': WHATEVER THE INPUT: true; the input reads as it did. -/
def pullObeysSpec : ChangeSpec := { name := "pullObeys", fn := fun _ => fun
  | [d1, d2] => { results := [.lit (.bool true)], args := [d1, d2] }
  | _ => none }
def pullObeysRow : OpenClaim := { program := "ytlebefopdnadaaa", sum := "de3cae307b7ffd9362a8f5f98153f3e43d64ae40d37081064d7c401b76897f7f", func := "boule/boulelaw04.PullObeys", spec := "pullObeys", unfollowed := true, recurses := true, apart := false }
def PullObeysSaid : Prop := pullObeysRow.holds Try.pinned (OpenSpec.ofChange pullObeysSpec)

/-- ITS FALSE NEIGHBOUR: 'it returns false'. Refute it at one input. -/
def pullObeysWrong : ChangeSpec := { name := "pullObeys", fn := fun _ => fun
  | [d1, d2] => { results := [.lit (.bool false)], args := [d1, d2] }
  | _ => none }
def PullObeysWrongFalsely : Prop := pullObeysRow.holds Try.pinned (OpenSpec.ofChange pullObeysWrong)

/-- 'boulelaw04.PullSees': WHATEVER THE INPUT: true; the input reads as it did. -/
def pullSeesSpec : ChangeSpec := { name := "pullSees", fn := fun _ => fun
  | [d1, d2, d3] => { results := [.lit (.bool true)], args := [d1, d2, d3] }
  | _ => none }
def pullSeesRow : OpenClaim := { program := "ytlebefopdnadaaa", sum := "de3cae307b7ffd9362a8f5f98153f3e43d64ae40d37081064d7c401b76897f7f", func := "boule/boulelaw04.PullSees", spec := "pullSees", unfollowed := true, recurses := true, apart := false }
def PullSeesSaid : Prop := pullSeesRow.holds Try.pinned (OpenSpec.ofChange pullSeesSpec)

/-- ITS FALSE NEIGHBOUR: 'it returns false'. Refute it at one input. -/
def pullSeesWrong : ChangeSpec := { name := "pullSees", fn := fun _ => fun
  | [d1, d2, d3] => { results := [.lit (.bool false)], args := [d1, d2, d3] }
  | _ => none }
def PullSeesWrongFalsely : Prop := pullSeesRow.holds Try.pinned (OpenSpec.ofChange pullSeesWrong)

/-- 'boulelaw04.PullSells': WHATEVER THE INPUT: true; the input reads as it did. -/
def pullSellsSpec : ChangeSpec := { name := "pullSells", fn := fun _ => fun
  | [d1, d2] => { results := [.lit (.bool true)], args := [d1, d2] }
  | _ => none }
def pullSellsRow : OpenClaim := { program := "ytlebefopdnadaaa", sum := "de3cae307b7ffd9362a8f5f98153f3e43d64ae40d37081064d7c401b76897f7f", func := "boule/boulelaw04.PullSells", spec := "pullSells", unfollowed := true, recurses := true, apart := false }
def PullSellsSaid : Prop := pullSellsRow.holds Try.pinned (OpenSpec.ofChange pullSellsSpec)

/-- ITS FALSE NEIGHBOUR: 'it returns false'. Refute it at one input. -/
def pullSellsWrong : ChangeSpec := { name := "pullSells", fn := fun _ => fun
  | [d1, d2] => { results := [.lit (.bool false)], args := [d1, d2] }
  | _ => none }
def PullSellsWrongFalsely : Prop := pullSellsRow.holds Try.pinned (OpenSpec.ofChange pullSellsWrong)

/-- 'boulelaw04.PullTrue': WHATEVER THE INPUT: true; the input reads as it did. -/
def pullTrueSpec : ChangeSpec := { name := "pullTrue", fn := fun _ => fun
  | [d1, d2, d3] => { results := [.lit (.bool true)], args := [d1, d2, d3] }
  | _ => none }
def pullTrueRow : OpenClaim := { program := "ytlebefopdnadaaa", sum := "de3cae307b7ffd9362a8f5f98153f3e43d64ae40d37081064d7c401b76897f7f", func := "boule/boulelaw04.PullTrue", spec := "pullTrue", unfollowed := true, recurses := true, apart := false }
def PullTrueSaid : Prop := pullTrueRow.holds Try.pinned (OpenSpec.ofChange pullTrueSpec)

/-- ITS FALSE NEIGHBOUR: 'it returns false'. Refute it at one input. -/
def pullTrueWrong : ChangeSpec := { name := "pullTrue", fn := fun _ => fun
  | [d1, d2, d3] => { results := [.lit (.bool false)], args := [d1, d2, d3] }
  | _ => none }
def PullTrueWrongFalsely : Prop := pullTrueRow.holds Try.pinned (OpenSpec.ofChange pullTrueWrong)

/-- 'boulelaw04.PullTight': WHATEVER THE INPUT: true; the input reads as it did. -/
def pullTightSpec : ChangeSpec := { name := "pullTight", fn := fun _ => fun
  | [d1, d2, d3] => { results := [.lit (.bool true)], args := [d1, d2, d3] }
  | _ => none }
def pullTightRow : OpenClaim := { program := "ytlebefopdnadaaa", sum := "de3cae307b7ffd9362a8f5f98153f3e43d64ae40d37081064d7c401b76897f7f", func := "boule/boulelaw04.PullTight", spec := "pullTight", unfollowed := true, recurses := true, apart := false }
def PullTightSaid : Prop := pullTightRow.holds Try.pinned (OpenSpec.ofChange pullTightSpec)

/-- ITS FALSE NEIGHBOUR: 'it returns false'. Refute it at one input. -/
def pullTightWrong : ChangeSpec := { name := "pullTight", fn := fun _ => fun
  | [d1, d2, d3] => { results := [.lit (.bool false)], args := [d1, d2, d3] }
  | _ => none }
def PullTightWrongFalsely : Prop := pullTightRow.holds Try.pinned (OpenSpec.ofChange pullTightWrong)

/-- 'boulelaw04.PullNothingBehind': WHATEVER THE INPUT: true; the input reads as it did. -/
def pullNothingBehindSpec : ChangeSpec := { name := "pullNothingBehind", fn := fun _ => fun
  | [d1, d2, d3] => { results := [.lit (.bool true)], args := [d1, d2, d3] }
  | _ => none }
def pullNothingBehindRow : OpenClaim := { program := "ytlebefopdnadaaa", sum := "de3cae307b7ffd9362a8f5f98153f3e43d64ae40d37081064d7c401b76897f7f", func := "boule/boulelaw04.PullNothingBehind", spec := "pullNothingBehind", unfollowed := true, recurses := true, apart := false }
def PullNothingBehindSaid : Prop := pullNothingBehindRow.holds Try.pinned (OpenSpec.ofChange pullNothingBehindSpec)

/-- ITS FALSE NEIGHBOUR: 'it returns false'. Refute it at one input. -/
def pullNothingBehindWrong : ChangeSpec := { name := "pullNothingBehind", fn := fun _ => fun
  | [d1, d2, d3] => { results := [.lit (.bool false)], args := [d1, d2, d3] }
  | _ => none }
def PullNothingBehindWrongFalsely : Prop := pullNothingBehindRow.holds Try.pinned (OpenSpec.ofChange pullNothingBehindWrong)

/-- 'boulelaw04.PullAdds': WHATEVER THE INPUT: true; the input reads as it did. -/
def pullAddsSpec : ChangeSpec := { name := "pullAdds", fn := fun _ => fun
  | [d1, d2] => { results := [.lit (.bool true)], args := [d1, d2] }
  | _ => none }
def pullAddsRow : OpenClaim := { program := "ytlebefopdnadaaa", sum := "de3cae307b7ffd9362a8f5f98153f3e43d64ae40d37081064d7c401b76897f7f", func := "boule/boulelaw04.PullAdds", spec := "pullAdds", unfollowed := true, recurses := true, apart := false }
def PullAddsSaid : Prop := pullAddsRow.holds Try.pinned (OpenSpec.ofChange pullAddsSpec)

/-- ITS FALSE NEIGHBOUR: 'it returns false'. Refute it at one input. -/
def pullAddsWrong : ChangeSpec := { name := "pullAdds", fn := fun _ => fun
  | [d1, d2] => { results := [.lit (.bool false)], args := [d1, d2] }
  | _ => none }
def PullAddsWrongFalsely : Prop := pullAddsRow.holds Try.pinned (OpenSpec.ofChange pullAddsWrong)

/- THE SECOND FORM. 'bulk': how many values and letters a reading holds, each counted each time it is reached (what is shared counts as often as it is met; a slice's spare places count too). A statement '..UptoSaid' is the law's where the arguments, and the package variables that the reading takes, are together of bulk at most 1048576: NARROWER than '..Said'. Prove '..Said' where nothing that the law and all that it calls make is longer than what came in: it says more and counts as full. Else prove '..UptoSaid'. A law counts once. -/
mutual
def uptoBulk {H : Type} : DataW H → Nat
  | .lit (.string bytes) => bytes.length + 1
  | .lit _ => 1
  | .nil => 1
  | .ptr d => uptoBulk d + 1
  | .slice elems spare => uptoBulkAll elems + uptoBulkAll spare + 1
  | .agg parts => uptoBulkAll parts + 1
  | .iface _ d => uptoBulk d + 1
  | .map entries => uptoBulkEntries entries + 1
  | .held _ => 1
def uptoBulkAll {H : Type} : List (DataW H) → Nat
  | [] => 0
  | d :: r => uptoBulk d + uptoBulkAll r
def uptoBulkEntries {H : Type} : List (Lit × DataW H) → Nat
  | [] => 0
  | x :: r => uptoBulkEntry x + uptoBulkEntries r
def uptoBulkEntry {H : Type} : Lit × DataW H → Nat
  | (.string bytes, d) => bytes.length + uptoBulk d + 1
  | (_, d) => uptoBulk d + 1
 end
def uptoSmall : (H : Type) → List (DataW H) → Bool := fun _ ds => decide (uptoBulkAll ds ≤ 1048576)
def OpenSpec.upto (s : _root_.Go.ChangeSpec) : _root_.Go.OpenSpec := { _root_.Go.OpenSpec.ofChange s with cond := some uptoSmall }

/-- 'boulelaw04.PullChecks', WHERE WHAT IT READS IS OF BULK AT MOST 1048576: true; the input reads as it did. -/
def pullChecksUptoRow : OpenClaim := { program := "ytlebefopdnadaaa", sum := "de3cae307b7ffd9362a8f5f98153f3e43d64ae40d37081064d7c401b76897f7f", func := "boule/boulelaw04.PullChecks", spec := "pullChecks", unfollowed := true, recurses := true, apart := false, narrowed := true }
def PullChecksUptoSaid : Prop := pullChecksUptoRow.holds Try.pinned (OpenSpec.upto pullChecksSpec)

/-- 'boulelaw04.PullLengths', WHERE WHAT IT READS IS OF BULK AT MOST 1048576: true; the input reads as it did. -/
def pullLengthsUptoRow : OpenClaim := { program := "ytlebefopdnadaaa", sum := "de3cae307b7ffd9362a8f5f98153f3e43d64ae40d37081064d7c401b76897f7f", func := "boule/boulelaw04.PullLengths", spec := "pullLengths", unfollowed := true, recurses := true, apart := false, narrowed := true }
def PullLengthsUptoSaid : Prop := pullLengthsUptoRow.holds Try.pinned (OpenSpec.upto pullLengthsSpec)

/-- 'boulelaw04.PullObeys', WHERE WHAT IT READS IS OF BULK AT MOST 1048576: true; the input reads as it did. -/
def pullObeysUptoRow : OpenClaim := { program := "ytlebefopdnadaaa", sum := "de3cae307b7ffd9362a8f5f98153f3e43d64ae40d37081064d7c401b76897f7f", func := "boule/boulelaw04.PullObeys", spec := "pullObeys", unfollowed := true, recurses := true, apart := false, narrowed := true }
def PullObeysUptoSaid : Prop := pullObeysUptoRow.holds Try.pinned (OpenSpec.upto pullObeysSpec)

/-- 'boulelaw04.PullSees', WHERE WHAT IT READS IS OF BULK AT MOST 1048576: true; the input reads as it did. -/
def pullSeesUptoRow : OpenClaim := { program := "ytlebefopdnadaaa", sum := "de3cae307b7ffd9362a8f5f98153f3e43d64ae40d37081064d7c401b76897f7f", func := "boule/boulelaw04.PullSees", spec := "pullSees", unfollowed := true, recurses := true, apart := false, narrowed := true }
def PullSeesUptoSaid : Prop := pullSeesUptoRow.holds Try.pinned (OpenSpec.upto pullSeesSpec)

/-- 'boulelaw04.PullSells', WHERE WHAT IT READS IS OF BULK AT MOST 1048576: true; the input reads as it did. -/
def pullSellsUptoRow : OpenClaim := { program := "ytlebefopdnadaaa", sum := "de3cae307b7ffd9362a8f5f98153f3e43d64ae40d37081064d7c401b76897f7f", func := "boule/boulelaw04.PullSells", spec := "pullSells", unfollowed := true, recurses := true, apart := false, narrowed := true }
def PullSellsUptoSaid : Prop := pullSellsUptoRow.holds Try.pinned (OpenSpec.upto pullSellsSpec)

/-- 'boulelaw04.PullTrue', WHERE WHAT IT READS IS OF BULK AT MOST 1048576: true; the input reads as it did. -/
def pullTrueUptoRow : OpenClaim := { program := "ytlebefopdnadaaa", sum := "de3cae307b7ffd9362a8f5f98153f3e43d64ae40d37081064d7c401b76897f7f", func := "boule/boulelaw04.PullTrue", spec := "pullTrue", unfollowed := true, recurses := true, apart := false, narrowed := true }
def PullTrueUptoSaid : Prop := pullTrueUptoRow.holds Try.pinned (OpenSpec.upto pullTrueSpec)

/-- 'boulelaw04.PullTight', WHERE WHAT IT READS IS OF BULK AT MOST 1048576: true; the input reads as it did. -/
def pullTightUptoRow : OpenClaim := { program := "ytlebefopdnadaaa", sum := "de3cae307b7ffd9362a8f5f98153f3e43d64ae40d37081064d7c401b76897f7f", func := "boule/boulelaw04.PullTight", spec := "pullTight", unfollowed := true, recurses := true, apart := false, narrowed := true }
def PullTightUptoSaid : Prop := pullTightUptoRow.holds Try.pinned (OpenSpec.upto pullTightSpec)

/-- 'boulelaw04.PullNothingBehind', WHERE WHAT IT READS IS OF BULK AT MOST 1048576: true; the input reads as it did. -/
def pullNothingBehindUptoRow : OpenClaim := { program := "ytlebefopdnadaaa", sum := "de3cae307b7ffd9362a8f5f98153f3e43d64ae40d37081064d7c401b76897f7f", func := "boule/boulelaw04.PullNothingBehind", spec := "pullNothingBehind", unfollowed := true, recurses := true, apart := false, narrowed := true }
def PullNothingBehindUptoSaid : Prop := pullNothingBehindUptoRow.holds Try.pinned (OpenSpec.upto pullNothingBehindSpec)

/-- 'boulelaw04.PullAdds', WHERE WHAT IT READS IS OF BULK AT MOST 1048576: true; the input reads as it did. -/
def pullAddsUptoRow : OpenClaim := { program := "ytlebefopdnadaaa", sum := "de3cae307b7ffd9362a8f5f98153f3e43d64ae40d37081064d7c401b76897f7f", func := "boule/boulelaw04.PullAdds", spec := "pullAdds", unfollowed := true, recurses := true, apart := false, narrowed := true }
def PullAddsUptoSaid : Prop := pullAddsUptoRow.holds Try.pinned (OpenSpec.upto pullAddsSpec)

end Rows
end Go.Proofs.Ytlebefopdnadaaa
