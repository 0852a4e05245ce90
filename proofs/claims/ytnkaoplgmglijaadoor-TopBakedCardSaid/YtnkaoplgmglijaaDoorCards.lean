/-
  DERIVED. GIVEN WITH THE SEED: THE CARDS: each row of YtnkaoplgmglijaaDoorRows.lean that lists a variable, with what it lists TIED to the program's text (the seventh form; the later family's looks); each row that meets fmt, with fmt's text TOLD by the authors' own Lean function (tested against real Go, not proved from fmt's source: count such statements apart). THE CARD IS WHAT COUNTS. Prove the row's statement (the work); the ties are given (YtnkaoplgmglijaaDoorTie.lean); close each card by the builder's one call (the guide's Derived/Test/ToyasCard.lean, 'card_holds'). Laid BY PROGRAM, IN A SANDBOX (cutbox-door.mjs). By AI agents, Wed Nov 11 2026. No macro, syntax, notation, axiom, sorry.
-/
import Derived.Test.YtnkaoplgmglijaaDoorRows
import GoSem.ClaimSeven
namespace Go.Proofs.YtnkaoplgmglijaaDoor
namespace Rows

/-- THE TIED CARD OF 'boulelaw03.MeltAll'. -/
def meltAllCard : Claim7 := { stood := { row := meltAllRow, standIns := [], harness := (true, "0aeb92e8cc2e052ef3ac5b173043bdbc811f9830d66b16f9bd7ee5a0dfbfcc54"), looks := false }, kinds := [], alts := [], laidByText := true, laidKinds := [.data, .wider, .wider], laidTests := true, laidLooks := .later }
def MeltAllCardSaid : Prop := Claim7.holds Tryd.pinned (.plain (OpenSpec.ofChange meltAllSpec)) meltAllCard

/-- THE TIED CARD OF 'bouletop.TopBaked'. -/
def topBakedCard : Claim7 := { stood := { row := topBakedRow, standIns := [], harness := (true, "0aeb92e8cc2e052ef3ac5b173043bdbc811f9830d66b16f9bd7ee5a0dfbfcc54"), looks := false }, kinds := [], alts := [], laidByText := true, laidKinds := [.data, .wider, .wider], laidTests := true, laidLooks := .later }
def TopBakedCardSaid : Prop := Claim7.holds Tryd.pinned (.plain (OpenSpec.ofChange topBakedSpec)) topBakedCard

/-- THE SECOND FORM's CARD OF 'boulelaw03.MeltAll'. -/
def meltAllUptoCard : Claim7 := { stood := { row := meltAllUptoRow, standIns := [], harness := (true, "0aeb92e8cc2e052ef3ac5b173043bdbc811f9830d66b16f9bd7ee5a0dfbfcc54"), looks := false }, kinds := [], alts := [], laidByText := true, laidKinds := [.data, .wider, .wider], laidTests := true, laidLooks := .later }
def MeltAllUptoCardSaid : Prop := Claim7.holds Tryd.pinned (.plain (OpenSpec.upto meltAllSpec)) meltAllUptoCard

/-- THE SECOND FORM's CARD OF 'bouletop.TopBaked'. -/
def topBakedUptoCard : Claim7 := { stood := { row := topBakedUptoRow, standIns := [], harness := (true, "0aeb92e8cc2e052ef3ac5b173043bdbc811f9830d66b16f9bd7ee5a0dfbfcc54"), looks := false }, kinds := [], alts := [], laidByText := true, laidKinds := [.data, .wider, .wider], laidTests := true, laidLooks := .later }
def TopBakedUptoCardSaid : Prop := Claim7.holds Tryd.pinned (.plain (OpenSpec.upto topBakedSpec)) topBakedUptoCard
end Rows
end Go.Proofs.YtnkaoplgmglijaaDoor
