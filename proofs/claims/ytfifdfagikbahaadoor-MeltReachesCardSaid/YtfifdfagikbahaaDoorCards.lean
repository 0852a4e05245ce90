/-
  DERIVED. GIVEN WITH THE SEED: THE CARDS: each row of YtfifdfagikbahaaDoorRows.lean that lists a variable, with what it lists TIED to the program's text (the seventh form; the later family's looks); each row that meets fmt, with fmt's text TOLD by the authors' own Lean function (tested against real Go, not proved from fmt's source: count such statements apart). THE CARD IS WHAT COUNTS. Prove the row's statement (the work); the ties are given (YtfifdfagikbahaaDoorTie.lean); close each card by the builder's one call (the guide's Derived/Test/ToyasCard.lean, 'card_holds'). Laid BY PROGRAM, IN A SANDBOX (cutbox-door.mjs). By AI agents, Wed Nov 11 2026. No macro, syntax, notation, axiom, sorry.
-/
import Derived.Test.YtfifdfagikbahaaDoorRows
import GoSem.ClaimSeven
namespace Go.Proofs.YtfifdfagikbahaaDoor
namespace Rows

/-- THE TIED CARD OF 'boulelaw03.MeltPredicts'. -/
def meltPredictsCard : Claim7 := { stood := { row := meltPredictsRow, standIns := [], harness := (true, "5dfcee2ef8b471712dec7db950209286a583e1f4088b7a256677fbb71c0dd693"), looks := false }, kinds := [], alts := [], laidByText := true, laidKinds := [.data, .wider, .wider], laidTests := true, laidLooks := .later }
def MeltPredictsCardSaid : Prop := Claim7.holds Tryd.pinned (.plain (OpenSpec.ofChange meltPredictsSpec)) meltPredictsCard

/-- THE TIED CARD OF 'boulelaw03.MeltRefills'. -/
def meltRefillsCard : Claim7 := { stood := { row := meltRefillsRow, standIns := [], harness := (true, "5dfcee2ef8b471712dec7db950209286a583e1f4088b7a256677fbb71c0dd693"), looks := false }, kinds := [], alts := [], laidByText := true, laidKinds := [.data, .wider, .wider], laidTests := true, laidLooks := .later }
def MeltRefillsCardSaid : Prop := Claim7.holds Tryd.pinned (.plain (OpenSpec.ofChange meltRefillsSpec)) meltRefillsCard

/-- THE TIED CARD OF 'boulelaw03.MeltNarrows'. -/
def meltNarrowsCard : Claim7 := { stood := { row := meltNarrowsRow, standIns := [], harness := (true, "5dfcee2ef8b471712dec7db950209286a583e1f4088b7a256677fbb71c0dd693"), looks := false }, kinds := [], alts := [], laidByText := true, laidKinds := [.data, .wider, .wider], laidTests := true, laidLooks := .later }
def MeltNarrowsCardSaid : Prop := Claim7.holds Tryd.pinned (.plain (OpenSpec.ofChange meltNarrowsSpec)) meltNarrowsCard

/-- THE TIED CARD OF 'boulelaw03.MeltFollows'. -/
def meltFollowsCard : Claim7 := { stood := { row := meltFollowsRow, standIns := [], harness := (true, "5dfcee2ef8b471712dec7db950209286a583e1f4088b7a256677fbb71c0dd693"), looks := false }, kinds := [], alts := [], laidByText := true, laidKinds := [.data, .wider, .wider], laidTests := true, laidLooks := .later }
def MeltFollowsCardSaid : Prop := Claim7.holds Tryd.pinned (.plain (OpenSpec.ofChange meltFollowsSpec)) meltFollowsCard

/-- THE TIED CARD OF 'boulelaw03.MeltConserves'. -/
def meltConservesCard : Claim7 := { stood := { row := meltConservesRow, standIns := [], harness := (true, "5dfcee2ef8b471712dec7db950209286a583e1f4088b7a256677fbb71c0dd693"), looks := false }, kinds := [], alts := [], laidByText := true, laidKinds := [.data, .wider, .wider], laidTests := true, laidLooks := .later }
def MeltConservesCardSaid : Prop := Claim7.holds Tryd.pinned (.plain (OpenSpec.ofChange meltConservesSpec)) meltConservesCard

/-- THE TIED CARD OF 'boulelaw03.MeltAll'. -/
def meltAllCard : Claim7 := { stood := { row := meltAllRow, standIns := [], harness := (true, "5dfcee2ef8b471712dec7db950209286a583e1f4088b7a256677fbb71c0dd693"), looks := false }, kinds := [], alts := [], laidByText := true, laidKinds := [.data, .wider, .wider], laidTests := true, laidLooks := .later }
def MeltAllCardSaid : Prop := Claim7.holds Tryd.pinned (.plain (OpenSpec.ofChange meltAllSpec)) meltAllCard

/-- THE TIED CARD OF 'boulelaw03.MeltFreezes'. -/
def meltFreezesCard : Claim7 := { stood := { row := meltFreezesRow, standIns := [], harness := (true, "5dfcee2ef8b471712dec7db950209286a583e1f4088b7a256677fbb71c0dd693"), looks := false }, kinds := [], alts := [], laidByText := true, laidKinds := [.data, .wider, .wider], laidTests := true, laidLooks := .later }
def MeltFreezesCardSaid : Prop := Claim7.holds Tryd.pinned (.plain (OpenSpec.ofChange meltFreezesSpec)) meltFreezesCard

/-- THE TIED CARD OF 'boulelaw03.MeltJudges'. -/
def meltJudgesCard : Claim7 := { stood := { row := meltJudgesRow, standIns := [], harness := (true, "5dfcee2ef8b471712dec7db950209286a583e1f4088b7a256677fbb71c0dd693"), looks := false }, kinds := [], alts := [], laidByText := true, laidKinds := [.data, .wider, .wider], laidTests := true, laidLooks := .later }
def MeltJudgesCardSaid : Prop := Claim7.holds Tryd.pinned (.plain (OpenSpec.ofChange meltJudgesSpec)) meltJudgesCard

/-- THE TIED CARD OF 'boulelaw03.MeltReaches'. -/
def meltReachesCard : Claim7 := { stood := { row := meltReachesRow, standIns := [], harness := (true, "5dfcee2ef8b471712dec7db950209286a583e1f4088b7a256677fbb71c0dd693"), looks := false }, kinds := [], alts := [], laidByText := true, laidKinds := [.data, .wider, .wider], laidTests := true, laidLooks := .later }
def MeltReachesCardSaid : Prop := Claim7.holds Tryd.pinned (.plain (OpenSpec.ofChange meltReachesSpec)) meltReachesCard

/-- THE SECOND FORM's CARD OF 'boulelaw03.MeltPredicts'. -/
def meltPredictsUptoCard : Claim7 := { stood := { row := meltPredictsUptoRow, standIns := [], harness := (true, "5dfcee2ef8b471712dec7db950209286a583e1f4088b7a256677fbb71c0dd693"), looks := false }, kinds := [], alts := [], laidByText := true, laidKinds := [.data, .wider, .wider], laidTests := true, laidLooks := .later }
def MeltPredictsUptoCardSaid : Prop := Claim7.holds Tryd.pinned (.plain (OpenSpec.upto meltPredictsSpec)) meltPredictsUptoCard

/-- THE SECOND FORM's CARD OF 'boulelaw03.MeltRefills'. -/
def meltRefillsUptoCard : Claim7 := { stood := { row := meltRefillsUptoRow, standIns := [], harness := (true, "5dfcee2ef8b471712dec7db950209286a583e1f4088b7a256677fbb71c0dd693"), looks := false }, kinds := [], alts := [], laidByText := true, laidKinds := [.data, .wider, .wider], laidTests := true, laidLooks := .later }
def MeltRefillsUptoCardSaid : Prop := Claim7.holds Tryd.pinned (.plain (OpenSpec.upto meltRefillsSpec)) meltRefillsUptoCard

/-- THE SECOND FORM's CARD OF 'boulelaw03.MeltNarrows'. -/
def meltNarrowsUptoCard : Claim7 := { stood := { row := meltNarrowsUptoRow, standIns := [], harness := (true, "5dfcee2ef8b471712dec7db950209286a583e1f4088b7a256677fbb71c0dd693"), looks := false }, kinds := [], alts := [], laidByText := true, laidKinds := [.data, .wider, .wider], laidTests := true, laidLooks := .later }
def MeltNarrowsUptoCardSaid : Prop := Claim7.holds Tryd.pinned (.plain (OpenSpec.upto meltNarrowsSpec)) meltNarrowsUptoCard

/-- THE SECOND FORM's CARD OF 'boulelaw03.MeltFollows'. -/
def meltFollowsUptoCard : Claim7 := { stood := { row := meltFollowsUptoRow, standIns := [], harness := (true, "5dfcee2ef8b471712dec7db950209286a583e1f4088b7a256677fbb71c0dd693"), looks := false }, kinds := [], alts := [], laidByText := true, laidKinds := [.data, .wider, .wider], laidTests := true, laidLooks := .later }
def MeltFollowsUptoCardSaid : Prop := Claim7.holds Tryd.pinned (.plain (OpenSpec.upto meltFollowsSpec)) meltFollowsUptoCard

/-- THE SECOND FORM's CARD OF 'boulelaw03.MeltConserves'. -/
def meltConservesUptoCard : Claim7 := { stood := { row := meltConservesUptoRow, standIns := [], harness := (true, "5dfcee2ef8b471712dec7db950209286a583e1f4088b7a256677fbb71c0dd693"), looks := false }, kinds := [], alts := [], laidByText := true, laidKinds := [.data, .wider, .wider], laidTests := true, laidLooks := .later }
def MeltConservesUptoCardSaid : Prop := Claim7.holds Tryd.pinned (.plain (OpenSpec.upto meltConservesSpec)) meltConservesUptoCard

/-- THE SECOND FORM's CARD OF 'boulelaw03.MeltAll'. -/
def meltAllUptoCard : Claim7 := { stood := { row := meltAllUptoRow, standIns := [], harness := (true, "5dfcee2ef8b471712dec7db950209286a583e1f4088b7a256677fbb71c0dd693"), looks := false }, kinds := [], alts := [], laidByText := true, laidKinds := [.data, .wider, .wider], laidTests := true, laidLooks := .later }
def MeltAllUptoCardSaid : Prop := Claim7.holds Tryd.pinned (.plain (OpenSpec.upto meltAllSpec)) meltAllUptoCard

/-- THE SECOND FORM's CARD OF 'boulelaw03.MeltFreezes'. -/
def meltFreezesUptoCard : Claim7 := { stood := { row := meltFreezesUptoRow, standIns := [], harness := (true, "5dfcee2ef8b471712dec7db950209286a583e1f4088b7a256677fbb71c0dd693"), looks := false }, kinds := [], alts := [], laidByText := true, laidKinds := [.data, .wider, .wider], laidTests := true, laidLooks := .later }
def MeltFreezesUptoCardSaid : Prop := Claim7.holds Tryd.pinned (.plain (OpenSpec.upto meltFreezesSpec)) meltFreezesUptoCard

/-- THE SECOND FORM's CARD OF 'boulelaw03.MeltJudges'. -/
def meltJudgesUptoCard : Claim7 := { stood := { row := meltJudgesUptoRow, standIns := [], harness := (true, "5dfcee2ef8b471712dec7db950209286a583e1f4088b7a256677fbb71c0dd693"), looks := false }, kinds := [], alts := [], laidByText := true, laidKinds := [.data, .wider, .wider], laidTests := true, laidLooks := .later }
def MeltJudgesUptoCardSaid : Prop := Claim7.holds Tryd.pinned (.plain (OpenSpec.upto meltJudgesSpec)) meltJudgesUptoCard

/-- THE SECOND FORM's CARD OF 'boulelaw03.MeltReaches'. -/
def meltReachesUptoCard : Claim7 := { stood := { row := meltReachesUptoRow, standIns := [], harness := (true, "5dfcee2ef8b471712dec7db950209286a583e1f4088b7a256677fbb71c0dd693"), looks := false }, kinds := [], alts := [], laidByText := true, laidKinds := [.data, .wider, .wider], laidTests := true, laidLooks := .later }
def MeltReachesUptoCardSaid : Prop := Claim7.holds Tryd.pinned (.plain (OpenSpec.upto meltReachesSpec)) meltReachesUptoCard
end Rows
end Go.Proofs.YtfifdfagikbahaaDoor
