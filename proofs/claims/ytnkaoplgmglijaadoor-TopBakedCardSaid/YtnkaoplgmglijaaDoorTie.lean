/-
  DERIVED. GIVEN WITH THE SEED: THE PROGRAM's TIES (one call each: nine closed facts by the kernel) AND EACH ROW's TIE, after the 31st guide's Derived/Test/Toyas{Tie, Card}.lean. No idea stands in it: it is a product of the set-up. Laid BY PROGRAM, IN A SANDBOX (cutbox-door.mjs). By AI agents, Wed Nov 11 2026. No macro, syntax, notation, axiom, sorry.
-/
import Derived.Test.YtnkaoplgmglijaaDoorRows
import Derived.LaidByTextLater
import Derived.SevenTiedAt
import Derived.LaidSub
import Derived.LaidOnce
namespace Go.Proofs.YtnkaoplgmglijaaDoor
open Go
set_option maxRecDepth 100000
theorem seatTie1 : Tryd.prog.laidByTextLater [("boule/melt.limits", Rows.laid_boule_melt_limits), ("boule/melt.poor", Rows.laid_boule_melt_poor), ("boule/melt.rich", Rows.laid_boule_melt_rich)] [.data, .wider, .wider] true :=
  Program.laidByTextLater_by_one 28 8 11 (by kernel_rfl) (by kernel_rfl) (by kernel_rfl) (by kernel_rfl) (by kernel_rfl) (by kernel_rfl) (fun _ _ => by kernel_rfl)
theorem noOwnUnsafe : Tryd.pinned.checked.prog.headLifts.contains "ownunsafe" = false := by kernel_rfl
theorem tie : Tryd.prog.laidByTextLater [("boule/melt.limits", Rows.laid_boule_melt_limits), ("boule/melt.poor", Rows.laid_boule_melt_poor), ("boule/melt.rich", Rows.laid_boule_melt_rich)] [.data, .wider, .wider] true :=
  Program.laidByTextLater.sub seatTie1 ["boule/melt.limits", "boule/melt.poor", "boule/melt.rich"] (by kernel_rfl) (by kernel_rfl)
theorem meltAll_row_tie : Rows.meltAllRow.laidByTextAt .later Tryd.pinned [.data, .wider, .wider] true :=
  OpenClaim.laidByTextAt_later rfl rfl tie noOwnUnsafe
theorem topBaked_row_tie : Rows.topBakedRow.laidByTextAt .later Tryd.pinned [.data, .wider, .wider] true :=
  OpenClaim.laidByTextAt_later rfl rfl tie noOwnUnsafe
theorem meltAllUpto_row_tie : Rows.meltAllUptoRow.laidByTextAt .later Tryd.pinned [.data, .wider, .wider] true :=
  OpenClaim.laidByTextAt_later rfl rfl tie noOwnUnsafe
theorem topBakedUpto_row_tie : Rows.topBakedUptoRow.laidByTextAt .later Tryd.pinned [.data, .wider, .wider] true :=
  OpenClaim.laidByTextAt_later rfl rfl tie noOwnUnsafe
end Go.Proofs.YtnkaoplgmglijaaDoor
