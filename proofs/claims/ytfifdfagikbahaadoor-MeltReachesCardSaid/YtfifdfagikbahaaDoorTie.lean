/-
  DERIVED. GIVEN WITH THE SEED: THE PROGRAM's TIES (one call each: nine closed facts by the kernel) AND EACH ROW's TIE, after the 31st guide's Derived/Test/Toyas{Tie, Card}.lean. No idea stands in it: it is a product of the set-up. Laid BY PROGRAM, IN A SANDBOX (cutbox-door.mjs). By AI agents, Wed Nov 11 2026. No macro, syntax, notation, axiom, sorry.
-/
import Derived.Test.YtfifdfagikbahaaDoorRows
import Derived.LaidByTextLater
import Derived.SevenTiedAt
import Derived.LaidSub
import Derived.LaidOnce
namespace Go.Proofs.YtfifdfagikbahaaDoor
open Go
set_option maxRecDepth 100000
theorem seatTie1 : Tryd.prog.laidByTextLater [("boule/melt.limits", Rows.laid_boule_melt_limits), ("boule/melt.poor", Rows.laid_boule_melt_poor), ("boule/melt.rich", Rows.laid_boule_melt_rich)] [.data, .wider, .wider] true :=
  Program.laidByTextLater_by_one 28 8 11 (by kernel_rfl) (by kernel_rfl) (by kernel_rfl) (by kernel_rfl) (by kernel_rfl) (by kernel_rfl) (fun _ _ => by kernel_rfl)
theorem noOwnUnsafe : Tryd.pinned.checked.prog.headLifts.contains "ownunsafe" = false := by kernel_rfl
theorem tie : Tryd.prog.laidByTextLater [("boule/melt.limits", Rows.laid_boule_melt_limits), ("boule/melt.poor", Rows.laid_boule_melt_poor), ("boule/melt.rich", Rows.laid_boule_melt_rich)] [.data, .wider, .wider] true :=
  Program.laidByTextLater.sub seatTie1 ["boule/melt.limits", "boule/melt.poor", "boule/melt.rich"] (by kernel_rfl) (by kernel_rfl)
theorem meltPredicts_row_tie : Rows.meltPredictsRow.laidByTextAt .later Tryd.pinned [.data, .wider, .wider] true :=
  OpenClaim.laidByTextAt_later rfl rfl tie noOwnUnsafe
theorem meltRefills_row_tie : Rows.meltRefillsRow.laidByTextAt .later Tryd.pinned [.data, .wider, .wider] true :=
  OpenClaim.laidByTextAt_later rfl rfl tie noOwnUnsafe
theorem meltNarrows_row_tie : Rows.meltNarrowsRow.laidByTextAt .later Tryd.pinned [.data, .wider, .wider] true :=
  OpenClaim.laidByTextAt_later rfl rfl tie noOwnUnsafe
theorem meltFollows_row_tie : Rows.meltFollowsRow.laidByTextAt .later Tryd.pinned [.data, .wider, .wider] true :=
  OpenClaim.laidByTextAt_later rfl rfl tie noOwnUnsafe
theorem meltConserves_row_tie : Rows.meltConservesRow.laidByTextAt .later Tryd.pinned [.data, .wider, .wider] true :=
  OpenClaim.laidByTextAt_later rfl rfl tie noOwnUnsafe
theorem meltAll_row_tie : Rows.meltAllRow.laidByTextAt .later Tryd.pinned [.data, .wider, .wider] true :=
  OpenClaim.laidByTextAt_later rfl rfl tie noOwnUnsafe
theorem meltFreezes_row_tie : Rows.meltFreezesRow.laidByTextAt .later Tryd.pinned [.data, .wider, .wider] true :=
  OpenClaim.laidByTextAt_later rfl rfl tie noOwnUnsafe
theorem meltJudges_row_tie : Rows.meltJudgesRow.laidByTextAt .later Tryd.pinned [.data, .wider, .wider] true :=
  OpenClaim.laidByTextAt_later rfl rfl tie noOwnUnsafe
theorem meltReaches_row_tie : Rows.meltReachesRow.laidByTextAt .later Tryd.pinned [.data, .wider, .wider] true :=
  OpenClaim.laidByTextAt_later rfl rfl tie noOwnUnsafe
theorem meltPredictsUpto_row_tie : Rows.meltPredictsUptoRow.laidByTextAt .later Tryd.pinned [.data, .wider, .wider] true :=
  OpenClaim.laidByTextAt_later rfl rfl tie noOwnUnsafe
theorem meltRefillsUpto_row_tie : Rows.meltRefillsUptoRow.laidByTextAt .later Tryd.pinned [.data, .wider, .wider] true :=
  OpenClaim.laidByTextAt_later rfl rfl tie noOwnUnsafe
theorem meltNarrowsUpto_row_tie : Rows.meltNarrowsUptoRow.laidByTextAt .later Tryd.pinned [.data, .wider, .wider] true :=
  OpenClaim.laidByTextAt_later rfl rfl tie noOwnUnsafe
theorem meltFollowsUpto_row_tie : Rows.meltFollowsUptoRow.laidByTextAt .later Tryd.pinned [.data, .wider, .wider] true :=
  OpenClaim.laidByTextAt_later rfl rfl tie noOwnUnsafe
theorem meltConservesUpto_row_tie : Rows.meltConservesUptoRow.laidByTextAt .later Tryd.pinned [.data, .wider, .wider] true :=
  OpenClaim.laidByTextAt_later rfl rfl tie noOwnUnsafe
theorem meltAllUpto_row_tie : Rows.meltAllUptoRow.laidByTextAt .later Tryd.pinned [.data, .wider, .wider] true :=
  OpenClaim.laidByTextAt_later rfl rfl tie noOwnUnsafe
theorem meltFreezesUpto_row_tie : Rows.meltFreezesUptoRow.laidByTextAt .later Tryd.pinned [.data, .wider, .wider] true :=
  OpenClaim.laidByTextAt_later rfl rfl tie noOwnUnsafe
theorem meltJudgesUpto_row_tie : Rows.meltJudgesUptoRow.laidByTextAt .later Tryd.pinned [.data, .wider, .wider] true :=
  OpenClaim.laidByTextAt_later rfl rfl tie noOwnUnsafe
theorem meltReachesUpto_row_tie : Rows.meltReachesUptoRow.laidByTextAt .later Tryd.pinned [.data, .wider, .wider] true :=
  OpenClaim.laidByTextAt_later rfl rfl tie noOwnUnsafe
end Go.Proofs.YtfifdfagikbahaaDoor
