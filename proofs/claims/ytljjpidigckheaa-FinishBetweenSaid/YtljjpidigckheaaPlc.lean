/- A number of a range, by a number that is brought into it. -/
import Derived.Test.YtljjpidigckheaaFae
namespace Go.Proofs.Ytljjpidigckheaa.Un
open Go.RowKit
def plc (r : Rng) (b : Int) : Int := if r.hi ≤ r.lo ∨ r.lo < -1000000000000000 ∨ 1000000000000000 < r.hi then r.lo else r.lo + b % (r.hi - r.lo + 1)
theorem plc_in {r : Rng} {b : Int} (h : r.lo ≤ r.hi) : r.lo ≤ plc r b ∧ plc r b ≤ r.hi := by
 unfold plc
 split
 · omega
 · have h1 := Int.emod_nonneg b (show r.hi - r.lo + 1 ≠ 0 by omega)
   have h2 := Int.emod_lt_of_pos b (show 0 < r.hi - r.lo + 1 by omega)
   omega
end Go.Proofs.Ytljjpidigckheaa.Un
