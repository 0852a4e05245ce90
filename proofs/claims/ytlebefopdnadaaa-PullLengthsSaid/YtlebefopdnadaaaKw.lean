/- What the document's examples come to. -/
import Derived.Test.YtlebefopdnadaaaSn
import Derived.Test.YtlebefopdnadaaaSf
import Derived.Test.YtlebefopdnadaaaOw
import Derived.Test.YtlebefopdnadaaaSr
namespace Go.Proofs.Ytlebefopdnadaaa
open Go.RowKit
def kv (a : Int) : Vec := fun i => if i = 0 then a else 0
def kR1 : Run := ⟨[⟨0, 1, kv 20⟩, ⟨100, 1, kv 10⟩], 200, [], [⟨50, 4⟩, ⟨61, 5⟩]⟩
def kR2 : Run := ⟨[⟨0, 4, kv 10⟩], 6, [⟨0, 100, 100⟩, ⟨6, 100, 100⟩], []⟩
theorem k1 : grownN kR1 0 200 = 3000 ∧ grownE kR1 0 200 = 0 := by decide +kernel
theorem k2 : reachN kR1 2001 = 101 ∧ reachE kR1 2001 = 0 := by decide +kernel
theorem k3 : (okPuller softV && okRun kR1) = true := by decide +kernel
theorem k4 : stopS softV kR1 = (60, 4) := by decide +kernel
theorem k5 : (okPuller softV && okRun kR2) = true := by decide +kernel
theorem k6 : tellE softV kR2 4 6 = 0 ∧ tellR softV kR2 4 6 (atK softV kR2 4) = ⟨96, 102⟩ := by decide +kernel
theorem k7 : tellE softV kR2 1 5 = 0 ∧ tellR softV kR2 1 5 (fromK softV kR2 1) = ⟨98, 104⟩ := by decide +kernel
theorem k8 : chE softV kR2 = 0 ∧ acL softV kR2 = [⟨0, 2⟩, ⟨5, 5⟩] := by decide +kernel
theorem k9 : soldL softV kR2 = [⟨0, 30⟩, ⟨50, 60⟩] := by decide +kernel
theorem k10 : obB softV kR1 = ⟨6, 0, 0⟩ := by decide +kernel
end Go.Proofs.Ytlebefopdnadaaa
