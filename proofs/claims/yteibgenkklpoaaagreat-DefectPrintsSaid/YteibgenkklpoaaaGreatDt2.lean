/- The law's helpers place and region. -/
import Derived.Test.YteibgenkklpoaaaGreatDt1
import Derived.Test.YteibgenkklpoaaaGreatU3
namespace Go.Proofs.YteibgenkklpoaaaGreat.Un
open Go.RowKit
theorem below_self0' {w Y : World} (h : ∀ u, Below w.heap.size w (ovr Y u)) : Below w.heap.size w Y := by
  obtain ⟨v, hv⟩ := ovr_self Y
  have := h v
  rwa [← hv] at this
/-- A truth: four borders, a rate, a gradient, each by a number. -/
abbrev ttA (t : Nat → Int) (r g : Int) : Array Value := #[.int .u16 (t 0), .int .u16 (t 1), .int .u16 (t 2), .int .u16 (t 3), .int .u16 r, .int .u16 g]
structure TtOk (t : Nat → Int) (r g : Int) : Prop where
  t : ∀ i, 0 ≤ t i ∧ t i ≤ 65535
  r : 0 ≤ r ∧ r ≤ 65535
  g : 0 ≤ g ∧ g ≤ 65535
theorem rgK_bd {m : Mdl} (hm : okMdl m = true) {t : Nat → Int} (ht : ∀ i, 0 ≤ t i) (v g : Int) : ∀ i, i ≤ 4 → 0 ≤ (rgK m t v g i).1 ∧ (rgK m t v g i).1 ≤ i ∧ 0 ≤ (rgK m t v g i).2 ∧ (rgK m t v g i).2 ≤ 1000000
  | 0, _ => ⟨Int.le_refl _, Int.le_refl _, Int.le_refl _, by show (0 : Int) ≤ _; omega⟩
  | i + 1, hi => by
    obtain ⟨h1, h2, h3, h4⟩ := rgK_bd hm ht v g i (by omega)
    have hb := bdM_bd hm (show i < 4 by omega)
    have hp := plF_in (ht i) hb.2.1
    unfold rgK
    simp only
    refine ⟨?_, ?_, by omega, by omega⟩
    · split <;> omega
    · split <;> omega
end Go.Proofs.YteibgenkklpoaaaGreat.Un
