/- The frame's arguments of the rows of readings: gauges, a reading. -/
import Derived.Test.YtliolnfcgaflcaaGreatFu
import Derived.Test.YtliolnfcgaflcaaGreatLtf
namespace Go.Proofs.YtliolnfcgaflcaaGreat.Un
open Go.RowKit Go.ChangeShapes Go.WideShapes Go.Deep
def toG (n : Nat) (z : Nat → Nat → Int) : List Gag := (List.range n).map fun k => ⟨z k 0, ⟨z k 1, z k 2⟩, ⟨z k 3, z k 4⟩, z k 5⟩
theorem toG_len (n : Nat) (z : Nat → Nat → Int) : (toG n z).length = n := by simp [toG]
theorem toG_at {n k : Nat} (z : Nat → Nat → Int) (hk : k < n) : at0 (toG n z) k = ⟨z k 0, ⟨z k 1, z k 2⟩, ⟨z k 3, z k 4⟩, z k 5⟩ := at0_map _ hk
theorem toG_rd {w : World} {B : Nat} {A : Option Addr} {n : Nat} {z : Nat → Nat → Int} {g : Nat → Nat → Value} (h : Rd w B 6 A n g) (hg : ∀ k j, j < 6 → g k j = I (z k j)) : Rd w B 6 A n (rG (toG n z)) :=
 h.same fun k hk j hj => by
  rw [hg k j hj]
  unfold rG
  rw [toG_at z hk]
  rcases j with _ | _ | _ | _ | _ | _ | j
  all_goals first | rfl | omega
section
variable {H : Type} {enc : TypeId × Value → H} {w : World} {base : Nat} {spare : Nat → Bool} {held : Bool} {r : Reach} {b0 : Nat} {v : Value} {d : DataW H} {ps : List MemPlace}
set_option maxRecDepth 100000 in
theorem open_gauges (hv : Value.okWide Tryz.prog w r b0 22 v) (h : DataW.Trod enc Tryz.prog w base spare held 22 v d ps) :
 ∃ (A : Option Addr) (c : Nat) (xs : List Gag), v = .slice A xs.length c ∧ xs.length ≤ c ∧ c ≤ maxLen ∧ Rd w w.heap.size 6 A xs.length (rG xs) := by
 obtain ⟨a, l, c, rfl⟩ := okWide_slice Tryz.underlying22 hv
 obtain ⟨fuel, hf⟩ := h
 obtain ⟨A, m, c', z, he, l1, l2, hr, _⟩ := open_listK (ks := [.i64, .i64, .i64, .i64, .i64, .i64]) Tryz.underlying22 (by kernel_rfl) (by decide) (by kernel_rfl) hf
 refine ⟨A, c', toG m z, by rw [toG_len]; exact he, by rw [toG_len]; exact l1, l2, ?_⟩
 rw [toG_len]
 exact toG_rd hr (fun k j hj => by rcases j with _ | _ | _ | _ | _ | _ | j; all_goals first | rfl | omega)
set_option maxRecDepth 100000 in
theorem open_read (hv : Value.okWide Tryz.prog w r b0 29 v) (h : DataW.Trod enc Tryz.prog w base spare held 29 v d ps) : ∃ (g day : Int) (x q : Rng) (b : Int), v = .agg (rdA g day x q b) ∧ (0 ≤ b ∧ b ≤ 255) := by
 obtain ⟨z, h1, hw⟩ := open_aggK (ks := [.i64, .i64, .i64, .i64, .i64, .i64, .u8]) Tryz.underlying29 (by kernel_rfl) (by kernel_rfl) hv h
 exact ⟨z 0, z 1, ⟨z 2, z 3⟩, ⟨z 4, z 5⟩, z 6, h1, u8_bd (hw 6 (by decide))⟩
end
end Go.Proofs.YtliolnfcgaflcaaGreat.Un
