/- The balances of a grid by their places. -/
import Derived.Test.YtljjpidigckheaaKfa
import Derived.Test.YtljjpidigckheaaKfp
namespace Go.Proofs.Ytljjpidigckheaa.Un
open Go.RowKit
theorem grid_map (W n : Nat) : gridL W n = (List.range n).map (gPt W) := rfl
theorem bal_idx {W n : Nat} {x : Bal} : x ∈ both (bals (gridL W n)) ↔ ∃ a b c d, (a < b ∧ b < c ∧ c < d ∧ d < n) ∧ 0 < Sz (gPt W a) (gPt W b) (gPt W c) (gPt W d) ∧ (x = mkB (gPt W a) (gPt W b) (gPt W c) (gPt W d) ∨ x = (mkB (gPt W a) (gPt W b) (gPt W c) (gPt W d)).turn) := by
 constructor
 · intro h
   unfold both at h
   obtain ⟨y, hy, hx⟩ := List.mem_flatMap.1 h
   obtain ⟨p, q, r, s, hs, hz, rfl⟩ := mem_bals.1 hy
   rw [grid_map] at hs
   obtain ⟨t, ht, he⟩ := sub_map hs
   obtain ⟨a, b, c, d, rfl, rfl, rfl, rfl, rfl⟩ := four_of he
   have hp := (List.pairwise_lt_range (n := n)).sublist ht
   have hm : ∀ k ∈ [a, b, c, d], k < n := fun k hk => List.mem_range.1 (ht.subset hk)
   simp only [List.pairwise_cons, List.mem_cons, List.not_mem_nil, or_false] at hp
   refine ⟨a, b, c, d, ⟨hp.1 b (by simp), hp.2.1 c (by simp), hp.2.2.1 d rfl, hm d (by simp)⟩, hz, ?_⟩
   simpa using hx
 · rintro ⟨a, b, c, d, ⟨h1, h2, h3, h4⟩, hz, hx⟩
   have hs : [a, b, c, d].Sublist (List.range n) := sub_range n [a, b, c, d] (by simp; omega) (by simp; omega)
   unfold both
   refine List.mem_flatMap.2 ⟨_, mem_bals.2 ⟨_, _, _, _, ?_, hz, rfl⟩, by simpa using hx⟩
   rw [grid_map]
   exact hs.map (gPt W)
end Go.Proofs.Ytljjpidigckheaa.Un
