/- The frame's argument that is a list of tables. -/
import Derived.Test.YtmadlmmfbpmebaaFv
import Derived.Test.YtmadlmmfbpmebaaJt
namespace Go.Proofs.Ytmadlmmfbpmebaa
open Go.RowKit Go.ChangeShapes Go.WideShapes Go.Deep
section
variable {H : Type} {enc : TypeId × Value → H} {w : World} {base : Nat} {spare : Nat → Bool} {held : Bool} {r : Reach} {b0 : Nat} {v : Value} {d : DataW H} {ps : List MemPlace}
set_option maxRecDepth 100000 in
theorem open_listT (hv : Value.okWide Try.prog w r b0 86 v) (h : DataW.Trod enc Try.prog w base spare held 86 v d ps) :
    ∃ A c C D, ∃ TT : List (List Rng), v = .slice A TT.length c ∧ RdT w w.heap.size A TT C D ∧ ∀ k, k < TT.length → ∀ j, j < (at0 TT k).length → (-9223372036854775808 ≤ (at0 (at0 TT k) j).lo ∧ (at0 (at0 TT k) j).lo ≤ 9223372036854775807) ∧ (-9223372036854775808 ≤ (at0 (at0 TT k) j).hi ∧ (at0 (at0 TT k) j).hi ≤ 9223372036854775807) := by
  obtain ⟨a0, len, cap, rfl⟩ := okWide_slice Try.underlying86 hv
  obtain ⟨fuel, hf⟩ := h
  rcases open_slice1 Try.underlying86 (by kernel_rfl) hf with ⟨h0, _⟩ | ⟨a, l1, c1, m, n, V, D, Pl, hcs, _, hl, hcm, hm, _, hx⟩
  · obtain ⟨rfl, rfl, rfl⟩ : a0 = none ∧ len = 0 ∧ cap = 0 := by simpa [Value.cells] using h0
    exact ⟨none, 0, fun _ => none, fun _ => 0, [], rfl, ⟨Rd.nil, fun k hk => absurd hk (by simp)⟩, fun k hk => absurd hk (by simp)⟩
  · obtain ⟨rfl, rfl, rfl⟩ : a0 = some a ∧ len = l1 ∧ cap = c1 := by simpa [Value.cells] using hcs
    have hlm : len ≤ m := by rw [hm]; split <;> omega
    obtain ⟨f, hf2⟩ := choose_lt (α := Option Addr × Nat × Nat × (Nat → Nat → Int)) (n := len) (p := fun i q => V i = .slice q.1 q.2.1 q.2.2.1 ∧ q.2.1 ≤ q.2.2.1 ∧ q.2.2.1 ≤ maxLen ∧ Rd w w.heap.size 2 q.1 q.2.1 (fun k j => .int (([IntKind.i64, .i64]).getD j .i64) (q.2.2.2 k j)) ∧ ∀ k, k < q.2.1 → ∀ j, j < 2 → (Lit.int (([IntKind.i64, .i64]).getD j .i64) (q.2.2.2 k j)).wf = true) (fun i hi => by
      obtain ⟨A, n', c', z, e, h1, h2, h3, h4⟩ := open_listK (ks := [.i64, .i64]) Try.underlying44 (by kernel_rfl) (by decide) (by kernel_rfl) (hx i (by omega)).2
      exact ⟨(A, n', c', z), e, h1, h2, h3, h4⟩)
    have hlen : ((List.range len).map fun i => toR (f i).2.1 (f i).2.2.2).length = len := by simp
    have hat : ∀ k, k < len → at0 ((List.range len).map fun i => toR (f i).2.1 (f i).2.2.2) k = toR (f k).2.1 (f k).2.2.2 := fun k hk => by rw [at0_get (by rw [hlen]; exact hk)]; simp
    refine ⟨some a, cap, fun k => (f k).1, fun k => (f k).2.2.1, (List.range len).map fun i => toR (f i).2.1 (f i).2.2.2, by rw [hlen], ⟨?_, fun k hk => ?_⟩, fun k hk j hj => ?_⟩
    · rw [hlen]
      intro hn
      obtain ⟨b, o, hel⟩ := a
      have h0 := (hx 0 (by omega)).1
      have key0 : hel = none := by
        unfold World.cell? at h0
        simp only [Addr.add, if_true] at h0
        split at h0
        · split at h0
          · cases h0
          · rename_i hsp
            simpa using hsp
        · cases h0
      subst key0
      refine ⟨b, o, rfl, ?_, fun k hk j hj => ?_⟩
      · rw [addr_add] at h0
        exact block_lt_of_cell h0
      · obtain rfl : j = 0 := by omega
        have h1 := (hx k (by omega)).1
        show w.cell? _ = some (Value.slice (f k).1 (at0 ((List.range len).map fun i => toR (f i).2.1 (f i).2.2.2) k).length (f k).2.2.1)
        rw [hat k hk, toR_len]
        rw [addr_add, (hf2 k hk).1] at h1
        rw [show o + k * 1 + 0 = o + k by omega]
        exact h1
    · rw [hlen] at hk
      obtain ⟨_, h1, h2, h3, _⟩ := hf2 k hk
      rw [hat k hk, toR_len]
      exact ⟨by omega, toR_rd h3 (fun _ => rfl) (fun _ => rfl)⟩
    · rw [hlen] at hk
      rw [hat k hk, toR_len] at hj
      rw [hat k hk, toR_at _ hj]
      obtain ⟨_, _, _, _, h4⟩ := hf2 k hk
      exact ⟨i64_bd (h4 j hj 0 (by decide)), i64_bd (h4 j hj 1 (by decide))⟩
end
end Go.Proofs.Ytmadlmmfbpmebaa
