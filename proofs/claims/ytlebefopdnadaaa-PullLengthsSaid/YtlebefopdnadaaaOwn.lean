/- Rows that the call owns, as lists of cells by element and place; what is kept of them below. -/
import Derived.Test.YtlebefopdnadaaaQb
import Derived.Deep.AppendLies
namespace Go.Proofs.Ytlebefopdnadaaa
open Go.RowKit
/-- The cells of n elements of sz cells each. -/
def flat (sz : Nat) (g : Nat → Nat → Value) (n : Nat) : List Value := (List.range (n * sz)).map fun i => g (i / sz) (i % sz)
theorem flat_len (sz : Nat) (g : Nat → Nat → Value) (n : Nat) : (flat sz g n).length = n * sz := by simp [flat]
theorem idx_lt {sz n k j : Nat} (hk : k < n) (hj : j < sz) : k * sz + j < n * sz := by
  have : (k + 1) * sz ≤ n * sz := Nat.mul_le_mul_right _ hk
  rw [Nat.add_mul] at this
  omega
theorem idx_div {sz k j : Nat} (hj : j < sz) : (k * sz + j) / sz = k := by
  rw [Nat.mul_comm, Nat.mul_add_div (by omega), Nat.div_eq_of_lt hj]; omega
theorem idx_mod {sz k j : Nat} (hj : j < sz) : (k * sz + j) % sz = j := by
  rw [Nat.mul_comm, Nat.mul_add_mod, Nat.mod_eq_of_lt hj]
theorem flat_get {sz n k j : Nat} (g : Nat → Nat → Value) (hk : k < n) (hj : j < sz) : (flat sz g n)[k * sz + j]? = some (g k j) := by
  simp [flat, idx_lt hk hj, idx_div hj, idx_mod hj]
theorem flat_succ (sz : Nat) (hs : 0 < sz) (g : Nat → Nat → Value) (n : Nat) : flat sz g (n + 1) = flat sz g n ++ (List.range sz).map (g n) := by
  apply List.ext_getElem?
  intro i
  rw [List.getElem?_append]
  by_cases h1 : i < n * sz
  · rw [if_pos (by rw [flat_len]; exact h1)]
    have : i < (n + 1) * sz := by rw [Nat.add_mul]; omega
    simp [flat, h1, this]
  · rw [if_neg (by rw [flat_len]; exact h1), flat_len]
    obtain ⟨j, rfl⟩ : ∃ j, i = n * sz + j := ⟨i - n * sz, by omega⟩
    by_cases hj : j < sz
    · rw [flat_get g (by omega) hj]; simp [hj]
    · have h2 : ¬ n * sz + j < (n + 1) * sz := by rw [Nat.add_mul]; omega
      simp [flat, h2, hj]
theorem own_below {w w' : World} {base sz n : Nat} {e : TypeId} {v : Value} {xs : List Value} (h : w.ownsRow base e sz v n xs) (hb : Below w.heap.size w w') : w'.ownsRow base e sz v n xs := by
  obtain ⟨h1, h2⟩ := h
  refine ⟨h1, ?_⟩
  rcases h2 with h2 | ⟨g, cap, cur, hv, hg, hh, r⟩
  · exact .inl h2
  · exact .inr ⟨g, cap, cur, hv, hg, (hb.block g (Array.getElem?_eq_some_iff.1 hh).1).trans hh, r⟩
theorem Rd.of_own {w : World} {base sz n : Nat} {e : TypeId} {v : Value} {g : Nat → Nat → Value} (h : w.ownsRow base e sz v n (flat sz g n)) : ∃ A c, v = .slice A n c ∧ Rd w w.heap.size sz A n g := by
  rcases h.2 with ⟨rfl, rfl⟩ | ⟨q, cap, cur, rfl, hq, hh, hn, hc, hsz, ht⟩
  · exact ⟨none, 0, rfl, Rd.nil⟩
  · refine ⟨_, cap, rfl, fun hpos => ⟨q, 0, rfl, (Array.getElem?_eq_some_iff.1 hh).1, fun k hk j hj => ?_⟩⟩
    rw [cell_of_row w q _ cur e _ hh, Nat.zero_add, ← flat_get g hk hj, ← ht, List.getElem?_take, if_pos (idx_lt hk hj)]
    simp
theorem Rd.of_own_cap {w : World} {base sz n : Nat} {e : TypeId} {v : Value} {g : Nat → Nat → Value} (h : w.ownsRow base e sz v n (flat sz g n)) : ∃ A c, v = .slice A n c ∧ n ≤ c ∧ Rd w w.heap.size sz A n g := by
  obtain ⟨A, c, hv, hr⟩ := Rd.of_own h
  refine ⟨A, c, hv, ?_, hr⟩
  rcases h.2 with ⟨rfl, rfl⟩ | ⟨q, cap, cur, rfl, hq, hh, hn, hc, hsz, ht⟩
  · omega
  · injection hv with _ _ h3
    omega
/-- A new literal block owns its cells. -/
theorem news_lit {w : World} {q : Nat} {cs : Array Value} {t : TypeId} (hq : w.heap[q]? = some (.cells cs t (0, 0))) : ∀ j u, cs.toList[j]? = some u → w.cell? ((⟨q, 0, none⟩ : Addr).add j) = some u := fun j u hu => by
  rw [addr_add, Nat.zero_add, cell_of_row w q _ cs t _ hq]; simpa using hu
end Go.Proofs.Ytlebefopdnadaaa
