/- The sort of a list of one's own. -/
import Derived.Test.YtliddmhifnigdaaDf
import Derived.Test.YtliddmhifnigdaaU5
namespace Go.Proofs.Ytliddmhifnigdaa.Un
open Go.RowKit Go.Shelf Go.Lib Go.Sort
theorem map_at {w : World} {b : Nat} {f : Array Value → Array Value} {c : Array Value} {e : TypeId} {fr : Nat × Nat} (h : w.heap[b]? = some (.cells c e fr)) : (mapBlock w b f).heap[b]? = some (.cells (f c) e fr) := by
  unfold mapBlock
  simp [Array.getElem?_modify, h, onCells]
theorem map_other {w : World} {b k : Nat} {f : Array Value → Array Value} (h : k ≠ b) : (mapBlock w b f).heap[k]? = w.heap[k]? := by
  unfold mapBlock
  simp [Array.getElem?_modify, Ne.symm h]
theorem encR_len (x : Rng) : (encR x).length = 2 := rfl
theorem flatK_rc (l : List Rng) : (flatK encR 2 l.toArray).toList = rc l := by
  rw [rc_flat]
  apply List.ext_getElem?
  intro i
  by_cases hi : i < l.length * 2
  · have h1 := get_flatK encR 2 l.toArray i (by simpa using hi)
    have hs : i < (flatK encR 2 l.toArray).size := by simpa using hi
    have h2 := flat_get (sz := 2) (rR l) (show i / 2 < l.length by omega) (show i % 2 < 2 by omega)
    rw [show i / 2 * 2 + i % 2 = i by omega] at h2
    rw [h2, Array.getElem?_toList, Array.getElem?_eq_getElem hs, ← getElem!_pos _ i hs, h1]
    have h3 : (l.toArray)[i / 2]! = at0 l (i / 2) := by
      rw [at0_get (by omega), getElem!_pos _ _ (by simp; omega)]
      simp
    rw [h3]
    unfold rR
    rcases Nat.mod_two_eq_zero_or_one i with h | h <;> rw [h] <;> rfl
  · rw [List.getElem?_eq_none (by rw [Array.length_toList]; simp; omega), List.getElem?_eq_none (by rw [flat_len]; omega)]
theorem put_take {cur F : Array Value} (hF : F.size ≤ cur.size) : (putCells id 0 F cur).toList.take F.size = F.toList ∧ (putCells id 0 F cur).size = cur.size := by
  refine ⟨?_, by simp [putCells]⟩
  apply List.ext_getElem?
  intro i
  rw [List.getElem?_take]
  by_cases hi : i < F.size
  · rw [if_pos hi, Array.getElem?_toList, Array.getElem?_toList]
    unfold putCells
    rw [Array.getElem?_mapIdx, Array.getElem?_eq_getElem (by omega), Array.getElem?_eq_getElem hi]
    simp [hi]
  · rw [if_neg hi, List.getElem?_eq_none (by rw [Array.length_toList]; omega)]
/-- What the sort leaves of a row of one's own. -/
theorem sorted_own {w : World} {base : Nat} {e : TypeId} {b c : Nat} {l l' : List Rng} (hlen : l'.length = l.length) (h : w.ownsRow base e 2 (.slice (some ⟨b, 0, none⟩) l.length c) l.length (rc l)) (m : Nat) (os : Array Obj) :
    (sortWorldK encR 2 w b 0 m l'.toArray os).ownsRow base e 2 (.slice (some ⟨b, 0, none⟩) l.length c) l.length (rc l') ∧ Below base w (sortWorldK encR 2 w b 0 m l'.toArray os) := by
  obtain ⟨h1, h2⟩ := h
  rcases h2 with ⟨h2, _⟩ | ⟨b', cap, cur, he, hb, hh, hc, hm, hs, ht⟩
  · cases h2
  · injection he with e1 e2 e3
    injection e1 with e1
    injection e1 with e1
    subst e1 e3
    have hF : (flatK encR 2 l'.toArray).size = l.length * 2 := by simp [hlen]
    have hle : (flatK encR 2 l'.toArray).size ≤ cur.size := by rw [hF, hs]; exact Nat.mul_le_mul_right 2 hc
    obtain ⟨p1, p2⟩ := put_take hle
    have hh' : (Sort.ahead w m).heap[b]? = some (.cells cur e (0, 0)) := hh
    have hp : (putRowK encR 2 (Sort.ahead w m) b 0 l'.toArray).heap[b]? = some (.cells (putCells id 0 (flatK encR 2 l'.toArray) cur) e (0, 0)) := map_at hh'
    have hg : (sortWorldK encR 2 w b 0 m l'.toArray os).heap[b]? = some (.cells (putCells id 0 (flatK encR 2 l'.toArray) cur) e (0, 0)) := by
      unfold sortWorldK grow
      show (_ ++ _ : Array Obj)[b]? = _
      rw [Array.getElem?_append_left (Array.getElem?_eq_some_iff.1 hp).1]
      exact hp
    refine ⟨⟨by rw [rc_flat, flat_len, hlen], .inr ⟨b, c, _, rfl, hb, hg, hc, hm, by rw [p2, hs], ?_⟩⟩, ?_⟩
    · rw [← hF, p1, flatK_rc]
    · refine ⟨rfl, rfl, rfl, ?_, fun k hk => ?_⟩
      · unfold sortWorldK grow putRowK putRow mapBlock
        simp [Sort.ahead]
      · unfold sortWorldK grow
        show (_ ++ _ : Array Obj)[k]? = _
        have hk2 : k < w.heap.size := by have := (Array.getElem?_eq_some_iff.1 hh).1; omega
        rw [Array.getElem?_append_left (by unfold putRowK putRow mapBlock; simpa [Sort.ahead] using hk2)]
        exact map_other (by omega)
theorem isAggR : ∀ w, (isAgg (sortR_ren.t 24)).run Try.prog w = .ok true w := Try.isAgg23
theorem sizeR : ∀ w, (Go.sizeOf (sortR_ren.t 24)).run Try.prog w = .ok 2 w := Try.sizeOf23
theorem holds_own {w : World} {base : Nat} {e : TypeId} {b c : Nat} {l : List Rng} (h : w.ownsRow base e 2 (.slice (some ⟨b, 0, none⟩) l.length c) l.length (rc l)) : HoldsK encR 2 w b 0 l.toArray ∧ b < w.heap.size := by
  obtain ⟨h1, h2⟩ := h
  rcases h2 with ⟨h2, _⟩ | ⟨b', cap, cur, he, hb, hh, hc, hm, hs, ht⟩
  · cases h2
  · injection he with e1 e2 e3
    injection e1 with e1
    injection e1 with e1
    subst e1 e3
    refine ⟨fun j hj => ?_, (Array.getElem?_eq_some_iff.1 hh).1⟩
    have hj2 : j < l.length * 2 := by simpa using hj
    refine ⟨?_, frozen_of_row _ _ _ _ _ hh⟩
    rw [cell_of_row _ _ _ _ _ _ hh, Nat.zero_add, ← Array.getElem?_toList]
    have h3 : (cur.toList.take (l.length * 2))[j]? = (rc l)[j]? := by rw [ht]
    rw [List.getElem?_take_of_lt hj2] at h3
    rw [h3, ← flatK_rc, Array.getElem?_toList, Array.getElem?_eq_getElem hj, ← getElem!_pos _ j hj]
    rfl
set_option maxRecDepth 100000 in
/-- The sort: a list of one's own becomes a list of one's own, permuted and sorted by Low. -/
theorem sort_some (b c : Nat) (l : List Rng) (w : World) (base : Nat) (e : TypeId) (hl : l.length ≤ 1000000) (hx : w.ownsRow base e 2 (.slice (some ⟨b, 0, none⟩) l.length c) l.length (rc l)) :
    Calls Try.prog 24 #[.slice (some ⟨b, 0, none⟩) l.length c, .func (Fn.func 25) #[] #[]] w fun e' w' => e' = .returned (.tuple #[]) ∧ ∃ l', l'.length = l.length ∧ l'.Perm l ∧ l'.Pairwise (fun x y => x.lo ≤ y.lo) ∧ w'.ownsRow base e 2 (.slice (some ⟨b, 0, none⟩) l.length c) l.length (rc l') ∧ Go.RowKit.Below base w w' := by
  have eg : ∀ args w, (callFunc 25 args).run Try.prog w = .ok (.enter 25 args) w := enters_of Try.func25 (by kernel_rfl) rfl
  obtain ⟨hH, hb⟩ := holds_own hx
  have hcon := AnyQ.slices_SortFunc sortR 2 isAggR sizeR encR encR_len (fun x v hv => by simp [encR] at hv; rcases hv with rfl | rfl <;> rfl) cfR swoR 25 #[] b 0 c l.toArray w eg (lays_R b 0 l.toArray.size w) hH hb (by simp; omega)
  change Calls Try.prog 24 _ _ _ at hcon
  refine hcon.mono ?_
  rintro e' w' ⟨rfl, d', m, os, hp, hs, rfl⟩
  obtain ⟨p1, _, p3⟩ := hp
  have hsz : d'.toList.length = l.length := by rw [Array.length_toList, p1]; simp
  have hso := sorted_own hsz hx m os
  refine ⟨rfl, d'.toList, hsz, ?_, ?_, hso.1, hso.2⟩
  · have h1 : d'.extract 0 l.toArray.size = d' := by rw [← p1]; exact Array.extract_size
    have h2 : l.toArray.extract 0 l.toArray.size = l.toArray := Array.extract_size
    rw [h1, h2] at p3
    exact p3
  · rw [List.pairwise_iff_getElem]
    intro i j hi hj hij
    have h1 := hs i j (Nat.zero_le _) hij (by rw [← p1]; simpa using hj)
    rw [getElem!_pos _ _ (by simpa using hj), getElem!_pos _ _ (by simpa using hi), ltR, decide_eq_false_iff_not] at h1
    simp only [Array.getElem_toList]
    omega
end Go.Proofs.Ytliddmhifnigdaa.Un
