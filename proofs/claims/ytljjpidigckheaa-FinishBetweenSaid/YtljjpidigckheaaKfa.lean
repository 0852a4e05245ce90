/- Plain laws of the rows (Bests, NoBetter, Between, Common, Windows). -/
import Derived.Test.YtljjpidigckheaaKfp
namespace Go.Proofs.Ytljjpidigckheaa.Un
open Go.RowKit
theorem sub_map {α β : Type} {f : α → β} {l : List α} {s : List β} (h : s.Sublist (l.map f)) : ∃ t : List α, t.Sublist l ∧ s = t.map f := by
 obtain ⟨t, h1, h2⟩ := List.sublist_map_iff.1 h
 exact ⟨t, h1, h2⟩
theorem four_of {α β : Type} {f : α → β} {t : List α} {a b c d : β} (h : [a, b, c, d] = t.map f) : ∃ a' b' c' d', t = [a', b', c', d'] ∧ a = f a' ∧ b = f b' ∧ c = f c' ∧ d = f d' := by
 match t, h with
 | [a', b', c', d'], h =>
   simp only [List.map_cons, List.map_nil, List.cons.injEq, and_true] at h
   exact ⟨a', b', c', d', rfl, h.1, h.2.1, h.2.2.1, h.2.2.2⟩
 | [], h => simp at h
 | [_], h => simp at h
 | [_, _], h => simp at h
 | [_, _, _], h => simp at h
 | _ :: _ :: _ :: _ :: _ :: _, h => simp at h
theorem sub_range : ∀ (n : Nat) (ks : List Nat), ks.Pairwise (· < ·) → (∀ k ∈ ks, k < n) → ks.Sublist (List.range n)
 | 0, ks, _, h => by
   cases ks with
   | nil => exact List.Sublist.refl _
   | cons a t => exact absurd (h a (by simp)) (by omega)
 | n + 1, ks, hp, h => by
   rw [List.range_succ]
   by_cases hm : n ∈ ks
   · obtain ⟨s, t, rfl⟩ := List.append_of_mem hm
     have ht : t = [] := by
       cases t with
       | nil => rfl
       | cons a t =>
         have h1 := (List.pairwise_cons.1 (List.pairwise_append.1 hp).2.1).1 a (by simp)
         have h2 := h a (by simp)
         omega
     subst ht
     refine List.Sublist.append (sub_range n s (List.pairwise_append.1 hp).1 fun k hk => ?_) (List.Sublist.refl _)
     exact (List.pairwise_append.1 hp).2.2 k hk n (by simp)
   · refine (sub_range n ks hp fun k hk => ?_).trans (List.sublist_append_left _ _)
     have h1 := h k hk
     have h2 : k ≠ n := fun e => hm (e ▸ hk)
     omega
end Go.Proofs.Ytljjpidigckheaa.Un
