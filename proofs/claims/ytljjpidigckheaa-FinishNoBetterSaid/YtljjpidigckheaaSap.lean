/- A list of ranges under way in a sheet's field. -/
import Derived.Test.YtljjpidigckheaaOsh
namespace Go.Proofs.Ytljjpidigckheaa.Un
open Go.RowKit
structure SfL (w : World) (B q : Nat) (a b c d : Value) (l : List Rng) (v : Value) (L : List (Nat × Array Value × TypeId)) (V : World) : Prop where
 st : StL w L V
 lt : ∀ x ∈ L, x.1 < B ∧ x.1 ≠ q
 ql : w.heap.size ≤ q ∧ q < B ∧ B ≤ V.heap.size
 row : V.heap[q]? = some (.cells #[a, b, c, d, v] 37 (0, 0))
 own : V.ownsRow B 24 2 v l.length (flat 2 (rR l) l.length)
theorem SfL.below {w V U : World} {B q : Nat} {a b c d : Value} {l : List Rng} {v : Value} {L : List (Nat × Array Value × TypeId)} (h : SfL w B q a b c d l v L V) (hb : Below V.heap.size V U) : SfL w B q a b c d l v L U :=
 ⟨h.st.below hb, h.lt, ⟨h.ql.1, h.ql.2.1, Nat.le_trans h.ql.2.2 hb.size⟩, (hb.block _ (lt_of_row h.row)).trans h.row, own_below h.own hb⟩
theorem SfL.next {w X Y : World} {B q : Nat} {a b c d : Value} {l : List Rng} {v v' : Value} {L : List (Nat × Array Value × TypeId)} {r : Rng} (h : SfL w B q a b c d l v L X) (ho : Y.ownsRow B 24 2 v' (l.length + 1) (flat 2 (rR l) l.length ++ [I r.lo, I r.hi])) (hg : X.grownBy Y v.ownBlock) :
 Y.heap[q]? = some (.cells #[a, b, c, d, v] 37 (0, 0)) ∧ SfL w B q a b c d (l ++ [r]) v' L (Y.setCell ⟨q, 4, none⟩ v') := by
 have hlt := h.own.lt
 have hrow : Y.heap[q]? = some (.cells #[a, b, c, d, v] 37 (0, 0)) := row_grown hg h.row (fun e => by have := (hlt _ e).1; have := h.ql.2.1; omega)
 have hst : StL w L Y := ⟨h.st.1.grown hg h.st.1.size (fun k e => by have := (hlt k e).1; have := h.ql; omega), fun x hx => row_grown hg (h.st.2 x hx) (fun e => by have := (hlt _ e).1; have := (h.lt x hx).1; omega)⟩
 refine ⟨hrow, hst.setCell h.ql.1 (fun x hx => (h.lt x hx).2), h.lt, ⟨h.ql.1, h.ql.2.1, ?_⟩, ?_, ?_⟩
 · have h1 := (grown_setCell Y q 4 v').size
   have h2 := hg.size
   have := h.ql.2.2
   omega
 · exact rs hrow 4 v'
 · rw [List.length_append, List.length_singleton, rR_snoc]
   exact own_other ho (grown_setCell Y q 4 v') (fun b hb e => by have := (ho.lt b hb).1; have := h.ql.2.1; injection e with e; omega)
theorem take_snoc9 {l : List Rng} {k : Nat} (h : k < l.length) : l.take (k + 1) = l.take k ++ [at0 l k] := by
 rw [List.take_add_one]
 unfold at0
 rw [List.getD_eq_getElem?_getD, List.getElem?_eq_getElem h]
 rfl
theorem SfL.start {w V : World} {q : Nat} {a b c d : Value} {L : List (Nat × Array Value × TypeId)} (h : StL w ((q, #[a, b, c, d, .slice none 0 0], 37) :: L) V) (hq : w.heap.size ≤ q) (hn : ∀ x ∈ L, x.1 ≠ q) : SfL w V.heap.size q a b c d [] (.slice none 0 0) L V :=
 ⟨h.tail, fun x hx => ⟨lt_of_row (h.tail.2 x hx), hn x hx⟩, ⟨hq, lt_of_row h.hd, Nat.le_refl _⟩, h.hd, ⟨rfl, .inl ⟨rfl, rfl⟩⟩⟩
theorem SfL.all {w V : World} {B q : Nat} {a b c d : Value} {l : List Rng} {v : Value} {L : List (Nat × Array Value × TypeId)} (h : SfL w B q a b c d l v L V) : StL w ((q, #[a, b, c, d, v], 37) :: L) V := h.st.cons h.row
end Go.Proofs.Ytljjpidigckheaa.Un
