/- The contracts of from, upto, where of a line of package units. -/
import Derived.Test.YtliddmhifnigdaaU6
import Derived.Test.YtliddmhifnigdaaSqf
import Derived.RangeFuncNested
import Derived.RangeFuncBound
import Derived.RangeFuncCalls
import Derived.RangeFuncLeaves
import Derived.Shelf.Abstract
import Derived.Shelf.RegionOpen
import Derived.OwnWalkIn
import Derived.TacticsInMore
import Derived.LoopNIn
import Derived.LoopIn
import Derived.Sort.CutIn
import Derived.Laws.OwnMore
namespace Go.Proofs.Ytliddmhifnigdaa.Un
open Go.RowKit
/-- A rising piece, and a number. -/
structure RsOk (p q : Rng) (y : Int) : Prop where
  x0 : -1000000000000 ≤ p.lo
  y0 : -1000000000000 ≤ p.hi ∧ p.hi ≤ 1000000000000
  x1 : q.lo ≤ 1000000000000
  y1 : -1000000000000 ≤ q.hi ∧ q.hi ≤ 1000000000000
  up : p.lo < q.lo
  rise : p.hi ≤ q.hi
  num : -1000000000000000 ≤ y ∧ y ≤ 1000000000000000
def frF (p q : Rng) (y : Int) : Int :=
  if y ≤ p.hi then p.lo else if q.hi < y then q.lo + 1 else if 0 < (y - p.hi) * (q.lo - p.lo) % (q.hi - p.hi) then p.lo + ((y - p.hi) * (q.lo - p.lo) / (q.hi - p.hi) + 1) else p.lo + (y - p.hi) * (q.lo - p.lo) / (q.hi - p.hi)
def utF (p q : Rng) (y : Int) : Int :=
  if q.hi ≤ y then q.lo else if y < p.hi then p.lo - 1 else p.lo + (y - p.hi) * (q.lo - p.lo) / (q.hi - p.hi)
end Go.Proofs.Ytliddmhifnigdaa.Un
/- The contract of where of a line of package units. -/
namespace Go.Proofs.Ytliddmhifnigdaa.Un
open Go.RowKit
def whF (p q y : Rng) : Rng := if q.hi < p.hi then ⟨frF ⟨p.lo, -p.hi⟩ ⟨q.lo, -q.hi⟩ (-y.hi), utF ⟨p.lo, -p.hi⟩ ⟨q.lo, -q.hi⟩ (-y.lo)⟩ else ⟨frF p q y.lo, utF p q y.hi⟩
theorem ro {w : World} {k b i : Nat} {o : Obj} {v : Value} (h : w.heap[k]? = some o) (hne : k ≠ b) : (w.setCell ⟨b, i, none⟩ v).heap[k]? = some o := (heap_setCell_other w ⟨b, i, none⟩ k v hne).trans h
/-- A piece, and a valid range. -/
structure PcOk (p q y : Rng) : Prop where
  x0 : -1000000000000 ≤ p.lo
  y0 : -1000000000000 ≤ p.hi ∧ p.hi ≤ 1000000000000
  x1 : q.lo ≤ 1000000000000
  y1 : -1000000000000 ≤ q.hi ∧ q.hi ≤ 1000000000000
  up : p.lo < q.lo
  num : rngOk y = true
abbrev lnV (p q : Rng) : Value := .agg #[I p.lo, I p.hi, I q.lo, I q.hi]
end Go.Proofs.Ytliddmhifnigdaa.Un
/- The iterator over the pieces of a table, of package units. -/
namespace Go.Proofs.Ytliddmhifnigdaa.Un
open Go.RowKit
attribute [local go_sem] Oper.semAt_some
/-- A piece, by its first knot. -/
abbrev Pc (t : List Rng) : Type := { k : Nat // k + 1 < t.length }
def pcs (t : List Rng) : Nat → List (Pc t)
  | 0 => [] | k + 1 => if h : k + 1 < t.length then pcs t k ++ [⟨k, h⟩] else pcs t k
theorem pcs_succ {t : List Rng} {k : Nat} (h : k + 1 < t.length) : pcs t (k + 1) = pcs t k ++ [⟨k, h⟩] := by rw [pcs, dif_pos h]
theorem pcs_len {t : List Rng} : ∀ {k : Nat}, k < t.length → (pcs t k).length = k
  | 0, _ => rfl
  | k + 1, h => by rw [pcs_succ h, List.length_append, pcs_len (by omega)]; rfl
abbrev pcV {t : List Rng} (x : Pc t) : Value := lnV (at0 t x.1) (at0 t (x.1 + 1))
/-- Of the first n blocks only q may change. -/
def KpX (n q : Nat) (W W' : World) : Prop := ∀ k, k < n → k ≠ q → W'.heap[k]? = W.heap[k]?
theorem KpX.refl {n q : Nat} (W : World) : KpX n q W W := fun _ _ _ => rfl
theorem KpX.trans {n q : Nat} {A B C : World} (h : KpX n q A B) (h' : KpX n q B C) : KpX n q A C := fun k hk hq => (h' k hk hq).trans (h k hk hq)
theorem KpX.of_below {n q m : Nat} {A B : World} (h : Below m A B) (hm : n ≤ m) : KpX n q A B := fun k hk _ => h.block k (by omega)
theorem KpX.cell {n q b o : Nat} {A B : World} (h : KpX n q A B) (hb : b < n) (hq : b ≠ q) : B.cell? ⟨b, o, none⟩ = A.cell? ⟨b, o, none⟩ := by
  unfold World.cell?
  rw [h b hb hq]
/-- What a round keeps: the table, and where it lies; and nothing goes away. -/
def KpL (n q : Nat) (W W' : World) : Prop := KpX n q W W' ∧ W.heap.size ≤ W'.heap.size
end Go.Proofs.Ytliddmhifnigdaa.Un
/- Plain laws of the runs of Where of package units. -/
namespace Go.Proofs.Ytliddmhifnigdaa.Un
open Go.RowKit
/-- One more piece's run is taken in. -/
def whStep (y : Rng) (l : List Rng) (p q : Rng) : List Rng :=
  if (whF p q y).hi < (whF p q y).lo then l else if l.length ≠ 0 ∧ (whF p q y).lo ≤ (at0 l (l.length - 1)).hi + 1 then l.take (l.length - 1) ++ [⟨(at0 l (l.length - 1)).lo, (whF p q y).hi⟩] else l ++ [whF p q y]
def whL (t : List Rng) (y : Rng) (pre : List (Pc t)) : List Rng := pre.foldl (fun l x => whStep y l (at0 t x.1) (at0 t (x.1 + 1))) []
theorem whL_snoc (t : List Rng) (y : Rng) (pre : List (Pc t)) (x : Pc t) : whL t y (pre ++ [x]) = whStep y (whL t y pre) (at0 t x.1) (at0 t (x.1 + 1)) := by simp [whL]
theorem pc_ok {t : List Rng} {y : Rng} (ht : Tab t) (hy : rngOk y = true) (x : Pc t) : PcOk (at0 t x.1) (at0 t (x.1 + 1)) y :=
  ⟨(ht.x x.1 (by have := x.2; omega)).1, ht.y x.1 (by have := x.2; omega), (ht.x (x.1 + 1) x.2).2, ht.y (x.1 + 1) x.2, ht.asc x.1 (x.1 + 1) (by omega) x.2, hy⟩
theorem ut_bd {p q : Rng} {y : Int} (h : RsOk p q y) : -3000000000000 ≤ utF p q y ∧ utF p q y ≤ 3000000000000 := by
  obtain ⟨h1, h2, h3, h4, h5, h6, h7⟩ := h
  unfold utF
  split
  · omega
  · split
    · omega
    · have hp := part_le (a := q.lo - p.lo) (b := y - p.hi) (c := q.hi - p.hi) (by omega) (by omega) (by omega)
      rw [Int.mul_comm] at hp
      omega
theorem fr_bd {p q : Rng} {y : Int} (h : RsOk p q y) : -3000000000000 ≤ frF p q y ∧ frF p q y ≤ 3000000000001 := by
  obtain ⟨h1, h2, h3, h4, h5, h6, h7⟩ := h
  unfold frF
  split
  · omega
  · split
    · omega
    · have hp := part_le (a := q.lo - p.lo) (b := y - p.hi) (c := q.hi - p.hi) (by omega) (by omega) (by omega)
      rw [Int.mul_comm] at hp
      split <;> omega
theorem wh_bd {p q y : Rng} (h : PcOk p q y) : (-3000000000000 ≤ (whF p q y).lo ∧ (whF p q y).lo ≤ 3000000000001) ∧ -3000000000000 ≤ (whF p q y).hi ∧ (whF p q y).hi ≤ 3000000000000 := by
  have hn := rngOk_iff.1 h.num
  unfold whF
  split
  · rename_i hd
    have hr : ∀ z, (-1000000000000000 ≤ z ∧ z ≤ 1000000000000000) → RsOk ⟨p.lo, -p.hi⟩ ⟨q.lo, -q.hi⟩ z := fun z hz => ⟨h.x0, by have := h.y0; simp only; omega, h.x1, by have := h.y1; simp only; omega, h.up, by simp only; omega, hz⟩
    exact ⟨fr_bd (hr _ (by omega)), ut_bd (hr _ (by omega))⟩
  · rename_i hd
    have hr : ∀ z, (-1000000000000000 ≤ z ∧ z ≤ 1000000000000000) → RsOk p q z := fun z hz => ⟨h.x0, h.y0, h.x1, h.y1, h.up, by omega, hz⟩
    exact ⟨fr_bd (hr _ (by omega)), ut_bd (hr _ (by omega))⟩
def RunBd (l : List Rng) : Prop := ∀ j, j < l.length → -3000000000000 ≤ (at0 l j).hi ∧ (at0 l j).hi ≤ 3000000000000
theorem step_bd {y : Rng} {l : List Rng} {p q : Rng} (h : PcOk p q y) (hl : RunBd l) : RunBd (whStep y l p q) := by
  have hw := wh_bd h
  unfold whStep
  split
  · exact hl
  · split
    · rename_i h2
      intro j hj
      have hlen : (l.take (l.length - 1)).length = l.length - 1 := by simp
      rw [List.length_append, hlen] at hj
      simp only [List.length_cons, List.length_nil] at hj
      rcases Nat.lt_or_ge j (l.length - 1) with h3 | h3
      · rw [at0_app _ _ (by omega), at0_get (by omega), List.getElem_take, ← at0_get (by omega)]
        exact hl j (by omega)
      · obtain rfl : j = l.length - 1 := by omega
        have := at0_last (l.take (l.length - 1)) (⟨(at0 l (l.length - 1)).lo, (whF p q y).hi⟩ : Rng)
        rw [hlen] at this
        rw [this]
        exact hw.2
    · intro j hj
      rw [List.length_append] at hj
      simp only [List.length_cons, List.length_nil] at hj
      rcases Nat.lt_or_ge j l.length with h3 | h3
      · rw [at0_app _ _ h3]; exact hl j h3
      · obtain rfl : j = l.length := by omega
        rw [at0_last]; exact hw.2
theorem whStep_len {y : Rng} {l : List Rng} {p q : Rng} : (whStep y l p q).length ≤ l.length + 1 := by
  unfold whStep
  split
  · omega
  · split
    · simp
    · simp
theorem whL_facts {t : List Rng} {y : Rng} (ht : Tab t) (hy : rngOk y = true) (pre : List (Pc t)) : RunBd (whL t y pre) ∧ (whL t y pre).length ≤ pre.length := by
  have : ∀ (l : List (Pc t)) (a : List Rng), RunBd a → RunBd (l.foldl (fun l x => whStep y l (at0 t x.1) (at0 t (x.1 + 1))) a) ∧ (l.foldl (fun l x => whStep y l (at0 t x.1) (at0 t (x.1 + 1))) a).length ≤ a.length + l.length := by
    intro l
    induction l with
    | nil => intro a ha; exact ⟨ha, by simp⟩
    | cons x r ih =>
      intro a ha
      obtain ⟨i1, i2⟩ := ih _ (step_bd (pc_ok ht hy x) ha)
      refine ⟨i1, Nat.le_trans i2 ?_⟩
      have := whStep_len (y := y) (l := a) (p := at0 t x.1) (q := at0 t (x.1 + 1))
      simp only [List.length_cons]
      omega
  obtain ⟨h1, h2⟩ := this pre [] (fun j hj => absurd hj (by simp))
  exact ⟨h1, by rw [List.length_nil, Nat.zero_add] at h2; exact h2⟩
/-- The last run is made longer. -/
theorem rc_set {l : List Rng} (h : l.length ≠ 0) (v : Int) : rc (l.take (l.length - 1) ++ [⟨(at0 l (l.length - 1)).lo, v⟩]) = (rc l).set ((l.length - 1) * 2 + 1) (I v) := by
  obtain ⟨i, x, rfl⟩ : ∃ i x, l = i ++ [x] := ⟨l.dropLast, l.getLast (by intro e; subst e; simp at h), (List.dropLast_concat_getLast _).symm⟩
  have hl : (i ++ [x]).length - 1 = i.length := by simp
  have hr : (rc i).length = i.length * 2 := by rw [rc_flat, flat_len]
  rw [hl, at0_last, List.take_left' rfl, rc_app, rc_app, List.set_append_right _ _ (by omega), hr]
  have : i.length * 2 + 1 - i.length * 2 = 1 := by omega
  rw [this]
  rfl
end Go.Proofs.Ytliddmhifnigdaa.Un
/- The contract of Where of package units. -/
namespace Go.Proofs.Ytliddmhifnigdaa.Un
open Go.RowKit
attribute [local go_sem] Oper.semAt_some
def weF (t : List Rng) (y : Rng) : List Rng × Int := if tabB t && rngOk y then (whL t y (pcs t (t.length - 1)), 0) else ([], 2)
/-- Ranges in new memory, and an error's number. -/
def RetL (w : World) (q : List Rng × Int) (e : Ending) (w' : World) : Prop := ∃ A n c, e = .returned (.tuple #[.slice A n c, I q.2]) ∧ n = q.1.length ∧ n ≤ c ∧ Rd w' w'.heap.size 2 A n (rR q.1) ∧ Below w.heap.size w w'
theorem own_cells {w : World} {base size n : Nat} {e : TypeId} {v : Value} {xs : List Value} (h : w.ownsRow base e size v n xs) {g : Nat} (hg : v.ownBlock = some g) : base ≤ g ∧ ∃ o, w.heap[g]? = some o ∧ o.isCells = true := by
  rcases h.2 with ⟨rfl, _⟩ | ⟨g', cap, cur, rfl, hb, hgg, _⟩
  · simp [Value.ownBlock] at hg
  · simp [Value.ownBlock] at hg
    subst hg
    exact ⟨hb, _, hgg, rfl⟩
theorem row_kept {W W' : World} {row : Option Nat} {b : Nat} {cs : Array Value} {t : TypeId} {B : Nat} (h : W.heap[b]? = some (.cells cs t (0, 0))) (hg : W.grownBy W' row) (hr : ∀ r, row = some r → B ≤ r ∧ ∃ o : Obj, W.heap[r]? = some o ∧ o.isCells = false) : W'.heap[b]? = some (.cells cs t (0, 0)) :=
  (hg.block b (Array.getElem?_eq_some_iff.1 h).1 (fun e => by
    obtain ⟨_, o, ho, hc⟩ := hr b e.symm
    rw [h] at ho; cases ho; cases hc)).trans h
theorem row_own {β : Type} (B b : Nat) (cs : Array Value) (t : TypeId) : OwnFrom B (fun (_ : β) W => W.heap[b]? = some (.cells cs t (0, 0))) := fun _ _ _ _ hs hg hr => row_kept hs hg hr
end Go.Proofs.Ytliddmhifnigdaa.Un
/- The contract of Inverse of package units. -/
namespace Go.Proofs.Ytliddmhifnigdaa.Un
open Go.RowKit
def inF (q : List Rng × Int) : Rng × Int := if q.2 = 0 then (if q.1.length = 0 then (⟨0, 0⟩, 7) else (⟨(at0 q.1 0).lo, (at0 q.1 (q.1.length - 1)).hi⟩, 0)) else (⟨0, 0⟩, q.2)
end Go.Proofs.Ytliddmhifnigdaa.Un
