/- The difference after k batches, plainly. -/
import Derived.Test.YtljjpidigckheaaNd
namespace Go.Proofs.Ytljjpidigckheaa.Un
open Go.RowKit
theorem smL_succ (f : Nat → Option Bool) (v : Bool) (g : Nat → Int) (k : Nat) : SmL f (fun _ => true) v g (k + 1) = SmL f (fun _ => true) v g k + (if f k = some v then g k else 0) := by
  show SmL f (fun _ => true) v g k + (if (true = true ∧ f k = some v) then g k else 0) = _
  simp
theorem smL_bd {f : Nat → Option Bool} {v : Bool} {g : Nat → Int} {n : Nat} (h : ∀ j, j < n → 0 ≤ g j ∧ g j ≤ 10000000) : ∀ k, k ≤ n → 0 ≤ SmL f (fun _ => true) v g k ∧ SmL f (fun _ => true) v g k ≤ 10000000 * (k : Int)
  | 0, _ => ⟨Int.le_refl _, Int.le_refl _⟩
  | k + 1, hk => by
    have ih := smL_bd (f := f) (v := v) h k (by omega)
    have h1 := h k (by omega)
    rw [smL_succ]
    split <;> omega
/-- The difference after k batches. -/
def rfA (bs : List Rng) (a b : Trt) (k : Nat) : Rng := ⟨a.s.lo - b.s.hi + SmL (apF a.b b.b) (fun _ => true) false (fun j => (at0 bs j).lo) k - SmL (apF a.b b.b) (fun _ => true) true (fun j => (at0 bs j).hi) k, a.s.hi - b.s.lo + SmL (apF a.b b.b) (fun _ => true) false (fun j => (at0 bs j).hi) k - SmL (apF a.b b.b) (fun _ => true) true (fun j => (at0 bs j).lo) k⟩
theorem rfA_end {bs : List Rng} {a b : Trt} (h : apE bs a b = 0) : rfA bs a b bs.length = apX bs a b := by
  unfold apX
  rw [if_pos h]
  unfold rfA apP
  congr 1 <;> omega
theorem rfA_a {bs : List Rng} {a b : Trt} {k : Nat} (h : decide ((k : Int) ∈ a.b) = true) (h2 : decide ((k : Int) ∈ b.b) = false) : rfA bs a b (k + 1) = ⟨(rfA bs a b k).lo - (at0 bs k).hi, (rfA bs a b k).hi - (at0 bs k).lo⟩ := by
  have e : apF a.b b.b k = some true := by unfold apF; rw [if_pos (of_decide_eq_true h), if_neg (of_decide_eq_false h2)]
  unfold rfA
  simp only [smL_succ, e]
  congr 1 <;> simp <;> omega
theorem rfA_b {bs : List Rng} {a b : Trt} {k : Nat} (h : decide ((k : Int) ∈ a.b) = false) (h2 : decide ((k : Int) ∈ b.b) = true) : rfA bs a b (k + 1) = ⟨(rfA bs a b k).lo + (at0 bs k).lo, (rfA bs a b k).hi + (at0 bs k).hi⟩ := by
  have e : apF a.b b.b k = some false := by unfold apF; rw [if_neg (of_decide_eq_false h), if_pos (of_decide_eq_true h2)]
  unfold rfA
  simp only [smL_succ, e]
  congr 1 <;> simp <;> omega
theorem rfA_n {bs : List Rng} {a b : Trt} {k : Nat} (h : decide ((k : Int) ∈ a.b) = decide ((k : Int) ∈ b.b)) : rfA bs a b (k + 1) = rfA bs a b k := by
  have e : apF a.b b.b k = none := by
    unfold apF
    by_cases h1 : (k : Int) ∈ a.b
    · rw [if_pos h1, if_pos (of_decide_eq_true (h ▸ decide_eq_true h1))]
    · rw [if_neg h1, if_neg (of_decide_eq_false (h ▸ decide_eq_false h1))]
  unfold rfA
  simp only [smL_succ, e]
  congr 1 <;> simp
theorem rfA_bd {bs : List Rng} {a b : Trt} (h : all9 0 10000000 bs = true) (hn : bs.length ≤ 60) (ha : 0 ≤ a.s.lo ∧ a.s.lo ≤ a.s.hi ∧ a.s.hi ≤ 10000000) (hb : 0 ≤ b.s.lo ∧ b.s.lo ≤ b.s.hi ∧ b.s.hi ≤ 10000000) {k : Nat} (hk : k ≤ bs.length) :
    (-2000000000 ≤ (rfA bs a b k).lo ∧ (rfA bs a b k).lo ≤ 2000000000) ∧ -2000000000 ≤ (rfA bs a b k).hi ∧ (rfA bs a b k).hi ≤ 2000000000 := by
  have hl : ∀ j, j < bs.length → 0 ≤ (at0 bs j).lo ∧ (at0 bs j).lo ≤ 10000000 := fun j hj => by have := all9_at h hj; omega
  have hh : ∀ j, j < bs.length → 0 ≤ (at0 bs j).hi ∧ (at0 bs j).hi ≤ 10000000 := fun j hj => by have := all9_at h hj; omega
  have h1 := smL_bd (f := apF a.b b.b) (v := false) hl k hk
  have h2 := smL_bd (f := apF a.b b.b) (v := true) hl k hk
  have h3 := smL_bd (f := apF a.b b.b) (v := false) hh k hk
  have h4 := smL_bd (f := apF a.b b.b) (v := true) hh k hk
  unfold rfA
  simp only
  omega
theorem StL.upd0 {w V : World} {L : List (Nat × Array Value × TypeId)} {q : Nat} {cs : Array Value} {t : TypeId} (h : StL w ((q, cs, t) :: L) V) (hq : w.heap.size ≤ q) (hn : ∀ x ∈ L, x.1 ≠ q) (cs' : Array Value) : StL w ((q, cs', t) :: L) (V.setRow q cs') :=
  StL.cons ⟨below_setRow h.1 hq _, fun x hx => (setRow_other (hn x hx)).trans (h.2 x (List.mem_cons_of_mem _ hx))⟩ (setRow_same (h.2 _ (.head _)))
theorem StL.upd1 {w V : World} {L : List (Nat × Array Value × TypeId)} {y : Nat × Array Value × TypeId} {q : Nat} {cs : Array Value} {t : TypeId} (h : StL w (y :: (q, cs, t) :: L) V) (hq : w.heap.size ≤ q) (hy : y.1 ≠ q) (hn : ∀ x ∈ L, x.1 ≠ q) (cs' : Array Value) : StL w (y :: (q, cs', t) :: L) (V.setRow q cs') :=
  StL.cons (StL.cons ⟨below_setRow h.1 hq _, fun x hx => (setRow_other (hn x hx)).trans (h.2 x (List.mem_cons_of_mem _ (List.mem_cons_of_mem _ hx)))⟩ (setRow_same (h.2 _ (.tail _ (.head _))))) ((setRow_other hy).trans (h.2 y (.head _)))
theorem StL.hd {w V : World} {L : List (Nat × Array Value × TypeId)} {b : Nat} {cs : Array Value} {t : TypeId} (h : StL w ((b, cs, t) :: L) V) : V.heap[b]? = some (.cells cs t (0, 0)) := h.2 _ (.head _)
theorem StL.rd {w V : World} {L : List (Nat × Array Value × TypeId)} {B sz n : Nat} {A : Option Addr} {g : Nat → Nat → Value} (h : StL w L V) (hB : B ≤ w.heap.size) (hx : Rd w B sz A n g) : Rd V B sz A n g ∧ B ≤ V.heap.size := ⟨hx.below (h.1.mono hB), Nat.le_trans hB h.1.size⟩
abbrev trA (t : Trt) (A : Option Addr) (n : Nat) : Array Value := #[I t.s.lo, I t.s.hi, .slice A t.b.length n]
abbrev apL (w : World) (a b : Trt) (A C : Option Addr) (n m : Nat) : List (Nat × Array Value × TypeId) := [(w.heap.size + 1 + 1, #[I 0, I 0], 24), (w.heap.size + 1, trA b C m, 72), (w.heap.size, trA a A n, 72)]
end Go.Proofs.Ytljjpidigckheaa.Un
