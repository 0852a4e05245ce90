/- The document's examples hold: the contract of known of the statements' package. -/
import Derived.Test.YtlebefopdnadaaaKw
import Derived.Test.YtlebefopdnadaaaMk2
namespace Go.Proofs.Ytlebefopdnadaaa
open Go.RowKit
theorem wp_assign {P : Program} {o : Oper} {a : Act} {w : World} {K : Act → World → Prop} {Q : Exit → Act → World → Prop} (x : Operand) (v : Value) (ho : o.op = .assign x) (hv : a.eval x = v) (h : K (a.put o.dst v) w) : o.wp P a w K Q := by
  unfold Oper.wp execOp
  simp only [ho, hv, Sem.run_pure]
  exact h
theorem Cl.set {W0 w : World} (h : Cl W0 w) {b : Nat} (hb : W0.heap.size ≤ b) (cs : Array Value) : Cl W0 (w.setRow b cs) := Cl.of (below_setRow h.le hb _)
theorem all8 {P : Nat → Prop} (h0 : P 0) (h1 : P 1) (h2 : P 2) (h3 : P 3) (h4 : P 4) (h5 : P 5) (h6 : P 6) (h7 : P 7) : ∀ k, k < 8 → P k
  | 0, _ => h0 | 1, _ => h1 | 2, _ => h2 | 3, _ => h3 | 4, _ => h4 | 5, _ => h5 | 6, _ => h6 | 7, _ => h7
theorem all3 {P : Nat → Prop} (h0 : P 0) (h1 : P 1) (h2 : P 2) : ∀ k, k < 3 → P k
  | 0, _ => h0 | 1, _ => h1 | 2, _ => h2
def kS1 : Array Value := #[I 0, I 1, I 20, I 0, I 0, I 0, I 0, I 0, I 100, I 1, I 10, I 0, I 0, I 0, I 0, I 0]
def kE1 : Array Value := #[I 50, I 4, I 61, I 5]
def kS2 : Array Value := #[I 0, I 4, I 10, I 0, I 0, I 0, I 0, I 0]
def kM2 : Array Value := #[I 0, I 100, I 100, I 6, I 100, I 100]
abbrev r1A (s e : Nat) : Array Value := #[.slice (some ⟨s, 0, none⟩) 2 2, I 200, .slice none 0 0, .slice (some ⟨e, 0, none⟩) 2 2]
abbrev r2A (s m : Nat) : Array Value := #[.slice (some ⟨s, 0, none⟩) 1 1, I 6, .slice (some ⟨m, 0, none⟩) 2 2, .slice none 0 0]
theorem kIn1 {W : World} {s e : Nat} (hs : W.heap[s]? = some (.cells kS1 73 (0, 0))) (he : W.heap[e]? = some (.cells kE1 77 (0, 0))) : RunIn W (some ⟨s, 0, none⟩) none (some ⟨e, 0, none⟩) kR1 where
  s := fun _ => ⟨s, 0, rfl, (Array.getElem?_eq_some_iff.1 hs).1, all2 (all8 (by rw [cell_of_row _ _ _ _ _ _ hs]; rfl) (by rw [cell_of_row _ _ _ _ _ _ hs]; rfl) (by rw [cell_of_row _ _ _ _ _ _ hs]; rfl) (by rw [cell_of_row _ _ _ _ _ _ hs]; rfl) (by rw [cell_of_row _ _ _ _ _ _ hs]; rfl) (by rw [cell_of_row _ _ _ _ _ _ hs]; rfl) (by rw [cell_of_row _ _ _ _ _ _ hs]; rfl) (by rw [cell_of_row _ _ _ _ _ _ hs]; rfl)) (all8 (by rw [cell_of_row _ _ _ _ _ _ hs]; rfl) (by rw [cell_of_row _ _ _ _ _ _ hs]; rfl) (by rw [cell_of_row _ _ _ _ _ _ hs]; rfl) (by rw [cell_of_row _ _ _ _ _ _ hs]; rfl) (by rw [cell_of_row _ _ _ _ _ _ hs]; rfl) (by rw [cell_of_row _ _ _ _ _ _ hs]; rfl) (by rw [cell_of_row _ _ _ _ _ _ hs]; rfl) (by rw [cell_of_row _ _ _ _ _ _ hs]; rfl))⟩
  m := Rd.nil
  e := fun _ => ⟨e, 0, rfl, (Array.getElem?_eq_some_iff.1 he).1, all2 (all2 (by rw [cell_of_row _ _ _ _ _ _ he]; rfl) (by rw [cell_of_row _ _ _ _ _ _ he]; rfl)) (all2 (by rw [cell_of_row _ _ _ _ _ _ he]; rfl) (by rw [cell_of_row _ _ _ _ _ _ he]; rfl))⟩
  ls := by decide
  lm := by decide
  le := by decide
theorem kIn2 {W : World} {s m : Nat} (hs : W.heap[s]? = some (.cells kS2 73 (0, 0))) (hm : W.heap[m]? = some (.cells kM2 75 (0, 0))) : RunIn W (some ⟨s, 0, none⟩) (some ⟨m, 0, none⟩) none kR2 where
  s := fun _ => ⟨s, 0, rfl, (Array.getElem?_eq_some_iff.1 hs).1, all1 (all8 (by rw [cell_of_row _ _ _ _ _ _ hs]; rfl) (by rw [cell_of_row _ _ _ _ _ _ hs]; rfl) (by rw [cell_of_row _ _ _ _ _ _ hs]; rfl) (by rw [cell_of_row _ _ _ _ _ _ hs]; rfl) (by rw [cell_of_row _ _ _ _ _ _ hs]; rfl) (by rw [cell_of_row _ _ _ _ _ _ hs]; rfl) (by rw [cell_of_row _ _ _ _ _ _ hs]; rfl) (by rw [cell_of_row _ _ _ _ _ _ hs]; rfl))⟩
  m := fun _ => ⟨m, 0, rfl, (Array.getElem?_eq_some_iff.1 hm).1, all2 (all3 (by rw [cell_of_row _ _ _ _ _ _ hm]; rfl) (by rw [cell_of_row _ _ _ _ _ _ hm]; rfl) (by rw [cell_of_row _ _ _ _ _ _ hm]; rfl)) (all3 (by rw [cell_of_row _ _ _ _ _ _ hm]; rfl) (by rw [cell_of_row _ _ _ _ _ _ hm]; rfl) (by rw [cell_of_row _ _ _ _ _ _ hm]; rfl))⟩
  e := Rd.nil
  ls := by decide
  lm := by decide
  le := by decide
section
variable {W : World} {s m e : Nat}
theorem kg1 (h : RunIn W (some ⟨s, 0, none⟩) none (some ⟨e, 0, none⟩) kR1) : Calls Try.prog 19 #[.agg (r1A s e), I 0, I 200] W fun e w' => e = .returned (.tuple #[I 3000, I 0]) ∧ Below W.heap.size W w' := by
  have := grown_any _ _ _ 2 0 2 kR1 0 200 W h; rw [k1.1, k1.2] at this; exact this
theorem kg2 (h : RunIn W (some ⟨s, 0, none⟩) none (some ⟨e, 0, none⟩) kR1) : Calls Try.prog 20 #[.agg (r1A s e), I 2001] W fun e w' => e = .returned (.tuple #[I 101, I 0]) ∧ Below W.heap.size W w' := by
  have := reached_any _ _ _ 2 0 2 kR1 2001 W h; rw [k2.1, k2.2] at this; exact this
theorem kg3 (h : RunIn W (some ⟨s, 0, none⟩) none (some ⟨e, 0, none⟩) kR1) : Calls Try.prog 23 #[.agg (ia 117 softV), .agg (r1A s e)] W fun e w' => e = .returned (.tuple #[I 60, I 4, I 0]) ∧ Below W.heap.size W w' := by
  have := stopX_any _ _ _ 2 0 2 softV kR1 W h; rw [k3, k4] at this; exact this
theorem kg4 (h : RunIn W (some ⟨s, 0, none⟩) none (some ⟨e, 0, none⟩) kR1) : Calls Try.prog 24 #[.agg (ia 117 softV), .agg (r1A s e)] W fun e w' => e = .returned (.tuple #[.agg #[I 6, I 0, I 0], I 0]) ∧ Below W.heap.size W w' := by
  have := obeys_any _ _ _ 2 0 2 softV kR1 W h; rw [k3, k10] at this; exact this
theorem kg5 (h : RunIn W (some ⟨s, 0, none⟩) (some ⟨m, 0, none⟩) none kR2) : Calls Try.prog 28 #[.agg (ia 117 softV), .agg (r2A s m), I 4] W fun e w' => e = .returned (.tuple #[.agg #[I 96, I 102], I 0]) ∧ Below W.heap.size W w' := by
  have := diameter_any _ _ _ 1 2 0 softV kR2 4 W h (by decide)
  have e1 : tellE softV kR2 4 kR2.e = 0 := k6.1
  have e2 : tellR softV kR2 4 kR2.e (atK softV kR2 (4 : Int).toNat) = ⟨96, 102⟩ := k6.2
  rw [e1, e2] at this; exact this
theorem kg6 (h : RunIn W (some ⟨s, 0, none⟩) (some ⟨m, 0, none⟩) none kR2) : Calls Try.prog 29 #[.agg (ia 117 softV), .agg (r2A s m), I 1] W fun e w' => e = .returned (.tuple #[.agg #[I 98, I 104], I 0]) ∧ Below W.heap.size W w' := by
  have := betweenX_any _ _ _ 1 2 0 softV kR2 1 W h (by decide)
  have e1 : tellE softV kR2 1 (kR2.e - 1) = 0 := k7.1
  have e2 : tellR softV kR2 1 (kR2.e - 1) (fromK softV kR2 (1 : Int).toNat) = ⟨98, 104⟩ := k7.2
  rw [e1, e2] at this; exact this
theorem kg7 (h : RunIn W (some ⟨s, 0, none⟩) (some ⟨m, 0, none⟩) none kR2) : Calls Try.prog 33 #[.agg (ia 117 softV), .agg (r2A s m)] W (RetL W [⟨0, 2⟩, ⟨5, 5⟩] 0) := by
  have := acceptedX_any _ _ _ 1 2 0 softV kR2 W h (by decide); rw [k8.1, k8.2] at this; exact this
theorem kg8 (h : RunIn W (some ⟨s, 0, none⟩) (some ⟨m, 0, none⟩) none kR2) : Calls Try.prog 34 #[.agg (ia 117 softV), .agg (r2A s m)] W (RetL W [⟨0, 30⟩, ⟨50, 60⟩] 0) := by
  have := soldX_any _ _ _ 1 2 0 softV kR2 W h (by decide); rw [k8.1, k9] at this; exact this
end
end Go.Proofs.Ytlebefopdnadaaa
