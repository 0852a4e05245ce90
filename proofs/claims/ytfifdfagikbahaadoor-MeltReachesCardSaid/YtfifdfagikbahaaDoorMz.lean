/- An order of worlds in which one block may change from one row to another; a region that stores one number into a block at a drawn time. -/
import Derived.Test.YtfifdfagikbahaaDoorRg
namespace Go.Proofs.YtfifdfagikbahaaDoor.Pr
open Go.RowKit
/-- The block b may change, from the row c0 to the row c1; all else stays. -/
structure StLe (b : Nat) (c0 c1 : Array Value) (t : TypeId) (w w' : World) : Prop where
  os : w'.os = w.os
  tape : w'.tape = w.tape
  output : w'.output = w.output
  size : w.heap.size ≤ w'.heap.size
  block : ∀ k, k < w.heap.size → k ≠ b → w'.heap[k]? = w.heap[k]?
  at0 : w.heap[b]? = some (.cells c0 t (0, 0)) → w'.heap[b]? = some (.cells c0 t (0, 0)) ∨ w'.heap[b]? = some (.cells c1 t (0, 0))
  at1 : w.heap[b]? = some (.cells c1 t (0, 0)) → w'.heap[b]? = some (.cells c1 t (0, 0))
def St (b : Nat) (c0 c1 : Array Value) (t : TypeId) : Pre where
  le := StLe b c0 c1 t
  refl w := ⟨rfl, rfl, rfl, Nat.le_refl _, fun _ _ _ => rfl, .inl, id⟩
  trans {x y z} h h' := ⟨h'.os.trans h.os, h'.tape.trans h.tape, h'.output.trans h.output, Nat.le_trans h.size h'.size, fun k hk hx => (h'.block k (Nat.lt_of_lt_of_le hk h.size) hx).trans (h.block k hk hx),
    fun hc => by
      rcases h.at0 hc with h1 | h1
      · exact h'.at0 h1
      · exact .inr (h'.at1 h1), fun hc => h'.at1 (h.at1 hc)⟩
variable {b : Nat} {c0 c1 : Array Value} {t : TypeId}
theorem St.of {w w' : World} (h : Below w.heap.size w w') : (St b c0 c1 t).le w w' :=
  ⟨h.os, h.tape, h.output, h.size, fun k hk _ => h.block k hk, fun hc => .inl ((h.block b (Array.getElem?_eq_some_iff.1 hc).1).trans hc), fun hc => (h.block b (Array.getElem?_eq_some_iff.1 hc).1).trans hc⟩
theorem St.cell {w w' : World} (h : (St b c0 c1 t).le w w') {k o : Nat} {v : Value} (hx : k ≠ b) (hc : w.cell? ⟨k, o, none⟩ = some v) : w'.cell? ⟨k, o, none⟩ = some v := by
  rw [← hc]; exact World.cell?_of_block (h.block k (block_lt_of_cell hc) hx)
theorem St.ovl_cell {w : World} {k o : Nat} {v : Value} (hx : k ≠ b) (hc : w.cell? ⟨k, o, none⟩ = some v) (u : World) : (ovl (St b c0 c1 t) w u).cell? ⟨k, o, none⟩ = some v := St.cell (ovl_le _ w u) hx hc
theorem St.below {B : Nat} {w w' : World} (h : (St b c0 c1 t).le w w') (hB : B ≤ b) (hW : B ≤ w.heap.size) : Below B w w' :=
  ⟨h.os, h.tape, h.output, h.size, fun k hk => h.block k (Nat.lt_of_lt_of_le hk hW) (by omega)⟩
/-- A call that leaves alone what was there. -/
theorem St.call {P : Program} {f : FuncId} {args : Array Value} {w : World} {v : Value} (h : Calls P f args w fun e w' => e = .returned v ∧ Below w.heap.size w w') :
    Calls P f args w fun e w' => ∃ u, e = .returned u ∧ (St b c0 c1 t).le w w' ∧ Box (St b c0 c1 t) (fun u _ => u = v) u w' := h.mono fun _ _ ⟨he, hb⟩ => ⟨v, he, St.of hb, fun _ _ => rfl⟩
/-- The block holds the second row. -/
def StAt (b : Nat) (c1 : Array Value) (t : TypeId) (_ : Value) (w : World) : Prop := w.heap[b]? = some (.cells c1 t (0, 0))
theorem St.store {P : Program} {o : Oper} {a : Act} {W w : World} (hw : Cl (St b c0 c1 t) W w) (h0 : W.heap[b]? = some (.cells c0 t (0, 0))) (ty : TypeId) (x y : Operand) (ho : o.op = .store ty x y) (i : Nat) (hx : a.eval x = .pointer (some ⟨b, i, none⟩)) (v : Int) (hy : a.eval y = I v)
    (hi : i < c0.size) (hc : c1 = c0.setIfInBounds i (I v)) (hrun : ∀ (w : World) (c : Value), w.cell? ⟨b, i, none⟩ = some c → w.frozen? ⟨b, i, none⟩ = false → (storeVar ty ⟨b, i, none⟩ (I v)).run P w = .ok () (w.setCell ⟨b, i, none⟩ (I v))) :
    grows (St b c0 c1 t) P o a w (StAt b c1 t) := by
  have key : ∀ cs : Array Value, w.heap[b]? = some (.cells cs t (0, 0)) → cs.size = c0.size → cs.setIfInBounds i (I v) = c1 → grows (St b c0 c1 t) P o a w (StAt b c1 t) := by
    intro cs hr hs hcs
    have hr2 := heap_setCell_same w b i cs t (I v) hr
    rw [hcs] at hr2
    have r := hrun w cs[i] (by rw [cell_of_row _ _ _ _ _ _ hr]; exact Array.getElem?_eq_getElem (by omega)) (frozen_of_row _ _ i _ _ hr)
    unfold grows execOp
    simp only [ho, hx, hy, Instr.storeAt, Instr.sureAddr, Sem.run_bind, Sem.run_pure, Result.andThen_ok, r]
    exact ⟨⟨rfl, rfl, rfl, by simp, fun k _ hk => heap_setCell_other _ _ _ _ hk, fun _ => .inr hr2, fun _ => hr2⟩, fun w2 h2 => h2.at1 hr2⟩
  rcases (Cl.le hw).at0 h0 with h1 | h1
  · exact key c0 h1 rfl hc.symm
  · refine key c1 h1 (by rw [hc]; simp) ?_
    rw [hc]
    apply Array.ext_getElem?
    intro j
    rw [Array.getElem?_setIfInBounds]
    split
    · rename_i e; subst e; rw [Array.getElem?_setIfInBounds, if_pos rfl]; simp [hi]
    · rfl
end Go.Proofs.YtfifdfagikbahaaDoor.Pr
