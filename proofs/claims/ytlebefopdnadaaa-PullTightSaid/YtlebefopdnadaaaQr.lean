/- A region that draws and stores two cells of one block, each to a value known ahead: which worlds may follow each other. -/
import Derived.Test.YtlebefopdnadaaaTj
import Derived.Test.YtlebefopdnadaaaRg
namespace Go.Proofs.Ytlebefopdnadaaa
open Go.RowKit
/-- Of the block qb the cell 110 may become g, the cell 111 s; all other blocks stay. -/
structure QLe (qb : Nat) (g s : Int) (w w' : World) : Prop where
  os : w'.os = w.os
  tape : w'.tape = w.tape
  output : w'.output = w.output
  size : w.heap.size ≤ w'.heap.size
  block : ∀ k, k < w.heap.size → k ≠ qb → w'.heap[k]? = w.heap[k]?
  row : ∀ cs t fr, w.heap[qb]? = some (.cells cs t fr) → ∃ cs' : Array Value, w'.heap[qb]? = some (.cells cs' t fr) ∧ cs'.size = cs.size ∧ ∀ j, cs'[j]? = cs[j]? ∨ (j = 110 ∧ cs'[j]? = some (I g)) ∨ (j = 111 ∧ cs'[j]? = some (I s))
def QL (qb : Nat) (g s : Int) : Pr.Pre where
  le := QLe qb g s
  refl w := ⟨rfl, rfl, rfl, Nat.le_refl _, fun _ _ _ => rfl, fun cs _ _ h => ⟨cs, h, rfl, fun _ => .inl rfl⟩⟩
  trans {a b c} h h' := ⟨h'.os.trans h.os, h'.tape.trans h.tape, h'.output.trans h.output, Nat.le_trans h.size h'.size, fun k hk hx => (h'.block k (Nat.lt_of_lt_of_le hk h.size) hx).trans (h.block k hk hx), fun cs t fr hc => by
    obtain ⟨c1, h1, s1, e1⟩ := h.row cs t fr hc
    obtain ⟨c2, h2, s2, e2⟩ := h'.row c1 t fr h1
    refine ⟨c2, h2, s2.trans s1, fun j => ?_⟩
    rcases e2 j with e | e
    · rw [e]; exact e1 j
    · exact .inr e⟩
theorem ql_drew (qb : Nat) (g s : Int) (w : World) : (QL qb g s).le w w.drew := ⟨rfl, rfl, rfl, Nat.le_refl _, fun _ _ _ => rfl, fun cs _ _ h => ⟨cs, h, rfl, fun _ => .inl rfl⟩⟩
/-- A cell of the block. -/
def QC (qb k : Nat) (v : Int) (_ : Value) (w : World) : Prop := ∃ cs t, w.heap[qb]? = some (.cells cs t (0, 0)) ∧ cs[k]? = some (I v)
theorem qc_box0 {qb : Nat} {g s : Int} {u : Value} {w : World} (h : QC qb 110 g u w) : Pr.Box (QL qb g s) (QC qb 110 g) u w := fun w' hl => by
  obtain ⟨cs, t, h1, h2⟩ := h
  obtain ⟨c1, g1, _, e1⟩ := QLe.row hl cs t _ h1
  refine ⟨c1, t, g1, ?_⟩
  rcases e1 110 with e | e | e
  · rw [e]; exact h2
  · exact e.2
  · exact absurd e.1 (by decide)
theorem qc_box1 {qb : Nat} {g s : Int} {u : Value} {w : World} (h : QC qb 111 s u w) : Pr.Box (QL qb g s) (QC qb 111 s) u w := fun w' hl => by
  obtain ⟨cs, t, h1, h2⟩ := h
  obtain ⟨c1, g1, _, e1⟩ := QLe.row hl cs t _ h1
  refine ⟨c1, t, g1, ?_⟩
  rcases e1 111 with e | e | e
  · rw [e]; exact h2
  · exact absurd e.1 (by decide)
  · exact e.2
theorem ql_cell {qb : Nat} {g s : Int} {w : World} {k o : Nat} {v : Value} (hx : k ≠ qb) (hc : w.cell? ⟨k, o, none⟩ = some v) (u : World) : (Pr.ovl (QL qb g s) w u).cell? ⟨k, o, none⟩ = some v := by
  rw [← hc]; exact World.cell?_of_block (QLe.block (Pr.ovl_le (QL qb g s) w u) k (block_lt_of_cell hc) hx)
/-- What the cells 110 and 111 may be. -/
theorem ql_at {qb : Nat} {g s : Int} {w w' : World} {p : Vec} {a b : Int} (h : w.heap[qb]? = some (.cells (ia 117 (qv p a b)) 30 (0, 0))) (hl : (QL qb g s).le w w') :
    ∃ cs : Array Value, w'.heap[qb]? = some (.cells cs 30 (0, 0)) ∧ cs.size = 117 ∧ (∃ z, cs[110]? = some (I z) ∧ (z = a ∨ z = g)) ∧ (∃ z, cs[111]? = some (I z) ∧ (z = b ∨ z = s)) ∧ ∀ j, j < 117 → j ≠ 110 → j ≠ 111 → cs[j]? = some (I (p j)) := by
  obtain ⟨cs, h1, h2, h3⟩ := QLe.row hl _ _ _ h
  refine ⟨cs, h1, by rw [h2, ia_size], ?_, ?_, fun j hj n0 n1 => ?_⟩
  · rcases h3 110 with e | e | e
    · exact ⟨a, by rw [e]; exact ia_get (by omega), .inl rfl⟩
    · exact ⟨g, e.2, .inr rfl⟩
    · exact absurd e.1 (by decide)
  · rcases h3 111 with e | e | e
    · exact ⟨b, by rw [e]; exact ia_get (by omega), .inl rfl⟩
    · exact absurd e.1 (by decide)
    · exact ⟨s, e.2, .inr rfl⟩
  · rcases h3 j with e | e | e
    · rw [e, ia_get hj]; unfold qv; rw [if_neg n0, if_neg n1]
    · exact absurd e.1 n0
    · exact absurd e.1 n1
theorem ql_end {qb : Nat} {g s : Int} {w w' : World} {p : Vec} {a b : Int} {u v : Value} (h : w.heap[qb]? = some (.cells (ia 117 (qv p a b)) 30 (0, 0))) (hl : (QL qb g s).le w w') (h0 : QC qb 110 g u w') (h1 : QC qb 111 s v w') :
    w'.heap[qb]? = some (.cells (ia 117 (qv p g s)) 30 (0, 0)) := by
  obtain ⟨cs, e, hs, _, _, hj⟩ := ql_at h hl
  obtain ⟨c0, t0, e0, g0⟩ := h0
  obtain ⟨c1, t1, e1, g1⟩ := h1
  rw [e] at e0 e1 ⊢
  injection e0 with e0
  injection e0 with e0 _ _
  injection e1 with e1
  injection e1 with e1 _ _
  subst e0 e1
  congr 2
  apply Array.ext_getElem?
  intro i
  by_cases hi : i < 117
  · rw [ia_get hi]
    by_cases i0 : i = 110
    · subst i0; exact g0
    · by_cases i1 : i = 111
      · subst i1; exact g1
      · rw [hj i hi i0 i1]; unfold qv; rw [if_neg i0, if_neg i1]
  · rw [Array.getElem?_eq_none (by omega), Array.getElem?_eq_none (by rw [ia_size]; omega)]
theorem ql_set {qb : Nat} {g s : Int} {w : World} {cs : Array Value} {t : TypeId} {fr : Nat × Nat} (h : w.heap[qb]? = some (.cells cs t fr)) {k : Nat} {v : Int} (hk : (k = 110 ∧ v = g) ∨ (k = 111 ∧ v = s)) (hs : k < cs.size) : (QL qb g s).le w (w.setRow qb (cs.setIfInBounds k (I v))) :=
  ⟨rfl, rfl, rfl, by show w.heap.size ≤ (w.setRow qb _).heap.size; simp [World.setRow], fun j _ hj => setRow_other hj, fun c t' fr' hc => by
    rw [h] at hc
    injection hc with hc
    injection hc with e1 e2 e3
    subst e1 e2 e3
    refine ⟨_, setRow_same h, by simp, fun j => ?_⟩
    rw [Array.getElem?_setIfInBounds]
    by_cases hjk : k = j
    · rw [if_pos hjk, if_pos hs]
      right
      rcases hk with ⟨h1, h2⟩ | ⟨h1, h2⟩
      · exact .inl ⟨by omega, by rw [h2]⟩
      · exact .inr ⟨by omega, by rw [h2]⟩
    · rw [if_neg hjk]; exact .inl rfl⟩
/-- The store of a cell of the block. -/
theorem ql_store {qb : Nat} {g s : Int} {P : Program} {o : Oper} {a : Act} {w : World} {k : Nat} {v : Int} (ty : TypeId) (x y : Operand) (ho : o.op = .store ty x y) (hx : a.eval x = .pointer (some ⟨qb, k, none⟩)) (hy : a.eval y = I v)
    (cs : Array Value) (t : TypeId) (h : w.heap[qb]? = some (.cells cs t (0, 0))) (hk : (k = 110 ∧ v = g) ∨ (k = 111 ∧ v = s)) (hs : k < cs.size) (hi : (P.info? ty).map (·.size) = some 1) : Pr.grows (QL qb g s) P o a w (QC qb k v) := by
  have hst := run_storeCells_at P qb k t [I v] 0 cs w h (by have := hs; simp; omega) (by intro u hu; rw [List.mem_singleton.1 hu]; rfl)
  simp only [Nat.add_zero] at hst
  have hrow : (cs.toList.take k ++ [I v] ++ cs.toList.drop (k + [I v].length)).toArray = cs.setIfInBounds k (I v) := by
    apply Array.ext'
    rw [Array.toList_setIfInBounds, List.set_eq_take_append_cons_drop, if_pos (by simpa using hs)]
    simp
  have hrun : (storeVar ty ⟨qb, k, none⟩ (I v)).run P w = .ok () (w.setRow qb (cs.setIfInBounds k (I v))) := by
    cases hq : P.info? ty with
    | none => simp [hq] at hi
    | some q =>
      have hs' : q.size = 1 := by simpa [hq] using hi
      rw [hrow] at hst
      simp [storeVar, Sem.run_bind, sizeOf, typeInfo, hq, hs', Value.cells, hst]
  have hc : QC qb k v undef (w.setRow qb (cs.setIfInBounds k (I v))) := ⟨_, t, setRow_same h, by rw [Array.getElem?_setIfInBounds, if_pos rfl, if_pos hs]⟩
  unfold Pr.grows execOp
  simp only [ho, hx, hy, Instr.storeAt, Instr.sureAddr, Sem.run_bind, Sem.run_pure, Result.andThen_ok, hrun]
  refine ⟨ql_set h hk hs, ?_⟩
  rcases hk with ⟨rfl, rfl⟩ | ⟨rfl, rfl⟩
  · exact qc_box0 hc
  · exact qc_box1 hc
end Go.Proofs.Ytlebefopdnadaaa
