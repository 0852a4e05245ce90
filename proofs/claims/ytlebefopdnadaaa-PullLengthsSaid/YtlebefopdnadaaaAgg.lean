/- Laws of the walk for aggregates of integers that are not written out: a load, an index, a store into a variable that was just made. No condition beyond those that each law names. -/
import Derived.Test.YtlebefopdnadaaaKit
namespace Go.Proofs.Ytlebefopdnadaaa
open Go.RowKit
def ia (n : Nat) (f : Vec) : Array Value := ((List.range n).map fun i => I (f i)).toArray
theorem ia_size (n : Nat) (f : Vec) : (ia n f).size = n := by simp [ia]
theorem ia_get {n : Nat} {f : Vec} {i : Nat} (h : i < n) : (ia n f)[i]? = some (I (f i)) := by simp [ia, h]
theorem ia_extract (n : Nat) (f : Vec) (a m : Nat) (h : a + m ≤ n) : (ia n f).extract a (a + m) = ia m fun i => f (a + i) := by
  apply Array.ext_getElem?
  intro i
  rw [Array.getElem?_extract]
  by_cases hi : i < m
  · rw [if_pos (by rw [ia_size]; omega), ia_get (by omega), ia_get hi]
  · rw [if_neg (by rw [ia_size]; omega), Array.getElem?_eq_none (by rw [ia_size]; omega)]
theorem ia_one {n : Nat} {f : Vec} : ∀ v ∈ (ia n f).toList, v.oneCell' = true := by
  intro v hv
  simp [ia] at hv
  obtain ⟨a, _, rfl⟩ := hv
  rfl
section
variable {P : Program}
theorem addr_add (b o j : Nat) : (⟨b, o, none⟩ : Addr).add j = ⟨b, o + j, none⟩ := by unfold Addr.add; split <;> simp_all
theorem wpList_load_ia {ops : Array Oper} {rest : List Oper} {o : Oper} {a : Act} {w : World} {Q : Exit → Act → World → Prop} (hgd : o.guard = none) (ty : TypeId) (x : Operand) (ho : o.op = .load ty x)
    (g i : Nat) (hx : a.eval x = .pointer (some ⟨g, i, none⟩)) (m : Nat) (f : Vec) (d : TypeDesc) (hg : ∀ j, j < m → w.cell? ⟨g, i + j, none⟩ = some (I (f j)))
    (hu : P.underlying ty = some d) (hd : (match d with | .struct _ | .array _ _ => true | _ => false) = true) (hi : (P.info? ty).map (·.size) = some m)
    (h : wpList P ops Q rest (a.put o.dst (.agg (ia m f))) w) : wpList P ops Q (o :: rest) a w := by
  refine wpList_plain hgd fun _ hK => ?_
  have hl := run_loadCells (P := P) w ⟨g, i, none⟩ m (fun j => I (f j)) (fun j hj => by rw [addr_add]; exact hg j hj)
  have hrun : (loadVar ty ⟨g, i, none⟩).run P w = .ok (.agg (ia m f)) w := by
    cases hq : P.info? ty with
    | none => simp [hq] at hi
    | some q =>
      have hs : q.size = m := by simpa [hq] using hi
      have hagg : (isAgg ty).run P w = .ok true w := by
        unfold isAgg
        rw [Sem.run_bind, run_underlying hu w]
        cases d <;> simp_all
      simp [loadVar, Sem.run_bind, hagg, sizeOf, typeInfo, hq, hs, hl, ia]
  unfold Oper.wp execOp
  simp only [ho, hx, Instr.loadAt, Instr.sureAddr, Sem.run_bind, Sem.run_pure, Result.andThen_ok, hrun]
  exact hK _ _ h
theorem wpList_index_ia {ops : Array Oper} {rest : List Oper} {o : Oper} {a : Act} {w : World} {Q : Exit → Act → World → Prop} (hgd : o.guard = none) (ty : TypeId) (x y : Operand) (ho : o.op = .index ty x y)
    (n : Nat) (f : Vec) (hx : a.eval x = .agg (ia n f)) (k : Nat) (hy : a.eval y = .int .i64 k) (len m : Nat) (e : TypeId) (d : TypeDesc) (hu : P.underlying ty = some (.array len e)) (hk : k < len)
    (hue : P.underlying e = some d) (hd : (match d with | .struct _ | .array _ _ => true | _ => false) = true) (hi : (P.info? e).map (·.size) = some m) (hn : k * m + m ≤ n)
    (h : wpList P ops Q rest (a.put o.dst (.agg (ia m fun i => f (k * m + i)))) w) : wpList P ops Q (o :: rest) a w := by
  refine wpList_plain hgd fun _ hK => ?_
  have hagg : (isAgg e).run P w = .ok true w := by
    unfold isAgg
    rw [Sem.run_bind, run_underlying hue w]
    cases d <;> simp_all
  have hrun : (Instr.index ty (.agg (ia n f)) (.int .i64 k)).run P w = .ok (.agg (ia m fun i => f (k * m + i))) w := by
    cases hq : P.info? e with
    | none => simp [hq] at hi
    | some q =>
      have hs : q.size = m := by simpa [hq] using hi
      have hkl : ¬ len ≤ k := by omega
      simp [Instr.index, asIntOf, run_underlying hu, part, hagg, sizeOf, typeInfo, hq, hs, hkl, ia_extract n f (k * m) m hn]
  unfold Oper.wp execOp
  simp only [ho, hx, hy, Sem.run_bind, Sem.run_pure, Result.andThen_ok, hrun]
  exact hK _ _ h
theorem wpList_store_fresh {ops : Array Oper} {rest : List Oper} {o : Oper} {a : Act} {w : World} {Q : Exit → Act → World → Prop} (hgd : o.guard = none) (ty : TypeId) (x y : Operand) (ho : o.op = .store ty x y)
    (cs : Array Value) (t : TypeId) (hx : a.eval x = .pointer (some ⟨w.heap.size, 0, none⟩)) (cs' : Array Value) (hy : a.eval y = .agg cs') (h1 : ∀ v ∈ cs'.toList, v.oneCell' = true) (hs : cs'.size = cs.size) (hi : (P.info? ty).map (·.size) = some cs.size)
    (h : wpList P ops Q rest (a.put o.dst undef) (w.alloc (.cells cs' t))) : wpList P ops Q (o :: rest) a (w.alloc (.cells cs t)) := by
  refine wpList_plain hgd fun _ hK => ?_
  have hst := run_storeCells_from (P := P) w.heap.size t cs'.toList 0 cs (w.alloc (.cells cs t)) (heap_alloc_new w _) (by simpa using hs) h1
  have hw : (w.alloc (.cells cs t)).setRow w.heap.size (cs.toList.take 0 ++ cs'.toList).toArray = w.alloc (.cells cs' t) := by
    unfold World.setRow
    show World.mk .. = World.mk ..
    congr 1
    apply Array.ext_getElem?
    intro i
    rw [Array.getElem?_modify]
    show (if w.heap.size = i then ((w.heap.push (.cells cs t))[i]?).map _ else (w.heap.push (.cells cs t))[i]?) = (w.heap.push (.cells cs' t))[i]?
    rw [Array.getElem?_push, Array.getElem?_push]
    by_cases he : i = w.heap.size
    · subst he; simp
    · have he' : ¬ w.heap.size = i := fun e => he e.symm
      simp [he, he']
  rw [hw] at hst
  have hrun : (storeVar ty ⟨w.heap.size, 0, none⟩ (.agg cs')).run P (w.alloc (.cells cs t)) = .ok () (w.alloc (.cells cs' t)) := by
    cases hq : P.info? ty with
    | none => simp [hq] at hi
    | some q =>
      have hs' : q.size = cs.size := by simpa [hq] using hi
      simp [storeVar, Sem.run_bind, sizeOf, typeInfo, hq, hs', hs, Value.cells, hst]
  unfold Oper.wp execOp
  simp only [ho, hx, hy, Instr.storeAt, Instr.sureAddr, Sem.run_bind, Sem.run_pure, Result.andThen_ok, hrun]
  exact hK _ _ h
end
end Go.Proofs.Ytlebefopdnadaaa
