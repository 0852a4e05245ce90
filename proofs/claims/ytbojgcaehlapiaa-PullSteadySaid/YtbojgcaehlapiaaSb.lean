/- Laws of one step for what Steer does: a map that is filled and ranged over, an integer that is stored into a block of integers. -/
import Derived.Test.YtbojgcaehlapiaaSpa
import Derived.Maps.RangeRun
import Derived.Laws.EntriesVeiled
namespace Go.Proofs.Ytbojgcaehlapiaa.Un
open Go.RowKit
open Go.ChangeMaps (setBlock)
section
variable {P : Program} {ops : Array Oper} {rest : List Oper} {o : Oper} {a : Act} {w : World} {Q : Exit → Act → World → Prop}
theorem wpList_insert (hgd : o.guard = none) (t : TypeId) (m k x : Operand) (ho : o.op = .insert t m k x) (b : Nat) (hm : a.eval m = .map (some b)) (kt et : TypeId) (ht : P.underlying t = some (.map kt et)) (hkt : P.underlying kt = some (.int .i64))
    (es : Array MapEntry) (clock : Nat) (hb : w.heap[b]? = some (.map es clock)) (key : Int) (hk : a.eval k = I key) (v : Value) (hv : a.eval x = v) (hnone : Instr.findNow (.int .i64) (I key) es.toList 0 = some none)
    (h : wpList P ops Q rest (a.put o.dst undef) (setBlock w b (.map (es.push ⟨I key, v, clock⟩) (clock + 1)))) : wpList P ops Q (o :: rest) a w := by
  refine wpList_plain hgd fun _ hK => ?_
  have hrun : (Instr.mapUpdate t (.map (some b)) (I key) v).run P w = .ok () (setBlock w b (.map (es.push ⟨I key, v, clock⟩) (clock + 1))) := by
    simp [Instr.mapUpdate, run_underlying ht, MapKept.run_getObj_map hb, MapKept.run_checkKey hkt (show MapKept.IsKey (.int .i64) (I key) from rfl), MapKept.run_findKey hkt hnone, MapKept.run_setObj_map _ hb, Result.andThen, setBlock]
  unfold Oper.wp
  simp [execOp, ho, hm, hk, hv, hrun, Result.andThen]
  exact hK _ _ h
theorem run_upd {t b : Nat} (kt et : TypeId) (ht : P.underlying t = some (.map kt et)) (hkt : P.underlying kt = some (.int .i64)) (es : Array MapEntry) (clock : Nat) (hb : w.heap[b]? = some (.map es clock)) (key : Int) (v : Value) (hnone : Instr.findNow (.int .i64) (I key) es.toList 0 = some none) :
    (Instr.mapUpdate t (.map (some b)) (I key) v).run P w = .ok () (setBlock w b (.map (es.push ⟨I key, v, clock⟩) (clock + 1))) := by
  simp [Instr.mapUpdate, run_underlying ht, MapKept.run_getObj_map hb, MapKept.run_checkKey hkt (show MapKept.IsKey (.int .i64) (I key) from rfl), MapKept.run_findKey hkt hnone, MapKept.run_setObj_map _ hb, Result.andThen, setBlock]
theorem wpList_makeMap (hgd : o.guard = none) (t : TypeId) (ho : o.op = .makeMap t none)
    (h : wpList P ops Q rest (a.put o.dst (.map (some w.heap.size))) (w.alloc (.map #[] 0))) : wpList P ops Q (o :: rest) a w := by
  refine wpList_plain hgd fun _ hK => ?_
  have hrun : (Instr.makeMap t none).run P w = .ok (.map (some w.heap.size)) (w.alloc (.map #[] 0)) := rfl
  unfold Oper.wp
  simp [execOp, ho, hrun, Result.andThen]
  exact hK _ _ h
theorem wpList_rangeMap (hgd : o.guard = none) (t : TypeId) (m : Operand) (ho : o.op = .range t m) (b : Nat) (hm : a.eval m = .map (some b)) (kt et : TypeId) (ht : P.underlying t = some (.map kt et)) (es : Array MapEntry) (clock : Nat) (hb : w.heap[b]? = some (.map es clock))
    (h : wpList P ops Q rest (a.put o.dst (.pointer (some ⟨w.heap.size, 0, none⟩))) (w.alloc (.mapIter (some b) clock #[] clock))) : wpList P ops Q (o :: rest) a w := by
  refine wpList_plain hgd fun _ hK => ?_
  have hrun := run_range_map (P := P) w t kt et b es clock ht hb
  unfold Oper.wp
  simp [execOp, ho, hm, hrun, Result.andThen]
  exact hK _ _ h
theorem wpList_nextMap (hgd : o.guard = none) (it : Operand) (ho : o.op = .next it false) (r b since c0 clock : Nat) (seen : Array Nat) (es : Array MapEntry) (hi : a.eval it = .pointer (some ⟨r, 0, none⟩))
    (hr : w.heap[r]? = some (.mapIter (some b) since seen c0)) (hb : w.heap[b]? = some (.map es clock)) (hold : ∀ x ∈ es.toList, x.born < since) (hsc : since ≤ c0)
    (h0 : (leftOf es seen).size = 0 → wpList P ops Q rest (a.put o.dst (.tuple #[.bool false])) w)
    (h1 : ∀ e ∈ (leftOf es seen).toList, ∀ w1 : World, (w1 = w ∨ w1 = w.drew) → wpList P ops Q rest (a.put o.dst (.tuple #[.bool true, e.key, e.val])) (setBlock w1 r (.mapIter (some b) since (seen.push e.born) clock))) : wpList P ops Q (o :: rest) a w := by
  refine wpList_plain hgd fun _ hK => ?_
  unfold Oper.wp
  rcases run_next_at (P := P) w o.type r b since c0 seen es clock hr hb hold hsc with ⟨hz, hrun⟩ | ⟨e, he, w1, hw1, hrun⟩
  · simp [execOp, ho, hi, hrun, Result.andThen]
    exact hK _ _ (h0 hz)
  · simp [execOp, ho, hi, hrun, Result.andThen]
    exact hK _ _ (h1 e he w1 hw1)
theorem wpList_entryMap (hgd : o.guard = none) (it : Operand) (ho : o.op = .entry it) (r b since clock : Nat) (seen : Array Nat) (es : Array MapEntry) (e : MapEntry) (hi : a.eval it = .pointer (some ⟨r, 0, none⟩))
    (hr : w.heap[r]? = some (.mapIter (some b) since (seen.push e.born) clock)) (hb : w.heap[b]? = some (.map es clock)) (he : e ∈ es.toList) (hn : (es.toList.map (·.born)).Nodup)
    (h : wpList P ops Q rest (a.put o.dst (.tuple #[e.key, e.val])) w) : wpList P ops Q (o :: rest) a w := by
  refine wpList_plain hgd fun _ hK => ?_
  have hrun := run_entry_at (P := P) w r b since seen es clock e hr hb he hn
  unfold Oper.wp
  simp [execOp, ho, hi, hrun, Result.andThen]
  exact hK _ _ h
theorem wpList_next1 (hgd : o.guard = none) (it : Operand) (ho : o.op = .next it false) (r : Nat) (hi : a.eval it = .pointer (some ⟨r, 0, none⟩)) (v : Value) (w' : World) (hrun : (Instr.next (.pointer (some ⟨r, 0, none⟩)) false o.type).run P w = .ok v w')
    (h : wpList P ops Q rest (a.put o.dst v) w') : wpList P ops Q (o :: rest) a w := by
  refine wpList_plain hgd fun _ hK => ?_
  unfold Oper.wp
  simp [execOp, ho, hi, hrun, Result.andThen]
  exact hK _ _ h
theorem below_setBlock {B : Nat} {a w : World} (h : Below B a w) {g : Nat} (hg : B ≤ g) (o : Obj) : Below B a (setBlock w g o) :=
  h.trans ⟨rfl, rfl, rfl, by simp [setBlock], fun k hk => by show (w.heap.setIfInBounds g o)[k]? = w.heap[k]?; rw [Array.getElem?_setIfInBounds]; rw [if_neg (by omega)]⟩
theorem setBlock_same {w : World} {g : Nat} {o o' : Obj} (h : w.heap[g]? = some o) : (setBlock w g o').heap[g]? = some o' := (MapKept.heap_set h).1
theorem setBlock_other {w : World} {g k : Nat} {o' : Obj} (h : k ≠ g) : (setBlock w g o').heap[k]? = w.heap[k]? := by
  show (w.heap.setIfInBounds g o')[k]? = w.heap[k]?
  rw [Array.getElem?_setIfInBounds, if_neg (by omega)]
/-- One integer more. -/
theorem wpList_store_i (hgd : o.guard = none) (ty : TypeId) (x y : Operand) (ho : o.op = .store ty x y)
    (b k n : Nat) (hx : a.eval x = .pointer (some ⟨b, k, none⟩)) (f : Vec) (t : TypeId) (hg : w.heap[b]? = some (.cells (ia n f) t (0, 0))) (hk : k < n) (v : Int) (hy : a.eval y = I v) (hi : (P.info? ty).map (·.size) = some 1)
    (h : wpList P ops Q rest (a.put o.dst undef) (w.setRow b (ia n (ovw f k 1 fun _ => v)))) : wpList P ops Q (o :: rest) a w :=
  wpList_store_ia hgd ty x y ho b k n 1 hx f (fun _ => v) t hg (by omega) (I v) rfl hy hi h
end
end Go.Proofs.Ytbojgcaehlapiaa.Un
