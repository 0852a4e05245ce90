/- Laws of one step that many walks want: a world is given a name; a guarded load; a store of some cells; a row of one's own out of a new block. -/
import Derived.Test.YtnkaoplgmglijaaDoorMka
namespace Go.Proofs.YtnkaoplgmglijaaDoor
open Go.RowKit
theorem name_w {P : Program} {c : Code} {Q : Exit → Act → World → Prop} {a : Act} {w : World} (h : ∀ V, V = w → c.wp P Q a V) : c.wp P Q a w := h w rfl
theorem wpList_load_ia_on {P : Program} {ops : Array Oper} {rest : List Oper} {o : Oper} {a : Act} {w : World} {Q : Exit → Act → World → Prop} (hgd : Region.wanted o (yielded ops a.tmps) = true) (ty : TypeId) (x : Operand) (ho : o.op = .load ty x)
 (g i : Nat) (hx : a.eval x = .pointer (some ⟨g, i, none⟩)) (m : Nat) (f : Vec) (d : TypeDesc) (hg : ∀ j, j < m → w.cell? ⟨g, i + j, none⟩ = some (I (f j)))
 (hu : P.underlying ty = some d) (hd : (match d with | .struct _ | .array _ _ => true | _ => false) = true) (hi : (P.info? ty).map (·.size) = some m)
 (h : wpList P ops Q rest (a.put o.dst (.agg (ia m f))) w) : wpList P ops Q (o :: rest) a w := by
 refine wpList_step fun K hK => ?_
 rw [if_pos hgd]
 have hl := run_loadCells (P := P) w ⟨g, i, none⟩ m (fun j => I (f j)) (fun j hj => by rw [addr_add]; exact hg j hj)
 have hrun : (loadVar ty ⟨g, i, none⟩).run P w = .ok (.agg (ia m f)) w := by
  cases hq : P.info? ty with
  | none => simp [hq] at hi
  | some q =>
    have hs : q.size = m := by simpa [hq] using hi
    have hagg : (isAgg ty).run P w = .ok true w := by
        unfold isAgg
        rw [Sem.run_bind, run_underlying hu w]
        cases d <;> simp_all
    simp [loadVar, Sem.run_bind, hagg, sizeOf, typeInfo, hq, hs, hl, ia]
 unfold Oper.wp execOp
 simp only [ho, hx, Instr.loadAt, Instr.sureAddr, Sem.run_bind, Sem.run_pure, Result.andThen_ok, hrun]
 exact hK _ _ h
theorem wpList_store_part {P : Program} {ops : Array Oper} {rest : List Oper} {o : Oper} {a : Act} {w : World} {Q : Exit → Act → World → Prop} (hgd : o.guard = none) (ty : TypeId) (x y : Operand) (ho : o.op = .store ty x y)
 (b k m : Nat) (hx : a.eval x = .pointer (some ⟨b, k, none⟩)) (cs cs' news : Array Value) (t : TypeId) (hg : w.heap[b]? = some (.cells cs t (0, 0))) (hk : k + m ≤ cs.size) (v : Value) (hv : v.cells = news) (hm : news.size = m) (h1 : ∀ u ∈ news.toList, u.oneCell' = true) (hy : a.eval y = v) (hi : (P.info? ty).map (·.size) = some m)
 (hcs : (cs.toList.take k ++ news.toList ++ cs.toList.drop (k + m)).toArray = cs')
 (h : wpList P ops Q rest (a.put o.dst undef) (w.setRow b cs')) : wpList P ops Q (o :: rest) a w := by
 refine wpList_plain hgd fun _ hK => ?_
 have hst := run_storeCells_at (P := P) b k t news.toList 0 cs w hg (by rw [Array.length_toList, hm]; omega) h1
 rw [Nat.add_zero, Array.length_toList, hm, hcs] at hst
 have hrun : (storeVar ty ⟨b, k, none⟩ v).run P w = .ok () (w.setRow b cs') := by
  cases hq : P.info? ty with
  | none => simp [hq] at hi
  | some i =>
    have hs' : i.size = m := by simpa [hq] using hi
    simp only [storeVar, Sem.run_bind, sizeOf, typeInfo, hv]
    simp [hq, hs', hm, Sem.run_bind] at hst ⊢
    exact hst
 unfold Oper.wp execOp
 simp only [ho, hx, hy, Instr.storeAt, Instr.sureAddr, Sem.run_bind, Sem.run_pure, Result.andThen_ok, hrun]
 exact hK _ _ h
theorem cells_row {w : World} {b : Nat} {cs : Array Value} {t : TypeId} (h : w.heap[b]? = some (.cells cs t (0, 0))) : ∀ j u, cs.toList[j]? = some u → w.cell? ((⟨b, 0, none⟩ : Addr).add j) = some u := fun j u hj => by
 rw [addr_add, Nat.zero_add, cell_of_row _ _ _ _ _ _ h, ← Array.getElem?_toList]
 exact hj
theorem own_new {w : World} {base b sz : Nat} {e : TypeId} {cs : Array Value} {xs : List Value} (h : w.heap[b]? = some (.cells cs e (0, 0))) (hs : cs.size = sz) (hx : cs.toList = xs) (hb : base ≤ b) : w.ownsRow base e sz (.slice (some ⟨b, 0, none⟩) 1 1) 1 xs := by
 subst hx
 refine ⟨by rw [Array.length_toList, hs, Nat.one_mul], .inr ⟨b, 1, cs, rfl, hb, h, Nat.le_refl _, by unfold maxLen; omega, by rw [hs, Nat.one_mul], ?_⟩⟩
 rw [Nat.one_mul, ← hs, ← Array.length_toList, List.take_length]
end Go.Proofs.YtnkaoplgmglijaaDoor
