/- What fill of package melt leaves: the row of a run, its slices, step by step. -/
import Derived.Test.YtnkaoplgmglijaaDoorRg
import Derived.Test.YtnkaoplgmglijaaDoorMw
namespace Go.Proofs.YtnkaoplgmglijaaDoor.Pr
open Go.RowKit
structure StLe (b : Nat) (c0 c1 : Array Value) (t : TypeId) (w w' : World) : Prop where
 os : w'.os = w.os
 tape : w'.tape = w.tape
 output : w'.output = w.output
 size : w.heap.size ≤ w'.heap.size
 block : ∀ k, k < w.heap.size → k ≠ b → w'.heap[k]? = w.heap[k]?
 at0 : w.heap[b]? = some (.cells c0 t (0, 0)) → w'.heap[b]? = some (.cells c0 t (0, 0)) ∨ w'.heap[b]? = some (.cells c1 t (0, 0))
 at1 : w.heap[b]? = some (.cells c1 t (0, 0)) → w'.heap[b]? = some (.cells c1 t (0, 0))
def St (b : Nat) (c0 c1 : Array Value) (t : TypeId) : Pre where
 le := StLe b c0 c1 t
 refl w := ⟨rfl, rfl, rfl, Nat.le_refl _, fun _ _ _ => rfl, .inl, id⟩
 trans {x y z} h h' := ⟨h'.os.trans h.os, h'.tape.trans h.tape, h'.output.trans h.output, Nat.le_trans h.size h'.size, fun k hk hx => (h'.block k (Nat.lt_of_lt_of_le hk h.size) hx).trans (h.block k hk hx),
    fun hc => by
     rcases h.at0 hc with h1 | h1
     · exact h'.at0 h1
     · exact .inr (h'.at1 h1), fun hc => h'.at1 (h.at1 hc)⟩
variable {b : Nat} {c0 c1 : Array Value} {t : TypeId}
theorem St.of {w w' : World} (h : Below w.heap.size w w') : (St b c0 c1 t).le w w' :=
 ⟨h.os, h.tape, h.output, h.size, fun k hk _ => h.block k hk, fun hc => .inl ((h.block b (Array.getElem?_eq_some_iff.1 hc).1).trans hc), fun hc => (h.block b (Array.getElem?_eq_some_iff.1 hc).1).trans hc⟩
theorem St.cell {w w' : World} (h : (St b c0 c1 t).le w w') {k o : Nat} {v : Value} (hx : k ≠ b) (hc : w.cell? ⟨k, o, none⟩ = some v) : w'.cell? ⟨k, o, none⟩ = some v := by
 rw [← hc]; exact World.cell?_of_block (h.block k (block_lt_of_cell hc) hx)
theorem St.ovl_cell {w : World} {k o : Nat} {v : Value} (hx : k ≠ b) (hc : w.cell? ⟨k, o, none⟩ = some v) (u : World) : (ovl (St b c0 c1 t) w u).cell? ⟨k, o, none⟩ = some v := St.cell (ovl_le _ w u) hx hc
theorem St.below {B : Nat} {w w' : World} (h : (St b c0 c1 t).le w w') (hB : B ≤ b) (hW : B ≤ w.heap.size) : Below B w w' :=
 ⟨h.os, h.tape, h.output, h.size, fun k hk => h.block k (Nat.lt_of_lt_of_le hk hW) (by omega)⟩
theorem St.call {P : Program} {f : FuncId} {args : Array Value} {w : World} {v : Value} (h : Calls P f args w fun e w' => e = .returned v ∧ Below w.heap.size w w') :
 Calls P f args w fun e w' => ∃ u, e = .returned u ∧ (St b c0 c1 t).le w w' ∧ Box (St b c0 c1 t) (fun u _ => u = v) u w' := h.mono fun _ _ ⟨he, hb⟩ => ⟨v, he, St.of hb, fun _ _ => rfl⟩
def StAt (b : Nat) (c1 : Array Value) (t : TypeId) (_ : Value) (w : World) : Prop := w.heap[b]? = some (.cells c1 t (0, 0))
theorem St.store {P : Program} {o : Oper} {a : Act} {W w : World} (hw : Cl (St b c0 c1 t) W w) (h0 : W.heap[b]? = some (.cells c0 t (0, 0))) (ty : TypeId) (x y : Operand) (ho : o.op = .store ty x y) (i : Nat) (hx : a.eval x = .pointer (some ⟨b, i, none⟩)) (v : Int) (hy : a.eval y = I v)
 (hi : i < c0.size) (hc : c1 = c0.setIfInBounds i (I v)) (hrun : ∀ (w : World) (c : Value), w.cell? ⟨b, i, none⟩ = some c → w.frozen? ⟨b, i, none⟩ = false → (storeVar ty ⟨b, i, none⟩ (I v)).run P w = .ok () (w.setCell ⟨b, i, none⟩ (I v))) :
 grows (St b c0 c1 t) P o a w (StAt b c1 t) := by
 have key : ∀ cs : Array Value, w.heap[b]? = some (.cells cs t (0, 0)) → cs.size = c0.size → cs.setIfInBounds i (I v) = c1 → grows (St b c0 c1 t) P o a w (StAt b c1 t) := by
  intro cs hr hs hcs
  have hr2 := heap_setCell_same w b i cs t (I v) hr
  rw [hcs] at hr2
  have r := hrun w cs[i] (by rw [cell_of_row _ _ _ _ _ _ hr]; exact Array.getElem?_eq_getElem (by omega)) (frozen_of_row _ _ i _ _ hr)
  unfold grows execOp
  simp only [ho, hx, hy, Instr.storeAt, Instr.sureAddr, Sem.run_bind, Sem.run_pure, Result.andThen_ok, r]
  exact ⟨⟨rfl, rfl, rfl, by simp, fun k _ hk => heap_setCell_other _ _ _ _ hk, fun _ => .inr hr2, fun _ => hr2⟩, fun w2 h2 => h2.at1 hr2⟩
 rcases (Cl.le hw).at0 h0 with h1 | h1
 · exact key c0 h1 rfl hc.symm
 · refine key c1 h1 (by rw [hc]; simp) ?_
   rw [hc]
   apply Array.ext_getElem?
   intro j
   rw [Array.getElem?_setIfInBounds]
   split
   · rename_i e; subst e; rw [Array.getElem?_setIfInBounds, if_pos rfl]; simp [hi]
   · rfl
end Go.Proofs.YtnkaoplgmglijaaDoor.Pr
namespace Go.Proofs.YtnkaoplgmglijaaDoor
open Go.RowKit
abbrev runArr (sl : Value) (R : Nat → Int) : Array Value := #[sl, I (R 1), I (R 2), I (R 3), I (R 4), I (R 5), I (R 6), I (R 7), I (R 8), I (R 9), I (R 10), I (R 11), I (R 12), I (R 13), I (R 14), I (R 15), I (R 16), I (R 17), I (R 18), I (R 19), I (R 20), I (R 21), I (R 22), I (R 23), I (R 24), I (R 25)]
def upd (R : Nat → Int) (i : Nat) (v : Int) : Nat → Int := fun j => if j = i then v else R j
theorem run_set (sl : Value) (R : Nat → Int) (i : Nat) (v : Int) (h : 1 ≤ i ∧ i < 26) : (runArr sl R).setIfInBounds i (I v) = runArr sl (upd R i v) := by
 have : ∀ i : Fin 25, (runArr sl R).setIfInBounds (i.1 + 1) (I v) = runArr sl (upd R (i.1 + 1) v) := by
  intro ⟨i, hi⟩
  match i, hi with
  | 0, _ => rfl | 1, _ => rfl | 2, _ => rfl | 3, _ => rfl | 4, _ => rfl | 5, _ => rfl | 6, _ => rfl | 7, _ => rfl | 8, _ => rfl | 9, _ => rfl | 10, _ => rfl | 11, _ => rfl | 12, _ => rfl
  | 13, _ => rfl | 14, _ => rfl | 15, _ => rfl | 16, _ => rfl | 17, _ => rfl | 18, _ => rfl | 19, _ => rfl | 20, _ => rfl | 21, _ => rfl | 22, _ => rfl | 23, _ => rfl | 24, _ => rfl
  | n + 25, hn => omega
 have := this ⟨i - 1, by omega⟩
 simpa [show i - 1 + 1 = i by omega] using this
theorem run_at (sl : Value) (R : Nat → Int) (i : Nat) (h : 1 ≤ i ∧ i < 26) : (runArr sl R)[i]? = some (I (R i)) := by
 have : ∀ i : Fin 25, (runArr sl R)[i.1 + 1]? = some (I (R (i.1 + 1))) := by
  intro ⟨i, hi⟩
  match i, hi with
  | 0, _ => rfl | 1, _ => rfl | 2, _ => rfl | 3, _ => rfl | 4, _ => rfl | 5, _ => rfl | 6, _ => rfl | 7, _ => rfl | 8, _ => rfl | 9, _ => rfl | 10, _ => rfl | 11, _ => rfl | 12, _ => rfl
  | 13, _ => rfl | 14, _ => rfl | 15, _ => rfl | 16, _ => rfl | 17, _ => rfl | 18, _ => rfl | 19, _ => rfl | 20, _ => rfl | 21, _ => rfl | 22, _ => rfl | 23, _ => rfl | 24, _ => rfl
  | n + 25, hn => omega
 have := this ⟨i - 1, by omega⟩
 simpa [show i - 1 + 1 = i by omega] using this
theorem run_congr {sl : Value} {R R' : Nat → Int} (h : ∀ i, 1 ≤ i → i < 26 → R i = R' i) : runArr sl R = runArr sl R' := by
 unfold runArr
 rw [h 1 (by omega) (by omega), h 2 (by omega) (by omega), h 3 (by omega) (by omega), h 4 (by omega) (by omega), h 5 (by omega) (by omega), h 6 (by omega) (by omega), h 7 (by omega) (by omega), h 8 (by omega) (by omega), h 9 (by omega) (by omega), h 10 (by omega) (by omega), h 11 (by omega) (by omega), h 12 (by omega) (by omega), h 13 (by omega) (by omega), h 14 (by omega) (by omega), h 15 (by omega) (by omega), h 16 (by omega) (by omega), h 17 (by omega) (by omega), h 18 (by omega) (by omega), h 19 (by omega) (by omega), h 20 (by omega) (by omega), h 21 (by omega) (by omega), h 22 (by omega) (by omega), h 23 (by omega) (by omega), h 24 (by omega) (by omega), h 25 (by omega) (by omega)]
abbrev crsPoor : Crs := ⟨false, true, true⟩
abbrev crsRich : Crs := ⟨true, false, false⟩
def adK (l : List Stp) (s : Nat) : Nat → Int × Int
 | 0 => (0, 0)
 | k + 1 => if (at0 l k).kd = 2 ∨ (at0 l k).kd = 3 then ((adK l s k).1 + (at0 l k).b (s * 2), (adK l s k).2 + (at0 l k).b (s * 2 + 1)) else adK l s k
def fzK (l : List Stp) : Nat → Nat
 | 0 => 0
 | k + 1 => if (at0 l k).kd = 1 then fzK l k + 1 else fzK l k
theorem fzK_le (l : List Stp) : ∀ k, fzK l k ≤ k
 | 0 => Nat.le_refl _
 | k + 1 => by have := fzK_le l k; rw [fzK]; split <;> omega
theorem fzK_mono (l : List Stp) {j k : Nat} (h : j ≤ k) : fzK l j ≤ fzK l k := by
 induction k with
 | zero => obtain rfl : j = 0 := by omega
           exact Nat.le_refl _
 | succ k ih =>
   by_cases e : j = k + 1
   · subst e; exact Nat.le_refl _
   · have := ih (by omega)
     rw [fzK]; split <;> omega
def upd2 (g : Nat → Nat → Int) (k j : Nat) (a b : Int) : Nat → Nat → Int := fun k' j' => if k' = k ∧ j' = j then a else if k' = k ∧ j' = j + 1 then b else g k' j'
abbrev lwK (m : Mlt) (s : Nat) (l : List Stp) (k : Nat) : Int := (chF (at0 l k) s (wkD m crsPoor s (m.ct (s * 2)) l k) (msK m l k)).1
abbrev hgK (m : Mlt) (s : Nat) (l : List Stp) (k : Nat) : Int := (chF (at0 l k) s (wkD m crsRich s (m.ct (s * 2 + 1)) l k) (msK m l k)).2
def slK (m : Mlt) (l : List Stp) (s : Nat) (g : Nat → Nat → Int) : Nat → Nat → Nat → Int
 | 0 => g
 | k + 1 => if (at0 l k).kd = 1 then upd2 (slK m l s g k) (fzK l k) (1 + s * 2) (lwK m s l k) (hgK m s l k) else slK m l s g k
def rnK (m : Mlt) (l : List Stp) (s : Nat) (R : Nat → Int) (k : Nat) : Nat → Int :=
 upd (upd (upd (upd R (2 + s * 2) (wkD m crsPoor s (m.ct (s * 2)) l k)) (2 + s * 2 + 1) (wkD m crsRich s (m.ct (s * 2 + 1)) l k)) (8 + s * 2) (R (8 + s * 2) + (adK l s k).1)) (8 + s * 2 + 1) (R (8 + s * 2 + 1) + (adK l s k).2)
def rnF (m : Mlt) (l : List Stp) (s : Nat) (R : Nat → Int) : Nat → Int :=
 upd (upd (upd (upd (rnK m l s R l.length) (14 + s * 2) (tlF m ⟨false, false, true⟩ s l).1) (14 + s * 2 + 1) (tlF m ⟨true, true, false⟩ s l).1) (20 + s * 2) (tlF m ⟨false, true, false⟩ s l).2) (20 + s * 2 + 1) (tlF m ⟨true, false, true⟩ s l).2
theorem adK_bd {m : Mlt} {l : List Stp} {s : Nat} (hs : s < 3) : ∀ k, (∀ j, j < k → stE m l j = 0) → (0 ≤ (adK l s k).1 ∧ (adK l s k).1 ≤ k * 1000000000000) ∧ (0 ≤ (adK l s k).2 ∧ (adK l s k).2 ≤ k * 1000000000000)
 | 0, _ => ⟨⟨Int.le_refl _, by show (0 : Int) ≤ _; omega⟩, ⟨Int.le_refl _, by show (0 : Int) ≤ _; omega⟩⟩
 | k + 1, h => by
   have ih := adK_bd hs k (m := m) (l := l) (fun j hj => h j (by omega))
   have hb := isS_by (stE_isS (h k (by omega))) hs
   have e : ((k + 1 : Nat) : Int) * 1000000000000 = k * 1000000000000 + 1000000000000 := by omega
   rw [adK, e]
   split
   · exact ⟨⟨by simp only; omega, by simp only; omega⟩, ⟨by simp only; omega, by simp only; omega⟩⟩
   · omega
def SlIn (B : Nat) (w : World) (sl : Value) (nf : Nat) (g : Nat → Nat → Int) : Prop := nf = 0 ∨ ∃ b c cs, sl = .slice (some ⟨b, 0, none⟩) nf c ∧ B ≤ b ∧ w.heap[b]? = some (.cells cs 50 (0, 0)) ∧ ∀ k j, k < nf → j < 7 → cs[k * 7 + j]? = some (I (g k j))
theorem SlIn.row {B : Nat} {w w' : World} {sl : Value} {nf : Nat} {g : Nat → Nat → Int} (h : SlIn B w sl nf g) (hk : ∀ b, sl.ownBlock = some b → B ≤ b → b < w.heap.size → w'.heap[b]? = w.heap[b]?) : SlIn B w' sl nf g := by
 rcases h with h | ⟨b, c, cs, rfl, h1, h2, h3⟩
 · exact .inl h
 · exact .inr ⟨b, c, cs, rfl, h1, (hk b rfl h1 (Array.getElem?_eq_some_iff.1 h2).1).trans h2, h3⟩
theorem SlIn.set {B : Nat} {w : World} {b c : Nat} {cs : Array Value} {nf : Nat} {g : Nat → Nat → Int} (h1 : B ≤ b) (h2 : w.heap[b]? = some (.cells cs 50 (0, 0))) (h3 : ∀ k j, k < nf → j < 7 → cs[k * 7 + j]? = some (I (g k j))) {k j : Nat} (hk : k < nf) (hj : j + 1 < 7) (x y : Int) :
 SlIn B ((w.setCell ⟨b, k * 7 + j, none⟩ (I x)).setCell ⟨b, k * 7 + j + 1, none⟩ (I y)) (.slice (some ⟨b, 0, none⟩) nf c) nf (upd2 g k j x y) := by
 refine .inr ⟨b, c, _, rfl, h1, rs (rs h2 _ _) _ _, fun k' j' hk' hj' => ?_⟩
 have hg := h3 k' j' hk' hj'
 have hlt : k' * 7 + j' < cs.size := (Array.getElem?_eq_some_iff.1 hg).1
 unfold upd2
 rw [Array.getElem?_setIfInBounds, Array.getElem?_setIfInBounds]
 by_cases e1 : k' = k ∧ j' = j
 · obtain ⟨rfl, rfl⟩ := e1
   rw [if_neg (by omega), if_pos rfl, if_pos (by simpa using hlt), if_pos ⟨rfl, rfl⟩]
 · rw [if_neg e1]
   by_cases e2 : k' = k ∧ j' = j + 1
   · obtain ⟨rfl, rfl⟩ := e2
     rw [if_pos (by omega), if_pos (by rw [Array.size_setIfInBounds]; omega), if_pos ⟨rfl, rfl⟩]
   · rw [if_neg e2, if_neg (by omega), if_neg (by omega)]
     exact hg
theorem wp_store2 {o : Oper} {a : Act} {w : World} {K : Act → World → Prop} {Q : Exit → Act → World → Prop} (x y : Operand) (ho : o.op = .store 23 x y) (b i : Nat) (hx : a.eval x = .pointer (some ⟨b, i, none⟩)) (u v : Int) (hy : a.eval y = .agg #[I u, I v])
 (cs : Array Value) (t : TypeId) (hr : w.heap[b]? = some (.cells cs t (0, 0))) (hi : i + 1 < cs.size) (h : K (a.put o.dst undef) ((w.setCell ⟨b, i, none⟩ (I u)).setCell ⟨b, i + 1, none⟩ (I v))) : o.wp Tryd.prog a w K Q := by
 have hr2 := rs hr i (I u)
 have c1 : w.cell? ⟨b, i, none⟩ = some cs[i] := by rw [cell_of_row _ _ _ _ _ _ hr]; exact Array.getElem?_eq_getElem (by omega)
 have c2 : (w.setCell ⟨b, i, none⟩ (I u)).cell? ⟨b, i + 1, none⟩ = some ((cs.setIfInBounds i (I u))[i + 1]'(by simpa using hi)) := by rw [cell_of_row _ _ _ _ _ _ hr2]; exact Array.getElem?_eq_getElem (by simpa using hi)
 have f1 := frozen_of_row _ _ i _ _ hr
 have f2 := frozen_of_row _ _ (i + 1) _ _ hr2
 have hrun : (storeVar 23 ⟨b, i, none⟩ (.agg #[I u, I v])).run Tryd.prog w = .ok () ((w.setCell ⟨b, i, none⟩ (I u)).setCell ⟨b, i + 1, none⟩ (I v)) := by
  go_simp
 unfold Oper.wp execOp
 simp only [ho, hx, hy, Instr.storeAt, Instr.sureAddr, Sem.run_bind, Sem.run_pure, Result.andThen_ok, hrun]
 exact h
theorem grow_look3 {W w' : World} {o : Oper} {a : Act} (hw : Cl W w') (m x : Operand) (hop : o.op = Op.lookup 121 m x false) (b n : Nat) (f : Nat → Int × Int × Int) (hm : a.eval m = .map (some b)) (h : MpAt W b n f) (k : Nat) (hk : k < n) (hn : n ≤ 1000000) (hx : a.eval x = I k) :
 Oper.grows Tryd.prog o a w' (fun u _ => u = .agg #[I (f k).1, I (f k).2.1, I (f k).2.2]) := by
 obtain ⟨u, rfl⟩ := hw
 obtain ⟨D, h1, h2, h3⟩ := h.row (w' := ovr W u) ((ovr_below W u).block b h.lt)
 obtain ⟨v, ps, hrun, hv⟩ := h1.lookup law_int Tryd.underlying121 (zero_lv (ovr W u)) (R3_mk (0, 0, 0)) (key_int (k := k) (by omega))
 rw [h3 k hk] at hv
 rw [R3_inv hv] at hrun
 unfold Oper.grows growUpon
 simp [execOp, hop, hm, hx, hrun, Result.andThen]
 exact ⟨Le.refl _, fun _ _ => rfl⟩
theorem run_ix3_1 (u v t : Int) (w : World) : (Instr.index 42 (.agg #[I u, I v, I t]) (.int .i64 1)).run Tryd.prog w = .ok (I v) w := by kernel_rfl
theorem run_ix3_2 (u v t : Int) (w : World) : (Instr.index 42 (.agg #[I u, I v, I t]) (.int .i64 2)).run Tryd.prog w = .ok (I t) w := by kernel_rfl
theorem quiet_ix3_1 {C : World → Prop} {o : Oper} {a : Act} {K : Act → Prop} (x : Operand) (hop : o.op = Op.index 42 x (.const (.int .i64 1))) (u v t : Int) (hx : a.eval x = .agg #[I u, I v, I t]) (hK : K (a.put o.dst (I v))) : o.quiet Tryd.prog a C K := by
 refine ⟨I v, fun w hw => ?_, hK⟩
 unfold Oper.quietAt Oper.quietUpon
 have he : a.eval (.const (.int .i64 1)) = .int .i64 1 := rfl
 have h := run_ix3_1 u v t w
 simp [execOp, hop, hx, he, h, Result.andThen]
theorem quiet_ix3_2 {C : World → Prop} {o : Oper} {a : Act} {K : Act → Prop} (x : Operand) (hop : o.op = Op.index 42 x (.const (.int .i64 2))) (u v t : Int) (hx : a.eval x = .agg #[I u, I v, I t]) (hK : K (a.put o.dst (I t))) : o.quiet Tryd.prog a C K := by
 refine ⟨I t, fun w hw => ?_, hK⟩
 unfold Oper.quietAt Oper.quietUpon
 have he : a.eval (.const (.int .i64 2)) = .int .i64 2 := rfl
 have h := run_ix3_2 u v t w
 simp [execOp, hop, hx, he, h, Result.andThen]
structure FlP (w : World) (B n1 rb q0 kb sb mb mp : Nat) (sl : Value) : Prop where
 hB : B ≤ rb
 hr : rb < w.heap.size
 h0 : w.heap.size ≤ q0
 hk : q0 + 1 < kb
 hs : q0 + 1 < sb
 ks : kb ≠ sb
 hmk : kb < mp
 hms : sb < mp
 hm : mp < mb
 hn : mb < n1
 hsl : ∀ b, sl.ownBlock = some b → B ≤ b ∧ b < w.heap.size ∧ b ≠ rb
structure FlI (w : World) (B n1 : Nat) (m : Mlt) (A : Option Addr) (n d s rb : Nat) (sl : Value) (nf q0 kb sb mb mp nm : Nat) (hv : Nat → Int × Int × Int) (kv : Int) (R : Nat → Int) (g : Nat → Nat → Int) (W : World) : Prop where
 rr : W.heap[rb]? = some (.cells (runArr sl R) 36 (0, 0))
 rl : SlIn B W sl nf g
 rk : W.heap[kb]? = some (.cells #[I kv] 3 (0, 0))
 rs : W.heap[sb]? = some (.cells #[I s] 55 (0, 0))
 ra : W.heap[q0]? = some (.cells (lnArr m A n d s) 70 (0, 0))
 rp : W.heap[q0 + 1]? = some (.cells #[.pointer (some ⟨rb, 0, none⟩)] 47 (0, 0))
 rm : W.heap[mb]? = some (.cells #[.map (some mp)] 121 (0, 0))
 mp : MpAt W mp nm hv
 bl : Below B w W
 kp : KpS w.heap.size (fun k => k = rb ∨ sl.ownBlock = some k) w W
 sz : n1 ≤ W.heap.size
theorem FlI.keep {w : World} {B n1 : Nat} {m : Mlt} {A : Option Addr} {n d s rb : Nat} {sl : Value} {nf q0 kb sb mb mp nm : Nat} {hv : Nat → Int × Int × Int} {kv : Int} {R : Nat → Int} {g : Nat → Nat → Int} {W W' : World}
 (h : FlI w B n1 m A n d s rb sl nf q0 kb sb mb mp nm hv kv R g W) (p : FlP w B n1 rb q0 kb sb mb mp sl) (hk : ∀ b, b < n1 → W'.heap[b]? = W.heap[b]?) (hb : Below B W W') : FlI w B n1 m A n d s rb sl nf q0 kb sb mb mp nm hv kv R g W' :=
 have := p.hr; have := p.h0; have := p.hk; have := p.hs; have := p.hmk; have := p.hms; have := p.hm; have := p.hn
 ⟨(hk _ (by omega)).trans h.rr, h.rl.row fun b hb _ _ => hk b (by have := (p.hsl b hb).2.1; omega), (hk _ (by omega)).trans h.rk, (hk _ (by omega)).trans h.rs, (hk _ (by omega)).trans h.ra, (hk _ (by omega)).trans h.rp, (hk _ (by omega)).trans h.rm,
   h.mp.row (hk _ (by omega)), h.bl.trans hb, h.kp.trans ⟨fun k hk' _ => hk k (by omega), hb.size⟩, Nat.le_trans h.sz hb.size⟩
theorem FlI.grown {w : World} {B n1 : Nat} {m : Mlt} {A : Option Addr} {n d s rb : Nat} {sl : Value} {nf q0 kb sb mb mp nm : Nat} {hv : Nat → Int × Int × Int} {kv : Int} {R : Nat → Int} {g : Nat → Nat → Int} {W W' : World} {row : Option Nat}
 (h : FlI w B n1 m A n d s rb sl nf q0 kb sb mb mp nm hv kv R g W) (p : FlP w B n1 rb q0 kb sb mb mp sl) (hg : W.grownBy W' row) (hr : ∀ r, row = some r → n1 ≤ r) : FlI w B n1 m A n d s rb sl nf q0 kb sb mb mp nm hv kv R g W' := by
 have hbn : B ≤ n1 := by have := p.hr; have := p.h0; have := p.hk; have := p.hmk; have := p.hm; have := p.hn; have := p.hB; omega
 refine h.keep p (fun b hb => hg.block b (by have := h.sz; omega) fun e => by have := hr b e.symm; omega) ((Below.refl _ _).grown hg (by have := h.sz; omega) fun k e => ?_)
 have := hr k e
 omega
theorem FlI.set {w : World} {B n1 : Nat} {m : Mlt} {A : Option Addr} {n d s rb : Nat} {sl : Value} {nf q0 kb sb mb mp nm : Nat} {hv : Nat → Int × Int × Int} {kv : Int} {R : Nat → Int} {g : Nat → Nat → Int} {W : World}
 (h : FlI w B n1 m A n d s rb sl nf q0 kb sb mb mp nm hv kv R g W) (p : FlP w B n1 rb q0 kb sb mb mp sl) (i : Nat) (hi : 1 ≤ i ∧ i < 26) (v : Int) : FlI w B n1 m A n d s rb sl nf q0 kb sb mb mp nm hv kv (upd R i v) g (W.setCell ⟨rb, i, none⟩ (I v)) := by
 have := p.hr; have := p.h0; have := p.hk; have := p.hs; have := p.hmk; have := p.hms; have := p.hm; have := p.hn
 have ho : ∀ b, b ≠ rb → (W.setCell ⟨rb, i, none⟩ (I v)).heap[b]? = W.heap[b]? := fun b hb => heap_setCell_other _ _ _ _ hb
 refine ⟨by rw [← run_set sl R i v hi]; exact Proofs.YtnkaoplgmglijaaDoor.rs h.rr i _, h.rl.row fun b hb _ _ => ho b (p.hsl b hb).2.2, (ho _ (by omega)).trans h.rk, (ho _ (by omega)).trans h.rs, (ho _ (by omega)).trans h.ra, (ho _ (by omega)).trans h.rp, (ho _ (by omega)).trans h.rm,
  h.mp.row (ho _ (by omega)), h.bl.setCell (p := ⟨rb, i, none⟩) p.hB _, h.kp.trans ⟨fun k _ hk => ho k fun e => hk (.inl e), by simp⟩, by simpa using h.sz⟩
theorem FlI.st {w : World} {B n1 : Nat} {m : Mlt} {A : Option Addr} {n d s rb : Nat} {sl : Value} {nf q0 kb sb mb mp nm : Nat} {hv : Nat → Int × Int × Int} {kv : Int} {R R' : Nat → Int} {g : Nat → Nat → Int} {W W' : World} {c0 c1 : Array Value} {t : TypeId}
 (h : FlI w B n1 m A n d s rb sl nf q0 kb sb mb mp nm hv kv R g W) (p : FlP w B n1 rb q0 kb sb mb mp sl) (hl : (Pr.St rb c0 c1 t).le W W') (hr : W'.heap[rb]? = some (.cells (runArr sl R') 36 (0, 0))) : FlI w B n1 m A n d s rb sl nf q0 kb sb mb mp nm hv kv R' g W' := by
 have := p.hB; have := p.hr; have := p.h0; have := p.hk; have := p.hs; have := p.hmk; have := p.hms; have := p.hm; have := p.hn; have hsz := h.sz
 have ho : ∀ b, b < n1 → b ≠ rb → W'.heap[b]? = W.heap[b]? := fun b hb hn => hl.block b (by omega) hn
 refine ⟨hr, h.rl.row fun b hb _ _ => ho b (by have := (p.hsl b hb).2.1; omega) (p.hsl b hb).2.2, (ho _ (by omega) (by omega)).trans h.rk, (ho _ (by omega) (by omega)).trans h.rs, (ho _ (by omega) (by omega)).trans h.ra, (ho _ (by omega) (by omega)).trans h.rp, (ho _ (by omega) (by omega)).trans h.rm,
  h.mp.row (ho _ (by omega) (by omega)), h.bl.trans (Pr.St.below hl (by omega) (by omega)), h.kp.trans ⟨fun k hk' hk => ho k (by omega) fun e => hk (.inl e), hl.size⟩, Nat.le_trans h.sz hl.size⟩
theorem FlI.setK {w : World} {B n1 : Nat} {m : Mlt} {A : Option Addr} {n d s rb : Nat} {sl : Value} {nf q0 kb sb mb mp nm : Nat} {hv : Nat → Int × Int × Int} {kv : Int} {R : Nat → Int} {g : Nat → Nat → Int} {W : World}
 (h : FlI w B n1 m A n d s rb sl nf q0 kb sb mb mp nm hv kv R g W) (p : FlP w B n1 rb q0 kb sb mb mp sl) (v : Int) : FlI w B n1 m A n d s rb sl nf q0 kb sb mb mp nm hv v R g (W.setCell ⟨kb, 0, none⟩ (I v)) := by
 have := p.hB; have := p.hr; have := p.h0; have := p.hk; have := p.hs; have := p.hmk; have := p.hms; have := p.hm; have := p.hn; have := p.ks
 have ho : ∀ b, b ≠ kb → (W.setCell ⟨kb, 0, none⟩ (I v)).heap[b]? = W.heap[b]? := fun b hb => heap_setCell_other _ _ _ _ hb
 refine ⟨(ho _ (by omega)).trans h.rr, h.rl.row fun b hb _ _ => ho b (by have := (p.hsl b hb).2.1; omega), Proofs.YtnkaoplgmglijaaDoor.rs h.rk 0 _, (ho _ (by omega)).trans h.rs, (ho _ (by omega)).trans h.ra, (ho _ (by omega)).trans h.rp, (ho _ (by omega)).trans h.rm,
  h.mp.row (ho _ (by omega)), h.bl.setCell (p := ⟨kb, 0, none⟩) (by show B ≤ kb; omega) _, h.kp.trans ⟨fun k hk _ => ho k (by omega), by simp⟩, by simpa using h.sz⟩
theorem FlI.setS {w : World} {B n1 : Nat} {m : Mlt} {A : Option Addr} {n d s rb : Nat} {nf q0 kb sb mb mp nm : Nat} {hv : Nat → Int × Int × Int} {kv : Int} {R : Nat → Int} {g : Nat → Nat → Int} {W : World} {b c : Nat} {cs : Array Value}
 (h : FlI w B n1 m A n d s rb (.slice (some ⟨b, 0, none⟩) nf c) nf q0 kb sb mb mp nm hv kv R g W) (p : FlP w B n1 rb q0 kb sb mb mp (.slice (some ⟨b, 0, none⟩) nf c)) (h2 : W.heap[b]? = some (.cells cs 50 (0, 0))) (h3 : ∀ k j, k < nf → j < 7 → cs[k * 7 + j]? = some (I (g k j)))
 {k j : Nat} (hk : k < nf) (hj : j + 1 < 7) (x y : Int) : FlI w B n1 m A n d s rb (.slice (some ⟨b, 0, none⟩) nf c) nf q0 kb sb mb mp nm hv kv R (upd2 g k j x y) ((W.setCell ⟨b, k * 7 + j, none⟩ (I x)).setCell ⟨b, k * 7 + j + 1, none⟩ (I y)) := by
 have := p.hr; have := p.h0; have := p.hk; have := p.hs; have := p.hmk; have := p.hms; have := p.hm; have := p.hn
 have hb := p.hsl b rfl
 have ho : ∀ b', b' ≠ b → ((W.setCell ⟨b, k * 7 + j, none⟩ (I x)).setCell ⟨b, k * 7 + j + 1, none⟩ (I y)).heap[b']? = W.heap[b']? := fun b' hb => (heap_setCell_other _ _ _ _ hb).trans (heap_setCell_other _ _ _ _ hb)
 refine ⟨(ho _ (Ne.symm hb.2.2)).trans h.rr, SlIn.set hb.1 h2 h3 hk hj x y, (ho _ (by omega)).trans h.rk, (ho _ (by omega)).trans h.rs, (ho _ (by omega)).trans h.ra, (ho _ (by omega)).trans h.rp, (ho _ (by omega)).trans h.rm,
  h.mp.row (ho _ (by omega)), (h.bl.setCell (p := ⟨b, k * 7 + j, none⟩) hb.1 _).setCell (p := ⟨b, k * 7 + j + 1, none⟩) hb.1 _, h.kp.trans ⟨fun k' hk' hn => ho k' fun e => hn (.inr (by rw [e]; rfl)), by simp⟩, by simpa using h.sz⟩
theorem FlI.putM {w : World} {B n1 : Nat} {m : Mlt} {A : Option Addr} {n d s rb : Nat} {sl : Value} {nf q0 kb sb mb mp nm : Nat} {hv : Nat → Int × Int × Int} {kv : Int} {R : Nat → Int} {g : Nat → Nat → Int} {W W' : World}
 (h : FlI w B n1 m A n d s rb sl nf q0 kb sb mb mp nm hv kv R g W) (p : FlP w B n1 rb q0 kb sb mb mp sl) (hm : MpAt W' mp (nm + 1) hv) (hg : W.grownBy W' (some mp)) : FlI w B n1 m A n d s rb sl nf q0 kb sb mb mp (nm + 1) hv kv R g W' := by
 have := p.hr; have := p.h0; have := p.hk; have := p.hs; have := p.hmk; have := p.hms; have := p.hm; have := p.hn; have := p.hB
 have hsz := h.sz
 have ho : ∀ b, b < n1 → b ≠ mp → W'.heap[b]? = W.heap[b]? := fun b hb hne => hg.block b (by omega) (by intro e; cases e; exact hne rfl)
 refine ⟨(ho _ (by omega) (by omega)).trans h.rr, h.rl.row fun b hb _ _ => ho b (by have := (p.hsl b hb).2.1; omega) (by have := (p.hsl b hb).2.1; omega), (ho _ (by omega) (by omega)).trans h.rk, (ho _ (by omega) (by omega)).trans h.rs, (ho _ (by omega) (by omega)).trans h.ra, (ho _ (by omega) (by omega)).trans h.rp, (ho _ (by omega) (by omega)).trans h.rm,
  hm, h.bl.trans ((Below.refl _ _).grown hg (by omega) fun k e => by cases e; omega), h.kp.trans ⟨fun k hk _ => ho k (by omega) (by omega), hg.size⟩, Nat.le_trans h.sz hg.size⟩
end Go.Proofs.YtnkaoplgmglijaaDoor
