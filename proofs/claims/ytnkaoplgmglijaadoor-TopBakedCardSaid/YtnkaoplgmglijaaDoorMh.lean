/- The contract of total of package melt. -/
import Derived.Test.YtnkaoplgmglijaaDoorMf
namespace Go.Proofs.YtnkaoplgmglijaaDoor
open Go.RowKit
attribute [local go_sem] Oper.semAt_some
theorem rs {w : World} {k : Nat} {cs : Array Value} {t : TypeId} (h : w.heap[k]? = some (.cells cs t (0, 0))) (i : Nat) (v : Value) : (w.setCell ⟨k, i, none⟩ v).heap[k]? = some (.cells (cs.setIfInBounds i v) t (0, 0)) := heap_setCell_same w k i cs t v h
theorem ro {w : World} {k b i : Nat} {o : Obj} {v : Value} (h : w.heap[k]? = some o) (hne : k ≠ b) : (w.setCell ⟨b, i, none⟩ v).heap[k]? = some o := (heap_setCell_other w ⟨b, i, none⟩ k v hne).trans h
def tlK (m : Mlt) (c : Crs) (s : Nat) (st : Int) (l : List Stp) : Nat → Int × Int
 | 0 => (0, 0)
 | k + 1 => if (at0 l k).kd = 1 then ((tlK m c s st l k).1 + (wkD m c s st l k - wkD m c s st l (k + 1)), (tlK m c s st l k).2)
   else if (at0 l k).kd = 4 then ((tlK m c s st l k).1, (tlK m c s st l k).2 + (wkD m c s st l k - wkD m c s st l (k + 1))) else tlK m c s st l k
def tlF (m : Mlt) (c : Crs) (s : Nat) (l : List Stp) : Int × Int := tlK m c s (stF c (m.ct (s * 2)) (m.ct (s * 2 + 1))) l l.length
def tlS (m : Mlt) (c : Crs) (s : Nat) (st : Int) (l : List Stp) (q : Int × Int × Int) (x : Pl l.length) : Int × Int × Int :=
 if (at0 l x.1).kd = 1 then (q.1 + (q.2.2 - wkD m c s st l (x.1 + 1)), q.2.1, wkD m c s st l (x.1 + 1)) else if (at0 l x.1).kd = 4 then (q.1, q.2.1 + (q.2.2 - wkD m c s st l (x.1 + 1)), wkD m c s st l (x.1 + 1)) else (q.1, q.2.1, wkD m c s st l (x.1 + 1))
def tlP (m : Mlt) (c : Crs) (s : Nat) (st : Int) (l : List Stp) (pre : List (Pl l.length)) : Int × Int × Int := pre.foldl (tlS m c s st l) (0, 0, st)
theorem tlP_snoc (m : Mlt) (c : Crs) (s : Nat) (st : Int) (l : List Stp) (pre : List (Pl l.length)) (x : Pl l.length) : tlP m c s st l (pre ++ [x]) = tlS m c s st l (tlP m c s st l pre) x := by simp [tlP]
theorem tlP_fwd (m : Mlt) (c : Crs) (s : Nat) (st : Int) (l : List Stp) : ∀ k, k ≤ l.length → tlP m c s st l (fwd l.length k) = ((tlK m c s st l k).1, (tlK m c s st l k).2, wkD m c s st l k)
 | 0, _ => rfl
 | k + 1, h => by
   rw [fwd_succ (by omega), tlP_snoc, tlP_fwd m c s st l k (by omega), tlK, tlS]
   split
   · rfl
   · split
     · rfl
     · rfl
theorem tlS_bd {q : Int × Int × Int} {dn n : Int} (h2 : 0 ≤ q.2.2 ∧ q.2.2 ≤ 300000000000000) (hd : 0 ≤ dn ∧ dn ≤ 300000000000000) (h0 : -(n * 300000000000000) ≤ q.1 ∧ q.1 ≤ n * 300000000000000) (h1 : -(n * 300000000000000) ≤ q.2.1 ∧ q.2.1 ≤ n * 300000000000000) :
 -((n + 1) * 300000000000000) ≤ q.1 + (q.2.2 - dn) ∧ q.1 + (q.2.2 - dn) ≤ (n + 1) * 300000000000000 ∧ -((n + 1) * 300000000000000) ≤ q.2.1 + (q.2.2 - dn) ∧ q.2.1 + (q.2.2 - dn) ≤ (n + 1) * 300000000000000 := by omega
theorem foldl_bd {m : Mlt} {c : Crs} {s : Nat} {st : Int} {l : List Stp} (hd : ∀ k, k < l.length → 0 ≤ wkD m c s st l (k + 1) ∧ wkD m c s st l (k + 1) ≤ 300000000000000) : ∀ (pre : List (Pl l.length)) (q : Int × Int × Int) (n : Int), 0 ≤ n → (0 ≤ q.2.2 ∧ q.2.2 ≤ 300000000000000) → (-(n * 300000000000000) ≤ q.1 ∧ q.1 ≤ n * 300000000000000) → (-(n * 300000000000000) ≤ q.2.1 ∧ q.2.1 ≤ n * 300000000000000) →
 (0 ≤ (pre.foldl (tlS m c s st l) q).2.2 ∧ (pre.foldl (tlS m c s st l) q).2.2 ≤ 300000000000000) ∧ (-((n + pre.length) * 300000000000000) ≤ (pre.foldl (tlS m c s st l) q).1 ∧ (pre.foldl (tlS m c s st l) q).1 ≤ (n + pre.length) * 300000000000000) ∧ (-((n + pre.length) * 300000000000000) ≤ (pre.foldl (tlS m c s st l) q).2.1 ∧ (pre.foldl (tlS m c s st l) q).2.1 ≤ (n + pre.length) * 300000000000000)
 | [], q, n, _, h2, h0, h1 => by simpa using ⟨h2, h0, h1⟩
 | x :: pre, q, n, hn, h2, h0, h1 => by
   have hx := hd x.1 x.2
   have hb := tlS_bd (n := n) h2 hx h0 h1
   have key : (0 ≤ (tlS m c s st l q x).2.2 ∧ (tlS m c s st l q x).2.2 ≤ 300000000000000) ∧ (-((n + 1) * 300000000000000) ≤ (tlS m c s st l q x).1 ∧ (tlS m c s st l q x).1 ≤ (n + 1) * 300000000000000) ∧ (-((n + 1) * 300000000000000) ≤ (tlS m c s st l q x).2.1 ∧ (tlS m c s st l q x).2.1 ≤ (n + 1) * 300000000000000) := by
     unfold tlS
     split
     · exact ⟨hx, ⟨hb.1, hb.2.1⟩, by show _ ≤ q.2.1 ∧ q.2.1 ≤ _; omega⟩
     · split
       · exact ⟨hx, by show _ ≤ q.1 ∧ q.1 ≤ _; omega, ⟨hb.2.2.1, hb.2.2.2⟩⟩
       · exact ⟨hx, by show _ ≤ q.1 ∧ q.1 ≤ _; omega, by show _ ≤ q.2.1 ∧ q.2.1 ≤ _; omega⟩
   have := foldl_bd hd pre (tlS m c s st l q x) (n + 1) (by omega) key.1 key.2.1 key.2.2
   rw [List.foldl_cons, List.length_cons]
   have e : n + 1 + (pre.length : Int) = n + ((pre.length + 1 : Nat) : Int) := by omega
   rw [e] at this
   exact this
theorem results_two_ints {fn : Func} {p q : Tmp} (h : fn.results = #[.cell p 3, .cell q 3]) (tmps : Array Value) (w : World) (g g' : Nat) (a b : Int) (hp : tmps.getD p undef = .pointer (some ⟨g, 0, none⟩)) (hq : tmps.getD q undef = .pointer (some ⟨g', 0, none⟩))
 (ha : w.cell? ⟨g, 0, none⟩ = some (I a)) (hb : w.cell? ⟨g', 0, none⟩ = some (I b)) : (results fn tmps).run Tryd.prog w = .ok (.tuple #[I a, I b]) w := by
 have hp' : tmps[p]?.getD undef = .pointer (some ⟨g, 0, none⟩) := by simpa using hp
 have hq' : tmps[q]?.getD undef = .pointer (some ⟨g', 0, none⟩) := by simpa using hq
 have la : (loadVar 3 ⟨g, 0, none⟩).run Tryd.prog w = .ok (I a) w := by go_simp
 have lb : (loadVar 3 ⟨g', 0, none⟩).run Tryd.prog w = .ok (I b) w := by go_simp
 simp [results, h, hp', hq', asAddr, la, lb]
theorem row_kept {W W' : World} {row : Option Nat} {b : Nat} {cs : Array Value} {t : TypeId} {B : Nat} (h : W.heap[b]? = some (.cells cs t (0, 0))) (hg : W.grownBy W' row) (hr : ∀ r, row = some r → B ≤ r ∧ ∃ o : Obj, W.heap[r]? = some o ∧ o.isCells = false) : W'.heap[b]? = some (.cells cs t (0, 0)) :=
 (hg.block b (Array.getElem?_eq_some_iff.1 h).1 (fun e => by
  obtain ⟨_, o, ho, hc⟩ := hr b e.symm
  rw [h] at ho; cases ho; cases hc)).trans h
def PkAt (w0 : World) (c : Crs) (A : Option Addr) (n d : Nat) (u : Value) (w : World) : Prop := ∃ q, u = .func (.func 57) #[] #[.pointer (some ⟨q, 0, none⟩), .pointer (some ⟨q + 1, 0, none⟩)] ∧
 w.heap[q]? = some (.cells (crsArr c) 95 (0, 0)) ∧ w.heap[q + 1]? = some (.cells #[.slice A n d] 28 (0, 0)) ∧ w0.heap.size ≤ q
theorem pk_grow {w0 w : World} {c : Crs} {A : Option Addr} {n d : Nat} (h : Cl w0 w) : Calls Tryd.prog 28 #[.agg (crsArr c), .slice A n d] w fun e w' => ∃ u, e = .returned u ∧ Le w w' ∧ Box (PkAt w0 c A n d) u w' := by
 refine (pick_any c A n d w).mono ?_
 rintro e w' ⟨rfl, rfl⟩
 exact ⟨_, rfl, ((Below.refl _ _).alloc (Nat.le_refl _) _).alloc (by simp) _, fun w2 h2 => ⟨_, rfl, (h2.block _ (by simp; omega)).trans (heap_before (heap_last _ _ _ rfl)), (h2.block _ (by simp)).trans (heap_last _ _ _ (by simp)), h.le.size⟩⟩
theorem ln_lo {W : World} {q : Nat} {m : Mlt} {A : Option Addr} {n d s : Nat} {t : TypeId} (hs : s < 3) (h : W.heap[q]? = some (.cells (lnArr m A n d s) t (0, 0))) : W.cell? ⟨q, 1 + s * 2, none⟩ = some (I (m.ct (s * 2))) ∧ W.cell? ⟨q, 1 + s * 2 + 1, none⟩ = some (I (m.ct (s * 2 + 1))) ∧
 W.cell? ⟨q, 0, none⟩ = some (I m.ms) ∧ W.cell? ⟨q, 7, none⟩ = some (.slice A n d) ∧ W.cell? ⟨q, 8, none⟩ = some (I s) := by
 refine ⟨?_, ?_, ?_, ?_, ?_⟩ <;> rw [cell_of_row _ _ _ _ _ _ h]
 · rcases s with _ | _ | _ | s
   · rfl
   · rfl
   · rfl
   · omega
 · rcases s with _ | _ | _ | s
   · rfl
   · rfl
   · rfl
   · omega
 all_goals rfl
set_option maxRecDepth 100000 in
set_option maxHeartbeats 4000000 in
theorem total_any (m : Mlt) (c : Crs) (s : Nat) (ls : List Stp) (A : Option Addr) (d B : Nat) (w : World) (hs : s < 3) (hl : ls.length ≤ 200) (hM : isM m = true) (hE : ∀ j, j < ls.length → stE m ls j = 0) (hB : B ≤ w.heap.size) (hx : Rd w B 8 A ls.length (rT ls)) :
 Calls Tryd.prog 48 #[.agg (lnArr m A ls.length d s), .agg (crsArr c)] w fun e w' => e = .returned (.tuple #[I (tlF m c s ls).1, I (tlF m c s ls).2]) ∧ Below w.heap.size w w' := by
 obtain ⟨W, hW⟩ : ∃ W, W = (((w.alloc (.cells (lnArr m A ls.length d s) 70)).alloc (.cells (crsArr c) 95)).alloc (.cells #[I 0] 3)).alloc (.cells #[I 0] 3) := ⟨_, rfl⟩
 have hb0 : Below w.heap.size w W := by rw [hW]; exact ((((Below.refl _ _).alloc (Nat.le_refl _) _).alloc (by simp) _).alloc (by simp; omega) _).alloc (by simp; omega) _
 have r0 : W.heap[w.heap.size]? = some (.cells (lnArr m A ls.length d s) 70 (0, 0)) := by rw [hW]; exact heap_before (heap_before (heap_before (heap_last _ _ _ rfl)))
 have r1 : W.heap[w.heap.size + 1]? = some (.cells (crsArr c) 95 (0, 0)) := by rw [hW]; exact heap_before (heap_before (heap_last _ _ _ (by simp)))
 have r2 : W.heap[w.heap.size + 1 + 1]? = some (.cells #[I 0] 3 (0, 0)) := by rw [hW]; exact heap_before (heap_last _ _ _ (by simp))
 have r3 : W.heap[w.heap.size + 1 + 1 + 1]? = some (.cells #[I 0] 3 (0, 0)) := by rw [hW]; exact heap_last _ _ _ (by simp)
 have sW : w.heap.size + 4 ≤ W.heap.size := by rw [hW]; simp
 have HW := Lib.hid hW
 have Hb0 := Lib.hid hb0
 have Hr0 := Lib.hid r0
 have Hr1 := Lib.hid r1
 have Hr2 := Lib.hid r2
 have Hr3 := Lib.hid r3
 have HX : Hid (∀ W', Below W.heap.size W W' → Below w.heap.size w W' ∧ Rd W' B 8 A ls.length (rT ls)) := fun W' h => by
  have h' := hb0.trans (h.mono hb0.size)
  exact ⟨h', hx.below (h'.mono hB)⟩
 have HXw : Hid (∀ W', Below w.heap.size w W' → Rd W' B 8 A ls.length (rT ls)) := fun W' h => hx.below (h.mono hB)
 have HE := Lib.hid hE
 have HM := Lib.hid hM
 obtain ⟨l0, l1, l2, l3, l4⟩ := ln_lo hs r0
 have y0 := ovr_cell l0
 have y1 := ovr_cell l1
 have y2 := ovr_cell l2
 have y3 := ovr_cell l3
 have y4 := ovr_cell l4
 have y5 := ovr_cell (show W.cell? ⟨w.heap.size + 1, 0, none⟩ = some (.bool c.added) by rw [cell_of_row _ _ _ _ _ _ r1]; rfl)
 have y6 := ovr_cell (show W.cell? ⟨w.heap.size + 1, 1, none⟩ = some (.bool c.frozen) by rw [cell_of_row _ _ _ _ _ _ r1]; rfl)
 have y7 := ovr_cell (show W.cell? ⟨w.heap.size + 1, 2, none⟩ = some (.bool c.gone) by rw [cell_of_row _ _ _ _ _ _ r1]; rfl)
 have hss : decide ((s : Int) < 3) = true := decide_eq_true (by omega)
 have hsn : decide (s < 3) = true := decide_eq_true hs
 have hs0 : decide (0 ≤ (s : Int)) = true := decide_eq_true (by omega)
 obtain ⟨st, hst⟩ : ∃ q, stF c (m.ct (s * 2)) (m.ct (s * 2 + 1)) = q := ⟨_, rfl⟩
 have cst : Hid (∀ w', Calls Tryd.prog 27 #[.agg (crsArr c), .agg #[I (m.ct (s * 2)), I (m.ct (s * 2 + 1))]] w' fun e w'' => e = .returned (I st) ∧ Below w'.heap.size w' w'') := by
  intro w'; rw [← hst]; exact start_any c ⟨m.ct (s * 2), m.ct (s * 2 + 1)⟩ w'
 have Hst := Lib.hid hst
 have Hstb : Hid (0 ≤ st ∧ st ≤ 1000000000000) := by
  have hb : bdB m.ct 1000000000000 = true := by unfold isM at hM; rw [Bool.and_eq_true] at hM; exact hM.2
  have := bdB_at hb hs
  show 0 ≤ st ∧ _
  rw [← hst]
  unfold stF
  split
  · exact ⟨by omega, this.2.2⟩
  · exact ⟨this.1, by omega⟩
 clear hW hb0 hx hE hM r0 r1 r2 r3 l0 l1 l2 l3 l4 hst
 refine (callsIn_wide (n := 5)).1 ?_
 refine callsIn_of_wp_marks Tryd.func48 rfl trivial ?_ rfl
 simp only [Tryd.ntmps48, List.size_toArray, List.length_cons, List.length_nil, Nat.reduceAdd, Nat.reduceSub, Array.replicate_succ, Array.replicate_zero, List.push_toArray, List.append_toArray, List.nil_append, List.cons_append]
 refine wpIn_wide.2 ?_
 go_upto_region 1 with (fail)
 rw [← HW.out]
 refine wp_region_seq2 9 (fun j => if j = 7 then some (fun u _ => u = I st) else if j = 8 then some (NewAt W #[I 0] 3) else none) (by kernel_rfl) (by kernel_rfl) (by kernel_rfl) (by kernel_rfl) (by kernel_rfl) ?_
 simp only [List.take_succ_cons, List.take_zero, List.drop_succ_cons, List.drop_zero]
 repeat (refine wpG_one rfl rfl rfl ?_; intro K hK; go_big_quiet_op; go_big_quiet_on)
 refine wpG_make (fun u _ => u = I st) rfl rfl (fun w' hw' _ => ?_) (fun u hu => ?_)
 · go_simp
   exact call_grow (cst.out w')
 obtain ⟨_, _, rfl⟩ := hu
 simp only [Act.put, List.setIfInBounds_toArray, List.set_cons_zero, List.set_cons_succ]
 refine wpG_make (NewAt W #[I 0] 3) rfl rfl (fun w' hw' _ => ?_) (fun u hu => ?_)
 · go_simp
   exact new_grow hw'
 obtain ⟨_, _, bn, rfl, _, _⟩ := hu
 simp only [Act.put, List.setIfInBounds_toArray, List.set_cons_zero, List.set_cons_succ]
 refine wpG_nil (fun w5 hw5 hG => ?_)
 have hn := (Box.now hG.2).at
 clear hG
 refine wpTailIn_cons Wd.wide (by intro c h; cases h) ?_
 have z0 : w5.cell? ⟨bn, 0, none⟩ = some (I 0) := by rw [cell_of_row _ _ _ _ _ _ hn.1]; rfl
 have z1 := frozen_of_row _ _ 0 _ _ hn.1
 unfold Oper.wp
 go_simp
 refine wpTailIn_nil ?_
 obtain ⟨Z, hZ⟩ : ∃ Z, Z = w5.setCell ⟨bn, 0, none⟩ (I st) := ⟨_, rfl⟩
 have rZ : Z.heap[bn]? = some (.cells #[I st] 3 (0, 0)) := by rw [hZ]; exact rs hn.1 0 _
 have hbZ : Below W.heap.size W Z := by rw [hZ]; exact Below.setCell hw5.le (p := ⟨bn, 0, none⟩) hn.2 _
 have hbn := hn.2
 rw [← hZ]
 clear hZ hn hw5 z0 z1 y0 y1 y2 y3 y4 y5 y6 y7 hss hsn hs0
 have hrow : ∀ k o, k < W.heap.size → W.heap[k]? = some o → Z.heap[k]? = some o := fun k o hk h => (hbZ.block k hk).trans h
 have r0 := hrow _ _ (Array.getElem?_eq_some_iff.1 Hr0.out).1 Hr0.out
 have r1 := hrow _ _ (Array.getElem?_eq_some_iff.1 Hr1.out).1 Hr1.out
 have r2 := hrow _ _ (Array.getElem?_eq_some_iff.1 Hr2.out).1 Hr2.out
 have r3 := hrow _ _ (Array.getElem?_eq_some_iff.1 Hr3.out).1 Hr3.out
 have HZ : Hid (∀ W', Below Z.heap.size Z W' → Below w.heap.size w W' ∧ Rd W' B 8 A ls.length (rT ls)) := fun W' h => HX.out W' (hbZ.trans (h.mono hbZ.size))
 have y := fun k (v : Value) (h : (lnArr m A ls.length d s)[k]? = some v) => ovr_cell (show Z.cell? ⟨w.heap.size, k, none⟩ = some v by rw [cell_of_row _ _ _ _ _ _ r0]; exact h)
 have y0 := y 0 _ rfl
 have y1 := y 1 _ rfl
 have y2 := y 2 _ rfl
 have y3 := y 3 _ rfl
 have y4 := y 4 _ rfl
 have y5 := y 5 _ rfl
 have y6 := y 6 _ rfl
 have y7 := y 7 _ rfl
 have y8 := y 8 _ rfl
 have q0 := ovr_cell (show Z.cell? ⟨w.heap.size + 1, 0, none⟩ = some (.bool c.added) by rw [cell_of_row _ _ _ _ _ _ r1]; rfl)
 have q1 := ovr_cell (show Z.cell? ⟨w.heap.size + 1, 1, none⟩ = some (.bool c.frozen) by rw [cell_of_row _ _ _ _ _ _ r1]; rfl)
 have q2 := ovr_cell (show Z.cell? ⟨w.heap.size + 1, 2, none⟩ = some (.bool c.gone) by rw [cell_of_row _ _ _ _ _ _ r1]; rfl)
 have q3 := ovr_cell (show Z.cell? ⟨bn, 0, none⟩ = some (I st) by rw [cell_of_row _ _ _ _ _ _ rZ]; rfl)
 clear y
 go_wp2_with fail
 refine wp_region_seq2 6 (fun j => if j = 5 then some (PkAt Z c A ls.length d) else none) (by kernel_rfl) (by kernel_rfl) (by kernel_rfl) (by kernel_rfl) (by kernel_rfl) ?_
 simp only [List.take_succ_cons, List.take_zero, List.drop_succ_cons, List.drop_zero]
 repeat (refine wpG_one rfl rfl rfl ?_; intro K hK; go_big_quiet_op; go_big_quiet_on)
 refine wpG_make (PkAt Z c A ls.length d) rfl rfl (fun w' hw' _ => ?_) (fun u hu => ?_)
 · go_simp
   exact pk_grow hw'
 obtain ⟨_, _, qk, rfl, _, _, _⟩ := hu
 simp only [Act.put, List.setIfInBounds_toArray, List.set_cons_zero, List.set_cons_succ]
 refine wpG_nil (fun w6 hw6 hG => ?_)
 have hk := Box.now hG.2
 clear hG
 refine wpTailIn_cons Wd.wide (by intro c h; cases h) ?_
 unfold Oper.wp
 go_simp
 refine (walk_any m A ls.length d s st _ ⟨_, _, _, rfl⟩ w6).mono ?_
 rintro e V ⟨rfl, hV⟩
 refine wpTailIn_nil ?_
 obtain ⟨q', hqe, rk0, rk1, hqk⟩ := hk
 obtain rfl : qk = q' := by simp at hqe; first | exact hqe | exact hqe.1
 go_wp2_with fail
 obtain ⟨k6, hk6⟩ : ∃ k, w6.heap.size = k := ⟨_, rfl⟩
 have v0 : V.heap[k6]? = some (.cells (lnArr m A ls.length d s) 70 (0, 0)) := by rw [hV, ← hk6]; exact heap_before (heap_before (heap_last _ _ _ rfl))
 have v1 : V.heap[k6 + 1]? = some (.cells #[I st] 3 (0, 0)) := by rw [hV, ← hk6]; exact heap_before (heap_last _ _ _ (by simp))
 have v2 : V.heap[k6 + 2]? = some (.cells #[.func (.func 57) #[] #[.pointer (some ⟨qk, 0, none⟩), .pointer (some ⟨qk + 1, 0, none⟩)]] 98 (0, 0)) := by rw [hV, ← hk6]; exact heap_last _ _ _ (by simp)
 have sV : k6 + 3 ≤ V.heap.size := by rw [hV, ← hk6]; simp
 have b6 : Below w6.heap.size w6 V := by rw [hV]; exact (((Below.refl _ _).alloc (Nat.le_refl _) _).alloc (by simp) _).alloc (by simp; omega) _
 have k60 : qk + 1 < k6 := by rw [← hk6]; exact (Array.getElem?_eq_some_iff.1 rk1).1
 have sZ6 : Z.heap.size ≤ k6 := by rw [← hk6]; exact hw6.le.size
 have bnZ : bn < Z.heap.size := (Array.getElem?_eq_some_iff.1 rZ).1
 have sWZ := hbZ.size
 have bV : Below Z.heap.size Z V := hw6.le.trans b6
 have vk : ∀ k o, w6.heap[k]? = some o → V.heap[k]? = some o := fun k o h => (b6.block k (Array.getElem?_eq_some_iff.1 h).1).trans h
 have zk : ∀ k o, Z.heap[k]? = some o → V.heap[k]? = some o := fun k o h => (bV.block k (Array.getElem?_eq_some_iff.1 h).1).trans h
 have c0 := vk _ _ rk0
 have c1 := vk _ _ rk1
 have e0 := zk _ _ r0
 have e2 := zk _ _ r2
 have e3 := zk _ _ r3
 have e4 := zk _ _ rZ
 have hxV := HZ.out V bV
 have hwk : WkIn V m c s st ls A d d B (k6 + 1) k6 (k6 + 2) qk (qk + 1) := by
  refine ⟨?_, ?_, ?_, ?_, ?_, ?_, ?_, ?_, ?_, hxV.2, ?_⟩
  · rw [cell_of_row _ _ _ _ _ _ v0]; rfl
  · rw [cell_of_row _ _ _ _ _ _ v0]; rfl
  · rw [cell_of_row _ _ _ _ _ _ v0]; rfl
  · rw [cell_of_row _ _ _ _ _ _ v1]; rfl
  · rw [cell_of_row _ _ _ _ _ _ v2]; rfl
  · rw [cell_of_row _ _ _ _ _ _ c0]; rfl
  · rw [cell_of_row _ _ _ _ _ _ c0]; rfl
  · rw [cell_of_row _ _ _ _ _ _ c0]; rfl
  · rw [cell_of_row _ _ _ _ _ _ c1]; rfl
  · exact Nat.le_trans hB hxV.1.size
 have hwa : WkAt V.heap.size (fun k => k = w.heap.size + 1 + 1 ∨ k = w.heap.size + 1 + 1 + 1 ∨ k = bn) B (k6 + 1) k6 (k6 + 2) qk (qk + 1) :=
  ⟨by omega, fun k hk => by omega, ⟨by omega, by omega⟩, ⟨by omega, by omega⟩, ⟨by omega, by omega⟩, ⟨by omega, by omega⟩, ⟨by omega, by omega⟩⟩
 have hbw := hxV.1
 rw [hk6]
 clear hV hk6 v0 v1 v2 b6 bV vk zk c0 c1 r0 r1 r2 r3 rZ rk0 rk1 hw6 y0 y1 y2 y3 y4 y5 y6 y7 y8 q0 q1 q2 q3 hrow
 have HV := Lib.hid hxV
 clear hxV
 refine (wpIn_wide (n := 5)).1 ?_
 refine wpIn_rangeFunc_ownH rfl (by omega) (gf := 58) (lb := #[.pointer (some ⟨k6 + 1, 0, none⟩), .pointer (some ⟨k6, 0, none⟩), .pointer (some ⟨k6 + 2, 0, none⟩)]) rfl trivial (enters_of Tryd.func58 (by kernel_rfl) rfl)
  (walk_stops m c s st ls A d d B (k6 + 1) k6 (k6 + 2) qk (qk + 1) V.heap.size 4 (fun k => k = w.heap.size + 1 + 1 ∨ k = w.heap.size + 1 + 1 + 1 ∨ k = bn) V (by omega) hs Hstb.out hl HM.out HE.out hwa (Nat.le_refl _) hwk)
  (fun h h' => KpS.trans h h') (fun W l o o' hl h _ _ => ⟨fun k hk _ => World.putObj_heap_other (by omega), by simp⟩) (Below.refl _ _) (fun _ => rfl)
  (fun pre W => W.heap[w.heap.size + 1 + 1]? = some (.cells #[I (tlP m c s st ls pre).1] 3 (0, 0)) ∧ W.heap[w.heap.size + 1 + 1 + 1]? = some (.cells #[I (tlP m c s st ls pre).2.1] 3 (0, 0)) ∧ W.heap[bn]? = some (.cells #[I (tlP m c s st ls pre).2.2] 3 (0, 0)) ∧
   W.heap[w.heap.size]? = some (.cells (lnArr m A ls.length d s) 70 (0, 0)) ∧ Below w.heap.size w W ∧ V.heap.size ≤ W.heap.size)
  (fun _ _ _ => False)
  (fun s W W' row hs hg hr => ⟨row_kept hs.1 hg hr, row_kept hs.2.1 hg hr, row_kept hs.2.2.1 hg hr, row_kept hs.2.2.2.1 hg hr, hs.2.2.2.2.1.grown hg hs.2.2.2.2.1.size (fun k e => by have := (hr k e).1; omega), Nat.le_trans hs.2.2.2.2.2 hg.size⟩)
  (fun _ _ _ _ _ hs _ _ => hs)
  ⟨e2, e3, e4, e0, hbw, Nat.le_refl _⟩
  (fun x a' W => ∃ Bx, W.heap[Bx]? = some (.cells (lvA m c s st ls x.1) 42 (0, 0)) ∧ V.heap.size ≤ Bx ∧
   a' = { tmps := #[.agg (lnArr m A ls.length d s), .agg (crsArr c), .pointer (some ⟨w.heap.size, 0, none⟩), .pointer (some ⟨w.heap.size + 1, 0, none⟩), .pointer (some ⟨w.heap.size + 1 + 1, 0, none⟩), .pointer (some ⟨w.heap.size + 1 + 1 + 1, 0, none⟩), .pointer (some ⟨bn, 0, none⟩), I (x.1 : Int), .pointer (some ⟨Bx, 0, none⟩), .agg #[.bool c.added, .bool c.frozen, .bool c.gone], .pointer (some ⟨w.heap.size, 8, none⟩), I s, .pointer (some ⟨w.heap.size, 0, none⟩), .pointer (some ⟨w.heap.size, 1, none⟩), .pointer (some ⟨w.heap.size, 1 + s * 2, none⟩), .agg #[I (m.ct (s * 2)), I (m.ct (s * 2 + 1))], I st, .agg #[I m.ms, I (m.ct 0), I (m.ct 1), I (m.ct 2), I (m.ct 3), I (m.ct 4), I (m.ct 5), .slice A ls.length d, I s], I st, .agg #[.bool c.added, .bool c.frozen, .bool c.gone], .pointer (some ⟨w.heap.size, 7, none⟩), .slice A ls.length d, .func (.func 57) #[] #[.pointer (some ⟨qk, 0, none⟩), .pointer (some ⟨qk + 1, 0, none⟩)], .func (.func 58) #[] #[.pointer (some ⟨k6 + 1, 0, none⟩), .pointer (some ⟨k6, 0, none⟩), .pointer (some ⟨k6 + 2, 0, none⟩)], I (x.1 : Int), .agg (lvA m c s st ls x.1), undef, undef, undef, undef, undef, undef, undef, undef, undef, undef, undef, undef, undef, undef, undef, undef, undef, undef, undef, undef, undef, undef, undef, undef, undef, undef], defers := [] })
  (fun x a' s W W' row hs hg hr => by
   obtain ⟨Bx, h1, h2, h3⟩ := hs
   exact ⟨Bx, row_kept h1 hg hr, h2, h3⟩) ?assign ?body ?done ?stop
 case assign =>
  intro l pre x W K hi hK
  obtain ⟨g1, g2, g3, g4, h4, h5⟩ := hi
  have hK' := hK
  clear hK
  gi_wp2
  exact hK' _ _ ((KeepsOthers.alloc _ _).from _) ⟨fun k hk _ => Below.heap_alloc _ _ _ (by omega), by simp⟩ ⟨heap_before g1, heap_before g2, heap_before g3, heap_before g4, h4.alloc h4.size _, by simp; omega⟩ ⟨W.heap.size, heap_last _ _ _ rfl, h5, rfl⟩
 case body =>
  rintro l pre x a' X2 hl2 _ ⟨g1, g2, g3, g4, hbw2, hsX⟩ ⟨Bx, hBx, hBl, rfl⟩ hlt
  have hF := Wd.round l
  have hwd : ∀ k, k < ls.length → 0 ≤ wkD m c s st ls (k + 1) ∧ wkD m c s st ls (k + 1) ≤ 300000000000000 := fun k hk => by
   have := wk_bd (m := m) (c := c) (l := ls) hs Hstb.out (k + 1) (fun j hj => HE.out j (by omega))
   omega
  have hbd := foldl_bd (m := m) (c := c) (s := s) (st := st) hwd pre (0, 0, st) 0 (by omega) ⟨Hstb.out.1, by have := Hstb.out.2; show st ≤ _; omega⟩ ⟨by show -(0 * 300000000000000) ≤ (0 : Int); omega, by show (0 : Int) ≤ 0 * 300000000000000; omega⟩ ⟨by show -(0 * 300000000000000) ≤ (0 : Int); omega, by show (0 : Int) ≤ 0 * 300000000000000; omega⟩
  have hsn := tlP_snoc m c s st ls pre x
  obtain ⟨xk, hxk⟩ := x
  have hxd := hwd xk hxk
  obtain ⟨q, hq⟩ : ∃ q, tlP m c s st ls pre = q := ⟨_, rfl⟩
  have hbd : (0 ≤ q.2.2 ∧ q.2.2 ≤ 300000000000000) ∧ (-((0 + (pre.length : Int)) * 300000000000000) ≤ q.1 ∧ q.1 ≤ (0 + (pre.length : Int)) * 300000000000000) ∧ (-((0 + (pre.length : Int)) * 300000000000000) ≤ q.2.1 ∧ q.2.1 ≤ (0 + (pre.length : Int)) * 300000000000000) := by rw [← hq]; exact hbd
  rw [hq] at g1 g2 g3 hsn
  clear hwd hq
  obtain ⟨qa, qg, qd⟩ := q
  simp only at g1 g2 g3 hbd
  have hb2 := tlS_bd (q := (qa, qg, qd)) (n := 0 + (pre.length : Int)) hbd.1 hxd hbd.2.1 hbd.2.2
  simp only at hb2
  have Hnew : Hid (tlP m c s st ls (pre ++ [⟨xk, hxk⟩]) = if (at0 ls xk).kd = 1 then (qa + (qd - wkD m c s st ls (xk + 1)), qg, wkD m c s st ls (xk + 1)) else if (at0 ls xk).kd = 4 then (qa, qg + (qd - wkD m c s st ls (xk + 1)), wkD m c s st ls (xk + 1)) else (qa, qg, wkD m c s st ls (xk + 1))) := hsn
  obtain ⟨b, o, rfl, _, x0, _, _, _, _, _, _, _⟩ := (HXw.out X2 hbw2).stp hxk
  have hBx : X2.heap[Bx]? = some (.cells #[I (chF (at0 ls xk) s (wkD m c s st ls xk) (msK m ls xk)).1, I (chF (at0 ls xk) s (wkD m c s st ls xk) (msK m ls xk)).2, I (wkD m c s st ls (xk + 1))] 42 (0, 0)) := hBx
  obtain ⟨kd, hkd⟩ : ∃ k, (at0 ls xk).kd = k := ⟨_, rfl⟩
  obtain ⟨dn, hdn⟩ : ∃ k, wkD m c s st ls (xk + 1) = k := ⟨_, rfl⟩
  obtain ⟨lo, hlo⟩ : ∃ k, (chF (at0 ls xk) s (wkD m c s st ls xk) (msK m ls xk)).1 = k := ⟨_, rfl⟩
  obtain ⟨hi, hhi⟩ : ∃ k, (chF (at0 ls xk) s (wkD m c s st ls xk) (msK m ls xk)).2 = k := ⟨_, rfl⟩
  simp only [hkd, hdn, hlo, hhi] at x0 hBx Hnew hb2 hxd
  have z0 : X2.cell? ⟨w.heap.size, 7, none⟩ = some (.slice (some ⟨b, o, none⟩) ls.length d) := by rw [cell_of_row _ _ _ _ _ _ g4]; rfl
  have z1 : X2.cell? ⟨Bx, 2, none⟩ = some (I dn) := by rw [cell_of_row _ _ _ _ _ _ hBx]; rfl
  have z2 : X2.cell? ⟨w.heap.size + 1 + 1, 0, none⟩ = some (I qa) := by rw [cell_of_row _ _ _ _ _ _ g1]; rfl
  have z3 : X2.cell? ⟨w.heap.size + 1 + 1 + 1, 0, none⟩ = some (I qg) := by rw [cell_of_row _ _ _ _ _ _ g2]; rfl
  have z4 : X2.cell? ⟨bn, 0, none⟩ = some (I qd) := by rw [cell_of_row _ _ _ _ _ _ g3]; rfl
  have f2 := frozen_of_row _ _ 0 _ _ g1
  have f3 := frozen_of_row _ _ 0 _ _ g2
  have f4 := frozen_of_row _ _ 0 _ _ g3
  have i1 : decide ((xk : Int) < (ls.length : Int)) = true := decide_eq_true (by omega)
  have i2 : decide (xk < ls.length) = true := decide_eq_true hxk
  have i3 : decide (0 ≤ (xk : Int)) = true := decide_eq_true (by omega)
  have w1 : IntKind.i64.wrap (qd - dn) = qd - dn := IntWalk.i64_in _ (by omega)
  have w2 : IntKind.i64.wrap (qa + (qd - dn)) = qa + (qd - dn) := IntWalk.i64_in _ (by omega)
  have w3 : IntKind.i64.wrap (qg + (qd - dn)) = qg + (qd - dn) := IntWalk.i64_in _ (by omega)
  have Hw2 := Lib.hid hbw2
  have HB := Lib.hid hBx
  have Hg := Lib.hid (And.intro g1 (And.intro g2 (And.intro g3 g4)))
  have HL : Hid (bn < V.heap.size ∧ w.heap.size + 1 + 1 + 1 < bn ∧ V.heap.size ≤ Bx ∧ V.heap.size ≤ X2.heap.size) := ⟨by omega, by omega, hBl, hsX⟩
  clear hsn hbd hb2 hxd hkd hdn hlo hhi hbw2 hBx g1 g2 g3 g4 hlt
  have fin : Hid (∀ (X3 : World) (a3 g3' : Int), X3.heap.size = X2.heap.size → (∀ k, k ≠ w.heap.size + 1 + 1 → k ≠ w.heap.size + 1 + 1 + 1 → X3.heap[k]? = X2.heap[k]?) → KeepsFrom V.heap.size X2 X3 → Below w.heap.size w X3 → X3.heap[w.heap.size + 1 + 1]? = some (.cells #[I a3] 3 (0, 0)) → X3.heap[w.heap.size + 1 + 1 + 1]? = some (.cells #[I g3'] 3 (0, 0)) → tlP m c s st ls (pre ++ [⟨xk, hxk⟩]) = (a3, g3', dn) →
        KeepsFrom V.heap.size X2 (X3.setCell ⟨bn, 0, none⟩ (I dn)) ∧ KpS V.heap.size (fun k => k = w.heap.size + 1 + 1 ∨ k = w.heap.size + 1 + 1 + 1 ∨ k = bn) X2 (X3.setCell ⟨bn, 0, none⟩ (I dn)) ∧
        (X3.setCell ⟨bn, 0, none⟩ (I dn)).heap[w.heap.size + 1 + 1]? = some (.cells #[I (tlP m c s st ls (pre ++ [⟨xk, hxk⟩])).1] 3 (0, 0)) ∧ (X3.setCell ⟨bn, 0, none⟩ (I dn)).heap[w.heap.size + 1 + 1 + 1]? = some (.cells #[I (tlP m c s st ls (pre ++ [⟨xk, hxk⟩])).2.1] 3 (0, 0)) ∧ (X3.setCell ⟨bn, 0, none⟩ (I dn)).heap[bn]? = some (.cells #[I (tlP m c s st ls (pre ++ [⟨xk, hxk⟩])).2.2] 3 (0, 0)) ∧
         (X3.setCell ⟨bn, 0, none⟩ (I dn)).heap[w.heap.size]? = some (.cells (lnArr m (some ⟨b, o, none⟩) ls.length d s) 70 (0, 0)) ∧ Below w.heap.size w (X3.setCell ⟨bn, 0, none⟩ (I dn)) ∧ V.heap.size ≤ (X3.setCell ⟨bn, 0, none⟩ (I dn)).heap.size) := by
   intro X3 a3 g3' hsz hoth hkf hb3 ha3 hg3 htl
   obtain ⟨hl1, hl2, hl3, hl4⟩ := HL.out
   obtain ⟨g1, g2, g3, g4⟩ := Hg.out
   rw [htl]
   have gbn : X3.heap[bn]? = some (.cells #[I qd] 3 (0, 0)) := (hoth bn (by omega) (by omega)).trans g3
   refine ⟨hkf.trans ((KeepsOthers.setCell _ _ _).from _), ⟨fun k hk hkn => ?_, by simp; omega⟩, ro ha3 (by omega), ro hg3 (by omega), rs gbn 0 _, ro ((hoth _ (by omega) (by omega)).trans g4) (by omega), hb3.setCell (p := ⟨bn, 0, none⟩) (by show w.heap.size ≤ bn; omega) _, by simp; omega⟩
   rw [heap_setCell_other _ _ _ _ (by show k ≠ bn; intro e; exact hkn (.inr (.inr e)))]
   exact hoth k (fun e => hkn (.inl e)) (fun e => hkn (.inr (.inl e)))
  by_cases h1 : kd = 1
  · have e1 : (kd == 1) = true := by simpa using h1
    rw [if_pos h1] at Hnew
    clear h1 z3 f3 w3
    gi_upto_region 10 with (fail)
    obtain ⟨X3, hX3⟩ : ∃ X3, X3 = X2.setCell ⟨w.heap.size + 1 + 1, 0, none⟩ (I (qa + (qd - dn))) := ⟨_, rfl⟩
    obtain ⟨hl1, hl2', hl3, hl4⟩ := HL.out
    obtain ⟨g1, g2, g3, g4⟩ := Hg.out
    have s3 : X3.heap.size = X2.heap.size := by rw [hX3]; simp
    have o3 : ∀ k, k ≠ w.heap.size + 1 + 1 → X3.heap[k]? = X2.heap[k]? := fun k hk => by rw [hX3]; exact heap_setCell_other _ _ _ _ hk
    have k3 : KeepsFrom V.heap.size X2 X3 := by rw [hX3]; exact (KeepsOthers.setCell _ _ _).from _
    have b3 : Below w.heap.size w X3 := by rw [hX3]; exact Hw2.out.setCell (p := ⟨w.heap.size + 1 + 1, 0, none⟩) (by show w.heap.size ≤ w.heap.size + 1 + 1; omega) _
    have a3 : X3.heap[w.heap.size + 1 + 1]? = some (.cells #[I (qa + (qd - dn))] 3 (0, 0)) := by rw [hX3]; exact rs g1 0 _
    have hfin := Lib.hid (fin.out X3 _ _ s3 (fun k hk _ => o3 k hk) k3 b3 a3 ((o3 _ (by omega)).trans g2) Hnew.out)
    have z1 : X3.cell? ⟨Bx, 2, none⟩ = some (I dn) := by rw [cell_of_row _ _ _ _ _ _ ((o3 Bx (by omega)).trans HB.out)]; rfl
    have z4' : X3.cell? ⟨bn, 0, none⟩ = some (I qd) := by rw [cell_of_row _ _ _ _ _ _ ((o3 bn (by omega)).trans g3)]; rfl
    have f4 := frozen_of_row _ _ 0 _ _ ((o3 bn (by omega)).trans g3)
    rw [← hX3]
    clear hX3 s3 o3 k3 b3 a3 g1 g2 g3 g4 z0 z2 z4 f2
    gi_wp2
    exact hfin.out
  by_cases h4 : kd = 4
  · have e1 : (kd == 1) = false := by simpa using h1
    have e4 : (kd == 4) = true := by simpa using h4
    rw [if_neg h1, if_pos h4] at Hnew
    clear h1 h4 z2 f2 w2
    gi_upto_region 10 with (fail)
    obtain ⟨X3, hX3⟩ : ∃ X3, X3 = X2.setCell ⟨w.heap.size + 1 + 1 + 1, 0, none⟩ (I (qg + (qd - dn))) := ⟨_, rfl⟩
    obtain ⟨hl1, hl2', hl3, hl4⟩ := HL.out
    obtain ⟨g1, g2, g3, g4⟩ := Hg.out
    have s3 : X3.heap.size = X2.heap.size := by rw [hX3]; simp
    have o3 : ∀ k, k ≠ w.heap.size + 1 + 1 + 1 → X3.heap[k]? = X2.heap[k]? := fun k hk => by rw [hX3]; exact heap_setCell_other _ _ _ _ hk
    have k3 : KeepsFrom V.heap.size X2 X3 := by rw [hX3]; exact (KeepsOthers.setCell _ _ _).from _
    have b3 : Below w.heap.size w X3 := by rw [hX3]; exact Hw2.out.setCell (p := ⟨w.heap.size + 1 + 1 + 1, 0, none⟩) (by show w.heap.size ≤ w.heap.size + 1 + 1 + 1; omega) _
    have a3 : X3.heap[w.heap.size + 1 + 1 + 1]? = some (.cells #[I (qg + (qd - dn))] 3 (0, 0)) := by rw [hX3]; exact rs g2 0 _
    have hfin := Lib.hid (fin.out X3 _ _ s3 (fun k _ hk => o3 k hk) k3 b3 ((o3 _ (by omega)).trans g1) a3 Hnew.out)
    have z1 : X3.cell? ⟨Bx, 2, none⟩ = some (I dn) := by rw [cell_of_row _ _ _ _ _ _ ((o3 Bx (by omega)).trans HB.out)]; rfl
    have z4' : X3.cell? ⟨bn, 0, none⟩ = some (I qd) := by rw [cell_of_row _ _ _ _ _ _ ((o3 bn (by omega)).trans g3)]; rfl
    have f4 := frozen_of_row _ _ 0 _ _ ((o3 bn (by omega)).trans g3)
    rw [← hX3]
    clear hX3 s3 o3 k3 b3 a3 g1 g2 g3 g4 z0 z3 z4 f3
    gi_wp2
    exact hfin.out
  · have e1 : (kd == 1) = false := by simpa using h1
    have e4 : (kd == 4) = false := by simpa using h4
    rw [if_neg h1, if_neg h4] at Hnew
    obtain ⟨g1, g2, g3, g4⟩ := Hg.out
    have hfin := Lib.hid (fin.out X2 _ _ rfl (fun k _ _ => rfl) (KeepsFrom.refl _ _) Hw2.out g1 g2 Hnew.out)
    clear h1 h4 z2 f2 w2 z3 f3 w3 g1 g2 g3 g4
    gi_wp2
    exact hfin.out
 case done =>
  rintro D ys X hD rfl ⟨g1, g2, g3, g4, hbw2, hsX⟩ hK
  rw [tlP_fwd m c s st ls ls.length (Nat.le_refl _)] at g1 g2
  have Hf : Hid (tlF m c s ls = tlK m c s st ls ls.length) := by show tlF m c s ls = _; unfold tlF; rw [Hst.out]
  obtain ⟨r, hr⟩ : ∃ r, tlK m c s st ls ls.length = r := ⟨_, rfl⟩
  rw [hr] at Hf g1 g2
  obtain ⟨ra, rl⟩ := r
  simp only at g1 g2
  have z2 : X.cell? ⟨w.heap.size + 1 + 1, 0, none⟩ = some (I ra) := by rw [cell_of_row _ _ _ _ _ _ g1]; rfl
  have z3 : X.cell? ⟨w.heap.size + 1 + 1 + 1, 0, none⟩ = some (I rl) := by rw [cell_of_row _ _ _ _ _ _ g2]; rfl
  have f2 := frozen_of_row _ _ 0 _ _ g1
  have f3 := frozen_of_row _ _ 0 _ _ g2
  have HK := Lib.hid hK
  have Hg := Lib.hid (And.intro g1 g2)
  have Hw2 := Lib.hid hbw2
  clear g1 g2 g3 g4 hbw2 hK hr e0 e2 e3 e4 hwk hwa
  go_wp2_with fail
  go_region
  all_goals go_wp2_with fail
  all_goals
   obtain ⟨Y, hY⟩ : ∃ Y, Y = ((X.setCell ⟨w.heap.size + 1 + 1, 0, none⟩ (I ra)).setCell ⟨w.heap.size + 1 + 1 + 1, 0, none⟩ (I rl)).drew := ⟨_, rfl⟩
   have hhp : Y.heap = ((X.setCell ⟨w.heap.size + 1 + 1, 0, none⟩ (I ra)).setCell ⟨w.heap.size + 1 + 1 + 1, 0, none⟩ (I rl)).heap := by rw [hY]; rfl
   have y1 : Y.heap[w.heap.size + 1 + 1]? = some (.cells #[I ra] 3 (0, 0)) := by rw [hhp]; exact ro (rs Hg.out.1 0 _) (by omega)
   have y2 : Y.heap[w.heap.size + 1 + 1 + 1]? = some (.cells #[I rl] 3 (0, 0)) := by rw [hhp]; exact rs (ro Hg.out.2 (by omega)) 0 _
   have yK : Y.heap[D]? = some (.deferred (some [])) := by rw [hhp]; exact ro (ro HK.out (by omega)) (by omega)
   have yB : Below w.heap.size w Y := by
        rw [hY]
        exact ((Hw2.out.setCell (p := ⟨w.heap.size + 1 + 1, 0, none⟩) (by show w.heap.size ≤ w.heap.size + 1 + 1; omega) _).setCell (p := ⟨w.heap.size + 1 + 1 + 1, 0, none⟩) (by show w.heap.size ≤ w.heap.size + 1 + 1 + 1; omega) _).drew
   rw [← hY]
   refine ⟨by simp, .inl ⟨_, _, rfl, run_takeDeferred yK, ?_⟩⟩
   refine ⟨_, results_two_ints rfl _ _ (w.heap.size + 1 + 1) (w.heap.size + 1 + 1 + 1) ra rl rfl rfl ?_ ?_, by rw [Hf.out], yB.grown (grownBy_putObj' Y D _) yB.size (fun k e => by cases e; omega)⟩
   · rw [cell_of_row _ _ _ _ _ _ ((World.putObj_heap_other (by omega)).trans y1)]; rfl
   · rw [cell_of_row _ _ _ _ _ _ ((World.putObj_heap_other (by omega)).trans y2)]; rfl
 case stop => exact fun _ _ _ _ _ _ h _ => h.elim
end Go.Proofs.YtnkaoplgmglijaaDoor
