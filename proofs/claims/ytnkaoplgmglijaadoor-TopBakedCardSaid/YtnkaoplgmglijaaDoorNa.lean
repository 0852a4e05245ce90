/- The contract of fill of package melt. -/
import Derived.Test.YtnkaoplgmglijaaDoorMy
import Derived.Test.YtnkaoplgmglijaaDoorMh
namespace Go.Proofs.YtnkaoplgmglijaaDoor
open Go.RowKit
attribute [local go_sem] Oper.semAt_some
theorem Glob.lo {W W' : World} {B : Nat} (h : Glob W) (hb : Below B W W') (h3 : 3 ≤ B) : Glob W' := by
 have k : ∀ (b o : Nat) v, b < 3 → W.cell? ⟨b, o, none⟩ = some v → W'.cell? ⟨b, o, none⟩ = some v := fun b o v hlt hc => (hb.cell (p := ⟨b, o, none⟩) (by show b < _; omega)).trans hc
 exact ⟨⟨k _ _ _ (by omega) h.pr.1, k _ _ _ (by omega) h.pr.2.1, k _ _ _ (by omega) h.pr.2.2⟩, ⟨k _ _ _ (by omega) h.rh.1, k _ _ _ (by omega) h.rh.2.1, k _ _ _ (by omega) h.rh.2.2⟩,
  ⟨k _ _ _ (by omega) h.l1.1, k _ _ _ (by omega) h.l1.2⟩, ⟨k _ _ _ (by omega) h.l2.1, k _ _ _ (by omega) h.l2.2⟩, ⟨k _ _ _ (by omega) h.l3.1, k _ _ _ (by omega) h.l3.2⟩, ⟨k _ _ _ (by omega) h.l4.1, k _ _ _ (by omega) h.l4.2⟩, Nat.le_trans h.lt hb.size⟩
theorem setCell_id {w : World} {k i : Nat} {cs : Array Value} {t : TypeId} {v : Value} (h : w.heap[k]? = some (.cells cs t (0, 0))) (hv : cs[i]? = some v) : w.setCell ⟨k, i, none⟩ v = w := by
 have e : cs.setIfInBounds i v = cs := by
  apply Array.ext_getElem?
  intro j
  rw [Array.getElem?_setIfInBounds]
  split
  · rename_i h'; subst h'
    split
    · exact hv.symm
    · rename_i h2; rw [Array.getElem?_eq_none (by omega)]
  · rfl
 have : (w.heap.modify k fun | .cells c elem frozen => .cells (if (none : Option Nat).isSome then c else c.setIfInBounds i v) elem frozen | o => o) = w.heap := by
  apply Array.ext_getElem?
  intro j
  rw [Array.getElem?_modify]
  split
  · rename_i h'; subst h'
    rw [h]
    simp [e]
  · rfl
 exact congrArg (fun h => { w with heap := h }) this
theorem name_act {F : Fence} {n : Nat} {P : Program} {c : Code} {Q : Exit → Act → World → Prop} {a : Act} {w : World} (h : ∀ a0, a0 = a → c.wpIn F n P Q a0 w) : c.wpIn F n P Q a w := h a rfl
abbrev hvR (m : Mlt) (s : Nat) (ls : List Stp) (j : Nat) : Int × Int × Int := ((chF (at0 ls j) s (wkD m crsRich s (m.ct (s * 2 + 1)) ls j) (msK m ls j)).1, (chF (at0 ls j) s (wkD m crsRich s (m.ct (s * 2 + 1)) ls j) (msK m ls j)).2, wkD m crsRich s (m.ct (s * 2 + 1)) ls (j + 1))
theorem wk_made {m : Mlt} {c : Crs} {s : Nat} {st : Int} {ls : List Stp} {A : Option Addr} {d B qk k6 : Nat} {w6 V : World} (hV : V = ((w6.alloc (.cells (lnArr m A ls.length d s) 70)).alloc (.cells #[I st] 3)).alloc (.cells #[.func (.func 57) #[] #[.pointer (some ⟨qk, 0, none⟩), .pointer (some ⟨qk + 1, 0, none⟩)]] 98))
 (hk6 : w6.heap.size = k6) (rk0 : w6.heap[qk]? = some (.cells (crsArr c) 95 (0, 0))) (rk1 : w6.heap[qk + 1]? = some (.cells #[.slice A ls.length d] 28 (0, 0))) (hx : Rd V B 8 A ls.length (rT ls)) (hB : B ≤ V.heap.size) :
 WkIn V m c s st ls A d d B (k6 + 1) k6 (k6 + 2) qk (qk + 1) ∧ Below w6.heap.size w6 V ∧ k6 + 3 ≤ V.heap.size ∧ qk + 1 < k6 := by
 have v0 : V.heap[k6]? = some (.cells (lnArr m A ls.length d s) 70 (0, 0)) := by rw [hV, ← hk6]; exact heap_before (heap_before (heap_last _ _ _ rfl))
 have v1 : V.heap[k6 + 1]? = some (.cells #[I st] 3 (0, 0)) := by rw [hV, ← hk6]; exact heap_before (heap_last _ _ _ (by simp))
 have v2 : V.heap[k6 + 2]? = some (.cells #[.func (.func 57) #[] #[.pointer (some ⟨qk, 0, none⟩), .pointer (some ⟨qk + 1, 0, none⟩)]] 98 (0, 0)) := by rw [hV, ← hk6]; exact heap_last _ _ _ (by simp)
 have sV : k6 + 3 ≤ V.heap.size := by rw [hV, ← hk6]; simp
 have b6 : Below w6.heap.size w6 V := by rw [hV]; exact (((Below.refl _ _).alloc (Nat.le_refl _) _).alloc (by simp) _).alloc (by simp; omega) _
 have k60 : qk + 1 < k6 := by rw [← hk6]; exact (Array.getElem?_eq_some_iff.1 rk1).1
 have vk : ∀ k o, w6.heap[k]? = some o → V.heap[k]? = some o := fun k o h => (b6.block k (Array.getElem?_eq_some_iff.1 h).1).trans h
 have c0 := vk _ _ rk0
 have c1 := vk _ _ rk1
 refine ⟨⟨?_, ?_, ?_, ?_, ?_, ?_, ?_, ?_, ?_, hx, hB⟩, b6, sV, k60⟩
 · rw [cell_of_row _ _ _ _ _ _ v0]; rfl
 · rw [cell_of_row _ _ _ _ _ _ v0]; rfl
 · rw [cell_of_row _ _ _ _ _ _ v0]; rfl
 · rw [cell_of_row _ _ _ _ _ _ v1]; rfl
 · rw [cell_of_row _ _ _ _ _ _ v2]; rfl
 · rw [cell_of_row _ _ _ _ _ _ c0]; rfl
 · rw [cell_of_row _ _ _ _ _ _ c0]; rfl
 · rw [cell_of_row _ _ _ _ _ _ c0]; rfl
 · rw [cell_of_row _ _ _ _ _ _ c1]; rfl
theorem rnK_0 (m : Mlt) (l : List Stp) (s : Nat) (R : Nat → Int) : rnK m l s R 0 = upd (upd R (2 + s * 2) (m.ct (s * 2))) (2 + s * 2 + 1) (m.ct (s * 2 + 1)) := by
 funext j
 simp only [rnK, upd, adK, wkD]
 repeat' split
 all_goals first | rfl | omega | (subst_vars; simp only [Int.add_zero])
theorem rnK_same {m : Mlt} {l : List Stp} {s : Nat} (R : Nat → Int) {k : Nat} (h : adK l s (k + 1) = adK l s k) : upd (upd (rnK m l s R k) (2 + s * 2) (wkD m crsPoor s (m.ct (s * 2)) l (k + 1))) (2 + s * 2 + 1) (wkD m crsRich s (m.ct (s * 2 + 1)) l (k + 1)) = rnK m l s R (k + 1) := by
 funext j
 simp only [rnK, upd, h]
 repeat' split
 all_goals first | rfl | omega
theorem run_stI {b i : Nat} {v : Int} (w : World) (c : Value) (h : w.cell? ⟨b, i, none⟩ = some c) (h' : w.frozen? ⟨b, i, none⟩ = false) : (storeVar 3 ⟨b, i, none⟩ (I v)).run Tryd.prog w = .ok () (w.setCell ⟨b, i, none⟩ (I v)) := by
 go_simp
theorem rnK_80 {m : Mlt} {l : List Stp} {s : Nat} {R : Nat → Int} {k : Nat} (h : R (8 + s * 2) = 0) : rnK m l s R k (8 + s * 2) = (adK l s k).1 := by
 rw [rnK, upd, if_neg (by omega), upd, if_pos rfl, h, Int.zero_add]
theorem rnK_81 {m : Mlt} {l : List Stp} {s : Nat} {R : Nat → Int} {k : Nat} (h : R (8 + s * 2 + 1) = 0) : rnK m l s R k (8 + s * 2 + 1) = (adK l s k).2 := by
 rw [rnK, upd, if_pos rfl, h, Int.zero_add]
theorem by_cells {W : World} {q s : Nat} {x : Stp} {t : TypeId} (hs : s < 3) (h : W.heap[q]? = some (.cells (stpArr x) t (0, 0))) : W.cell? ⟨q, 2 + s * 2, none⟩ = some (I (x.b (s * 2))) ∧ W.cell? ⟨q, 2 + s * 2 + 1, none⟩ = some (I (x.b (s * 2 + 1))) := by
 refine ⟨?_, ?_⟩ <;> rw [cell_of_row _ _ _ _ _ _ h]
 · rcases s with _ | _ | _ | s
   · rfl
   · rfl
   · rfl
   · omega
 · rcases s with _ | _ | _ | s
   · rfl
   · rfl
   · rfl
   · omega
theorem rnK_more {m : Mlt} {l : List Stp} {s : Nat} (R : Nat → Int) {k : Nat} : upd (upd (upd (upd (rnK m l s R k) (8 + s * 2) (R (8 + s * 2) + (adK l s (k + 1)).1)) (8 + s * 2 + 1) (R (8 + s * 2 + 1) + (adK l s (k + 1)).2)) (2 + s * 2) (wkD m crsPoor s (m.ct (s * 2)) l (k + 1))) (2 + s * 2 + 1) (wkD m crsRich s (m.ct (s * 2 + 1)) l (k + 1)) = rnK m l s R (k + 1) := by
 funext j
 simp only [rnK, upd]
 repeat' split
 all_goals first | rfl | omega
set_option maxRecDepth 100000 in
set_option maxHeartbeats 4000000 in
theorem fill_any (m : Mlt) (s nf : Nat) (ls : List Stp) (A : Option Addr) (d B rb : Nat) (sl : Value) (R : Nat → Int) (g : Nat → Nat → Int) (w : World) (hG : Glob w) (h3 : 3 ≤ B) (hs : s < 3) (hl : ls.length ≤ 200) (hM : isM m = true) (hE : ∀ j, j < ls.length → stE m ls j = 0) (hB : B ≤ rb) (hx : Rd w B 8 A ls.length (rT ls))
 (hrow : w.heap[rb]? = some (.cells (runArr sl R) 36 (0, 0))) (hnf : nf = fzK ls ls.length) (hsl : SlIn B w sl nf g) (hsv : ∃ a c, sl = .slice a nf c) (hsb : ∀ b, sl.ownBlock = some b → B ≤ b ∧ b < w.heap.size ∧ b ≠ rb) (hR : R (8 + s * 2) = 0 ∧ R (8 + s * 2 + 1) = 0) :
 Calls Tryd.prog 19 #[.agg (lnArr m A ls.length d s), .pointer (some ⟨rb, 0, none⟩)] w fun e w' => e = .returned (.tuple #[]) ∧ w'.heap[rb]? = some (.cells (runArr sl (rnF m ls s R)) 36 (0, 0)) ∧ SlIn B w' sl nf (slK m ls s g ls.length) ∧ Below B w w' ∧ KpS w.heap.size (fun k => k = rb ∨ sl.ownBlock = some k) w w' := by
 have hrl := (Array.getElem?_eq_some_iff.1 hrow).1
 obtain ⟨W, hW⟩ : ∃ W, W = (w.alloc (.cells (lnArr m A ls.length d s) 70)).alloc (.cells #[.pointer (some ⟨rb, 0, none⟩)] 47) := ⟨_, rfl⟩
 have hb0 : Below w.heap.size w W := by rw [hW]; exact ((Below.refl _ _).alloc (Nat.le_refl _) _).alloc (by simp) _
 have r0 : W.heap[w.heap.size]? = some (.cells (lnArr m A ls.length d s) 70 (0, 0)) := by rw [hW]; exact heap_before (heap_last _ _ _ rfl)
 have r1 : W.heap[w.heap.size + 1]? = some (.cells #[.pointer (some ⟨rb, 0, none⟩)] 47 (0, 0)) := by rw [hW]; exact heap_last _ _ _ (by simp)
 have sW : w.heap.size + 2 ≤ W.heap.size := by rw [hW]; simp
 have HW := Lib.hid hW
 have Hb0 := Lib.hid hb0
 have Hr0 := Lib.hid r0
 have Hr1 := Lib.hid r1
 have Hrow := Lib.hid hrow
 have Hsl := Lib.hid hsl
 have HG := Lib.hid hG
 have HX := Lib.hid hx
 have HE := Lib.hid hE
 have HM := Lib.hid hM
 have HR := Lib.hid hR
 have Hnf := Lib.hid hnf
 have y := fun k (v : Value) (h : (lnArr m A ls.length d s)[k]? = some v) => ovr_cell (show W.cell? ⟨w.heap.size, k, none⟩ = some v by rw [cell_of_row _ _ _ _ _ _ r0]; exact h)
 have y8 := y 8 _ rfl
 clear y hW hb0 r0 r1 hrow hsl hG hx hE hM hR hnf
 refine (callsIn_wide (n := 5)).1 ?_
 refine callsIn_of_wp_marks Tryd.func19 rfl trivial ?_ rfl
 simp only [Tryd.ntmps19, List.size_toArray, List.length_cons, List.length_nil, Nat.reduceAdd, Nat.reduceSub, Array.replicate_succ, Array.replicate_zero, List.push_toArray, List.append_toArray, List.nil_append, List.cons_append]
 refine wpIn_wide.2 ?_
 go_upto_region 1 with (fail)
 rw [← HW.out]
 refine wp_region_seq2 5 (fun j => if j = 2 then some (NewAt W #[I 0] 3) else if j = 3 then some (NewAt W #[I 0] 55) else if j = 4 then some (fun _ _ => True) else none) (by kernel_rfl) (by kernel_rfl) (by kernel_rfl) (by kernel_rfl) (by kernel_rfl) ?_
 simp only [List.take_succ_cons, List.take_zero, List.drop_succ_cons, List.drop_zero]
 repeat (refine wpG_one rfl rfl rfl ?_; intro K hK; go_big_quiet_op; go_big_quiet_on)
 refine wpG_make (NewAt W #[I 0] 3) rfl rfl (fun w' hw' _ => ?_) (fun u hu => ?_)
 · go_simp
   exact new_grow hw'
 obtain ⟨_, _, kb, rfl, _, _⟩ := hu
 simp only [Act.put, List.setIfInBounds_toArray, List.set_cons_zero, List.set_cons_succ]
 refine wpG_make (NewAt W #[I 0] 55) rfl rfl (fun w' hw' _ => ?_) (fun u hu => ?_)
 · go_simp
   exact new_grow hw'
 obtain ⟨_, _, sb, rfl, _, _⟩ := hu
 simp only [Act.put, List.setIfInBounds_toArray, List.set_cons_zero, List.set_cons_succ]
 refine wpG_make (fun _ _ => True) rfl rfl (fun w' hw' hkn => ?_) (fun u hu => ?_)
 · have hk := (Box.now (hkn ⟨2, .data⟩ (by simp) rfl _ _ _ rfl rfl rfl (by simp) rfl)).at
   have z0 : w'.cell? ⟨kb, 0, none⟩ = some (I 0) := by rw [cell_of_row _ _ _ _ _ _ hk.1]; rfl
   have z1 := frozen_of_row _ _ 0 _ _ hk.1
   clear hkn
   unfold Oper.grows
   go_simp
   rw [setCell_id hk.1 rfl]
   exact ⟨Le.refl _, fun _ _ => trivial⟩
 clear hu
 simp only [Act.put]
 refine wpG_nil (fun w5 hw5 hG => ?_)
 have hn1 := (Box.now hG.1.1.2).at
 have hn2 := (Box.now hG.1.2).at
 clear hG
 have hks : kb ≠ sb := by
  rintro rfl
  have := hn1.1.symm.trans hn2.1
  simp at this
 refine wpTailIn_cons Wd.wide (by intro c h; cases h) ?_
 have z0 : w5.cell? ⟨sb, 0, none⟩ = some (I 0) := by rw [cell_of_row _ _ _ _ _ _ hn2.1]; rfl
 have z1 := frozen_of_row _ _ 0 _ _ hn2.1
 unfold Oper.wp
 go_simp
 refine wpTailIn_nil ?_
 obtain ⟨Z, hZ⟩ : ∃ Z, Z = w5.setCell ⟨sb, 0, none⟩ (I s) := ⟨_, rfl⟩
 have rS : Z.heap[sb]? = some (.cells #[I s] 55 (0, 0)) := by rw [hZ]; exact rs hn2.1 0 _
 have rK : Z.heap[kb]? = some (.cells #[I 0] 3 (0, 0)) := by rw [hZ]; exact ro hn1.1 hks
 have hbZ : Below W.heap.size W Z := by rw [hZ]; exact Below.setCell hw5.le (p := ⟨sb, 0, none⟩) hn2.2 _
 have hbk := hn1.2
 have hbs := hn2.2
 have sZs := (Array.getElem?_eq_some_iff.1 rS).1
 have sZk := (Array.getElem?_eq_some_iff.1 rK).1
 rw [← hZ]
 clear hZ hn1 hn2 hw5 z0 z1 y8
 have hbz : Below w.heap.size w Z := Hb0.out.trans (hbZ.mono (by omega))
 have r0 := (hbZ.block _ (by omega)).trans Hr0.out
 have r1 := (hbZ.block _ (by omega)).trans Hr1.out
 have rr := (hbz.block _ hrl).trans Hrow.out
 have rl := Hsl.out.row (w' := Z) fun b hb _ hlt => hbz.block b hlt
 have HZ := Lib.hid hbz
 obtain ⟨q0, hq0⟩ : ∃ q, w.heap.size = q := ⟨_, rfl⟩
 rw [hq0] at r0 r1 ⊢
 have HZr := Lib.hid (And.intro r0 (And.intro r1 (And.intro rr (And.intro rS rK))))
 have Hrl := Lib.hid rl
 have y := fun k (v : Value) (h : (lnArr m A ls.length d s)[k]? = some v) => ovr_cell (show Z.cell? ⟨q0, k, none⟩ = some v by rw [cell_of_row _ _ _ _ _ _ r0]; exact h)
 have y0 := y 0 _ rfl
 have y1 := y 1 _ rfl
 have y2 := y 2 _ rfl
 have y3 := y 3 _ rfl
 have y4 := y 4 _ rfl
 have y5 := y 5 _ rfl
 have y6 := y 6 _ rfl
 have y7 := y 7 _ rfl
 have y8 := y 8 _ rfl
 have x0 := ovr_cell (show Z.cell? ⟨q0 + 1, 0, none⟩ = some (.pointer (some ⟨rb, 0, none⟩)) by rw [cell_of_row _ _ _ _ _ _ r1]; rfl)
 have x1 := ovr_cell (show Z.cell? ⟨sb, 0, none⟩ = some (I s) by rw [cell_of_row _ _ _ _ _ _ rS]; rfl)
 have x2 := ovr_cell (show Z.cell? ⟨kb, 0, none⟩ = some (I 0) by rw [cell_of_row _ _ _ _ _ _ rK]; rfl)
 obtain ⟨l0, l1, _⟩ := ln_lo hs r0
 have x3 := ovr_cell l0
 have x4 := ovr_cell l1
 have hss : decide ((s : Int) < 3) = true := decide_eq_true (by omega)
 have hsn : decide (s < 3) = true := decide_eq_true hs
 have hs0 : decide (0 ≤ (s : Int)) = true := decide_eq_true (by omega)
 clear y r0 r1 rr rl rS rK l0 l1 hbz
 go_upto_region 1 with (fail)
 refine wp_region_seq2 11 (fun _ => none) (by kernel_rfl) (by kernel_rfl) (by kernel_rfl) (by kernel_rfl) (by kernel_rfl) ?_
 simp only [List.take_succ_cons, List.take_zero, List.drop_succ_cons, List.drop_zero]
 repeat (refine wpG_one rfl rfl rfl ?_; intro K hK; go_big_quiet_op; go_big_quiet_on)
 refine wpG_nil (fun w5 hw5 hG => ?_)
 clear hG
 refine wpTailIn_cons Wd.wide (by intro c h; cases h) ?_
 have hw5b := hw5.le
 have rr5 := (hw5b.block _ (by have := HZ.out.size; omega)).trans HZr.out.2.2.1
 refine wp_store2 _ _ rfl rb (2 + s * 2) (by simp [Act.eval]) _ _ rfl _ _ rr5 (by simp; omega) ?_
 refine wpTailIn_nil ?_
 simp only [Act.put]
 obtain ⟨Y, hY⟩ : ∃ Y, Y = (w5.setCell ⟨rb, 2 + s * 2, none⟩ (I (m.ct (s * 2)))).setCell ⟨rb, 2 + s * 2 + 1, none⟩ (I (m.ct (s * 2 + 1))) := ⟨_, rfl⟩
 have sY : Y.heap.size = w5.heap.size := by rw [hY]; simp
 have oY : ∀ k, k ≠ rb → Y.heap[k]? = w5.heap[k]? := fun k hk => by rw [hY]; exact (heap_setCell_other _ _ _ _ hk).trans (heap_setCell_other _ _ _ _ hk)
 have rrY : Y.heap[rb]? = some (.cells (runArr sl (upd (upd R (2 + s * 2) (m.ct (s * 2))) (2 + s * 2 + 1) (m.ct (s * 2 + 1)))) 36 (0, 0)) := by
  rw [hY, ← run_set sl _ (2 + s * 2 + 1) _ (by omega), ← run_set sl _ (2 + s * 2) _ (by omega)]
  exact rs (rs rr5 _ _) _ _
 have bY : Below B w Y := by
  rw [hY]
  exact (((HZ.out.mono (by omega)).trans (hw5b.mono (by have := HZ.out.size; omega))).setCell (p := ⟨rb, 2 + s * 2, none⟩) hB _).setCell (p := ⟨rb, 2 + s * 2 + 1, none⟩) hB _
 have kY : KpS w.heap.size (fun k => k = rb ∨ sl.ownBlock = some k) w Y := ⟨fun k hk hn => (oY k fun e => hn (.inl e)).trans ((hw5b.block _ (by have := HZ.out.size; omega)).trans (HZ.out.block k hk)), bY.size⟩
 have lo5 : ∀ k o, k ≠ rb → Z.heap[k]? = some o → Y.heap[k]? = some o := fun k o hk h => (oY k hk).trans ((hw5b.block _ (Array.getElem?_eq_some_iff.1 h).1).trans h)
 have h5z := hw5b.size
 rw [← hY]
 have Hrr := Lib.hid rrY
 have HbY := Lib.hid bY
 have HkY := Lib.hid kY
 have r0 := lo5 _ _ (by omega) HZr.out.1
 have r1 := lo5 _ _ (by omega) HZr.out.2.1
 have rS := lo5 _ _ (by omega) HZr.out.2.2.2.1
 have rK := lo5 _ _ (by omega) HZr.out.2.2.2.2
 have rl := Hrl.out.row (w' := Y) fun b hb h1 hlt => (oY b (hsb b hb).2.2).trans (hw5b.block _ hlt)
 have sZY : Z.heap.size ≤ Y.heap.size := by omega
 clear hY sY oY rrY bY kY lo5 hw5b rr5 hw5 y0 y1 y2 y3 y4 y5 y6 y7 y8 x0 x1 x2 x3 x4 h5z HZr Hrl
 have HYr := Lib.hid (And.intro r0 (And.intro r1 (And.intro rS rK)))
 have HYl := Lib.hid rl
 clear rl
 have hmm := @run_makeMap Tryd.prog
 go_upto_region 1 with (fail)
 clear hmm
 obtain ⟨mp, hmp⟩ : ∃ q, Y.heap.size = q := ⟨_, rfl⟩
 rw [hmp]
 obtain ⟨M, hM⟩ : ∃ M, M = (Y.alloc (.map #[] 0)).alloc (.cells #[.map (some mp)] 121) := ⟨_, rfl⟩
 rw [← hM]
 have hP : FlP w B (mp + 2) rb q0 kb sb (mp + 1) mp sl := ⟨hB, hrl, by omega, by omega, by omega, hks, by omega, by omega, by omega, by omega, hsb⟩
 have sM : M.heap.size = mp + 2 := by rw [hM, ← hmp]; simp
 have oM : ∀ k, k < mp → M.heap[k]? = Y.heap[k]? := fun k hk => by
  rw [hM, Below.heap_alloc _ _ _ (by simp; omega), Below.heap_alloc _ _ _ (by omega)]
 have bYM : Below B Y M := by rw [hM]; exact ((Below.refl _ _).alloc (by omega) _).alloc (by simp; omega) _
 have I0 : FlI w B (mp + 2) m A ls.length d s rb sl nf q0 kb sb (mp + 1) mp 0 (hvR m s ls) 0 (upd (upd R (2 + s * 2) (m.ct (s * 2))) (2 + s * 2 + 1) (m.ct (s * 2 + 1))) g M :=
  ⟨(oM _ (by omega)).trans Hrr.out, HYl.out.row fun b hb _ hlt => oM b (by have := (hsb b hb).2.1; omega), (oM _ (by omega)).trans HYr.out.2.2.2, (oM _ (by omega)).trans HYr.out.2.2.1, (oM _ (by omega)).trans HYr.out.1, (oM _ (by omega)).trans HYr.out.2.1,
    by rw [hM]; have : Y.heap.size + 1 = mp + 1 := by omega
       rw [← this]; exact heap_last _ _ _ (by simp), by rw [hM, ← hmp]; exact (MpAt.made Y _).row (Below.heap_alloc _ _ _ (by simp)), HbY.out.trans bYM, HkY.out.trans ⟨fun k hk _ => oM k (by omega), bYM.size⟩, by omega⟩
 have GM := HG.out.lo I0.bl h3
 have r0 := I0.ra
 have y := fun k (v : Value) (h : (lnArr m A ls.length d s)[k]? = some v) => ovr_cell (show M.cell? ⟨q0, k, none⟩ = some v by rw [cell_of_row _ _ _ _ _ _ r0]; exact h)
 have y0 := y 0 _ rfl
 have y1 := y 1 _ rfl
 have y2 := y 2 _ rfl
 have y3 := y 3 _ rfl
 have y4 := y 4 _ rfl
 have y5 := y 5 _ rfl
 have y6 := y 6 _ rfl
 have y7 := y 7 _ rfl
 have y8 := y 8 _ rfl
 have x1 := ovr_cell (show M.cell? ⟨sb, 0, none⟩ = some (I s) by rw [cell_of_row _ _ _ _ _ _ I0.rs]; rfl)
 obtain ⟨l0, l1, _⟩ := ln_lo hs r0
 have x3 := ovr_cell l0
 have x4 := ovr_cell l1
 have g0 := ovr_cell GM.rh.1
 have g1 := ovr_cell GM.rh.2.1
 have g2 := ovr_cell GM.rh.2.2
 have HI0 := Lib.hid I0
 have HP := Lib.hid hP
 have sWB : B ≤ w.heap.size := by omega
 clear y r0 l0 l1 hM oM bYM I0 GM HYr HYl Hrr HbY HkY
 obtain ⟨lo, hlo⟩ : ∃ q, m.ct (s * 2) = q := ⟨_, rfl⟩
 obtain ⟨hi, hhi⟩ : ∃ q, m.ct (s * 2 + 1) = q := ⟨_, rfl⟩
 have Hlh : Hid ((0 ≤ lo ∧ lo ≤ 1000000000000) ∧ (0 ≤ hi ∧ hi ≤ 1000000000000)) := by
  have hb : bdB m.ct 1000000000000 = true := by have := HM.out; unfold isM at this; rw [Bool.and_eq_true] at this; exact this.2
  have := bdB_at hb hs
  rw [hlo, hhi] at this
  show (_ ∧ _) ∧ _
  omega
 have hloi := Lib.hid (And.intro hlo hhi)
 rw [hlo] at x3
 rw [hhi] at x4
 clear hlo hhi
 have cst : Hid (∀ (c : Crs) w', Calls Tryd.prog 27 #[.agg (crsArr c), .agg #[I lo, I hi]] w' fun e w'' => e = .returned (I (stF c lo hi)) ∧ Below w'.heap.size w' w'') := fun c w' => start_any c ⟨lo, hi⟩ w'
 refine wp_region_seq2 12 (fun j => if j = 7 then some (fun u _ => u = I hi) else if j = 11 then some (PkAt M crsRich A ls.length d) else none) (by kernel_rfl) (by kernel_rfl) (by kernel_rfl) (by kernel_rfl) (by kernel_rfl) ?_
 simp only [List.take_succ_cons, List.take_zero, List.drop_succ_cons, List.drop_zero]
 repeat (refine wpG_one rfl rfl rfl ?_; intro K hK; go_big_quiet_op; go_big_quiet_on)
 refine wpG_make (fun u _ => u = I hi) rfl rfl (fun w' hw' _ => ?_) (fun u hu => ?_)
 · go_simp
   exact call_grow (cst.out crsRich w')
 obtain ⟨_, _, rfl⟩ := hu
 simp only [Act.put, List.setIfInBounds_toArray, List.set_cons_zero, List.set_cons_succ]
 repeat (refine wpG_one rfl rfl rfl ?_; intro K hK; go_big_quiet_op; go_big_quiet_on)
 refine wpG_make (PkAt M crsRich A ls.length d) rfl rfl (fun w' hw' _ => ?_) (fun u hu => ?_)
 · go_simp
   exact pk_grow hw'
 obtain ⟨_, _, qk, rfl, _, _, _⟩ := hu
 simp only [Act.put, List.setIfInBounds_toArray, List.set_cons_zero, List.set_cons_succ]
 refine wpG_nil (fun w6 hw6 hG => ?_)
 have hk := Box.now hG.2
 clear hG
 refine wpTailIn_cons Wd.wide (by intro c h; cases h) ?_
 unfold Oper.wp
 go_simp
 refine (walk_any m A ls.length d s hi _ ⟨_, _, _, rfl⟩ w6).mono ?_
 rintro e V ⟨rfl, hV⟩
 refine wpTailIn_nil ?_
 obtain ⟨q', hqe, rk0, rk1, hqk⟩ := hk
 obtain rfl : qk = q' := by simp at hqe; first | exact hqe | exact hqe.1
 clear y0 y1 y2 y3 y4 y5 y6 y7 y8 x1 x3 x4 g0 g1 g2 hqe
 go_wp2_with fail
 obtain ⟨k6, hk6⟩ : ∃ k, w6.heap.size = k := ⟨_, rfl⟩
 rw [hk6]
 have hxB : ∀ W', Below B M W' → Rd W' B 8 A ls.length (rT ls) := fun W' h => HX.out.below (HI0.out.bl.trans h)
 have sM6 : mp + 2 ≤ k6 := by have := hw6.le.size; omega
 have b6' : Below M.heap.size M V := hw6.le.trans (by rw [hV]; exact (((Below.refl _ _).alloc (Nat.le_refl _) _).alloc (by simp) _).alloc (by simp; omega) _)
 obtain ⟨hwk, b6, sV, k60⟩ := wk_made hV hk6 rk0 rk1 (hxB V (b6'.mono (by omega))) (by have := b6'.size; omega)
 have hwa : WkAt V.heap.size (fun k => k = mp) B (k6 + 1) k6 (k6 + 2) qk (qk + 1) := ⟨by omega, fun k hk => by omega, ⟨by omega, by omega⟩, ⟨by omega, by omega⟩, ⟨by omega, by omega⟩, ⟨by omega, by omega⟩, ⟨by omega, by omega⟩⟩
 have IV := HI0.out.keep HP.out (fun b hb => b6'.block b (by omega)) (b6'.mono (by omega))
 have HxB := Lib.hid hxB
 have Hst : Hid (0 ≤ hi ∧ hi ≤ 1000000000000) := Hlh.out.2
 clear hV b6 b6' rk0 rk1 hw6 hxB
 have Hhi : Hid (∀ j, hvR m s ls j = ((chF (at0 ls j) s (wkD m crsRich s hi ls j) (msK m ls j)).1, (chF (at0 ls j) s (wkD m crsRich s hi ls j) (msK m ls j)).2, wkD m crsRich s hi ls (j + 1))) := fun j => by unfold hvR; rw [hloi.out.2]
 refine (wpIn_wide (n := 5)).1 ?_
 refine name_act fun a0 ha0 => ?_
 refine wpIn_rangeFunc_all rfl (by omega) (gf := 58) (lb := #[.pointer (some ⟨k6 + 1, 0, none⟩), .pointer (some ⟨k6, 0, none⟩), .pointer (some ⟨k6 + 2, 0, none⟩)]) (by rw [ha0]; rfl) trivial (enters_of Tryd.func58 (by kernel_rfl) rfl)
  (walk_all m crsRich s hi ls A d d B (k6 + 1) k6 (k6 + 2) qk (qk + 1) V.heap.size 4 (fun k => k = mp) V (by omega) hs Hst.out hl HM.out HE.out hwa (Nat.le_refl _) hwk)
  (fun h h' => KpS.trans h h') (fun W l o o' hl h _ _ => ⟨fun k hk _ => World.putObj_heap_other (by omega), by simp⟩) (Below.refl _ _) (fun _ => rfl)
  (fun k W => FlI w B (mp + 2) m A ls.length d s rb sl nf q0 kb sb (mp + 1) mp k (hvR m s ls) 0 (upd (upd R (2 + s * 2) (m.ct (s * 2))) (2 + s * 2 + 1) (m.ct (s * 2 + 1))) g W ∧ V.heap.size ≤ W.heap.size)
  (fun k W W' row hs hg hr => ⟨hs.1.grown HP.out hg (fun r e => by have := (hr r e).1; omega), Nat.le_trans hs.2 hg.size⟩)
  ⟨IV, Nat.le_refl _⟩
  (fun k a' W => ∃ Bx, W.heap[Bx]? = some (.cells (lvA m crsRich s hi ls k) 42 (0, 0)) ∧ V.heap.size ≤ Bx ∧
   a' = { tmps := (((a0.tmps.setIfInBounds 39 (I k)).setIfInBounds 40 (.agg (lvA m crsRich s hi ls k))).setIfInBounds 7 (I k)).setIfInBounds 8 (.pointer (some ⟨Bx, 0, none⟩)), defers := [] })
  (fun k a' s W W' row hs hg hr => by
   obtain ⟨Bx, h1, h2, h3⟩ := hs
   exact ⟨Bx, row_kept h1 hg hr, h2, h3⟩) ?assign ?body ?done
 case assign =>
  intro l k W K hk hi' hK
  have hK' := hK
  have hI' := hi'
  clear hK hi'
  subst ha0
  gi_wp2
  exact hK' _ _ ((KeepsOthers.alloc _ _).from _) ⟨fun k hk _ => Below.heap_alloc _ _ _ (by have := hI'.2; omega), by simp⟩ ⟨hI'.1.keep HP.out (fun b hb => Below.heap_alloc _ _ _ (by have := hI'.2; omega)) ((Below.refl _ _).alloc (by have := hI'.2; omega) _), by have := hI'.2; simp; omega⟩ ⟨W.heap.size, heap_last _ _ _ rfl, hI'.2, rfl⟩
 case body =>
  rintro l k a' X2 hl2 hk ⟨hI, hsX⟩ ⟨Bx, hBx, hBl, rfl⟩
  subst ha0
  have hF := Wd.round l
  have hBx : X2.heap[Bx]? = some (.cells #[I (chF (at0 ls k) s (wkD m crsRich s hi ls k) (msK m ls k)).1, I (chF (at0 ls k) s (wkD m crsRich s hi ls k) (msK m ls k)).2, I (wkD m crsRich s hi ls (k + 1))] 42 (0, 0)) := hBx
  have z0 : X2.cell? ⟨Bx, 0, none⟩ = some (I (hvR m s ls k).1) := by rw [cell_of_row _ _ _ _ _ _ hBx, Hhi.out]; rfl
  have z1 : X2.cell? ⟨Bx, 1, none⟩ = some (I (hvR m s ls k).2.1) := by rw [cell_of_row _ _ _ _ _ _ hBx, Hhi.out]; rfl
  have z2 : X2.cell? ⟨Bx, 2, none⟩ = some (I (hvR m s ls k).2.2) := by rw [cell_of_row _ _ _ _ _ _ hBx, Hhi.out]; rfl
  have z3 : X2.cell? ⟨mp + 1, 0, none⟩ = some (.map (some mp)) := by rw [cell_of_row _ _ _ _ _ _ hI.rm]; rfl
  have HI := Lib.hid hI
  have HS := Lib.hid hsX
  have hkl : k ≤ 1000000 := by omega
  clear hI hBx
  obtain ⟨h1, hh1⟩ : ∃ q, (hvR m s ls k).1 = q := ⟨_, rfl⟩
  obtain ⟨h2, hh2⟩ : ∃ q, (hvR m s ls k).2.1 = q := ⟨_, rfl⟩
  obtain ⟨h3', hh3⟩ : ∃ q, (hvR m s ls k).2.2 = q := ⟨_, rfl⟩
  rw [hh1] at z0
  rw [hh2] at z1
  rw [hh3] at z2
  gi_wp2_with (refine wpListIn_put3 rfl _ _ _ rfl mp k (hvR m s ls) rfl HI.out.mp hkl rfl (by rw [hh1, hh2, hh3]; rfl) (fun w' hm' hg' => ?_))
  exact ⟨⟨hg'.size, fun k' o hk' ho _ => (hg'.block k' (Array.getElem?_eq_some_iff.1 ho).1 (by intro e; cases e; omega)).trans ho⟩, ⟨fun k' hk' hne => hg'.block k' (by have := HS.out; omega) (by intro e; cases e; exact hne rfl), hg'.size⟩, HI.out.putM HP.out hm' hg', Nat.le_trans HS.out hg'.size⟩
 case done =>
  rintro D X hD ⟨hI, hsX⟩ hK
  subst ha0
  have r0 := hI.ra
  have GX := HG.out.lo hI.bl h3
  have y := fun k (v : Value) (h : (lnArr m A ls.length d s)[k]? = some v) => ovr_cell (show X.cell? ⟨q0, k, none⟩ = some v by rw [cell_of_row _ _ _ _ _ _ r0]; exact h)
  have y0 := y 0 _ rfl
  have y1 := y 1 _ rfl
  have y2 := y 2 _ rfl
  have y3 := y 3 _ rfl
  have y4 := y 4 _ rfl
  have y5 := y 5 _ rfl
  have y6 := y 6 _ rfl
  have y7 := y 7 _ rfl
  have y8 := y 8 _ rfl
  have x1 := ovr_cell (show X.cell? ⟨sb, 0, none⟩ = some (I s) by rw [cell_of_row _ _ _ _ _ _ hI.rs]; rfl)
  obtain ⟨l0, l1, _⟩ := ln_lo hs r0
  rw [hloi.out.1] at l0
  rw [hloi.out.2] at l1
  have x3 := ovr_cell l0
  have x4 := ovr_cell l1
  have g0 := ovr_cell GX.pr.1
  have g1 := ovr_cell GX.pr.2.1
  have g2 := ovr_cell GX.pr.2.2
  have HI := Lib.hid hI
  have HK := Lib.hid hK
  clear y r0 l0 l1 GX hI hK hwk hwa Hhi
  go_upto_region 1 with (fail)
  refine wp_region_seq2 12 (fun j => if j = 7 then some (fun u _ => u = I lo) else if j = 11 then some (PkAt X crsPoor A ls.length d) else none) (by kernel_rfl) (by kernel_rfl) (by kernel_rfl) (by kernel_rfl) (by kernel_rfl) ?_
  simp only [List.take_succ_cons, List.take_zero, List.drop_succ_cons, List.drop_zero]
  repeat (refine wpG_one rfl rfl rfl ?_; intro K hK; go_big_quiet_op; go_big_quiet_on)
  refine wpG_make (fun u _ => u = I lo) rfl rfl (fun w' hw' _ => ?_) (fun u hu => ?_)
  · go_simp
    exact call_grow (cst.out crsPoor w')
  obtain ⟨_, _, rfl⟩ := hu
  simp only [Act.put, List.setIfInBounds_toArray, List.set_cons_zero, List.set_cons_succ]
  repeat (refine wpG_one rfl rfl rfl ?_; intro K hK; go_big_quiet_op; go_big_quiet_on)
  refine wpG_make (PkAt X crsPoor A ls.length d) rfl rfl (fun w' hw' _ => ?_) (fun u hu => ?_)
  · go_simp
    exact pk_grow hw'
  obtain ⟨_, _, qj, rfl, _, _, _⟩ := hu
  simp only [Act.put, List.setIfInBounds_toArray, List.set_cons_zero, List.set_cons_succ]
  refine wpG_nil (fun w7 hw7 hG => ?_)
  have hk := Box.now hG.2
  clear hG
  refine wpTailIn_cons Wd.wide (by intro c h; cases h) ?_
  unfold Oper.wp
  go_simp
  refine (walk_any m A ls.length d s lo _ ⟨_, _, _, rfl⟩ w7).mono ?_
  rintro e U ⟨rfl, hU⟩
  refine wpTailIn_nil ?_
  obtain ⟨q', hqe, rk0, rk1, hqk⟩ := hk
  obtain rfl : qj = q' := by simp at hqe; first | exact hqe | exact hqe.1
  clear y0 y1 y2 y3 y4 y5 y6 y7 y8 x1 x3 x4 g0 g1 g2 hqe
  go_wp2_with fail
  obtain ⟨k7, hk7⟩ : ∃ k, w7.heap.size = k := ⟨_, rfl⟩
  rw [hk7]
  have hDX : D < X.heap.size := (Array.getElem?_eq_some_iff.1 HK.out).1
  have sX7 : X.heap.size ≤ k7 := by have := hw7.le.size; omega
  have b7' : Below X.heap.size X U := hw7.le.trans (by rw [hU]; exact (((Below.refl _ _).alloc (Nat.le_refl _) _).alloc (by simp) _).alloc (by simp; omega) _)
  have hxB : ∀ W', Below B X W' → Rd W' B 8 A ls.length (rT ls) := fun W' h => HX.out.below (HI.out.bl.trans h)
  obtain ⟨hwk, b7, sU, k70⟩ := wk_made hU hk7 rk0 rk1 (hxB U (b7'.mono (by omega))) (by have := b7'.size; omega)
  have hwa : WkAt U.heap.size (fun k => (k = rb ∨ sl.ownBlock = some k) ∨ k = kb) B (k7 + 1) k7 (k7 + 2) qj (qj + 1) := by
   have hsl' : ∀ k, sl.ownBlock = some k → B ≤ k ∧ k < X.heap.size := fun k h => by have := hsb k h; omega
   have hno : ∀ k, k < B ∨ X.heap.size ≤ k → ¬ ((k = rb ∨ sl.ownBlock = some k) ∨ k = kb) := by
        rintro k hk ((h | h) | h)
        · omega
        · have := hsl' k h; omega
        · omega
   exact ⟨by omega, fun k hk => hno k (.inl hk), ⟨by omega, hno _ (.inr (by omega))⟩, ⟨by omega, hno _ (.inr (by omega))⟩, ⟨by omega, hno _ (.inr (by omega))⟩, ⟨by omega, hno _ (.inr (by omega))⟩, ⟨by omega, hno _ (.inr (by omega))⟩⟩
  have IU : FlI w B (mp + 2) m A ls.length d s rb sl nf q0 kb sb (mp + 1) mp ls.length (hvR m s ls) (fzK ls 0) (rnK m ls s R 0) (slK m ls s g 0) U := by
   rw [rnK_0]; exact HI.out.keep HP.out (fun b hb => b7'.block b (by omega)) (b7'.mono (by omega))
  have DU := (b7'.block D hDX).trans HK.out
  have Hlo : Hid (0 ≤ lo ∧ lo ≤ 1000000000000) := Hlh.out.1
  have sXU := b7'.size
  have HxB : Hid (∀ W', Below B w W' → Rd W' B 8 A ls.length (rT ls)) := fun W' h => HX.out.below h
  clear hU b7 b7' rk0 rk1 hw7 hxB HI HK
  refine (wpIn_wide (n := 5)).1 ?_
  refine name_act fun a0 ha0 => ?_
  refine wpIn_rangeFunc_all rfl (by omega) (gf := 58) (lb := #[.pointer (some ⟨k7 + 1, 0, none⟩), .pointer (some ⟨k7, 0, none⟩), .pointer (some ⟨k7 + 2, 0, none⟩)]) (by rw [ha0]; rfl) trivial (enters_of Tryd.func58 (by kernel_rfl) rfl)
   (walk_all m crsPoor s lo ls A d d B (k7 + 1) k7 (k7 + 2) qj (qj + 1) U.heap.size 4 (fun k => (k = rb ∨ sl.ownBlock = some k) ∨ k = kb) U (by omega) hs Hlo.out hl HM.out HE.out hwa (Nat.le_refl _) hwk)
   (fun h h' => KpS.trans h h') (fun W l o o' hl h _ _ => ⟨fun k hk _ => World.putObj_heap_other (by omega), by simp⟩) (Below.refl _ _) (fun _ => rfl)
   (fun k W => FlI w B (mp + 2) m A ls.length d s rb sl nf q0 kb sb (mp + 1) mp ls.length (hvR m s ls) (fzK ls k) (rnK m ls s R k) (slK m ls s g k) W ∧ U.heap.size ≤ W.heap.size ∧ W.heap[D]? = some (.deferred (some [])))
   (fun k W W' row hs hg hr => ⟨hs.1.grown HP.out hg (fun r e => by have := (hr r e).1; omega), Nat.le_trans hs.2.1 hg.size, (hg.block D (Array.getElem?_eq_some_iff.1 hs.2.2).1 (fun e => by have := (hr D e.symm).1; omega)).trans hs.2.2⟩)
   ⟨IU, Nat.le_refl _, DU⟩
   (fun k a' W => ∃ Bx, W.heap[Bx]? = some (.cells (lvA m crsPoor s lo ls k) 42 (0, 0)) ∧ U.heap.size ≤ Bx ∧
        a' = { tmps := (((a0.tmps.setIfInBounds 57 (I k)).setIfInBounds 58 (.agg (lvA m crsPoor s lo ls k))).setIfInBounds 9 (I k)).setIfInBounds 10 (.pointer (some ⟨Bx, 0, none⟩)), defers := [] })
   (fun k a' s W W' row hs hg hr => by
        obtain ⟨Bx, h1, h2, h3⟩ := hs
        exact ⟨Bx, row_kept h1 hg hr, h2, h3⟩) ?assign ?body ?done
  case assign =>
   intro l k W K hk hi' hK
   have hK' := hK
   have hI' := hi'
   clear hK hi'
   subst ha0
   gi_wp2
   exact hK' _ _ ((KeepsOthers.alloc _ _).from _) ⟨fun k hk _ => Below.heap_alloc _ _ _ (by have := hI'.2.1; omega), by simp⟩ ⟨hI'.1.keep HP.out (fun b hb => Below.heap_alloc _ _ _ (by have := hI'.2.1; omega)) ((Below.refl _ _).alloc (by have := hI'.2.1; omega) _), by have := hI'.2.1; simp; omega, heap_before hI'.2.2⟩ ⟨W.heap.size, heap_last _ _ _ rfl, hI'.2.1, rfl⟩
  case body =>
   rintro l k a' X2 hl2 hk ⟨hI, hsX, hDX2⟩ ⟨Bx, hBx, hBl, rfl⟩
   subst ha0
   have hF := Wd.round l
   have ki : decide ((k : Int) < (ls.length : Int)) = true := decide_eq_true (by omega)
   have kn : decide (k < ls.length) = true := decide_eq_true hk
   obtain ⟨b, o, rfl, hbB, x0, x1, x2, x3, x4, x5, x6, x7⟩ := (HxB.out X2 hI.bl).stp hk
   have z0 : X2.cell? ⟨q0, 7, none⟩ = some (.slice (some ⟨b, o, none⟩) ls.length d) := by rw [cell_of_row _ _ _ _ _ _ hI.ra]; rfl
   have HI := Lib.hid hI
   have HS := Lib.hid hsX
   have HD := Lib.hid hDX2
   have HBx := Lib.hid hBx
   obtain ⟨x, hx⟩ : ∃ x, at0 ls k = x := ⟨_, rfl⟩
   have Hxx := Lib.hid hx
   rw [hx] at x0 x1 x2 x3 x4 x5 x6 x7
   clear hI hBx hsX hDX2 hwk hwa hx
   have y3 : X2.cell? ⟨kb, 0, none⟩ = some (I (fzK ls k)) := by rw [cell_of_row _ _ _ _ _ _ HI.out.rk]; rfl
   have hrn : rb < mp + 2 := by omega
   obtain ⟨dn, hdn⟩ : ∃ q, wkD m crsPoor s lo ls (k + 1) = q := ⟨_, rfl⟩
   have Hdn := Lib.hid hdn
   have fin : Hid (∀ (Y2 w5 : World) (kv : Int) (R' : Nat → Int) (g' : Nat → Nat → Int), KeepsFrom U.heap.size X2 Y2 → KpS U.heap.size (fun k => (k = rb ∨ sl.ownBlock = some k) ∨ k = kb) X2 Y2 → FlI w B (mp + 2) m (some ⟨b, o, none⟩) ls.length d s rb sl nf q0 kb sb (mp + 1) mp ls.length (hvR m s ls) kv R' g' Y2 →
    Y2.heap[D]? = some (.deferred (some [])) → Below Y2.heap.size Y2 w5 → kv = fzK ls (k + 1) → upd (upd R' (2 + s * 2) dn) (2 + s * 2 + 1) (hvR m s ls k).2.2 = rnK m ls s R (k + 1) → g' = slK m ls s g (k + 1) →
    KeepsFrom U.heap.size X2 ((w5.setCell ⟨rb, 2 + s * 2, none⟩ (I dn)).setCell ⟨rb, 2 + s * 2 + 1, none⟩ (I (hvR m s ls k).2.2)) ∧ KpS U.heap.size (fun k => (k = rb ∨ sl.ownBlock = some k) ∨ k = kb) X2 ((w5.setCell ⟨rb, 2 + s * 2, none⟩ (I dn)).setCell ⟨rb, 2 + s * 2 + 1, none⟩ (I (hvR m s ls k).2.2)) ∧
    FlI w B (mp + 2) m (some ⟨b, o, none⟩) ls.length d s rb sl nf q0 kb sb (mp + 1) mp ls.length (hvR m s ls) (fzK ls (k + 1)) (rnK m ls s R (k + 1)) (slK m ls s g (k + 1)) ((w5.setCell ⟨rb, 2 + s * 2, none⟩ (I dn)).setCell ⟨rb, 2 + s * 2 + 1, none⟩ (I (hvR m s ls k).2.2)) ∧
    U.heap.size ≤ ((w5.setCell ⟨rb, 2 + s * 2, none⟩ (I dn)).setCell ⟨rb, 2 + s * 2 + 1, none⟩ (I (hvR m s ls k).2.2)).heap.size ∧ ((w5.setCell ⟨rb, 2 + s * 2, none⟩ (I dn)).setCell ⟨rb, 2 + s * 2 + 1, none⟩ (I (hvR m s ls k).2.2)).heap[D]? = some (.deferred (some []))) := by
        intro Y2 w5 kv R' g' hkf hkp hfi hd hb e1 e2 e3
        subst e1
        rw [← e2, ← e3]
        have hsY := hkf.size
        have hs2 := HS.out
        have hs5 := hb.size
        have I5 := hfi.keep HP.out (fun b' hb' => hb.block b' (by omega)) (hb.mono (by have := HP.out.hB; omega))
        have I6 := (I5.set HP.out (2 + s * 2) (by omega) dn).set HP.out (2 + s * 2 + 1) (by omega) (hvR m s ls k).2.2
        have o6 : ∀ b', b' ≠ rb → ((w5.setCell ⟨rb, 2 + s * 2, none⟩ (I dn)).setCell ⟨rb, 2 + s * 2 + 1, none⟩ (I (hvR m s ls k).2.2)).heap[b']? = w5.heap[b']? := fun b' hb' => (heap_setCell_other _ _ _ _ hb').trans (heap_setCell_other _ _ _ _ hb')
        have hDm := (Array.getElem?_eq_some_iff.1 hd).1
        refine ⟨hkf.trans (KeepsFrom.trans ⟨hs5, fun k o _ ho hc => (hb.block k (Array.getElem?_eq_some_iff.1 ho).1).trans ho⟩ (((KeepsOthers.setCell _ _ _).from _).trans ((KeepsOthers.setCell _ _ _).from _))), hkp.trans ⟨fun k' hk' hn => (o6 k' fun e => hn (.inl (.inl e))).trans (hb.block k' (by omega)), by simp; omega⟩, I6, by simp; omega, (o6 D (by omega)).trans ((hb.block D hDm).trans hd)⟩
   obtain ⟨X3, hX3⟩ : ∃ X3, X3 = X2.alloc (.cells (stpArr x) 33) := ⟨_, rfl⟩
   have b23 : Below X2.heap.size X2 X3 := by rw [hX3]; exact (Below.refl _ _).alloc (Nat.le_refl _) _
   have I3 := HI.out.keep HP.out (fun b' hb' => b23.block b' (by have := HS.out; omega)) (b23.mono (by have := HS.out; omega))
   have KF3 : KeepsFrom U.heap.size X2 X3 := ⟨b23.size, fun k o _ ho hc => (b23.block k (Array.getElem?_eq_some_iff.1 ho).1).trans ho⟩
   have KP3 : KpS U.heap.size (fun k => (k = rb ∨ sl.ownBlock = some k) ∨ k = kb) X2 X3 := KpS.of_below b23 HS.out
   have D3 : X3.heap[D]? = some (.deferred (some [])) := (b23.block D (Array.getElem?_eq_some_iff.1 HD.out).1).trans HD.out
   have B3 : X3.heap[Bx]? = some (.cells (lvA m crsPoor s lo ls k) 42 (0, 0)) := (b23.block Bx (Array.getElem?_eq_some_iff.1 HBx.out).1).trans HBx.out
   have T3 : X3.heap[X2.heap.size]? = some (.cells (stpArr x) 33 (0, 0)) := by rw [hX3]; exact heap_last _ _ _ rfl
   have H3 := Lib.hid (And.intro I3 (And.intro KF3 (And.intro KP3 (And.intro D3 (And.intro B3 T3)))))
   have HX3 := Lib.hid hX3
   have hkx : x.kd = 1 ∨ x.kd = 2 ∨ x.kd = 3 ∨ x.kd = 4 := by rw [← Hxx.out]; exact isS_kd (stE_isS (HE.out k hk))
   clear hX3 b23 I3 KF3 KP3 D3 B3 T3 hdn
   by_cases h1 : x.kd = 1
   · have e1 : (x.kd == 1) = true := by simpa using h1
     have H1 := Lib.hid h1
     clear hkx h1
     gi_upto_region 14 with (fail)
     rw [← HX3.out]
     obtain ⟨HF, HKF, HKP, HDY, HBY, _⟩ := H3.out
     have hfk : fzK ls (k + 1) = fzK ls k + 1 := by rw [fzK, Hxx.out, if_pos H1.out]
     have hfn : fzK ls k < nf := by
      have := fzK_mono ls (show k + 1 ≤ ls.length by omega)
      have := Hnf.out
      omega
     have HBY : Hid (X3.heap[Bx]? = some (.cells #[I (chF (at0 ls k) s (wkD m crsPoor s lo ls k) (msK m ls k)).1, I (chF (at0 ls k) s (wkD m crsPoor s lo ls k) (msK m ls k)).2, I dn] 42 (0, 0))) := by rw [← Hdn.out]; exact HBY
     rcases HF.rl with h0 | ⟨b1, c, cs, rfl, hb1, hb2, hb3⟩
     · omega
     have HF := Lib.hid HF
     have Hfk := Lib.hid hfk
     obtain ⟨fk, hfk0⟩ : ∃ q, fzK ls k = q := ⟨_, rfl⟩
     have HF : Hid (FlI w B (mp + 2) m (some ⟨b, o, none⟩) ls.length d s rb (.slice (some ⟨b1, 0, none⟩) nf c) nf q0 kb sb (mp + 1) mp ls.length (hvR m s ls) (fk : Int) (rnK m ls s R k) (slK m ls s g k) X3) := by rw [← hfk0]; exact HF.out
     rw [hfk0] at hfn
     obtain ⟨lv, hlv⟩ : ∃ q, (chF (at0 ls k) s (wkD m crsPoor s lo ls k) (msK m ls k)).1 = q := ⟨_, rfl⟩
     have Hfk0 := Lib.hid (And.intro hfk0 hlv)
     have i1 : decide ((fk : Int) < (nf : Int)) = true := decide_eq_true (by omega)
     have i2 : decide (fk < nf) = true := decide_eq_true hfn
     have i3 : decide (0 ≤ (fk : Int)) = true := decide_eq_true (by omega)
     have w1 : IntKind.i64.wrap ((fk : Int) + 1) = (fk : Int) + 1 := IntWalk.i64_in _ (by have := fzK_le ls k; omega)
     have p0 := ovr_cell (show X3.cell? ⟨q0 + 1, 0, none⟩ = some (.pointer (some ⟨rb, 0, none⟩)) by rw [cell_of_row _ _ _ _ _ _ HF.out.rp]; rfl)
     have p1 := ovr_cell (show X3.cell? ⟨sb, 0, none⟩ = some (I s) by rw [cell_of_row _ _ _ _ _ _ HF.out.rs]; rfl)
     have p2 := ovr_cell (show X3.cell? ⟨Bx, 0, none⟩ = some (I lv) by rw [cell_of_row _ _ _ _ _ _ HBY.out, ← hlv]; rfl)
     have p3 := ovr_cell (show X3.cell? ⟨mp + 1, 0, none⟩ = some (.map (some mp)) by rw [cell_of_row _ _ _ _ _ _ HF.out.rm]; rfl)
     have p4 := ovr_cell (show X3.cell? ⟨rb, 0, none⟩ = some (.slice (some ⟨b1, 0, none⟩) nf c) by rw [cell_of_row _ _ _ _ _ _ HF.out.rr]; rfl)
     have p5 := ovr_cell (show X3.cell? ⟨kb, 0, none⟩ = some (I (fk : Int)) by rw [cell_of_row _ _ _ _ _ _ HF.out.rk]; rfl)
     clear hfk hfk0 hlv
     refine wpIn_region_seq 16 hF (fun j => if j = 10 then some (fun u _ => u = .agg #[I (hvR m s ls k).1, I (hvR m s ls k).2.1, I (hvR m s ls k).2.2]) else none) (by kernel_rfl) (by kernel_rfl) (by kernel_rfl) (by kernel_rfl) (by kernel_rfl) ?_
     simp only [List.take_succ_cons, List.take_zero, List.drop_succ_cons, List.drop_zero]
     iterate 10 (refine wpG_one rfl rfl rfl ?_; intro K hK; go_big_quiet_op; go_big_quiet_on)
     refine wpG_make (fun u _ => u = .agg #[I (hvR m s ls k).1, I (hvR m s ls k).2.1, I (hvR m s ls k).2.2]) rfl rfl (fun w' hw' _ => grow_look3 hw' _ _ rfl mp ls.length (hvR m s ls) rfl HF.out.mp k hk (by omega) rfl) (fun u hu => ?_)
     obtain ⟨_, _, rfl⟩ := hu
     simp only [Act.put, List.setIfInBounds_toArray, List.set_cons_zero, List.set_cons_succ]
     refine wpG_one rfl rfl rfl ?_
     intro K hK
     refine quiet_ix3_1 _ rfl _ _ _ rfl (hK _ ?_)
     simp only [Act.put, List.setIfInBounds_toArray, List.set_cons_zero, List.set_cons_succ]
     repeat (refine wpG_one rfl rfl rfl ?_; intro K hK; go_big_quiet_op; go_big_quiet_on)
     refine wpG_nil (fun w5 hw5 hG => ?_)
     clear hG p0 p1 p2 p3 p4 p5 i1 i2 i3
     have b5 := hw5.le
     have h5s := HF.out.sz
     have hb1n : b1 < w.heap.size := (hsb b1 rfl).2.1
     have hb1r : b1 ≠ rb := (hsb b1 rfl).2.2
     have F5 := HF.out.keep HP.out (fun b' hb' => b5.block b' (by omega)) (b5.mono (by have := HP.out.hB; omega))
     have r5 := (b5.block b1 (by omega)).trans hb2
     have hcs : fk * 7 + (1 + s * 2) + 1 < cs.size := (Array.getElem?_eq_some_iff.1 (hb3 fk (1 + s * 2 + 1) hfn (by omega))).1
     refine wpTailIn_cons hF (by intro c h; cases h) ?_
     refine wp_store2 _ _ rfl b1 (fk * 7 + (1 + s * 2)) (by simp [Act.eval]) _ _ rfl cs 50 r5 hcs ?_
     refine wpTailIn_nil ?_
     simp only [Act.put]
     obtain ⟨Y1, hY1⟩ : ∃ Y1, Y1 = (w5.setCell ⟨b1, fk * 7 + (1 + s * 2), none⟩ (I lv)).setCell ⟨b1, fk * 7 + (1 + s * 2) + 1, none⟩ (I (hvR m s ls k).2.1) := ⟨_, rfl⟩
     have oY : ∀ b', b' ≠ b1 → Y1.heap[b']? = w5.heap[b']? := fun b' hb' => by rw [hY1]; exact (heap_setCell_other _ _ _ _ hb').trans (heap_setCell_other _ _ _ _ hb')
     have F1 := F5.setS HP.out r5 hb3 hfn (show 1 + s * 2 + 1 < 7 by omega) lv (hvR m s ls k).2.1
     rw [← hY1] at F1
     have hkf1 : KeepsFrom U.heap.size X2 Y1 := HKF.trans (KeepsFrom.trans ⟨b5.size, fun k o _ ho hc => (b5.block k (Array.getElem?_eq_some_iff.1 ho).1).trans ho⟩ (by rw [hY1]; exact ((KeepsOthers.setCell _ _ _).from _).trans ((KeepsOthers.setCell _ _ _).from _)))
     have hs3X : U.heap.size ≤ X3.heap.size := Nat.le_trans HS.out HKF.size
     have hkp1 : KpS U.heap.size (fun k => (k = rb ∨ (Value.slice (some ⟨b1, 0, none⟩) nf c).ownBlock = some k) ∨ k = kb) X2 Y1 := HKP.trans ⟨fun k' hk' hn => (oY k' fun e => hn (.inl (.inr (by rw [e]; rfl)))).trans (b5.block k' (by omega)), by rw [hY1]; simpa using b5.size⟩
     have D1 := (oY D (by omega)).trans ((b5.block D (Array.getElem?_eq_some_iff.1 HDY).1).trans HDY)
     have B1 := (oY Bx (by omega)).trans ((b5.block Bx (Array.getElem?_eq_some_iff.1 HBY.out).1).trans HBY.out)
     rw [← hY1]
     clear hY1 oY F5 b5 hw5 HKF HKP HDY HBY HF h5s r5 hcs hb2 hb3
     have HKF := Lib.hid hkf1
     have HKP := Lib.hid hkp1
     have HDY := Lib.hid D1
     have HBY := Lib.hid B1
     have HF := Lib.hid F1
     clear hkf1 hkp1 D1 B1 F1
     have z0 : Y1.cell? ⟨kb, 0, none⟩ = some (I (fk : Int)) := by rw [cell_of_row _ _ _ _ _ _ HF.out.rk]; rfl
     have z1 := frozen_of_row _ _ 0 _ _ HF.out.rk
     gi_upto_region 14 with (fail)
     obtain ⟨Y2, hY2⟩ : ∃ Y2, Y2 = Y1.setCell ⟨kb, 0, none⟩ (I ((fk : Int) + 1)) := ⟨_, rfl⟩
     have oY : ∀ b', b' ≠ kb → Y2.heap[b']? = Y1.heap[b']? := fun b' hb' => by rw [hY2]; exact heap_setCell_other _ _ _ _ hb'
     have F1 := HF.out.setK HP.out ((fk : Int) + 1)
     rw [← hY2] at F1
     have hkf1 : KeepsFrom U.heap.size X2 Y2 := HKF.out.trans (by rw [hY2]; exact (KeepsOthers.setCell _ _ _).from _)
     have hkp1 : KpS U.heap.size (fun k => (k = rb ∨ (Value.slice (some ⟨b1, 0, none⟩) nf c).ownBlock = some k) ∨ k = kb) X2 Y2 := HKP.out.trans ⟨fun k' hk' hn => oY k' fun e => hn (.inr e), by rw [hY2]; simp⟩
     have hkM : kb < mp := HP.out.hmk
     have D1 := (oY D (by omega)).trans HDY.out
     have B1 := (oY Bx (by omega)).trans HBY.out
     rw [← hY2]
     clear hY2 oY z0 z1 HKF HKP HDY HBY HF w1
     have HKF := Lib.hid hkf1
     have HKP := Lib.hid hkp1
     have HDY := Lib.hid D1
     have HBY := Lib.hid B1
     have HF := Lib.hid F1
     clear hkf1 hkp1 D1 B1 F1
     have E1 : Hid ((fk : Int) + 1 = fzK ls (k + 1)) := by show _ = _; rw [Hfk.out, Hfk0.out.1]; omega
     have E2 : Hid (upd (upd (rnK m ls s R k) (2 + s * 2) dn) (2 + s * 2 + 1) (hvR m s ls k).2.2 = rnK m ls s R (k + 1)) := by
      rw [← Hdn.out, ← hloi.out.1]
      exact rnK_same R (by rw [adK, Hxx.out, if_neg (by have := H1.out; omega)])
     have E3 : Hid (upd2 (slK m ls s g k) fk (1 + s * 2) lv (hvR m s ls k).2.1 = slK m ls s g (k + 1)) := by
      show _ = _
      rw [slK, Hxx.out, if_pos H1.out, Hfk0.out.1, ← Hfk0.out.2, ← hloi.out.1]
     have p0 := ovr_cell (show Y2.cell? ⟨q0 + 1, 0, none⟩ = some (.pointer (some ⟨rb, 0, none⟩)) by rw [cell_of_row _ _ _ _ _ _ HF.out.rp]; rfl)
     have p1 := ovr_cell (show Y2.cell? ⟨sb, 0, none⟩ = some (I s) by rw [cell_of_row _ _ _ _ _ _ HF.out.rs]; rfl)
     have p2 := ovr_cell (show Y2.cell? ⟨Bx, 2, none⟩ = some (I dn) by rw [cell_of_row _ _ _ _ _ _ HBY.out]; rfl)
     have p3 := ovr_cell (show Y2.cell? ⟨mp + 1, 0, none⟩ = some (.map (some mp)) by rw [cell_of_row _ _ _ _ _ _ HF.out.rm]; rfl)
     refine wpIn_region_seq 13 hF (fun j => if j = 6 then some (fun u _ => u = .agg #[I (hvR m s ls k).1, I (hvR m s ls k).2.1, I (hvR m s ls k).2.2]) else none) (by kernel_rfl) (by kernel_rfl) (by kernel_rfl) (by kernel_rfl) (by kernel_rfl) ?_
     simp only [List.take_succ_cons, List.take_zero, List.drop_succ_cons, List.drop_zero]
     iterate 6 (refine wpG_one rfl rfl rfl ?_; intro K hK; go_big_quiet_op; go_big_quiet_on)
     refine wpG_make (fun u _ => u = .agg #[I (hvR m s ls k).1, I (hvR m s ls k).2.1, I (hvR m s ls k).2.2]) rfl rfl (fun w' hw' _ => grow_look3 hw' _ _ rfl mp ls.length (hvR m s ls) rfl HF.out.mp k hk (by omega) rfl) (fun u hu => ?_)
     obtain ⟨_, _, rfl⟩ := hu
     simp only [Act.put, List.setIfInBounds_toArray, List.set_cons_zero, List.set_cons_succ]
     refine wpG_one rfl rfl rfl ?_
     intro K hK
     refine quiet_ix3_2 _ rfl _ _ _ rfl (hK _ ?_)
     simp only [Act.put, List.setIfInBounds_toArray, List.set_cons_zero, List.set_cons_succ]
     repeat (refine wpG_one rfl rfl rfl ?_; intro K hK; go_big_quiet_op; go_big_quiet_on)
     refine wpG_nil (fun w5 hw5 hG => ?_)
     clear hG
     refine wpTailIn_cons hF (by intro c h; cases h) ?_
     refine wp_store2 _ _ rfl rb (2 + s * 2) (by simp [Act.eval]) _ _ rfl _ _ ((hw5.le.block _ (by have := HF.out.sz; have := HP.out; omega)).trans HF.out.rr) (by simp; omega) ?_
     refine wpTailIn_nil ?_
     simp only [Act.put]
     exact fin.out Y2 w5 _ _ _ HKF.out HKP.out HF.out HDY.out hw5.le E1.out E2.out E3.out
   by_cases h23 : x.kd = 2 ∨ x.kd = 3
   · have H1 := Lib.hid h23
     have e1 : (x.kd == 1) = false := by simpa using h1
     clear hkx h1
     rcases h23 with h2 | h2
     · have e2 : (x.kd == 2) = true := by simpa using h2
       clear h2
       gi_upto_region 14 with (fail)
       rw [← HX3.out]
       obtain ⟨HF, HKF, HKP, HDY, HBY, HTY⟩ := H3.out
       have HF := Lib.hid HF
       have HBY : Hid (X3.heap[Bx]? = some (.cells #[I (chF (at0 ls k) s (wkD m crsPoor s lo ls k) (msK m ls k)).1, I (chF (at0 ls k) s (wkD m crsPoor s lo ls k) (msK m ls k)).2, I dn] 42 (0, 0))) := by rw [← Hdn.out]; exact HBY
       have h80 : rnK m ls s R k (8 + s * 2) = (adK ls s k).1 := rnK_80 HR.out.1
       have h81 : rnK m ls s R k (8 + s * 2 + 1) = (adK ls s k).2 := rnK_81 HR.out.2
       obtain ⟨tb, htb⟩ : ∃ q, X2.heap.size = q := ⟨_, rfl⟩
       have hrt : rb < tb := by rw [← htb]; have := HS.out; omega
       rw [htb] at HTY ⊢
       have hq4 := by_cells hs HTY
       have p0 := ovr_cell (show X3.cell? ⟨q0 + 1, 0, none⟩ = some (.pointer (some ⟨rb, 0, none⟩)) by rw [cell_of_row _ _ _ _ _ _ HF.out.rp]; rfl)
       have p1 := ovr_cell (show X3.cell? ⟨sb, 0, none⟩ = some (I s) by rw [cell_of_row _ _ _ _ _ _ HF.out.rs]; rfl)
       have p4 := ovr_cell (show X3.cell? ⟨rb, 8 + s * 2, none⟩ = some (I (adK ls s k).1) by rw [cell_of_row _ _ _ _ _ _ HF.out.rr, run_at _ _ _ (by omega), h80])
       have p5 := ovr_cell hq4.1
       have hab := adK_bd (m := m) (l := ls) hs k (fun j hj => HE.out j (by omega))
       have hab1 := adK_bd (m := m) (l := ls) hs (k + 1) (fun j hj => HE.out j (by omega))
       have had : adK ls s (k + 1) = ((adK ls s k).1 + x.b (s * 2), (adK ls s k).2 + x.b (s * 2 + 1)) := by rw [adK, Hxx.out, if_pos H1.out]
       rw [had] at hab1
       simp only at hab1
       have Had := Lib.hid had
       obtain ⟨a0', ha0'⟩ : ∃ q, (adK ls s k).1 = q := ⟨_, rfl⟩
       obtain ⟨a1', ha1'⟩ : ∃ q, (adK ls s k).2 = q := ⟨_, rfl⟩
       have Had : Hid (adK ls s (k + 1) = (a0' + x.b (s * 2), a1' + x.b (s * 2 + 1))) := by rw [← ha0', ← ha1']; exact Had
       rw [ha0', ha1'] at hab hab1
       rw [ha0'] at p4 h80
       rw [ha1'] at h81
       clear ha0' ha1' had
       have w1 : IntKind.i64.wrap (a0' + x.b (s * 2)) = a0' + x.b (s * 2) := IntWalk.i64_in _ (by omega)
       have w2 : IntKind.i64.wrap (a1' + x.b (s * 2 + 1)) = a1' + x.b (s * 2 + 1) := IntWalk.i64_in _ (by omega)
       clear hab hab1
       have H8 := Lib.hid (And.intro h80 h81)
       clear h80 h81
       refine wpIn_region_seq 17 hF (fun _ => none) (by kernel_rfl) (by kernel_rfl) (by kernel_rfl) (by kernel_rfl) (by kernel_rfl) ?_
       simp only [List.take_succ_cons, List.take_zero, List.drop_succ_cons, List.drop_zero]
       repeat (refine wpG_one rfl rfl rfl ?_; intro K hK; go_big_quiet_op; go_big_quiet_on)
       refine wpG_nil (fun w5 hw5 hG => ?_)
       clear hG p0 p1 p4 p5
       have b5 := hw5.le
       have h5s := HF.out.sz
       have F5 := HF.out.keep HP.out (fun b' hb' => b5.block b' (by omega)) (b5.mono (by have := HP.out.hB; omega))
       have z0 : w5.cell? ⟨rb, 8 + s * 2, none⟩ = some (I a0') := by rw [cell_of_row _ _ _ _ _ _ F5.rr, run_at _ _ _ (by omega), H8.out.1]
       have z1 := frozen_of_row _ _ (8 + s * 2) _ _ F5.rr
       refine wpTailIn_cons hF (by intro c h; cases h) ?_
       unfold Oper.wp
       go_simp
       refine wpTailIn_nil ?_
       obtain ⟨Y1, hY1⟩ : ∃ Y1, Y1 = w5.setCell ⟨rb, 8 + s * 2, none⟩ (I (a0' + x.b (s * 2))) := ⟨_, rfl⟩
       have oY : ∀ b', b' ≠ rb → Y1.heap[b']? = w5.heap[b']? := fun b' hb' => by rw [hY1]; exact heap_setCell_other _ _ _ _ hb'
       have F1 := F5.set HP.out (8 + s * 2) (by omega) (a0' + x.b (s * 2))
       rw [← hY1] at F1
       have hkf1 : KeepsFrom U.heap.size X2 Y1 := HKF.trans (KeepsFrom.trans ⟨b5.size, fun k o _ ho hc => (b5.block k (Array.getElem?_eq_some_iff.1 ho).1).trans ho⟩ (by rw [hY1]; exact (KeepsOthers.setCell _ _ _).from _))
       have hs3X : U.heap.size ≤ X3.heap.size := Nat.le_trans HS.out HKF.size
       have hkp1 : KpS U.heap.size (fun k => (k = rb ∨ sl.ownBlock = some k) ∨ k = kb) X2 Y1 := HKP.trans ⟨fun k' hk' hn => (oY k' fun e => hn (.inl (.inl e))).trans (b5.block k' (by omega)), by rw [hY1]; simpa using b5.size⟩
       have D1 := (oY D (by omega)).trans ((b5.block D (Array.getElem?_eq_some_iff.1 HDY).1).trans HDY)
       have B1 := (oY Bx (by omega)).trans ((b5.block Bx (Array.getElem?_eq_some_iff.1 HBY.out).1).trans HBY.out)
       have T1 := (oY tb (by omega)).trans ((b5.block tb (Array.getElem?_eq_some_iff.1 HTY).1).trans HTY)
       rw [← hY1]
       clear hY1 oY F5 b5 hw5 z0 z1 HKF HKP HDY HBY HTY HF h5s hq4 w1
       have HKF := Lib.hid hkf1
       have HKP := Lib.hid hkp1
       have HDY := Lib.hid D1
       have HBY := Lib.hid B1
       have HF := Lib.hid F1
       have hq4 := by_cells hs T1
       clear hkf1 hkp1 D1 B1 F1
       have p0 := ovr_cell (show Y1.cell? ⟨q0 + 1, 0, none⟩ = some (.pointer (some ⟨rb, 0, none⟩)) by rw [cell_of_row _ _ _ _ _ _ HF.out.rp]; rfl)
       have p1 := ovr_cell (show Y1.cell? ⟨sb, 0, none⟩ = some (I s) by rw [cell_of_row _ _ _ _ _ _ HF.out.rs]; rfl)
       have hu : upd (rnK m ls s R k) (8 + s * 2) (a0' + x.b (s * 2)) (8 + s * 2 + 1) = a1' := by rw [← H8.out.2, upd, if_neg (by omega)]
       have p4 := ovr_cell (show Y1.cell? ⟨rb, 8 + s * 2 + 1, none⟩ = some (I a1') by rw [cell_of_row _ _ _ _ _ _ HF.out.rr, run_at _ _ _ (by omega), hu])
       have p5 := ovr_cell hq4.2
       gi_upto_region 14 with (fail)
       refine wpIn_region_seq 17 hF (fun _ => none) (by kernel_rfl) (by kernel_rfl) (by kernel_rfl) (by kernel_rfl) (by kernel_rfl) ?_
       simp only [List.take_succ_cons, List.take_zero, List.drop_succ_cons, List.drop_zero]
       repeat (refine wpG_one rfl rfl rfl ?_; intro K hK; go_big_quiet_op; go_big_quiet_on)
       refine wpG_nil (fun w5 hw5 hG => ?_)
       clear hG p0 p1 p4 p5 hq4
       have b5 := hw5.le
       have h5s := HF.out.sz
       have F5 := HF.out.keep HP.out (fun b' hb' => b5.block b' (by omega)) (b5.mono (by have := HP.out.hB; omega))
       have z0 : w5.cell? ⟨rb, 8 + s * 2 + 1, none⟩ = some (I a1') := by rw [cell_of_row _ _ _ _ _ _ F5.rr, run_at _ _ _ (by omega), hu]
       have z1 := frozen_of_row _ _ (8 + s * 2 + 1) _ _ F5.rr
       clear hu
       refine wpTailIn_cons hF (by intro c h; cases h) ?_
       unfold Oper.wp
       go_simp
       refine wpTailIn_nil ?_
       obtain ⟨Y2, hY2⟩ : ∃ Y2, Y2 = w5.setCell ⟨rb, 8 + s * 2 + 1, none⟩ (I (a1' + x.b (s * 2 + 1))) := ⟨_, rfl⟩
       have oY : ∀ b', b' ≠ rb → Y2.heap[b']? = w5.heap[b']? := fun b' hb' => by rw [hY2]; exact heap_setCell_other _ _ _ _ hb'
       have F1 := F5.set HP.out (8 + s * 2 + 1) (by omega) (a1' + x.b (s * 2 + 1))
       rw [← hY2] at F1
       have hkf1 : KeepsFrom U.heap.size X2 Y2 := HKF.out.trans (KeepsFrom.trans ⟨b5.size, fun k o _ ho hc => (b5.block k (Array.getElem?_eq_some_iff.1 ho).1).trans ho⟩ (by rw [hY2]; exact (KeepsOthers.setCell _ _ _).from _))
       have hs3X : U.heap.size ≤ Y1.heap.size := Nat.le_trans HS.out HKF.out.size
       have hkp1 : KpS U.heap.size (fun k => (k = rb ∨ sl.ownBlock = some k) ∨ k = kb) X2 Y2 := HKP.out.trans ⟨fun k' hk' hn => (oY k' fun e => hn (.inl (.inl e))).trans (b5.block k' (by omega)), by rw [hY2]; simpa using b5.size⟩
       have D1 := (oY D (by omega)).trans ((b5.block D (Array.getElem?_eq_some_iff.1 HDY.out).1).trans HDY.out)
       have B1 := (oY Bx (by omega)).trans ((b5.block Bx (Array.getElem?_eq_some_iff.1 HBY.out).1).trans HBY.out)
       rw [← hY2]
       clear hY2 oY F5 b5 hw5 z0 z1 HKF HKP HDY HBY HF h5s w2
       have HKF := Lib.hid hkf1
       have HKP := Lib.hid hkp1
       have HDY := Lib.hid D1
       have HBY := Lib.hid B1
       have HF := Lib.hid F1
       clear hkf1 hkp1 D1 B1 F1
       gi_upto_region 14 with (fail)
       have E1 : Hid ((fzK ls k : Int) = fzK ls (k + 1)) := by show _ = _; rw [fzK, Hxx.out, if_neg (by have := H1.out; omega)]
       have E2 : Hid (upd (upd (upd (upd (rnK m ls s R k) (8 + s * 2) (a0' + x.b (s * 2))) (8 + s * 2 + 1) (a1' + x.b (s * 2 + 1))) (2 + s * 2) dn) (2 + s * 2 + 1) (hvR m s ls k).2.2 = rnK m ls s R (k + 1)) := by
           have := rnK_more (m := m) (l := ls) (s := s) R (k := k)
           rw [Had.out, HR.out.1, HR.out.2, Int.zero_add, Int.zero_add] at this
           rw [← Hdn.out, ← hloi.out.1]
           exact this
       have E3 : Hid (slK m ls s g k = slK m ls s g (k + 1)) := by show _ = _; rw [slK, Hxx.out, if_neg (by have := H1.out; omega)]
       have p0 := ovr_cell (show Y2.cell? ⟨q0 + 1, 0, none⟩ = some (.pointer (some ⟨rb, 0, none⟩)) by rw [cell_of_row _ _ _ _ _ _ HF.out.rp]; rfl)
       have p1 := ovr_cell (show Y2.cell? ⟨sb, 0, none⟩ = some (I s) by rw [cell_of_row _ _ _ _ _ _ HF.out.rs]; rfl)
       have p2 := ovr_cell (show Y2.cell? ⟨Bx, 2, none⟩ = some (I dn) by rw [cell_of_row _ _ _ _ _ _ HBY.out]; rfl)
       have p3 := ovr_cell (show Y2.cell? ⟨mp + 1, 0, none⟩ = some (.map (some mp)) by rw [cell_of_row _ _ _ _ _ _ HF.out.rm]; rfl)
       refine wpIn_region_seq 13 hF (fun j => if j = 6 then some (fun u _ => u = .agg #[I (hvR m s ls k).1, I (hvR m s ls k).2.1, I (hvR m s ls k).2.2]) else none) (by kernel_rfl) (by kernel_rfl) (by kernel_rfl) (by kernel_rfl) (by kernel_rfl) ?_
       simp only [List.take_succ_cons, List.take_zero, List.drop_succ_cons, List.drop_zero]
       iterate 6 (refine wpG_one rfl rfl rfl ?_; intro K hK; go_big_quiet_op; go_big_quiet_on)
       refine wpG_make (fun u _ => u = .agg #[I (hvR m s ls k).1, I (hvR m s ls k).2.1, I (hvR m s ls k).2.2]) rfl rfl (fun w' hw' _ => grow_look3 hw' _ _ rfl mp ls.length (hvR m s ls) rfl HF.out.mp k hk (by omega) rfl) (fun u hu => ?_)
       obtain ⟨_, _, rfl⟩ := hu
       simp only [Act.put, List.setIfInBounds_toArray, List.set_cons_zero, List.set_cons_succ]
       refine wpG_one rfl rfl rfl ?_
       intro K hK
       refine quiet_ix3_2 _ rfl _ _ _ rfl (hK _ ?_)
       simp only [Act.put, List.setIfInBounds_toArray, List.set_cons_zero, List.set_cons_succ]
       repeat (refine wpG_one rfl rfl rfl ?_; intro K hK; go_big_quiet_op; go_big_quiet_on)
       refine wpG_nil (fun w5 hw5 hG => ?_)
       clear hG
       refine wpTailIn_cons hF (by intro c h; cases h) ?_
       refine wp_store2 _ _ rfl rb (2 + s * 2) (by simp [Act.eval]) _ _ rfl _ _ ((hw5.le.block _ (by have := HF.out.sz; have := HP.out; omega)).trans HF.out.rr) (by simp; omega) ?_
       refine wpTailIn_nil ?_
       simp only [Act.put]
       exact fin.out Y2 w5 _ _ _ HKF.out HKP.out HF.out HDY.out hw5.le E1.out E2.out E3.out
     · have e2 : (x.kd == 2) = false := by rw [h2]; rfl
       have e3 : (x.kd == 3) = true := by simpa using h2
       clear h2
       gi_upto_region 14 with (fail)
       rw [← HX3.out]
       obtain ⟨HF, HKF, HKP, HDY, HBY, HTY⟩ := H3.out
       have HF := Lib.hid HF
       have HBY : Hid (X3.heap[Bx]? = some (.cells #[I (chF (at0 ls k) s (wkD m crsPoor s lo ls k) (msK m ls k)).1, I (chF (at0 ls k) s (wkD m crsPoor s lo ls k) (msK m ls k)).2, I dn] 42 (0, 0))) := by rw [← Hdn.out]; exact HBY
       have h80 : rnK m ls s R k (8 + s * 2) = (adK ls s k).1 := rnK_80 HR.out.1
       have h81 : rnK m ls s R k (8 + s * 2 + 1) = (adK ls s k).2 := rnK_81 HR.out.2
       obtain ⟨tb, htb⟩ : ∃ q, X2.heap.size = q := ⟨_, rfl⟩
       have hrt : rb < tb := by rw [← htb]; have := HS.out; omega
       rw [htb] at HTY ⊢
       have hq4 := by_cells hs HTY
       have p0 := ovr_cell (show X3.cell? ⟨q0 + 1, 0, none⟩ = some (.pointer (some ⟨rb, 0, none⟩)) by rw [cell_of_row _ _ _ _ _ _ HF.out.rp]; rfl)
       have p1 := ovr_cell (show X3.cell? ⟨sb, 0, none⟩ = some (I s) by rw [cell_of_row _ _ _ _ _ _ HF.out.rs]; rfl)
       have p4 := ovr_cell (show X3.cell? ⟨rb, 8 + s * 2, none⟩ = some (I (adK ls s k).1) by rw [cell_of_row _ _ _ _ _ _ HF.out.rr, run_at _ _ _ (by omega), h80])
       have p5 := ovr_cell hq4.1
       have hab := adK_bd (m := m) (l := ls) hs k (fun j hj => HE.out j (by omega))
       have hab1 := adK_bd (m := m) (l := ls) hs (k + 1) (fun j hj => HE.out j (by omega))
       have had : adK ls s (k + 1) = ((adK ls s k).1 + x.b (s * 2), (adK ls s k).2 + x.b (s * 2 + 1)) := by rw [adK, Hxx.out, if_pos H1.out]
       rw [had] at hab1
       simp only at hab1
       have Had := Lib.hid had
       obtain ⟨a0', ha0'⟩ : ∃ q, (adK ls s k).1 = q := ⟨_, rfl⟩
       obtain ⟨a1', ha1'⟩ : ∃ q, (adK ls s k).2 = q := ⟨_, rfl⟩
       have Had : Hid (adK ls s (k + 1) = (a0' + x.b (s * 2), a1' + x.b (s * 2 + 1))) := by rw [← ha0', ← ha1']; exact Had
       rw [ha0', ha1'] at hab hab1
       rw [ha0'] at p4 h80
       rw [ha1'] at h81
       clear ha0' ha1' had
       have w1 : IntKind.i64.wrap (a0' + x.b (s * 2)) = a0' + x.b (s * 2) := IntWalk.i64_in _ (by omega)
       have w2 : IntKind.i64.wrap (a1' + x.b (s * 2 + 1)) = a1' + x.b (s * 2 + 1) := IntWalk.i64_in _ (by omega)
       clear hab hab1
       have H8 := Lib.hid (And.intro h80 h81)
       clear h80 h81
       refine wpIn_region_seq 17 hF (fun _ => none) (by kernel_rfl) (by kernel_rfl) (by kernel_rfl) (by kernel_rfl) (by kernel_rfl) ?_
       simp only [List.take_succ_cons, List.take_zero, List.drop_succ_cons, List.drop_zero]
       repeat (refine wpG_one rfl rfl rfl ?_; intro K hK; go_big_quiet_op; go_big_quiet_on)
       refine wpG_nil (fun w5 hw5 hG => ?_)
       clear hG p0 p1 p4 p5
       have b5 := hw5.le
       have h5s := HF.out.sz
       have F5 := HF.out.keep HP.out (fun b' hb' => b5.block b' (by omega)) (b5.mono (by have := HP.out.hB; omega))
       have z0 : w5.cell? ⟨rb, 8 + s * 2, none⟩ = some (I a0') := by rw [cell_of_row _ _ _ _ _ _ F5.rr, run_at _ _ _ (by omega), H8.out.1]
       have z1 := frozen_of_row _ _ (8 + s * 2) _ _ F5.rr
       refine wpTailIn_cons hF (by intro c h; cases h) ?_
       unfold Oper.wp
       go_simp
       refine wpTailIn_nil ?_
       obtain ⟨Y1, hY1⟩ : ∃ Y1, Y1 = w5.setCell ⟨rb, 8 + s * 2, none⟩ (I (a0' + x.b (s * 2))) := ⟨_, rfl⟩
       have oY : ∀ b', b' ≠ rb → Y1.heap[b']? = w5.heap[b']? := fun b' hb' => by rw [hY1]; exact heap_setCell_other _ _ _ _ hb'
       have F1 := F5.set HP.out (8 + s * 2) (by omega) (a0' + x.b (s * 2))
       rw [← hY1] at F1
       have hkf1 : KeepsFrom U.heap.size X2 Y1 := HKF.trans (KeepsFrom.trans ⟨b5.size, fun k o _ ho hc => (b5.block k (Array.getElem?_eq_some_iff.1 ho).1).trans ho⟩ (by rw [hY1]; exact (KeepsOthers.setCell _ _ _).from _))
       have hs3X : U.heap.size ≤ X3.heap.size := Nat.le_trans HS.out HKF.size
       have hkp1 : KpS U.heap.size (fun k => (k = rb ∨ sl.ownBlock = some k) ∨ k = kb) X2 Y1 := HKP.trans ⟨fun k' hk' hn => (oY k' fun e => hn (.inl (.inl e))).trans (b5.block k' (by omega)), by rw [hY1]; simpa using b5.size⟩
       have D1 := (oY D (by omega)).trans ((b5.block D (Array.getElem?_eq_some_iff.1 HDY).1).trans HDY)
       have B1 := (oY Bx (by omega)).trans ((b5.block Bx (Array.getElem?_eq_some_iff.1 HBY.out).1).trans HBY.out)
       have T1 := (oY tb (by omega)).trans ((b5.block tb (Array.getElem?_eq_some_iff.1 HTY).1).trans HTY)
       rw [← hY1]
       clear hY1 oY F5 b5 hw5 z0 z1 HKF HKP HDY HBY HTY HF h5s hq4 w1
       have HKF := Lib.hid hkf1
       have HKP := Lib.hid hkp1
       have HDY := Lib.hid D1
       have HBY := Lib.hid B1
       have HF := Lib.hid F1
       have hq4 := by_cells hs T1
       clear hkf1 hkp1 D1 B1 F1
       have p0 := ovr_cell (show Y1.cell? ⟨q0 + 1, 0, none⟩ = some (.pointer (some ⟨rb, 0, none⟩)) by rw [cell_of_row _ _ _ _ _ _ HF.out.rp]; rfl)
       have p1 := ovr_cell (show Y1.cell? ⟨sb, 0, none⟩ = some (I s) by rw [cell_of_row _ _ _ _ _ _ HF.out.rs]; rfl)
       have hu : upd (rnK m ls s R k) (8 + s * 2) (a0' + x.b (s * 2)) (8 + s * 2 + 1) = a1' := by rw [← H8.out.2, upd, if_neg (by omega)]
       have p4 := ovr_cell (show Y1.cell? ⟨rb, 8 + s * 2 + 1, none⟩ = some (I a1') by rw [cell_of_row _ _ _ _ _ _ HF.out.rr, run_at _ _ _ (by omega), hu])
       have p5 := ovr_cell hq4.2
       gi_upto_region 14 with (fail)
       refine wpIn_region_seq 17 hF (fun _ => none) (by kernel_rfl) (by kernel_rfl) (by kernel_rfl) (by kernel_rfl) (by kernel_rfl) ?_
       simp only [List.take_succ_cons, List.take_zero, List.drop_succ_cons, List.drop_zero]
       repeat (refine wpG_one rfl rfl rfl ?_; intro K hK; go_big_quiet_op; go_big_quiet_on)
       refine wpG_nil (fun w5 hw5 hG => ?_)
       clear hG p0 p1 p4 p5 hq4
       have b5 := hw5.le
       have h5s := HF.out.sz
       have F5 := HF.out.keep HP.out (fun b' hb' => b5.block b' (by omega)) (b5.mono (by have := HP.out.hB; omega))
       have z0 : w5.cell? ⟨rb, 8 + s * 2 + 1, none⟩ = some (I a1') := by rw [cell_of_row _ _ _ _ _ _ F5.rr, run_at _ _ _ (by omega), hu]
       have z1 := frozen_of_row _ _ (8 + s * 2 + 1) _ _ F5.rr
       clear hu
       refine wpTailIn_cons hF (by intro c h; cases h) ?_
       unfold Oper.wp
       go_simp
       refine wpTailIn_nil ?_
       obtain ⟨Y2, hY2⟩ : ∃ Y2, Y2 = w5.setCell ⟨rb, 8 + s * 2 + 1, none⟩ (I (a1' + x.b (s * 2 + 1))) := ⟨_, rfl⟩
       have oY : ∀ b', b' ≠ rb → Y2.heap[b']? = w5.heap[b']? := fun b' hb' => by rw [hY2]; exact heap_setCell_other _ _ _ _ hb'
       have F1 := F5.set HP.out (8 + s * 2 + 1) (by omega) (a1' + x.b (s * 2 + 1))
       rw [← hY2] at F1
       have hkf1 : KeepsFrom U.heap.size X2 Y2 := HKF.out.trans (KeepsFrom.trans ⟨b5.size, fun k o _ ho hc => (b5.block k (Array.getElem?_eq_some_iff.1 ho).1).trans ho⟩ (by rw [hY2]; exact (KeepsOthers.setCell _ _ _).from _))
       have hs3X : U.heap.size ≤ Y1.heap.size := Nat.le_trans HS.out HKF.out.size
       have hkp1 : KpS U.heap.size (fun k => (k = rb ∨ sl.ownBlock = some k) ∨ k = kb) X2 Y2 := HKP.out.trans ⟨fun k' hk' hn => (oY k' fun e => hn (.inl (.inl e))).trans (b5.block k' (by omega)), by rw [hY2]; simpa using b5.size⟩
       have D1 := (oY D (by omega)).trans ((b5.block D (Array.getElem?_eq_some_iff.1 HDY.out).1).trans HDY.out)
       have B1 := (oY Bx (by omega)).trans ((b5.block Bx (Array.getElem?_eq_some_iff.1 HBY.out).1).trans HBY.out)
       rw [← hY2]
       clear hY2 oY F5 b5 hw5 z0 z1 HKF HKP HDY HBY HF h5s w2
       have HKF := Lib.hid hkf1
       have HKP := Lib.hid hkp1
       have HDY := Lib.hid D1
       have HBY := Lib.hid B1
       have HF := Lib.hid F1
       clear hkf1 hkp1 D1 B1 F1
       gi_upto_region 14 with (fail)
       have E1 : Hid ((fzK ls k : Int) = fzK ls (k + 1)) := by show _ = _; rw [fzK, Hxx.out, if_neg (by have := H1.out; omega)]
       have E2 : Hid (upd (upd (upd (upd (rnK m ls s R k) (8 + s * 2) (a0' + x.b (s * 2))) (8 + s * 2 + 1) (a1' + x.b (s * 2 + 1))) (2 + s * 2) dn) (2 + s * 2 + 1) (hvR m s ls k).2.2 = rnK m ls s R (k + 1)) := by
           have := rnK_more (m := m) (l := ls) (s := s) R (k := k)
           rw [Had.out, HR.out.1, HR.out.2, Int.zero_add, Int.zero_add] at this
           rw [← Hdn.out, ← hloi.out.1]
           exact this
       have E3 : Hid (slK m ls s g k = slK m ls s g (k + 1)) := by show _ = _; rw [slK, Hxx.out, if_neg (by have := H1.out; omega)]
       have p0 := ovr_cell (show Y2.cell? ⟨q0 + 1, 0, none⟩ = some (.pointer (some ⟨rb, 0, none⟩)) by rw [cell_of_row _ _ _ _ _ _ HF.out.rp]; rfl)
       have p1 := ovr_cell (show Y2.cell? ⟨sb, 0, none⟩ = some (I s) by rw [cell_of_row _ _ _ _ _ _ HF.out.rs]; rfl)
       have p2 := ovr_cell (show Y2.cell? ⟨Bx, 2, none⟩ = some (I dn) by rw [cell_of_row _ _ _ _ _ _ HBY.out]; rfl)
       have p3 := ovr_cell (show Y2.cell? ⟨mp + 1, 0, none⟩ = some (.map (some mp)) by rw [cell_of_row _ _ _ _ _ _ HF.out.rm]; rfl)
       refine wpIn_region_seq 13 hF (fun j => if j = 6 then some (fun u _ => u = .agg #[I (hvR m s ls k).1, I (hvR m s ls k).2.1, I (hvR m s ls k).2.2]) else none) (by kernel_rfl) (by kernel_rfl) (by kernel_rfl) (by kernel_rfl) (by kernel_rfl) ?_
       simp only [List.take_succ_cons, List.take_zero, List.drop_succ_cons, List.drop_zero]
       iterate 6 (refine wpG_one rfl rfl rfl ?_; intro K hK; go_big_quiet_op; go_big_quiet_on)
       refine wpG_make (fun u _ => u = .agg #[I (hvR m s ls k).1, I (hvR m s ls k).2.1, I (hvR m s ls k).2.2]) rfl rfl (fun w' hw' _ => grow_look3 hw' _ _ rfl mp ls.length (hvR m s ls) rfl HF.out.mp k hk (by omega) rfl) (fun u hu => ?_)
       obtain ⟨_, _, rfl⟩ := hu
       simp only [Act.put, List.setIfInBounds_toArray, List.set_cons_zero, List.set_cons_succ]
       refine wpG_one rfl rfl rfl ?_
       intro K hK
       refine quiet_ix3_2 _ rfl _ _ _ rfl (hK _ ?_)
       simp only [Act.put, List.setIfInBounds_toArray, List.set_cons_zero, List.set_cons_succ]
       repeat (refine wpG_one rfl rfl rfl ?_; intro K hK; go_big_quiet_op; go_big_quiet_on)
       refine wpG_nil (fun w5 hw5 hG => ?_)
       clear hG
       refine wpTailIn_cons hF (by intro c h; cases h) ?_
       refine wp_store2 _ _ rfl rb (2 + s * 2) (by simp [Act.eval]) _ _ rfl _ _ ((hw5.le.block _ (by have := HF.out.sz; have := HP.out; omega)).trans HF.out.rr) (by simp; omega) ?_
       refine wpTailIn_nil ?_
       simp only [Act.put]
       exact fin.out Y2 w5 _ _ _ HKF.out HKP.out HF.out HDY.out hw5.le E1.out E2.out E3.out
   have h4 : x.kd = 4 := by omega
   have e1 : (x.kd == 1) = false := by simpa using h1
   have e2 : (x.kd == 2) = false := by rw [h4]; rfl
   have e3 : (x.kd == 3) = false := by rw [h4]; rfl
   have H1 : Hid (¬ x.kd = 1 ∧ ¬ (x.kd = 2 ∨ x.kd = 3)) := ⟨h1, h23⟩
   clear hkx h23 h1 h4
   gi_upto_region 14 with (fail)
   rw [← HX3.out]
   obtain ⟨HF, HKF, HKP, HDY, HBY, HTY⟩ := H3.out
   have HF := Lib.hid HF
   have HKF := Lib.hid HKF
   have HKP := Lib.hid HKP
   have HDY := Lib.hid HDY
   have HBY : Hid (X3.heap[Bx]? = some (.cells #[I (chF (at0 ls k) s (wkD m crsPoor s lo ls k) (msK m ls k)).1, I (chF (at0 ls k) s (wkD m crsPoor s lo ls k) (msK m ls k)).2, I dn] 42 (0, 0))) := by rw [← Hdn.out]; exact HBY
   have E1 : Hid ((fzK ls k : Int) = fzK ls (k + 1)) := by show _ = _; rw [fzK, Hxx.out, if_neg H1.out.1]
   have E2 : Hid (upd (upd (rnK m ls s R k) (2 + s * 2) dn) (2 + s * 2 + 1) (hvR m s ls k).2.2 = rnK m ls s R (k + 1)) := by
        rw [← Hdn.out, ← hloi.out.1]
        exact rnK_same R (by rw [adK, Hxx.out, if_neg H1.out.2])
   have E3 : Hid (slK m ls s g k = slK m ls s g (k + 1)) := by show _ = _; rw [slK, Hxx.out, if_neg H1.out.1]
   obtain ⟨Y2, rfl⟩ : ∃ Y2, Y2 = X3 := ⟨_, rfl⟩
   clear HTY
   have p0 := ovr_cell (show Y2.cell? ⟨q0 + 1, 0, none⟩ = some (.pointer (some ⟨rb, 0, none⟩)) by rw [cell_of_row _ _ _ _ _ _ HF.out.rp]; rfl)
   have p1 := ovr_cell (show Y2.cell? ⟨sb, 0, none⟩ = some (I s) by rw [cell_of_row _ _ _ _ _ _ HF.out.rs]; rfl)
   have p2 := ovr_cell (show Y2.cell? ⟨Bx, 2, none⟩ = some (I dn) by rw [cell_of_row _ _ _ _ _ _ HBY.out]; rfl)
   have p3 := ovr_cell (show Y2.cell? ⟨mp + 1, 0, none⟩ = some (.map (some mp)) by rw [cell_of_row _ _ _ _ _ _ HF.out.rm]; rfl)
   refine wpIn_region_seq 13 hF (fun j => if j = 6 then some (fun u _ => u = .agg #[I (hvR m s ls k).1, I (hvR m s ls k).2.1, I (hvR m s ls k).2.2]) else none) (by kernel_rfl) (by kernel_rfl) (by kernel_rfl) (by kernel_rfl) (by kernel_rfl) ?_
   simp only [List.take_succ_cons, List.take_zero, List.drop_succ_cons, List.drop_zero]
   iterate 6 (refine wpG_one rfl rfl rfl ?_; intro K hK; go_big_quiet_op; go_big_quiet_on)
   refine wpG_make (fun u _ => u = .agg #[I (hvR m s ls k).1, I (hvR m s ls k).2.1, I (hvR m s ls k).2.2]) rfl rfl (fun w' hw' _ => grow_look3 hw' _ _ rfl mp ls.length (hvR m s ls) rfl HF.out.mp k hk (by omega) rfl) (fun u hu => ?_)
   obtain ⟨_, _, rfl⟩ := hu
   simp only [Act.put, List.setIfInBounds_toArray, List.set_cons_zero, List.set_cons_succ]
   refine wpG_one rfl rfl rfl ?_
   intro K hK
   refine quiet_ix3_2 _ rfl _ _ _ rfl (hK _ ?_)
   simp only [Act.put, List.setIfInBounds_toArray, List.set_cons_zero, List.set_cons_succ]
   repeat (refine wpG_one rfl rfl rfl ?_; intro K hK; go_big_quiet_op; go_big_quiet_on)
   refine wpG_nil (fun w5 hw5 hG => ?_)
   clear hG
   refine wpTailIn_cons hF (by intro c h; cases h) ?_
   refine wp_store2 _ _ rfl rb (2 + s * 2) (by simp [Act.eval]) _ _ rfl _ _ ((hw5.le.block _ (by have := HF.out.sz; have := HP.out; omega)).trans HF.out.rr) (by simp; omega) ?_
   refine wpTailIn_nil ?_
   simp only [Act.put]
   exact fin.out Y2 w5 _ _ _ HKF.out HKP.out HF.out HDY.out hw5.le E1.out E2.out E3.out
  case done =>
   rintro D2 X hD2 ⟨hI, hsX, hDX2⟩ hK
   subst ha0
   have HF := Lib.hid hI
   have HS := Lib.hid hsX
   have HDa := Lib.hid hDX2
   have HDb := Lib.hid hK
   have hDm : rb < D := by omega
   have hDm2 : rb < D2 := by omega
   clear hI hsX hDX2 hK hwk hwa
   go_upto_region 1 with (fail)
   have r0 := HF.out.ra
   have y := fun k (v : Value) (h : (lnArr m A ls.length d s)[k]? = some v) (h' : q0 ≠ rb) => Pr.St.ovl_cell (b := rb) (c0 := runArr sl (rnK m ls s R ls.length)) (c1 := runArr sl (upd (rnK m ls s R ls.length) (14 + s * 2) ((tlF m ⟨false,false,true⟩ s ls).1))) (t := 36) h' (show X.cell? ⟨q0, k, none⟩ = some v by rw [cell_of_row _ _ _ _ _ _ r0]; exact h)
   have y0 := y 0 _ rfl (by omega)
   have y1 := y 1 _ rfl (by omega)
   have y2 := y 2 _ rfl (by omega)
   have y3 := y 3 _ rfl (by omega)
   have y4 := y 4 _ rfl (by omega)
   have y5 := y 5 _ rfl (by omega)
   have y6 := y 6 _ rfl (by omega)
   have y7 := y 7 _ rfl (by omega)
   have y8 := y 8 _ rfl (by omega)
   have p0 := Pr.St.ovl_cell (b := rb) (c0 := runArr sl (rnK m ls s R ls.length)) (c1 := runArr sl (upd (rnK m ls s R ls.length) (14 + s * 2) ((tlF m ⟨false,false,true⟩ s ls).1))) (t := 36) (by omega) (show X.cell? ⟨q0 + 1, 0, none⟩ = some (.pointer (some ⟨rb, 0, none⟩)) by rw [cell_of_row _ _ _ _ _ _ HF.out.rp]; rfl)
   have p1 := Pr.St.ovl_cell (b := rb) (c0 := runArr sl (rnK m ls s R ls.length)) (c1 := runArr sl (upd (rnK m ls s R ls.length) (14 + s * 2) ((tlF m ⟨false,false,true⟩ s ls).1))) (t := 36) (by omega) (show X.cell? ⟨sb, 0, none⟩ = some (I s) by rw [cell_of_row _ _ _ _ _ _ HF.out.rs]; rfl)
   clear y r0
   refine Pr.wp_region_pre (Pr.St rb (runArr sl (rnK m ls s R ls.length)) (runArr sl (upd (rnK m ls s R ls.length) (14 + s * 2) ((tlF m ⟨false,false,true⟩ s ls).1))) 36) (fun j => if j = 4 then some (fun u _ => u = .tuple #[I (tlF m ⟨false,false,true⟩ s ls).1, I (tlF m ⟨false,false,true⟩ s ls).2]) else if j = 12 then some (Pr.StAt rb (runArr sl (upd (rnK m ls s R ls.length) (14 + s * 2) ((tlF m ⟨false,false,true⟩ s ls).1))) 36) else none) (Pr.St.of (Below.refl _ _).drew) (by kernel_rfl) (by kernel_rfl) (by kernel_rfl) ?_
   repeat (refine Pr.wpG_one rfl rfl rfl ?_; intro K hK; go_big_quiet_op; go_big_quiet_on)
   refine Pr.wpG_make (fun u _ => u = .tuple #[I (tlF m ⟨false,false,true⟩ s ls).1, I (tlF m ⟨false,false,true⟩ s ls).2]) rfl rfl (fun w' hw' _ => ?_) (fun u hu => ?_)
   · unfold Pr.grows
     go_simp
     refine ⟨rfl, Pr.St.call ?_⟩
     have hb : Below B X w' := Pr.St.below hw'.le hB (by have := HF.out.sz; have := HP.out; omega)
     exact total_any m ⟨false,false,true⟩ s ls A d B w' hs hl HM.out HE.out (by have := hb.size; have := HF.out.sz; omega) (HX.out.below (HF.out.bl.trans hb))
   obtain ⟨_, _, rfl⟩ := hu
   simp only [Act.put, List.setIfInBounds_toArray, List.set_cons_zero, List.set_cons_succ]
   repeat (refine Pr.wpG_one rfl rfl rfl ?_; intro K hK; go_big_quiet_op; go_big_quiet_on)
   refine Pr.wpG_make (Pr.StAt rb (runArr sl (upd (rnK m ls s R ls.length) (14 + s * 2) ((tlF m ⟨false,false,true⟩ s ls).1))) 36) rfl rfl (fun w' hw' _ => ?_) (fun u hu => ?_)
   · exact Pr.St.store hw' HF.out.rr _ _ _ rfl (14 + s * 2) (by simp [Act.eval]) ((tlF m ⟨false,false,true⟩ s ls).1) rfl (by simp; omega) (run_set sl _ _ _ (by omega)).symm run_stI
   clear hu
   simp only [Act.put]
   refine Pr.wpG_nil (fun w5 hw5 hG => ?_)
   have hr5 : w5.heap[rb]? = some (.cells (runArr sl (upd (rnK m ls s R ls.length) (14 + s * 2) ((tlF m ⟨false,false,true⟩ s ls).1))) 36 (0, 0)) := hG.2.now
   clear hG y0 y1 y2 y3 y4 y5 y6 y7 y8 p0 p1
   have F5 := HF.out.st HP.out hw5.le hr5
   have D5 := (hw5.le.block D (Array.getElem?_eq_some_iff.1 HDa.out).1 (by omega)).trans HDa.out
   have E5 := (hw5.le.block D2 (Array.getElem?_eq_some_iff.1 HDb.out).1 (by omega)).trans HDb.out
   have s5 := Nat.le_trans HS.out hw5.le.size
   clear hw5 hr5 HF HDa HDb HS
   have HF := Lib.hid F5
   have HDa := Lib.hid D5
   have HDb := Lib.hid E5
   have HS := Lib.hid s5
   clear F5 D5 E5 s5
   obtain ⟨X, rfl⟩ : ∃ X, X = w5 := ⟨_, rfl⟩
   obtain ⟨R1, hR1⟩ : ∃ q, upd (rnK m ls s R ls.length) (14 + s * 2) (tlF m ⟨false, false, true⟩ s ls).1 = q := ⟨_, rfl⟩
   rw [hR1] at HF
   have HR1 := Lib.hid hR1
   clear hR1
   go_upto_region 1 with (fail)
   have r0 := HF.out.ra
   have y := fun k (v : Value) (h : (lnArr m A ls.length d s)[k]? = some v) (h' : q0 ≠ rb) => Pr.St.ovl_cell (b := rb) (c0 := runArr sl R1) (c1 := runArr sl (upd R1 (14 + s * 2 + 1) ((tlF m ⟨true,true,false⟩ s ls).1))) (t := 36) h' (show X.cell? ⟨q0, k, none⟩ = some v by rw [cell_of_row _ _ _ _ _ _ r0]; exact h)
   have y0 := y 0 _ rfl (by omega)
   have y1 := y 1 _ rfl (by omega)
   have y2 := y 2 _ rfl (by omega)
   have y3 := y 3 _ rfl (by omega)
   have y4 := y 4 _ rfl (by omega)
   have y5 := y 5 _ rfl (by omega)
   have y6 := y 6 _ rfl (by omega)
   have y7 := y 7 _ rfl (by omega)
   have y8 := y 8 _ rfl (by omega)
   have p0 := Pr.St.ovl_cell (b := rb) (c0 := runArr sl R1) (c1 := runArr sl (upd R1 (14 + s * 2 + 1) ((tlF m ⟨true,true,false⟩ s ls).1))) (t := 36) (by omega) (show X.cell? ⟨q0 + 1, 0, none⟩ = some (.pointer (some ⟨rb, 0, none⟩)) by rw [cell_of_row _ _ _ _ _ _ HF.out.rp]; rfl)
   have p1 := Pr.St.ovl_cell (b := rb) (c0 := runArr sl R1) (c1 := runArr sl (upd R1 (14 + s * 2 + 1) ((tlF m ⟨true,true,false⟩ s ls).1))) (t := 36) (by omega) (show X.cell? ⟨sb, 0, none⟩ = some (I s) by rw [cell_of_row _ _ _ _ _ _ HF.out.rs]; rfl)
   clear y r0
   refine Pr.wp_region_pre (Pr.St rb (runArr sl R1) (runArr sl (upd R1 (14 + s * 2 + 1) ((tlF m ⟨true,true,false⟩ s ls).1))) 36) (fun j => if j = 4 then some (fun u _ => u = .tuple #[I (tlF m ⟨true,true,false⟩ s ls).1, I (tlF m ⟨true,true,false⟩ s ls).2]) else if j = 12 then some (Pr.StAt rb (runArr sl (upd R1 (14 + s * 2 + 1) ((tlF m ⟨true,true,false⟩ s ls).1))) 36) else none) (Pr.St.of (Below.refl _ _).drew) (by kernel_rfl) (by kernel_rfl) (by kernel_rfl) ?_
   repeat (refine Pr.wpG_one rfl rfl rfl ?_; intro K hK; go_big_quiet_op; go_big_quiet_on)
   refine Pr.wpG_make (fun u _ => u = .tuple #[I (tlF m ⟨true,true,false⟩ s ls).1, I (tlF m ⟨true,true,false⟩ s ls).2]) rfl rfl (fun w' hw' _ => ?_) (fun u hu => ?_)
   · unfold Pr.grows
     go_simp
     refine ⟨rfl, Pr.St.call ?_⟩
     have hb : Below B X w' := Pr.St.below hw'.le hB (by have := HF.out.sz; have := HP.out; omega)
     exact total_any m ⟨true,true,false⟩ s ls A d B w' hs hl HM.out HE.out (by have := hb.size; have := HF.out.sz; omega) (HX.out.below (HF.out.bl.trans hb))
   obtain ⟨_, _, rfl⟩ := hu
   simp only [Act.put, List.setIfInBounds_toArray, List.set_cons_zero, List.set_cons_succ]
   repeat (refine Pr.wpG_one rfl rfl rfl ?_; intro K hK; go_big_quiet_op; go_big_quiet_on)
   refine Pr.wpG_make (Pr.StAt rb (runArr sl (upd R1 (14 + s * 2 + 1) ((tlF m ⟨true,true,false⟩ s ls).1))) 36) rfl rfl (fun w' hw' _ => ?_) (fun u hu => ?_)
   · exact Pr.St.store hw' HF.out.rr _ _ _ rfl (14 + s * 2 + 1) (by simp [Act.eval]) ((tlF m ⟨true,true,false⟩ s ls).1) rfl (by simp; omega) (run_set sl _ _ _ (by omega)).symm run_stI
   clear hu
   simp only [Act.put]
   refine Pr.wpG_nil (fun w5 hw5 hG => ?_)
   have hr5 : w5.heap[rb]? = some (.cells (runArr sl (upd R1 (14 + s * 2 + 1) ((tlF m ⟨true,true,false⟩ s ls).1))) 36 (0, 0)) := hG.2.now
   clear hG y0 y1 y2 y3 y4 y5 y6 y7 y8 p0 p1
   have F5 := HF.out.st HP.out hw5.le hr5
   have D5 := (hw5.le.block D (Array.getElem?_eq_some_iff.1 HDa.out).1 (by omega)).trans HDa.out
   have E5 := (hw5.le.block D2 (Array.getElem?_eq_some_iff.1 HDb.out).1 (by omega)).trans HDb.out
   have s5 := Nat.le_trans HS.out hw5.le.size
   clear hw5 hr5 HF HDa HDb HS
   have HF := Lib.hid F5
   have HDa := Lib.hid D5
   have HDb := Lib.hid E5
   have HS := Lib.hid s5
   clear F5 D5 E5 s5
   obtain ⟨X, rfl⟩ : ∃ X, X = w5 := ⟨_, rfl⟩
   obtain ⟨R2, hR2⟩ : ∃ q, upd R1 (14 + s * 2 + 1) (tlF m ⟨true, true, false⟩ s ls).1 = q := ⟨_, rfl⟩
   rw [hR2] at HF
   have HR2 := Lib.hid hR2
   clear hR2
   go_upto_region 1 with (fail)
   have r0 := HF.out.ra
   have y := fun k (v : Value) (h : (lnArr m A ls.length d s)[k]? = some v) (h' : q0 ≠ rb) => Pr.St.ovl_cell (b := rb) (c0 := runArr sl R2) (c1 := runArr sl (upd R2 (20 + s * 2) ((tlF m ⟨false,true,false⟩ s ls).2))) (t := 36) h' (show X.cell? ⟨q0, k, none⟩ = some v by rw [cell_of_row _ _ _ _ _ _ r0]; exact h)
   have y0 := y 0 _ rfl (by omega)
   have y1 := y 1 _ rfl (by omega)
   have y2 := y 2 _ rfl (by omega)
   have y3 := y 3 _ rfl (by omega)
   have y4 := y 4 _ rfl (by omega)
   have y5 := y 5 _ rfl (by omega)
   have y6 := y 6 _ rfl (by omega)
   have y7 := y 7 _ rfl (by omega)
   have y8 := y 8 _ rfl (by omega)
   have p0 := Pr.St.ovl_cell (b := rb) (c0 := runArr sl R2) (c1 := runArr sl (upd R2 (20 + s * 2) ((tlF m ⟨false,true,false⟩ s ls).2))) (t := 36) (by omega) (show X.cell? ⟨q0 + 1, 0, none⟩ = some (.pointer (some ⟨rb, 0, none⟩)) by rw [cell_of_row _ _ _ _ _ _ HF.out.rp]; rfl)
   have p1 := Pr.St.ovl_cell (b := rb) (c0 := runArr sl R2) (c1 := runArr sl (upd R2 (20 + s * 2) ((tlF m ⟨false,true,false⟩ s ls).2))) (t := 36) (by omega) (show X.cell? ⟨sb, 0, none⟩ = some (I s) by rw [cell_of_row _ _ _ _ _ _ HF.out.rs]; rfl)
   clear y r0
   refine Pr.wp_region_pre (Pr.St rb (runArr sl R2) (runArr sl (upd R2 (20 + s * 2) ((tlF m ⟨false,true,false⟩ s ls).2))) 36) (fun j => if j = 4 then some (fun u _ => u = .tuple #[I (tlF m ⟨false,true,false⟩ s ls).1, I (tlF m ⟨false,true,false⟩ s ls).2]) else if j = 12 then some (Pr.StAt rb (runArr sl (upd R2 (20 + s * 2) ((tlF m ⟨false,true,false⟩ s ls).2))) 36) else none) (Pr.St.of (Below.refl _ _).drew) (by kernel_rfl) (by kernel_rfl) (by kernel_rfl) ?_
   repeat (refine Pr.wpG_one rfl rfl rfl ?_; intro K hK; go_big_quiet_op; go_big_quiet_on)
   refine Pr.wpG_make (fun u _ => u = .tuple #[I (tlF m ⟨false,true,false⟩ s ls).1, I (tlF m ⟨false,true,false⟩ s ls).2]) rfl rfl (fun w' hw' _ => ?_) (fun u hu => ?_)
   · unfold Pr.grows
     go_simp
     refine ⟨rfl, Pr.St.call ?_⟩
     have hb : Below B X w' := Pr.St.below hw'.le hB (by have := HF.out.sz; have := HP.out; omega)
     exact total_any m ⟨false,true,false⟩ s ls A d B w' hs hl HM.out HE.out (by have := hb.size; have := HF.out.sz; omega) (HX.out.below (HF.out.bl.trans hb))
   obtain ⟨_, _, rfl⟩ := hu
   simp only [Act.put, List.setIfInBounds_toArray, List.set_cons_zero, List.set_cons_succ]
   repeat (refine Pr.wpG_one rfl rfl rfl ?_; intro K hK; go_big_quiet_op; go_big_quiet_on)
   refine Pr.wpG_make (Pr.StAt rb (runArr sl (upd R2 (20 + s * 2) ((tlF m ⟨false,true,false⟩ s ls).2))) 36) rfl rfl (fun w' hw' _ => ?_) (fun u hu => ?_)
   · exact Pr.St.store hw' HF.out.rr _ _ _ rfl (20 + s * 2) (by simp [Act.eval]) ((tlF m ⟨false,true,false⟩ s ls).2) rfl (by simp; omega) (run_set sl _ _ _ (by omega)).symm run_stI
   clear hu
   simp only [Act.put]
   refine Pr.wpG_nil (fun w5 hw5 hG => ?_)
   have hr5 : w5.heap[rb]? = some (.cells (runArr sl (upd R2 (20 + s * 2) ((tlF m ⟨false,true,false⟩ s ls).2))) 36 (0, 0)) := hG.2.now
   clear hG y0 y1 y2 y3 y4 y5 y6 y7 y8 p0 p1
   have F5 := HF.out.st HP.out hw5.le hr5
   have D5 := (hw5.le.block D (Array.getElem?_eq_some_iff.1 HDa.out).1 (by omega)).trans HDa.out
   have E5 := (hw5.le.block D2 (Array.getElem?_eq_some_iff.1 HDb.out).1 (by omega)).trans HDb.out
   have s5 := Nat.le_trans HS.out hw5.le.size
   clear hw5 hr5 HF HDa HDb HS
   have HF := Lib.hid F5
   have HDa := Lib.hid D5
   have HDb := Lib.hid E5
   have HS := Lib.hid s5
   clear F5 D5 E5 s5
   obtain ⟨X, rfl⟩ : ∃ X, X = w5 := ⟨_, rfl⟩
   obtain ⟨R3, hR3⟩ : ∃ q, upd R2 (20 + s * 2) (tlF m ⟨false, true, false⟩ s ls).2 = q := ⟨_, rfl⟩
   rw [hR3] at HF
   have HR3 := Lib.hid hR3
   clear hR3
   go_upto_region 1 with (fail)
   have r0 := HF.out.ra
   have y := fun k (v : Value) (h : (lnArr m A ls.length d s)[k]? = some v) (h' : q0 ≠ rb) => Pr.St.ovl_cell (b := rb) (c0 := runArr sl R3) (c1 := runArr sl (upd R3 (20 + s * 2 + 1) ((tlF m ⟨true,false,true⟩ s ls).2))) (t := 36) h' (show X.cell? ⟨q0, k, none⟩ = some v by rw [cell_of_row _ _ _ _ _ _ r0]; exact h)
   have y0 := y 0 _ rfl (by omega)
   have y1 := y 1 _ rfl (by omega)
   have y2 := y 2 _ rfl (by omega)
   have y3 := y 3 _ rfl (by omega)
   have y4 := y 4 _ rfl (by omega)
   have y5 := y 5 _ rfl (by omega)
   have y6 := y 6 _ rfl (by omega)
   have y7 := y 7 _ rfl (by omega)
   have y8 := y 8 _ rfl (by omega)
   have p0 := Pr.St.ovl_cell (b := rb) (c0 := runArr sl R3) (c1 := runArr sl (upd R3 (20 + s * 2 + 1) ((tlF m ⟨true,false,true⟩ s ls).2))) (t := 36) (by omega) (show X.cell? ⟨q0 + 1, 0, none⟩ = some (.pointer (some ⟨rb, 0, none⟩)) by rw [cell_of_row _ _ _ _ _ _ HF.out.rp]; rfl)
   have p1 := Pr.St.ovl_cell (b := rb) (c0 := runArr sl R3) (c1 := runArr sl (upd R3 (20 + s * 2 + 1) ((tlF m ⟨true,false,true⟩ s ls).2))) (t := 36) (by omega) (show X.cell? ⟨sb, 0, none⟩ = some (I s) by rw [cell_of_row _ _ _ _ _ _ HF.out.rs]; rfl)
   clear y r0
   refine Pr.wp_region_pre (Pr.St rb (runArr sl R3) (runArr sl (upd R3 (20 + s * 2 + 1) ((tlF m ⟨true,false,true⟩ s ls).2))) 36) (fun j => if j = 4 then some (fun u _ => u = .tuple #[I (tlF m ⟨true,false,true⟩ s ls).1, I (tlF m ⟨true,false,true⟩ s ls).2]) else if j = 12 then some (Pr.StAt rb (runArr sl (upd R3 (20 + s * 2 + 1) ((tlF m ⟨true,false,true⟩ s ls).2))) 36) else none) (Pr.St.of (Below.refl _ _).drew) (by kernel_rfl) (by kernel_rfl) (by kernel_rfl) ?_
   repeat (refine Pr.wpG_one rfl rfl rfl ?_; intro K hK; go_big_quiet_op; go_big_quiet_on)
   refine Pr.wpG_make (fun u _ => u = .tuple #[I (tlF m ⟨true,false,true⟩ s ls).1, I (tlF m ⟨true,false,true⟩ s ls).2]) rfl rfl (fun w' hw' _ => ?_) (fun u hu => ?_)
   · unfold Pr.grows
     go_simp
     refine ⟨rfl, Pr.St.call ?_⟩
     have hb : Below B X w' := Pr.St.below hw'.le hB (by have := HF.out.sz; have := HP.out; omega)
     exact total_any m ⟨true,false,true⟩ s ls A d B w' hs hl HM.out HE.out (by have := hb.size; have := HF.out.sz; omega) (HX.out.below (HF.out.bl.trans hb))
   obtain ⟨_, _, rfl⟩ := hu
   simp only [Act.put, List.setIfInBounds_toArray, List.set_cons_zero, List.set_cons_succ]
   repeat (refine Pr.wpG_one rfl rfl rfl ?_; intro K hK; go_big_quiet_op; go_big_quiet_on)
   refine Pr.wpG_make (Pr.StAt rb (runArr sl (upd R3 (20 + s * 2 + 1) ((tlF m ⟨true,false,true⟩ s ls).2))) 36) rfl rfl (fun w' hw' _ => ?_) (fun u hu => ?_)
   · exact Pr.St.store hw' HF.out.rr _ _ _ rfl (20 + s * 2 + 1) (by simp [Act.eval]) ((tlF m ⟨true,false,true⟩ s ls).2) rfl (by simp; omega) (run_set sl _ _ _ (by omega)).symm run_stI
   clear hu
   simp only [Act.put]
   refine Pr.wpG_nil (fun w5 hw5 hG => ?_)
   have hr5 : w5.heap[rb]? = some (.cells (runArr sl (upd R3 (20 + s * 2 + 1) ((tlF m ⟨true,false,true⟩ s ls).2))) 36 (0, 0)) := hG.2.now
   clear hG y0 y1 y2 y3 y4 y5 y6 y7 y8 p0 p1
   have F5 := HF.out.st HP.out hw5.le hr5
   have D5 := (hw5.le.block D (Array.getElem?_eq_some_iff.1 HDa.out).1 (by omega)).trans HDa.out
   have E5 := (hw5.le.block D2 (Array.getElem?_eq_some_iff.1 HDb.out).1 (by omega)).trans HDb.out
   have s5 := Nat.le_trans HS.out hw5.le.size
   clear hw5 hr5 HF HDa HDb HS
   have HF := Lib.hid F5
   have HDa := Lib.hid D5
   have HDb := Lib.hid E5
   have HS := Lib.hid s5
   clear F5 D5 E5 s5
   obtain ⟨X, rfl⟩ : ∃ X, X = w5 := ⟨_, rfl⟩
   have hRf : upd R3 (20 + s * 2 + 1) (tlF m ⟨true, false, true⟩ s ls).2 = rnF m ls s R := by
        rw [← HR3.out, ← HR2.out, ← HR1.out]; rfl
   rw [hRf] at HF
   clear hRf
   go_wp2_with fail
   have hDD : D < D2 := by omega
   have hDn : mp + 2 ≤ D := by have := HP.out; omega
   refine ⟨by simp, .inl ⟨_, _, rfl, run_takeDeferred HDb.out, ?_⟩⟩
   refine ⟨by simp, .inl ⟨_, _, rfl, run_takeDeferred ((World.putObj_heap_other (by omega)).trans HDa.out), ?_⟩⟩
   have F6 := (HF.out.grown HP.out (grownBy_putObj' X D2 (.deferred none)) (fun r e => by cases e; omega)).grown HP.out (grownBy_putObj' _ D (.deferred none)) (fun r e => by cases e; omega)
   exact ⟨_, by kernel_rfl, rfl, F6.rr, F6.rl, F6.bl, F6.kp⟩
end Go.Proofs.YtnkaoplgmglijaaDoor
