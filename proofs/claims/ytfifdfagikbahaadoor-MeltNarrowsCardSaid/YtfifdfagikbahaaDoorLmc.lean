/- The walk of the law MeltConserves. -/
import Derived.Test.YtfifdfagikbahaaDoorFo5
import Derived.Deep.RegionHeld3
namespace Go.Proofs.YtfifdfagikbahaaDoor
open Go.RowKit
attribute [local go_sem] Oper.semAt_some eq3
/-- A course as the laws have it. -/
abbrev csArr (st : Nat → Int) (Ch : Option Addr) (n cc : Nat) : Array Value := #[I (st 0), I (st 1), I (st 2), .slice Ch n cc]
theorem row_cell {W : World} {q : Nat} {t : TypeId} {cs : Array Value} (h : W.heap[q]? = some (.cells cs t (0, 0))) (k : Nat) (v : Value) (hv : cs[k]? = some v) : W.cell? ⟨q, k, none⟩ = some v := by
  rw [cell_of_row _ _ _ _ _ _ h]; exact hv
theorem csRow {W : World} {q s : Nat} {t : TypeId} {st : Nat → Int} {Ch : Option Addr} {n cc : Nat} (h : W.heap[q]? = some (.cells (csArr st Ch n cc) t (0, 0))) (hs : s < 3) : W.cell? ⟨q, s, none⟩ = some (I (st s)) := by
  rw [cell_of_row _ _ _ _ _ _ h]
  match s, hs with | 0, _ => rfl | 1, _ => rfl | 2, _ => rfl
theorem runRow {W : World} {q j : Nat} {t : TypeId} {sl : Value} {R : Nat → Int} (h : W.heap[q]? = some (.cells (runArr sl R) t (0, 0))) (hj : j < 25) : W.cell? ⟨q, j + 1, none⟩ = some (I (R (j + 1))) := by
  rw [cell_of_row _ _ _ _ _ _ h]
  have : ∀ i : Fin 25, (runArr sl R)[i.1 + 1]? = some (I (R (i.1 + 1))) := by
    intro ⟨i, hi⟩
    match i, hi with
    | 0, _ => rfl | 1, _ => rfl | 2, _ => rfl | 3, _ => rfl | 4, _ => rfl | 5, _ => rfl | 6, _ => rfl | 7, _ => rfl | 8, _ => rfl | 9, _ => rfl | 10, _ => rfl | 11, _ => rfl | 12, _ => rfl
    | 13, _ => rfl | 14, _ => rfl | 15, _ => rfl | 16, _ => rfl | 17, _ => rfl | 18, _ => rfl | 19, _ => rfl | 20, _ => rfl | 21, _ => rfl | 22, _ => rfl | 23, _ => rfl | 24, _ => rfl
    | i + 25, h => exact absurd h (by omega)
  exact this ⟨j, hj⟩
theorem runRow' {W : World} {q j : Nat} {t : TypeId} {sl : Value} {R : Nat → Int} (h : W.heap[q]? = some (.cells (runArr sl R) t (0, 0))) (h1 : 1 ≤ j) (hj : j < 26) : W.cell? ⟨q, j, none⟩ = some (I (R j)) := by
  obtain ⟨i, rfl⟩ : ∃ i, j = i + 1 := ⟨j - 1, by omega⟩
  exact runRow h (by omega)
set_option maxRecDepth 100000 in
set_option maxHeartbeats 8000000 in
theorem meltConserves_any (m : Mlt) (A : Option Addr) (c : Nat) (l : List Stp) (st : Nat → Int) (Ch : Option Addr) (cc : Nat) (cs : List (Nat → Int)) (w : World) (hG : Glob w) (hx : Rd w w.heap.size 8 A l.length (rT l)) (hk : ∀ j, j < l.length → 0 ≤ (at0 l j).kd ∧ (at0 l j).kd ≤ 255) (hn : l.length ≤ maxLen) (hc : Rd w w.heap.size 3 Ch cs.length (rN3 cs)) (hcn : cs.length ≤ maxLen) :
    Calls Tryd.prog 7 #[.agg (mltArr m), .slice A l.length c, .agg (csArr st Ch cs.length cc)] w fun e w' => e = .returned (.bool true) ∧ Below w.heap.size w w' := by
  obtain ⟨W, hW⟩ : ∃ W, W = (w.alloc (.cells (mltArr m) 27)).alloc (.cells (csArr st Ch cs.length cc) 66) := ⟨_, rfl⟩
  have hb0 : Below w.heap.size w W := by rw [hW]; exact ((Below.refl _ _).alloc (Nat.le_refl _) _).alloc (by simp) _
  have r0 : W.heap[w.heap.size]? = some (.cells (mltArr m) 27 (0, 0)) := by rw [hW]; exact heap_before (heap_last _ _ _ rfl)
  have r1 : W.heap[w.heap.size + 1]? = some (.cells (csArr st Ch cs.length cc) 66 (0, 0)) := by rw [hW]; exact heap_last _ _ _ (by simp)
  have sW : w.heap.size + 2 = W.heap.size := by rw [hW]; simp
  have HW := Lib.hid hW
  have HY : Hid (∀ W', Below W.heap.size W W' → W'.heap[w.heap.size]? = some (.cells (mltArr m) 27 (0, 0)) ∧ W'.heap[w.heap.size + 1]? = some (.cells (csArr st Ch cs.length cc) 66 (0, 0)) ∧ Rd W' w.heap.size 8 A l.length (rT l) ∧ Rd W' w.heap.size 3 Ch cs.length (rN3 cs) ∧ Glob W' ∧ Below w.heap.size w W') := fun W' h => by
    have h' := hb0.trans (h.mono hb0.size)
    exact ⟨(h.block _ (by omega)).trans r0, (h.block _ (by omega)).trans r1, hx.below h', hc.below h', hG.below h', h'⟩
  have Hk := Lib.hid hk
  have Hn := Lib.hid hn
  have Hcn := Lib.hid hcn
  have H0 : Hid (Below W.heap.size W W) := Below.refl _ _
  clear hW hb0 r0 r1 hG hx hc hk hn hcn
  go_enter Tryd.func7, Tryd.ntmps7
  go_upto_region 1 with (fail)
  rw [← HW.out]
  have x := fun k v h =>   (row_cell (HY.out W H0.out).2.1 k v h)
  have x0 := x 0 _ rfl
  have x1 := x 1 _ rfl
  have x2 := x 2 _ rfl
  have x3 := x 3 _ rfl
  clear x
  by_cases h60 : 60 < l.length
  · as_aux_lemma =>
      have d1 : decide (60 < (l.length : Int)) = true := decide_eq_true (by omega)
      clear h60
      go_wp2_with fail
      refine (known_any W (HY.out W H0.out).2.2.2.2.1).mono ?_
      rintro e wk ⟨rfl, hbk⟩
      have HK : Hid (Below W.heap.size W wk) := Below.trans H0.out (hbk.mono (Below.size H0.out))
      clear hbk
      go_wp2_with fail
      go_ret
      exact ⟨rfl, (HY.out wk HK.out).2.2.2.2.2⟩
  have d1 : decide (60 < (l.length : Int)) = false := decide_eq_false (by omega)
  by_cases h61 : 60 < cs.length
  · as_aux_lemma =>
      have d2 : decide (60 < (cs.length : Int)) = true := decide_eq_true (by omega)
      clear h60 h61
      go_wp2_with fail
      refine (known_any W (HY.out W H0.out).2.2.2.2.1).mono ?_
      rintro e wk ⟨rfl, hbk⟩
      have HK : Hid (Below W.heap.size W wk) := Below.trans H0.out (hbk.mono (Below.size H0.out))
      clear hbk
      go_wp2_with fail
      go_ret
      exact ⟨rfl, (HY.out wk HK.out).2.2.2.2.2⟩
  have d2 : decide (60 < (cs.length : Int)) = false := decide_eq_false (by omega)
  have hl60 : l.length ≤ 60 := by omega
  have hc60 : cs.length ≤ 60 := by omega
  clear h60 h61
  go_upto_region 3 with (fail)
  clear x0 x1 x2 x3 d1 d2
  have y := fun k v h => ovr_cell (row_cell (HY.out W H0.out).1 k v h)
  have y0 := y 0 _ rfl
  have y1 := y 1 _ rfl
  have y2 := y 2 _ rfl
  have y3 := y 3 _ rfl
  have y4 := y 4 _ rfl
  have y5 := y 5 _ rfl
  have y6 := y 6 _ rfl
  clear y
  have x := fun k v h => ovr_cell (row_cell (HY.out W H0.out).2.1 k v h)
  have x0 := x 0 _ rfl
  have x1 := x 1 _ rfl
  have x2 := x 2 _ rfl
  have x3 := x 3 _ rfl
  clear x
  go_cut [7, 8, 9] (fun s7 s8 s9 wx => ∃ (S : Option Addr) (n d xb : Nat) (E : Nat → Int), s7 = .slice S n d ∧ s8 = .pointer (some ⟨xb, 0, none⟩) ∧ s9 = I (flE m l st cs) ∧ n ≤ d ∧ d ≤ maxLen ∧ (flE m l st cs ≠ 0 → S = none ∧ n = 0 ∧ d = 0 ∧ E = fun _ => 0) ∧ (flE m l st cs = 0 → n = fzK l l.length ∧ E = fun s => wkG m (tdG cs s) s (st s) l l.length) ∧ ClIn W.heap.size wx S n (rN3 (fzL l cs l.length)) ∧ wx.heap[xb]? = some (.cells (cnArr E) 63 (0, 0)) ∧ W.heap.size ≤ xb ∧ Below W.heap.size W wx)
  case first =>
    have HK : Hid (∀ w', Below W.heap.size W w' → (w'.cell? ⟨w.heap.size, 0, none⟩ = some (I m.ms) ∧ w'.cell? ⟨w.heap.size, 1, none⟩ = some (I (m.ct 0)) ∧ w'.cell? ⟨w.heap.size, 2, none⟩ = some (I (m.ct 1)) ∧ w'.cell? ⟨w.heap.size, 3, none⟩ = some (I (m.ct 2)) ∧ w'.cell? ⟨w.heap.size, 4, none⟩ = some (I (m.ct 3)) ∧ w'.cell? ⟨w.heap.size, 5, none⟩ = some (I (m.ct 4)) ∧ w'.cell? ⟨w.heap.size, 6, none⟩ = some (I (m.ct 5))) ∧
      w'.cell? ⟨w.heap.size + 1, 0, none⟩ = some (I (st 0)) ∧ w'.cell? ⟨w.heap.size + 1, 1, none⟩ = some (I (st 1)) ∧ w'.cell? ⟨w.heap.size + 1, 2, none⟩ = some (I (st 2)) ∧ w'.cell? ⟨w.heap.size + 1, 3, none⟩ = some (.slice Ch cs.length cc)) := fun w' h => by
      have q := HY.out w' h
      exact ⟨⟨row_cell q.1 _ _ rfl, row_cell q.1 _ _ rfl, row_cell q.1 _ _ rfl, row_cell q.1 _ _ rfl, row_cell q.1 _ _ rfl, row_cell q.1 _ _ rfl, row_cell q.1 _ _ rfl⟩, row_cell q.2.1 _ _ rfl, row_cell q.2.1 _ _ rfl, row_cell q.2.1 _ _ rfl, row_cell q.2.1 _ _ rfl⟩
    clear y0 y1 y2 y3 y4 y5 y6 x0 x1 x2 x3
    have kb0 : Below W.heap.size W W.drew := (Below.refl _ _).drew
    go_region_held3 (fun w' => (w'.cell? ⟨w.heap.size, 0, none⟩ = some (I m.ms) ∧ w'.cell? ⟨w.heap.size, 1, none⟩ = some (I (m.ct 0)) ∧ w'.cell? ⟨w.heap.size, 2, none⟩ = some (I (m.ct 1)) ∧ w'.cell? ⟨w.heap.size, 3, none⟩ = some (I (m.ct 2)) ∧ w'.cell? ⟨w.heap.size, 4, none⟩ = some (I (m.ct 3)) ∧ w'.cell? ⟨w.heap.size, 5, none⟩ = some (I (m.ct 4)) ∧ w'.cell? ⟨w.heap.size, 6, none⟩ = some (I (m.ct 5))) ∧
      w'.cell? ⟨w.heap.size + 1, 0, none⟩ = some (I (st 0)) ∧ w'.cell? ⟨w.heap.size + 1, 1, none⟩ = some (I (st 1)) ∧ w'.cell? ⟨w.heap.size + 1, 2, none⟩ = some (I (st 2)) ∧ w'.cell? ⟨w.heap.size + 1, 3, none⟩ = some (.slice Ch cs.length cc)) (first
      | exact HK.out _ (by first | assumption | exact Below.alloc ‹Below W.heap.size W _› (Below.size ‹Below W.heap.size W _›) _)
      | (refine HK.out _ (Below.setCell (Below.setCell (Below.setCell (by first | assumption | exact Below.alloc ‹Below W.heap.size W _› (Below.size ‹Below W.heap.size W _›) _) ?_ _) ?_ _) ?_ _) <;> first | exact Nat.le_refl _ | exact Below.size kb0 | exact Below.size kb1 | exact Below.size kb2 | exact Below.size kb3)
      | trace_state) (first
      | (go_at_call 13; refine (ownSteps_any A l.length c (rT l) _ w.heap.size (by omega) (Below.size (HY.out _ (by first | assumption | exact Below.alloc ‹Below W.heap.size W _› (Below.size ‹Below W.heap.size W _›) _)).2.2.2.2.2) (HY.out _ (by first | assumption | exact Below.alloc ‹Below W.heap.size W _› (Below.size ‹Below W.heap.size W _›) _)).2.2.1).mono ?_; rintro e w1 ⟨A1, c1, rfl, l1, l2, hr1, k1⟩; have kb1 : Below W.heap.size W w1 := Below.trans (by first | assumption | exact Below.alloc ‹Below W.heap.size W _› (Below.size ‹Below W.heap.size W _›) _) (Below.mono k1 (Below.size (by first | assumption | exact Below.alloc ‹Below W.heap.size W _› (Below.size ‹Below W.heap.size W _›) _))); (first | (have hq := (k1.block W.heap.size (by simp)).trans (heap_last W.drew (.cells #[I 0, I 0, I 0] 63) W.heap.size rfl)) | (have hq := (k1.block _ (Array.getElem?_eq_some_iff.1 hq).1).trans hq) | skip); (try (have z0 := row_cell hq 0 _ rfl; have z1 := row_cell hq 1 _ rfl; have z2 := row_cell hq 2 _ rfl; have g0 := frozen_of_row _ _ 0 _ _ hq; have g1 := frozen_of_row _ _ 1 _ _ hq; have g2 := frozen_of_row _ _ 2 _ _ hq)))
      | (go_at_call 28; refine (ownCnts_any Ch cs.length cc (rN3 cs) _ w.heap.size (by omega) (Below.size (HY.out _ (by first | assumption | exact Below.alloc ‹Below W.heap.size W _› (Below.size ‹Below W.heap.size W _›) _)).2.2.2.2.2) (HY.out _ (by first | assumption | exact Below.alloc ‹Below W.heap.size W _› (Below.size ‹Below W.heap.size W _›) _)).2.2.2.1).mono ?_; rintro e w2 ⟨A2, c2, rfl, l3, l4, hr2, k2⟩; have kb2 : Below W.heap.size W w2 := Below.trans (by first | assumption | exact Below.alloc ‹Below W.heap.size W _› (Below.size ‹Below W.heap.size W _›) _) (Below.mono k2 (Below.size (by first | assumption | exact Below.alloc ‹Below W.heap.size W _› (Below.size ‹Below W.heap.size W _›) _))); (first | (have hq := (k2.block (World.heap w1).size (by simp)).trans (heap_last w1 (.cells #[I 0, I 0, I 0] 63) _ rfl)) | (have hq := (k2.block _ (Array.getElem?_eq_some_iff.1 hq).1).trans hq) | skip); (try (have z0 := row_cell hq 0 _ rfl; have z1 := row_cell hq 1 _ rfl; have z2 := row_cell hq 2 _ rfl; have g0 := frozen_of_row _ _ 0 _ _ hq; have g1 := frozen_of_row _ _ 1 _ _ hq; have g2 := frozen_of_row _ _ 2 _ _ hq)); have k12 : Below w1.heap.size w1 w2 := (by first | exact k2 | exact Below.trans (Below.alloc (Below.refl _ _) (Nat.le_refl _) _) (Below.mono k2 (by simp))); have hr1 := (hr1.below k12).more (Below.size k12))
      | (go_at_call 27; refine (follow_uni m A1 c1 l st A2 c2 cs _ (HY.out _ (by first | assumption | exact Below.alloc ‹Below W.heap.size W _› (Below.size ‹Below W.heap.size W _›) _)).2.2.2.2.1 (by first | exact hr1 | exact (hr1.alloc (Nat.le_refl _) _).more (by simp)) Hk.out Hn.out (by first | exact hr2 | exact (hr2.alloc (Nat.le_refl _) _).more (by simp)) Hcn.out).mono ?_; rintro e w3 ⟨S, n, d, E, rfl, hd1, hd2, hne, heq, hcl, k3⟩; have kb3 : Below W.heap.size W w3 := Below.trans (by first | assumption | exact Below.alloc ‹Below W.heap.size W _› (Below.size ‹Below W.heap.size W _›) _) (Below.mono k3 (Below.size (by first | assumption | exact Below.alloc ‹Below W.heap.size W _› (Below.size ‹Below W.heap.size W _›) _))); (first | (have hq := (k3.block (World.heap w2).size (by simp)).trans (heap_last w2 (.cells #[I 0, I 0, I 0] 63) _ rfl)) | (have hq := (k3.block _ (Array.getElem?_eq_some_iff.1 hq).1).trans hq) | skip); (try (have z0 := row_cell hq 0 _ rfl; have z1 := row_cell hq 1 _ rfl; have z2 := row_cell hq 2 _ rfl; have g0 := frozen_of_row _ _ 0 _ _ hq; have g1 := frozen_of_row _ _ 1 _ _ hq; have g2 := frozen_of_row _ _ 2 _ _ hq))))
    all_goals go_wp2_with fail
    all_goals go_meet
    all_goals
      have s1 := Below.size k1
      have s2 := Below.size k2
      have s3 := Below.size k3
      simp at s1 s2 s3
      first
      | exact ⟨S, n, d, w3.heap.size, E, rfl, rfl, rfl, hd1, hd2, hne, heq, hcl.row' (Below.size kb2) fun b o _ ho _ => heap_before ho, heap_last _ _ _ rfl, Below.size kb3, Below.alloc kb3 (Below.size kb3) _⟩
      | exact ⟨S, n, d, _, E, rfl, rfl, rfl, hd1, hd2, hne, heq, hcl.row' (by simp; omega) fun b o hb ho _ => (by simp at hb; exact ro (ro (ro ho (by omega)) (by omega)) (by omega)), rs (rs (rs hq 0 _) 1 _) 2 _, (by omega), (by refine Below.setCell (Below.setCell (Below.setCell kb3 ?_ _) ?_ _) ?_ _ <;> (show W.heap.size ≤ _; (try dsimp only); omega))⟩
      | exact ⟨S, n, d, _, E, rfl, rfl, rfl, hd1, hd2, hne, heq, hcl.row' (by omega) fun b o hb ho _ => ro (ro (ro ho (by omega)) (by omega)) (by omega), rs (rs (rs hq 0 _) 1 _) 2 _, (by omega), (by refine Below.setCell (Below.setCell (Below.setCell kb3 ?_ _) ?_ _) ?_ _ <;> (show W.heap.size ≤ _; (try dsimp only); omega))⟩
  obtain ⟨S, n, d, xb, E, rfl, rfl, rfl, hd1, hd2, hne, heq, hcl, hxr, hxb, hbx⟩ := hcut
  rename World => V
  have H3 : Hid (Below W.heap.size W V) := hbx
  have Hcl := Lib.hid hcl
  have Hxr := Lib.hid hxr
  have Hne := Lib.hid hne
  have Heq := Lib.hid heq
  have hsV := hbx.size
  clear hcl hxr hne heq hbx
  by_cases h0 : flE m l st cs = 0
  case neg =>
    as_aux_lemma =>
      obtain ⟨rfl, rfl, rfl, rfl⟩ := Hne.out h0
      obtain ⟨er, her⟩ : ∃ q, flE m l st cs = q := ⟨_, rfl⟩
      rw [her]
      have e1 : (er != 0) = true := by simp; omega
      have z0 : V.cell? ⟨xb, 0, none⟩ = some (I 0) := row_cell Hxr.out 0 _ rfl
      have z1 : V.cell? ⟨xb, 1, none⟩ = some (I 0) := row_cell Hxr.out 1 _ rfl
      have z2 : V.cell? ⟨xb, 2, none⟩ = some (I 0) := row_cell Hxr.out 2 _ rfl
      clear her h0 hd1 hd2
      go_wp2_with fail
      refine (known_any V (HY.out V H3.out).2.2.2.2.1).mono ?_
      rintro e wk ⟨rfl, hbk⟩
      have HK : Hid (Below W.heap.size W wk) := Below.trans H3.out (hbk.mono (Below.size H3.out))
      clear hbk
      go_wp2_with fail
      go_ret
      exact ⟨rfl, (HY.out wk HK.out).2.2.2.2.2⟩
  obtain ⟨rfl, hE⟩ := Heq.out h0
  have HE := Lib.hid hE
  have Hcons : Hid (∀ s, s < 3 → Cons m l st cs s) := fun s hs => cons_all h0 hs
  have Hck : Hid (ckF m l = 0 ∧ cs.length = l.length) := ⟨(flE_ok h0).1, (flE_ok h0).2.1⟩
  rw [h0]
  clear h0 hE
  go_upto_region 6 with (fail)
  have y := fun k v h => ovr_cell (row_cell (HY.out V H3.out).1 k v h)
  have y0 := y 0 _ rfl
  have y1 := y 1 _ rfl
  have y2 := y 2 _ rfl
  have y3 := y 3 _ rfl
  have y4 := y 4 _ rfl
  have y5 := y 5 _ rfl
  have y6 := y 6 _ rfl
  clear y
  refine wp_region_make_two (fun j => if j = 2 then some (OlF 8 l.length (rT l)) else if j = 3 then some (PrdF m l) else if j = 7 then some (NewAt V (runArr (.slice none 0 0) fun _ => 0) 35) else none) [6] (by kernel_rfl) (by kernel_rfl) (by kernel_rfl) (by kernel_rfl) (by kernel_rfl) (by intro i hi; simp at hi; subst hi; rfl) ⟨rfl, rfl⟩ (fun c a d v w h => by cases d <;> exact h) ?_
  simp only [sleepTwo_cons, sleepTwo_two]
  repeat (refine wpG_one rfl rfl rfl ?_; intro K hK; go_big_quiet_op; go_big_quiet_on)
  refine wpG_make (OlF 8 l.length (rT l)) rfl rfl (fun w' hw' _ => ?_) (fun u hu => ?_)
  · go_simp
    exact olF_grow (ownSteps_any A l.length c (rT l) w' w.heap.size (by omega) (by have := hw'.le.size; omega) (HY.out w' (H3.out.trans (hw'.le.mono hsV))).2.2.1)
  obtain ⟨_, _, A1, c1, rfl, _, _, _⟩ := hu
  simp only [Act.put, List.setIfInBounds_toArray, List.set_cons_zero, List.set_cons_succ]
  refine wpG_make (PrdF m l) rfl rfl (fun w' hw' hk => ?_) (fun u hu => ?_)
  · obtain ⟨b1, e1, he1, _, _, hr1⟩ := (hk ⟨2, .data⟩ (by simp) rfl _ _ _ rfl rfl rfl (by simp) rfl).now
    obtain ⟨rfl, rfl⟩ : A1 = b1 ∧ c1 = e1 := by simp at he1; exact he1
    go_simp
    exact predict_grow m A1 c1 l w' (HY.out w' (H3.out.trans (hw'.le.mono hsV))).2.2.2.2.1 hr1 Hk.out Hn.out
  obtain ⟨_, _, hu⟩ := hu
  rcases hu with ⟨h0, _⟩ | ⟨_, S2, d2, rfl, hd3, hd4, _⟩
  · exact absurd Hck.out.1 h0
  simp only [Act.put, List.setIfInBounds_toArray, List.set_cons_zero, List.set_cons_succ]
  repeat (refine wpG_one rfl rfl rfl ?_; intro K hK; go_big_quiet_op; go_big_quiet_on)
  refine wpG_make (NewAt V (runArr (.slice none 0 0) fun _ => 0) 35) rfl rfl (fun w' hw' _ => ?_) (fun u hu => ?_)
  · go_simp
    exact new_grow hw'
  obtain ⟨_, _, rb, rfl, _, hrb⟩ := hu
  simp only [Act.put, List.setIfInBounds_toArray, List.set_cons_zero, List.set_cons_succ]
  repeat (refine wpG_one rfl rfl rfl ?_; intro K hK; go_big_quiet_op; go_big_quiet_on)
  refine wpG_nil (fun w5 hw5 hG5 => ?_)
  have hx5 := (Box.now hG5.2).at.1
  have hP := (Box.now hG5.1.2).sl Hck.out.1
  clear hG5
  intro s t hs ht
  obtain rfl := Option.some.inj hs
  obtain rfl := Option.some.inj ht
  clear hs ht
  refine wp_store_row 35 _ _ rfl rb rfl _ _ hx5 (runArr (.slice S2 (fzK l l.length) d2) (prR m l)) rfl (run_one rfl) rfl (by kernel_rfl) ?_
  refine ⟨hw5.set hrb _, ?_⟩
  refine wp_assign _ (I 0) rfl rfl ?_
  refine ⟨hw5.set hrb _, ?_⟩
  simp only [Act.put, List.setIfInBounds_toArray, List.set_cons_zero, List.set_cons_succ]
  obtain ⟨Z, hZ⟩ : ∃ Z, Z = w5.setRow rb (runArr (.slice S2 (fzK l l.length) d2) (prR m l)) := ⟨_, rfl⟩
  have rZ : Z.heap[rb]? = some (.cells (runArr (.slice S2 (fzK l l.length) d2) (prR m l)) 35 (0, 0)) := by rw [hZ]; exact setRow_same hx5
  have bZ : Below V.heap.size V Z := by rw [hZ]; exact below_setRow hw5.le hrb _
  have sZ : SlIn 0 Z (.slice S2 (fzK l l.length) d2) (fzK l l.length) (prS m l) := by
    rw [hZ]
    rcases hP.2 with h | ⟨b, c, cs, h0, _, h2, h3⟩
    · exact .inl h
    · refine .inr ⟨b, c, cs, h0, Nat.zero_le _, ?_, h3⟩
      rw [setRow_other]
      · exact h2
      · rintro rfl
        rw [hx5] at h2
        injection h2 with h2
        injection h2 with _ ht _
        exact absurd ht (by decide)
  have HZ : Hid (Below W.heap.size W Z) := H3.out.trans (bZ.mono hsV)
  have HrZ := Lib.hid rZ
  have HsZ := Lib.hid sZ.rd
  have HxZ := Lib.hid ((bZ.block xb (Array.getElem?_eq_some_iff.1 Hxr.out).1).trans Hxr.out)
  have HcZ := Lib.hid (Hcl.out.row (w' := Z) fun b o _ ho _ => (bZ.block b (Array.getElem?_eq_some_iff.1 ho).1).trans ho).rd
  have hsZ := bZ.size
  rw [← hZ]
  clear hZ rZ bZ sZ hP hx5 hw5 y0 y1 y2 y3 y4 y5 y6
  obtain ⟨fz, hfz⟩ : ∃ q, fzK l l.length = q := ⟨_, rfl⟩
  have Hfz := Lib.hid hfz
  have hfl : fz ≤ 60 := by have := fzK_le l l.length; omega
  rw [hfz] at HrZ HsZ HcZ ⊢
  clear hfz
  have z0 : Z.cell? ⟨rb, 0, none⟩ = some (.slice S2 fz d2) := row_cell HrZ.out 0 _ rfl
  have z1 : Z.cell? ⟨rb, 1, none⟩ = some (I (msK m l l.length)) := by rw [← prR_1]; exact row_cell HrZ.out 1 _ rfl
  have y0 : Z.cell? ⟨w.heap.size, 0, none⟩ = some (I m.ms) := row_cell (HY.out Z HZ.out).1 0 _ rfl
  have Hv : Hid (Vld m l) := vld_of Hck.out.1
  go_wp2_with fail
  go_loopw [12, 11] (fun i a wr => ∃ k : Nat, k ≤ l.length ∧ i = .int .i64 k ∧ a = I (msK m l k) ∧ wr = Z) (fun i _ _ => l.length - (intOf i).toNat)
  case atStart => exact ⟨0, by omega, rfl, rfl, rfl⟩
  case round =>
    rename World => X
    obtain ⟨k, hk, rfl, rfl, hwr⟩ := hrel
    rw [hwr]
    clear hwr
    by_cases hlt : k < l.length
    · have hki : decide ((k : Int) < (l.length : Int)) = true := decide_eq_true (by omega)
      have hkn : decide (k < l.length) = true := decide_eq_true hlt
      have hk0 : decide (0 ≤ (k : Int)) = true := decide_eq_true (by omega)
      obtain ⟨b, o, rfl, _, x0, x1, x2, x3, x4, x5, x6, x7⟩ := (HY.out Z HZ.out).2.2.1.stp hlt
      have hkk := isS_kd (Hv.out.isS hlt)
      have hm0 := Hv.out.ms (show k ≤ l.length by omega)
      have hm1 := Hv.out.ms (show k + 1 ≤ l.length by omega)
      have em : Hid (msK m l (k + 1) = grF (msK m l k) (at0 l k)) := rfl
      obtain ⟨kd, hkd⟩ : ∃ q, (at0 l k).kd = q := ⟨_, rfl⟩
      obtain ⟨xm, hxm⟩ : ∃ q, (at0 l k).ms = q := ⟨_, rfl⟩
      obtain ⟨mk, hmk⟩ : ∃ q, msK m l k = q := ⟨_, rfl⟩
      obtain ⟨mk1, hmk1⟩ : ∃ q, msK m l (k + 1) = q := ⟨_, rfl⟩
      have Hmk1 := Lib.hid hmk1
      rw [hmk1] at em hm1
      have eg : mk1 = if kd = 1 then mk - xm else if kd = 2 then mk + xm else mk := by rw [em.out]; unfold grF; rw [hkd, hxm, hmk]
      rw [hkd] at x0 hkk
      rw [hxm] at x1
      rw [hmk] at hm0 ⊢
      clear x2 x3 x4 x5 x6 x7 hkd hxm hmk hmk1 em z0 z1 y0
      rcases hkk with rfl | rfl | rfl | rfl
      · have eg1 : mk1 = mk - xm := eg
        clear eg
        have wr : IntKind.i64.wrap (mk - xm) = mk - xm := IntWalk.i64_in _ (by omega)
        have Hg := Lib.hid eg1
        clear eg1 hm0 hm1
        go_wp2_with fail
        go_roundw
        case rel => exact ⟨k + 1, hlt, by go_num, by rw [Hmk1.out, Hg.out], by first | rfl | trivial⟩
        case measure => simp [intOf]; omega
      · have eg1 : mk1 = mk + xm := eg
        clear eg
        have wr : IntKind.i64.wrap (mk + xm) = mk + xm := IntWalk.i64_in _ (by omega)
        have Hg := Lib.hid eg1
        clear eg1 hm0 hm1
        go_wp2_with fail
        go_roundw
        case rel => exact ⟨k + 1, hlt, by go_num, by rw [Hmk1.out, Hg.out], by first | rfl | trivial⟩
        case measure => simp [intOf]; omega
      all_goals
        have eg1 : mk1 = mk := eg
        clear eg hm0 hm1
        have Hg := Lib.hid eg1
        clear eg1
        go_wp2_with fail
        go_roundw
        case rel => exact ⟨k + 1, hlt, by go_num, by rw [Hmk1.out, Hg.out], by first | rfl | trivial⟩
        case measure => simp [intOf]; omega
    · obtain rfl : k = l.length := by omega
      have hki : decide ((l.length : Int) < (l.length : Int)) = false := decide_eq_false (by omega)
      go_wp2_with fail
      clear z0 z1 y0
      go_loopw [13] (fun i wr => ∃ s : Nat, s ≤ 3 ∧ i = .int .i64 s ∧ Below Z.heap.size Z wr) (fun i _ => 3 - (intOf i).toNat)
      case atStart => exact ⟨0, by omega, rfl, Below.refl _ _⟩
      case round =>
        clear X
        rename World => X
        obtain ⟨s, hs, rfl, hbX⟩ := hrel
        have HX : Hid (Below W.heap.size W X) := HZ.out.trans (hbX.mono HZ.out.size)
        have HbX := Lib.hid hbX
        have hsX := hbX.size
        clear hbX
        by_cases hs3 : s < 3
        · have hsi : decide ((s : Int) < 3) = true := decide_eq_true (by omega)
          have hsn : decide (s < 3) = true := decide_eq_true hs3
          have hs0 : decide (0 ≤ (s : Int)) = true := decide_eq_true (by omega)
          have hC := Hcons.out s hs3
          have x3 : X.cell? ⟨w.heap.size + 1, 3, none⟩ = some (.slice Ch cs.length cc) := row_cell (HY.out X HX.out).2.1 3 _ rfl
          go_upto_region 23 with (fail)
          go_wp2_with fail
          refine (sums_any A Ch c cc s l cs X hs3 (by omega) Hck.out.2 (fun k hk => Hv.out.isS hk) hC.bd ((HY.out X HX.out).2.2.1.more (HY.out X HX.out).2.2.2.2.2.size) ((HY.out X HX.out).2.2.2.1.more (HY.out X HX.out).2.2.2.2.2.size)).mono ?_
          rintro e X1 ⟨rfl, hbX1⟩
          have HbX1 : Hid (Below Z.heap.size Z X1) := HbX.out.trans (hbX1.mono hsX)
          have HX1 : Hid (Below W.heap.size W X1) := HX.out.trans (hbX1.mono HX.out.size)
          have hsX1 := HbX1.out.size
          clear hbX1 x3
          have ba := sumK_bd (l := l) (p := isA) (n := l.length) (c := fun k => at0 cs k s) hC.bd l.length (Nat.le_refl _)
          have bf := sumK_bd (l := l) (p := isF) (n := l.length) (c := fun k => at0 cs k s) hC.bd l.length (Nat.le_refl _)
          have bv := sumK_bd (l := l) (p := isV) (n := l.length) (c := fun k => at0 cs k s) hC.bd l.length (Nat.le_refl _)
          have c1 := hC.sum
          have c2 := hC.ad
          have c3 := hC.fr
          have c4 := hC.va
          have c5 := hC.en
          have c6 := hC.eb
          have c7 := hC.sb
          obtain ⟨va, hva⟩ : ∃ q, sumK l (fun k => at0 cs k s) isA l.length = q := ⟨_, rfl⟩
          obtain ⟨vf, hvf⟩ : ∃ q, sumK l (fun k => at0 cs k s) isF l.length = q := ⟨_, rfl⟩
          obtain ⟨vv, hvv⟩ : ∃ q, sumK l (fun k => at0 cs k s) isV l.length = q := ⟨_, rfl⟩
          obtain ⟨dv, hdv⟩ : ∃ q, wkG m (tdG cs s) s (st s) l l.length = q := ⟨_, rfl⟩
          simp only [hva, hvf, hvv, hdv] at ba bf bv c1 c2 c3 c4 c5 c6 ⊢
          have hEs : E s = dv := by rw [HE.out]; exact hdv
          have w1 : IntKind.i64.wrap (st s + va) = vf + vv + dv := by rw [IntWalk.i64_in _ (by omega)]; omega
          have w2 : IntKind.i64.wrap (vf + vv) = vf + vv := IntWalk.i64_in _ (by omega)
          have w3 : IntKind.i64.wrap (vf + vv + dv) = vf + vv + dv := IntWalk.i64_in _ (by omega)
          have rb1 := (HbX1.out.block rb (Array.getElem?_eq_some_iff.1 HrZ.out).1).trans HrZ.out
          have xb1 := (HbX1.out.block xb (Array.getElem?_eq_some_iff.1 HxZ.out).1).trans HxZ.out
          have rr := fun j (h1 : 1 ≤ j) (hj : j < 26) => ovr_cell (runRow' rb1 h1 hj)
          have r1 := rr (8 + s * 2) (by omega) (by omega)
          have r2 := rr (8 + s * 2 + 1) (by omega) (by omega)
          have r3 := rr (14 + s * 2) (by omega) (by omega)
          have r4 := rr (14 + s * 2 + 1) (by omega) (by omega)
          have r5 := rr (20 + s * 2) (by omega) (by omega)
          have r6 := rr (20 + s * 2 + 1) (by omega) (by omega)
          have r7 := rr (2 + s * 2) (by omega) (by omega)
          have r8 := rr (2 + s * 2 + 1) (by omega) (by omega)
          generalize prR m l (8 + s * 2) = p1 at r1 c2
          generalize prR m l (8 + s * 2 + 1) = p2 at r2 c2
          generalize prR m l (14 + s * 2) = p3 at r3 c3
          generalize prR m l (14 + s * 2 + 1) = p4 at r4 c3
          generalize prR m l (20 + s * 2) = p5 at r5 c4
          generalize prR m l (20 + s * 2 + 1) = p6 at r6 c4
          generalize prR m l (2 + s * 2) = p7 at r7 c5
          generalize prR m l (2 + s * 2 + 1) = p8 at r8 c5
          have q1 := ovr_cell (csRow (HY.out X1 HX1.out).2.1 hs3)
          have q2 := ovr_cell (show X1.cell? ⟨xb, s, none⟩ = some (I dv) by rw [← hEs]; exact cn_cell xb1 hs3)
          clear rr rb1 xb1 hva hvf hvv hdv hEs c1 c6 c7 ba bf bv hC
          have eq0 : ((vf + vv + dv) != (vf + vv + dv)) = false := by simp
          go_upto_region 24 with (fail)
          refine wp_region_below_lit (by kernel_rfl) (by kernel_rfl) ?_
          repeat (go_big_quiet_step ((go_at_call 31; exact call_below (has2 _ _ _ (by assumption) _))))
          refine wpQuiet_nil ?_
          intro X2 hbX2
          have HbX2 : Hid (Below Z.heap.size Z X2) := HbX1.out.trans (hbX2.mono hsX1)
          clear hbX2 r1 r2 r3 r4 r5 r6 r7 r8 q1 q2 c2 c3 c4 c5 w1 w2 w3 eq0
          have hC := Hcons.out s hs3
          have Hsl : Hid (∀ i, i < fz → wiB (at0 (fzL l cs l.length) i s) (prS m l i (1 + s * 2)) (prS m l i (1 + s * 2 + 1)) = true) := fun i hi => hC.sl i (by rw [Hfz.out]; exact hi)
          clear hC
          go_wp2_with fail
          go_loopw [17] (fun i wr => ∃ j : Nat, j ≤ fz ∧ i = .int .i64 j ∧ Below Z.heap.size Z wr) (fun i _ => fz - (intOf i).toNat)
          case atStart => exact ⟨0, by omega, rfl, HbX2.out⟩
          case round =>
            rename World => X3
            obtain ⟨j, hj, rfl, hbX3⟩ := hrel
            have HbX3 := Lib.hid hbX3
            have HX3 : Hid (Below W.heap.size W X3) := HZ.out.trans (hbX3.mono HZ.out.size)
            have hsX3 := hbX3.size
            clear hbX3
            by_cases hjf : j < fz
            · have hji : decide ((j : Int) < (fz : Int)) = true := decide_eq_true (by omega)
              have hjn : decide (j < fz) = true := decide_eq_true hjf
              have hj0 : decide (0 ≤ (j : Int)) = true := decide_eq_true (by omega)
              have hw := Hsl.out j hjf
              have rb3 := (HbX3.out.block rb (Array.getElem?_eq_some_iff.1 HrZ.out).1).trans HrZ.out
              have z0 := ovr_cell (row_cell rb3 0 _ rfl)
              obtain ⟨sb, so, rfl, _, hsc⟩ := (HsZ.out.below HbX3.out) (by omega)
              obtain ⟨ab, ao, rfl, _, hac⟩ := (HcZ.out.below HbX3.out) (by omega)
              have z1 := ovr_cell (show X3.cell? ⟨sb, so + j * 7 + 1 + s * 2, none⟩ = some (I (prS m l j (1 + s * 2))) by have := hsc j hjf (1 + s * 2) (by omega); rwa [← Nat.add_assoc] at this)
              have z2 := ovr_cell (show X3.cell? ⟨sb, so + j * 7 + 1 + s * 2 + 1, none⟩ = some (I (prS m l j (1 + s * 2 + 1))) by have := hsc j hjf (1 + s * 2 + 1) (by omega); rwa [← Nat.add_assoc, ← Nat.add_assoc] at this)
              have z3 := ovr_cell (show X3.cell? ⟨ab, ao + j * 3 + s, none⟩ = some (I (at0 (fzL l cs l.length) j s)) from hac j hjf s hs3)
              generalize prS m l j (1 + s * 2) = p1 at hw z1
              generalize prS m l j (1 + s * 2 + 1) = p2 at hw z2
              generalize at0 (fzL l cs l.length) j s = p3 at hw z3
              clear rb3 hsc hac
              go_upto_region 29 with (fail)
              refine wp_region_below_lit (by kernel_rfl) (by kernel_rfl) ?_
              repeat (go_big_quiet_step ((go_at_call 31; exact call_below (has2 _ _ _ (by assumption) _))))
              refine wpQuiet_nil ?_
              intro X4 hbX4
              have HbX4 : Hid (Below Z.heap.size Z X4) := HbX3.out.trans (hbX4.mono hsX3)
              clear hbX4 z0 z1 z2 z3
              go_wp2_with fail
              go_roundw
              case rel => exact ⟨j + 1, hjf, by go_num, HbX4.out⟩
              case measure => simp [intOf]; omega
            · obtain rfl : j = fz := by omega
              have hji : decide ((j : Int) < (j : Int)) = false := decide_eq_false (by omega)
              go_wp2_with fail
              go_roundw
              case rel => exact ⟨s + 1, hs3, by go_num, HbX3.out⟩
              case measure => simp [intOf]; omega
        · obtain rfl : s = 3 := by omega
          have hsi : decide (((3 : Nat) : Int) < 3) = false := rfl
          go_wp2_with fail
          refine (known_any X (HY.out X HX.out).2.2.2.2.1).mono ?_
          rintro e wk ⟨rfl, hbk⟩
          have HK : Hid (Below W.heap.size W wk) := Below.trans HX.out (hbk.mono (Below.size HX.out))
          clear hbk
          go_wp2_with fail
          go_ret
          exact ⟨rfl, (HY.out wk HK.out).2.2.2.2.2⟩
end Go.Proofs.YtfifdfagikbahaaDoor
