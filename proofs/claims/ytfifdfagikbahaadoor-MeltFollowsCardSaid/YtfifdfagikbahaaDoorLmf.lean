/- The walk of the law MeltFollows. -/
import Derived.Test.YtfifdfagikbahaaDoorLmc
import Derived.Test.YtfifdfagikbahaaDoorFo7
import Derived.Deep.RegionHeld3
namespace Go.Proofs.YtfifdfagikbahaaDoor
open Go.RowKit
attribute [local go_sem] Oper.semAt_some eq3
theorem flE_okA {m : Mlt} {l : List Stp} {st : Nat → Int} {cs : List (Nat → Int)} (h0 : ckF m l = 0) (h1 : cs.length = l.length) : flE m l st cs = if okA m l st cs then 0 else 30 := by
  unfold flE
  rw [if_neg (by omega), if_neg (by omega)]
  rfl
set_option maxRecDepth 100000 in
set_option maxHeartbeats 8000000 in
theorem meltFollows_any (m : Mlt) (A : Option Addr) (c : Nat) (l : List Stp) (st : Nat → Int) (Ch : Option Addr) (cc : Nat) (cs : List (Nat → Int)) (w : World) (hG : Glob w) (hx : Rd w w.heap.size 8 A l.length (rT l)) (hk : ∀ j, j < l.length → 0 ≤ (at0 l j).kd ∧ (at0 l j).kd ≤ 255) (hn : l.length ≤ maxLen) (hc : Rd w w.heap.size 3 Ch cs.length (rN3 cs)) (hcn : cs.length ≤ maxLen) :
    Calls Tryd.prog 6 #[.agg (mltArr m), .slice A l.length c, .agg (csArr st Ch cs.length cc)] w fun e w' => e = .returned (.bool true) ∧ Below w.heap.size w w' := by
  obtain ⟨W, hW⟩ : ∃ W, W = (w.alloc (.cells (mltArr m) 27)).alloc (.cells (csArr st Ch cs.length cc) 66) := ⟨_, rfl⟩
  have hb0 : Below w.heap.size w W := by rw [hW]; exact ((Below.refl _ _).alloc (Nat.le_refl _) _).alloc (by simp) _
  have r0 : W.heap[w.heap.size]? = some (.cells (mltArr m) 27 (0, 0)) := by rw [hW]; exact heap_before (heap_last _ _ _ rfl)
  have r1 : W.heap[w.heap.size + 1]? = some (.cells (csArr st Ch cs.length cc) 66 (0, 0)) := by rw [hW]; exact heap_last _ _ _ (by simp)
  have sW : w.heap.size + 2 = W.heap.size := by rw [hW]; simp
  have HW := Lib.hid hW
  have HY : Hid (∀ W', Below W.heap.size W W' → W'.heap[w.heap.size]? = some (.cells (mltArr m) 27 (0, 0)) ∧ W'.heap[w.heap.size + 1]? = some (.cells (csArr st Ch cs.length cc) 66 (0, 0)) ∧ Rd W' w.heap.size 8 A l.length (rT l) ∧ Rd W' w.heap.size 3 Ch cs.length (rN3 cs) ∧ Glob W' ∧ Below w.heap.size w W') := fun W' h => by
    have h' := hb0.trans (h.mono hb0.size)
    exact ⟨(h.block _ (by omega)).trans r0, (h.block _ (by omega)).trans r1, hx.below h', hc.below h', hG.below h', h'⟩
  have Hk := Lib.hid hk
  have Hn := Lib.hid hn
  have Hcn := Lib.hid hcn
  have H0 : Hid (Below W.heap.size W W) := Below.refl _ _
  clear hW hb0 r0 r1 hG hx hc hk hn hcn
  go_enter Tryd.func6, Tryd.ntmps6
  go_upto_region 1 with (fail)
  rw [← HW.out]
  have x := fun k v h =>   (row_cell (HY.out W H0.out).2.1 k v h)
  have x0 := x 0 _ rfl
  have x1 := x 1 _ rfl
  have x2 := x 2 _ rfl
  have x3 := x 3 _ rfl
  clear x
  by_cases h60 : 60 < l.length
  · as_aux_lemma =>
      have d1 : decide (60 < (l.length : Int)) = true := decide_eq_true (by omega)
      clear h60
      go_wp2_with fail
      refine (known_any W (HY.out W H0.out).2.2.2.2.1).mono ?_
      rintro e wk ⟨rfl, hbk⟩
      have HK : Hid (Below W.heap.size W wk) := Below.trans H0.out (hbk.mono (Below.size H0.out))
      clear hbk
      go_wp2_with fail
      go_ret
      exact ⟨rfl, (HY.out wk HK.out).2.2.2.2.2⟩
  have d1 : decide (60 < (l.length : Int)) = false := decide_eq_false (by omega)
  by_cases h61 : 60 < cs.length
  · as_aux_lemma =>
      have d2 : decide (60 < (cs.length : Int)) = true := decide_eq_true (by omega)
      clear h60 h61
      go_wp2_with fail
      refine (known_any W (HY.out W H0.out).2.2.2.2.1).mono ?_
      rintro e wk ⟨rfl, hbk⟩
      have HK : Hid (Below W.heap.size W wk) := Below.trans H0.out (hbk.mono (Below.size H0.out))
      clear hbk
      go_wp2_with fail
      go_ret
      exact ⟨rfl, (HY.out wk HK.out).2.2.2.2.2⟩
  have d2 : decide (60 < (cs.length : Int)) = false := decide_eq_false (by omega)
  have hl60 : l.length ≤ 60 := by omega
  have hc60 : cs.length ≤ 60 := by omega
  clear h60 h61
  go_upto_region 3 with (fail)
  clear x0 x1 x2 x3 d1 d2
  have y := fun k v h => ovr_cell (row_cell (HY.out W H0.out).1 k v h)
  have y0 := y 0 _ rfl
  have y1 := y 1 _ rfl
  have y2 := y 2 _ rfl
  have y3 := y 3 _ rfl
  have y4 := y 4 _ rfl
  have y5 := y 5 _ rfl
  have y6 := y 6 _ rfl
  clear y
  have x := fun k v h => ovr_cell (row_cell (HY.out W H0.out).2.1 k v h)
  have x0 := x 0 _ rfl
  have x1 := x 1 _ rfl
  have x2 := x 2 _ rfl
  have x3 := x 3 _ rfl
  clear x
  go_cut [7, 8, 9] (fun s7 s8 s9 wx => ∃ (S : Option Addr) (n d xb : Nat) (E : Nat → Int), s7 = .slice S n d ∧ s8 = .pointer (some ⟨xb, 0, none⟩) ∧ s9 = I (flE m l st cs) ∧ n ≤ d ∧ d ≤ maxLen ∧ (flE m l st cs ≠ 0 → S = none ∧ n = 0 ∧ d = 0 ∧ E = fun _ => 0) ∧ (flE m l st cs = 0 → n = fzK l l.length ∧ E = fun s => wkG m (tdG cs s) s (st s) l l.length) ∧ ClIn W.heap.size wx S n (rN3 (fzL l cs l.length)) ∧ wx.heap[xb]? = some (.cells (cnArr E) 63 (0, 0)) ∧ W.heap.size ≤ xb ∧ Below W.heap.size W wx)
  case first =>
    have HK : Hid (∀ w', Below W.heap.size W w' → (w'.cell? ⟨w.heap.size, 0, none⟩ = some (I m.ms) ∧ w'.cell? ⟨w.heap.size, 1, none⟩ = some (I (m.ct 0)) ∧ w'.cell? ⟨w.heap.size, 2, none⟩ = some (I (m.ct 1)) ∧ w'.cell? ⟨w.heap.size, 3, none⟩ = some (I (m.ct 2)) ∧ w'.cell? ⟨w.heap.size, 4, none⟩ = some (I (m.ct 3)) ∧ w'.cell? ⟨w.heap.size, 5, none⟩ = some (I (m.ct 4)) ∧ w'.cell? ⟨w.heap.size, 6, none⟩ = some (I (m.ct 5))) ∧
      w'.cell? ⟨w.heap.size + 1, 0, none⟩ = some (I (st 0)) ∧ w'.cell? ⟨w.heap.size + 1, 1, none⟩ = some (I (st 1)) ∧ w'.cell? ⟨w.heap.size + 1, 2, none⟩ = some (I (st 2)) ∧ w'.cell? ⟨w.heap.size + 1, 3, none⟩ = some (.slice Ch cs.length cc)) := fun w' h => by
      have q := HY.out w' h
      exact ⟨⟨row_cell q.1 _ _ rfl, row_cell q.1 _ _ rfl, row_cell q.1 _ _ rfl, row_cell q.1 _ _ rfl, row_cell q.1 _ _ rfl, row_cell q.1 _ _ rfl, row_cell q.1 _ _ rfl⟩, row_cell q.2.1 _ _ rfl, row_cell q.2.1 _ _ rfl, row_cell q.2.1 _ _ rfl, row_cell q.2.1 _ _ rfl⟩
    clear y0 y1 y2 y3 y4 y5 y6 x0 x1 x2 x3
    have kb0 : Below W.heap.size W W.drew := (Below.refl _ _).drew
    go_region_held3 (fun w' => (w'.cell? ⟨w.heap.size, 0, none⟩ = some (I m.ms) ∧ w'.cell? ⟨w.heap.size, 1, none⟩ = some (I (m.ct 0)) ∧ w'.cell? ⟨w.heap.size, 2, none⟩ = some (I (m.ct 1)) ∧ w'.cell? ⟨w.heap.size, 3, none⟩ = some (I (m.ct 2)) ∧ w'.cell? ⟨w.heap.size, 4, none⟩ = some (I (m.ct 3)) ∧ w'.cell? ⟨w.heap.size, 5, none⟩ = some (I (m.ct 4)) ∧ w'.cell? ⟨w.heap.size, 6, none⟩ = some (I (m.ct 5))) ∧
      w'.cell? ⟨w.heap.size + 1, 0, none⟩ = some (I (st 0)) ∧ w'.cell? ⟨w.heap.size + 1, 1, none⟩ = some (I (st 1)) ∧ w'.cell? ⟨w.heap.size + 1, 2, none⟩ = some (I (st 2)) ∧ w'.cell? ⟨w.heap.size + 1, 3, none⟩ = some (.slice Ch cs.length cc)) (first
      | exact HK.out _ (by first | assumption | exact Below.alloc ‹Below W.heap.size W _› (Below.size ‹Below W.heap.size W _›) _)
      | (refine HK.out _ (Below.setCell (Below.setCell (Below.setCell (by first | assumption | exact Below.alloc ‹Below W.heap.size W _› (Below.size ‹Below W.heap.size W _›) _) ?_ _) ?_ _) ?_ _) <;> first | exact Nat.le_refl _ | exact Below.size kb0 | exact Below.size kb1 | exact Below.size kb2 | exact Below.size kb3)
      | trace_state) (first
      | (go_at_call 13; refine (ownSteps_any A l.length c (rT l) _ w.heap.size (by omega) (Below.size (HY.out _ (by first | assumption | exact Below.alloc ‹Below W.heap.size W _› (Below.size ‹Below W.heap.size W _›) _)).2.2.2.2.2) (HY.out _ (by first | assumption | exact Below.alloc ‹Below W.heap.size W _› (Below.size ‹Below W.heap.size W _›) _)).2.2.1).mono ?_; rintro e w1 ⟨A1, c1, rfl, l1, l2, hr1, k1⟩; have kb1 : Below W.heap.size W w1 := Below.trans (by first | assumption | exact Below.alloc ‹Below W.heap.size W _› (Below.size ‹Below W.heap.size W _›) _) (Below.mono k1 (Below.size (by first | assumption | exact Below.alloc ‹Below W.heap.size W _› (Below.size ‹Below W.heap.size W _›) _))); (first | (have hq := (k1.block W.heap.size (by simp)).trans (heap_last W.drew (.cells #[I 0, I 0, I 0] 63) W.heap.size rfl)) | (have hq := (k1.block _ (Array.getElem?_eq_some_iff.1 hq).1).trans hq) | skip); (try (have z0 := row_cell hq 0 _ rfl; have z1 := row_cell hq 1 _ rfl; have z2 := row_cell hq 2 _ rfl; have g0 := frozen_of_row _ _ 0 _ _ hq; have g1 := frozen_of_row _ _ 1 _ _ hq; have g2 := frozen_of_row _ _ 2 _ _ hq)))
      | (go_at_call 28; refine (ownCnts_any Ch cs.length cc (rN3 cs) _ w.heap.size (by omega) (Below.size (HY.out _ (by first | assumption | exact Below.alloc ‹Below W.heap.size W _› (Below.size ‹Below W.heap.size W _›) _)).2.2.2.2.2) (HY.out _ (by first | assumption | exact Below.alloc ‹Below W.heap.size W _› (Below.size ‹Below W.heap.size W _›) _)).2.2.2.1).mono ?_; rintro e w2 ⟨A2, c2, rfl, l3, l4, hr2, k2⟩; have kb2 : Below W.heap.size W w2 := Below.trans (by first | assumption | exact Below.alloc ‹Below W.heap.size W _› (Below.size ‹Below W.heap.size W _›) _) (Below.mono k2 (Below.size (by first | assumption | exact Below.alloc ‹Below W.heap.size W _› (Below.size ‹Below W.heap.size W _›) _))); (first | (have hq := (k2.block (World.heap w1).size (by simp)).trans (heap_last w1 (.cells #[I 0, I 0, I 0] 63) _ rfl)) | (have hq := (k2.block _ (Array.getElem?_eq_some_iff.1 hq).1).trans hq) | skip); (try (have z0 := row_cell hq 0 _ rfl; have z1 := row_cell hq 1 _ rfl; have z2 := row_cell hq 2 _ rfl; have g0 := frozen_of_row _ _ 0 _ _ hq; have g1 := frozen_of_row _ _ 1 _ _ hq; have g2 := frozen_of_row _ _ 2 _ _ hq)); have k12 : Below w1.heap.size w1 w2 := (by first | exact k2 | exact Below.trans (Below.alloc (Below.refl _ _) (Nat.le_refl _) _) (Below.mono k2 (by simp))); have hr1 := (hr1.below k12).more (Below.size k12))
      | (go_at_call 27; refine (follow_uni m A1 c1 l st A2 c2 cs _ (HY.out _ (by first | assumption | exact Below.alloc ‹Below W.heap.size W _› (Below.size ‹Below W.heap.size W _›) _)).2.2.2.2.1 (by first | exact hr1 | exact (hr1.alloc (Nat.le_refl _) _).more (by simp)) Hk.out Hn.out (by first | exact hr2 | exact (hr2.alloc (Nat.le_refl _) _).more (by simp)) Hcn.out).mono ?_; rintro e w3 ⟨S, n, d, E, rfl, hd1, hd2, hne, heq, hcl, k3⟩; have kb3 : Below W.heap.size W w3 := Below.trans (by first | assumption | exact Below.alloc ‹Below W.heap.size W _› (Below.size ‹Below W.heap.size W _›) _) (Below.mono k3 (Below.size (by first | assumption | exact Below.alloc ‹Below W.heap.size W _› (Below.size ‹Below W.heap.size W _›) _))); (first | (have hq := (k3.block (World.heap w2).size (by simp)).trans (heap_last w2 (.cells #[I 0, I 0, I 0] 63) _ rfl)) | (have hq := (k3.block _ (Array.getElem?_eq_some_iff.1 hq).1).trans hq) | skip); (try (have z0 := row_cell hq 0 _ rfl; have z1 := row_cell hq 1 _ rfl; have z2 := row_cell hq 2 _ rfl; have g0 := frozen_of_row _ _ 0 _ _ hq; have g1 := frozen_of_row _ _ 1 _ _ hq; have g2 := frozen_of_row _ _ 2 _ _ hq))))
    all_goals go_wp2_with fail
    all_goals go_meet
    all_goals
      have s1 := Below.size k1
      have s2 := Below.size k2
      have s3 := Below.size k3
      simp at s1 s2 s3
      first
      | exact ⟨S, n, d, w3.heap.size, E, rfl, rfl, rfl, hd1, hd2, hne, heq, hcl.row' (Below.size kb2) fun b o _ ho _ => heap_before ho, heap_last _ _ _ rfl, Below.size kb3, Below.alloc kb3 (Below.size kb3) _⟩
      | exact ⟨S, n, d, _, E, rfl, rfl, rfl, hd1, hd2, hne, heq, hcl.row' (by simp; omega) fun b o hb ho _ => (by simp at hb; exact ro (ro (ro ho (by omega)) (by omega)) (by omega)), rs (rs (rs hq 0 _) 1 _) 2 _, (by omega), (by refine Below.setCell (Below.setCell (Below.setCell kb3 ?_ _) ?_ _) ?_ _ <;> (show W.heap.size ≤ _; (try dsimp only); omega))⟩
      | exact ⟨S, n, d, _, E, rfl, rfl, rfl, hd1, hd2, hne, heq, hcl.row' (by omega) fun b o hb ho _ => ro (ro (ro ho (by omega)) (by omega)) (by omega), rs (rs (rs hq 0 _) 1 _) 2 _, (by omega), (by refine Below.setCell (Below.setCell (Below.setCell kb3 ?_ _) ?_ _) ?_ _ <;> (show W.heap.size ≤ _; (try dsimp only); omega))⟩
  obtain ⟨S, n, d, xb, E, rfl, rfl, rfl, hd1, hd2, hne, heq, hcl, hxr, hxb, hbx⟩ := hcut
  rename World => V
  have H3 : Hid (Below W.heap.size W V) := hbx
  have Hcl := Lib.hid hcl
  have Hxr := Lib.hid hxr
  have Hne := Lib.hid hne
  have Heq := Lib.hid heq
  have hsV := hbx.size
  clear hcl hxr hne heq hbx
  -- what the reference says
  have y := fun k v h =>   (row_cell (HY.out V H3.out).1 k v h)
  have y0 := y 0 _ rfl
  have y1 := y 1 _ rfl
  have y2 := y 2 _ rfl
  have y3 := y 3 _ rfl
  have y4 := y 4 _ rfl
  have y5 := y 5 _ rfl
  have y6 := y 6 _ rfl
  clear y
  have x := fun k v h =>   (row_cell (HY.out V H3.out).2.1 k v h)
  have x0 := x 0 _ rfl
  have x1 := x 1 _ rfl
  have x2 := x 2 _ rfl
  have x3 := x 3 _ rfl
  clear x
  go_wp2_with fail
  refine (refCheck_any m A c l V w.heap.size (HY.out V H3.out).2.2.2.2.2.size (HY.out V H3.out).2.2.1 Hk.out Hn.out).mono ?_
  rintro e V1 ⟨rfl, hb1⟩
  have H4 : Hid (Below W.heap.size W V1) := H3.out.trans (hb1.mono hsV)
  have Hcl1 := Lib.hid (Hcl.out.row (w' := V1) fun b o _ ho _ => (hb1.block b (Array.getElem?_eq_some_iff.1 ho).1).trans ho)
  have Hx1 := Lib.hid ((hb1.block xb (Array.getElem?_eq_some_iff.1 Hxr.out).1).trans Hxr.out)
  have hs1 := H4.out.size
  clear hb1 y0 y1 y2 y3 y4 y5 y6 x0 x1 x2 x3 Hcl Hxr hsV
  by_cases hck : ckF m l = 0
  case neg =>
    as_aux_lemma =>
      have hfe : flE m l st cs = ckF m l := by unfold flE; rw [if_pos hck]
      obtain ⟨rfl, rfl, rfl, rfl⟩ := Hne.out (by rw [hfe]; exact hck)
      rw [hfe]
      obtain ⟨er, her⟩ : ∃ q, ckF m l = q := ⟨_, rfl⟩
      rw [her] at hck ⊢
      have e1 : (er == 0) = false := by simpa using hck
      have e2 : (er != 0) = true := by simpa using hck
      have e3 : (er == er) = true := by simp
      have z0 : V1.cell? ⟨xb, 0, none⟩ = some (I 0) := row_cell Hx1.out 0 _ rfl
      have z1 : V1.cell? ⟨xb, 1, none⟩ = some (I 0) := row_cell Hx1.out 1 _ rfl
      have z2 : V1.cell? ⟨xb, 2, none⟩ = some (I 0) := row_cell Hx1.out 2 _ rfl
      clear her hck hfe hd1 hd2
      go_wp2_with fail
      refine (known_any V1 (HY.out V1 H4.out).2.2.2.2.1).mono ?_
      rintro e wk ⟨rfl, hbk⟩
      have HK : Hid (Below W.heap.size W wk) := Below.trans H4.out (hbk.mono (Below.size H4.out))
      clear hbk
      go_wp2_with fail
      go_ret
      exact ⟨rfl, (HY.out wk HK.out).2.2.2.2.2⟩
  have Hck := Lib.hid hck
  rw [hck]
  clear hck
  by_cases hlen : cs.length = l.length
  case neg =>
    as_aux_lemma =>
      have hfe : flE m l st cs = 2 := by unfold flE; rw [if_neg (by rw [Hck.out]; decide), if_pos hlen]
      obtain ⟨rfl, rfl, rfl, rfl⟩ := Hne.out (by rw [hfe]; decide)
      rw [hfe]
      have e2 : ((cs.length : Int) != (l.length : Int)) = true := bne_iff_ne.2 (by omega)
      have e3 : (cs.length != l.length) = true := bne_iff_ne.2 hlen
      have z0 : V1.cell? ⟨xb, 0, none⟩ = some (I 0) := row_cell Hx1.out 0 _ rfl
      have z1 : V1.cell? ⟨xb, 1, none⟩ = some (I 0) := row_cell Hx1.out 1 _ rfl
      have z2 : V1.cell? ⟨xb, 2, none⟩ = some (I 0) := row_cell Hx1.out 2 _ rfl
      have x := fun k v h =>   (row_cell (HY.out V1 H4.out).2.1 k v h)
      have x0 := x 0 _ rfl
      have x1 := x 1 _ rfl
      have x2 := x 2 _ rfl
      have x3 := x 3 _ rfl
      clear x
      clear hlen hfe hd1 hd2
      go_wp2_with fail
      refine (known_any V1 (HY.out V1 H4.out).2.2.2.2.1).mono ?_
      rintro e wk ⟨rfl, hbk⟩
      have HK : Hid (Below W.heap.size W wk) := Below.trans H4.out (hbk.mono (Below.size H4.out))
      clear hbk
      go_wp2_with fail
      go_ret
      exact ⟨rfl, (HY.out wk HK.out).2.2.2.2.2⟩
  have Hlen := Lib.hid hlen
  have Hfe := Lib.hid (flE_okA (st := st) Hck.out hlen)
  have e2 : ((cs.length : Int) != (l.length : Int)) = false := by rw [hlen]; simp
  have e3 : (cs.length != l.length) = false := by rw [hlen]; simp
  have y := fun k v h =>   (row_cell (HY.out V1 H4.out).1 k v h)
  have y0 := y 0 _ rfl
  have y1 := y 1 _ rfl
  have y2 := y 2 _ rfl
  have y3 := y 3 _ rfl
  have y4 := y 4 _ rfl
  have y5 := y 5 _ rfl
  have y6 := y 6 _ rfl
  clear y
  have x := fun k v h =>   (row_cell (HY.out V1 H4.out).2.1 k v h)
  have x0 := x 0 _ rfl
  have x1 := x 1 _ rfl
  have x2 := x 2 _ rfl
  have x3 := x 3 _ rfl
  clear x
  clear hlen
  go_wp2_with fail
  refine (refFollow_any m A c l st Ch cc cs V1 w.heap.size (HY.out V1 H4.out).2.2.2.2.2.size (HY.out V1 H4.out).2.2.1 (HY.out V1 H4.out).2.2.2.1 Hck.out Hlen.out).mono ?_
  rintro e V2 ⟨hb2, h2⟩
  have H5 : Hid (Below W.heap.size W V2) := H4.out.trans (hb2.mono hs1)
  have Hcl2 := Lib.hid (Hcl1.out.row (w' := V2) fun b o _ ho _ => (hb2.block b (Array.getElem?_eq_some_iff.1 ho).1).trans ho)
  have Hx2 := Lib.hid ((hb2.block xb (Array.getElem?_eq_some_iff.1 Hx1.out).1).trans Hx1.out)
  have hxl := (Array.getElem?_eq_some_iff.1 Hx2.out).1
  clear hb2 y0 y1 y2 y3 y4 y5 y6 x0 x1 x2 x3 Hcl1 Hx1 hs1 e2 e3
  rcases h2 with ⟨hA, rfl⟩ | ⟨hA, S2, d2, rfl, hd3, hd4, hrd⟩
  · as_aux_lemma =>
      have hfe := Hfe.out
      rw [hA] at hfe
      have hfe : flE m l st cs = 30 := hfe
      obtain ⟨rfl, rfl, rfl, rfl⟩ := Hne.out (by rw [hfe]; decide)
      rw [hfe]
      have z0 : V2.cell? ⟨xb, 0, none⟩ = some (I 0) := row_cell Hx2.out 0 _ rfl
      have z1 : V2.cell? ⟨xb, 1, none⟩ = some (I 0) := row_cell Hx2.out 1 _ rfl
      have z2 : V2.cell? ⟨xb, 2, none⟩ = some (I 0) := row_cell Hx2.out 2 _ rfl
      clear hfe hA hd1 hd2 Hfe
      go_wp2_with fail
      refine (known_any (V2.alloc (.cells #[I 0, I 0, I 0] 63)) (HY.out (V2.alloc (.cells #[I 0, I 0, I 0] 63)) (H5.out.alloc H5.out.size _)).2.2.2.2.1).mono ?_
      rintro e wk ⟨rfl, hbk⟩
      have HK : Hid (Below W.heap.size W wk) := Below.trans (H5.out.alloc H5.out.size _) (hbk.mono (Below.size (H5.out.alloc H5.out.size _)))
      clear hbk
      go_wp2_with fail
      go_ret
      exact ⟨rfl, (HY.out wk HK.out).2.2.2.2.2⟩
  · have hfe := Hfe.out
    rw [hA] at hfe
    have hfe : flE m l st cs = 0 := hfe
    obtain ⟨rfl, hE⟩ := Heq.out hfe
    rw [hfe]
    subst hE
    obtain ⟨v0, hv0⟩ : ∃ q, wkG m (tdG cs 0) 0 (st 0) l l.length = q := ⟨_, rfl⟩
    obtain ⟨v1, hv1⟩ : ∃ q, wkG m (tdG cs 1) 1 (st 1) l l.length = q := ⟨_, rfl⟩
    obtain ⟨v2, hv2⟩ : ∃ q, wkG m (tdG cs 2) 2 (st 2) l l.length = q := ⟨_, rfl⟩
    have hx3 : V2.heap[xb]? = some (.cells #[I v0, I v1, I v2] 63 (0, 0)) := by rw [← hv0, ← hv1, ← hv2]; exact Hx2.out
    simp only [cnArr, hv0, hv1, hv2]
    obtain ⟨fz, hfz⟩ : ∃ q, fzK l l.length = q := ⟨_, rfl⟩
    have hfl : fz ≤ 60 := by have := fzK_le l l.length; omega
    have Hcz : Hid (Rd V2 V2.heap.size 3 S fz (rN3 (fzL l cs l.length))) := by rw [← hfz]; exact Hcl2.out.rd
    have Hcz2 : Hid (Rd V2 V2.heap.size 3 S2 fz (rN3 (fzL l cs l.length))) := by rw [← hfz]; exact hrd
    rw [hfz]
    clear hfe hA hv0 hv1 hv2 hfz hd1 hd2 hd3 hd4 hrd Hne Heq Hfe
    go_upto_region 10 with (fail)
    obtain ⟨lb, hlb⟩ : ∃ q, V2.heap.size = q := ⟨_, rfl⟩
    obtain ⟨X, hX⟩ : ∃ X, X = V2.alloc (.cells #[I v0, I v1, I v2] 63) := ⟨_, rfl⟩
    have bX : Below V2.heap.size V2 X := by rw [hX]; exact (Below.refl _ _).alloc (Nat.le_refl _) _
    have rl : X.heap[lb]? = some (.cells #[I v0, I v1, I v2] 63 (0, 0)) := by rw [hX, ← hlb]; exact heap_last _ _ _ rfl
    have rx := (bX.block xb hxl).trans hx3
    have HX : Hid (Below W.heap.size W X) := H5.out.trans (bX.mono H5.out.size)
    have HC1 := Lib.hid ((Hcz.out.below bX).more bX.size)
    have HC2 := Lib.hid ((Hcz2.out.below bX).more bX.size)
    rw [← hX, hlb]
    have z0 := row_cell rx 0 _ rfl
    have z1 := row_cell rx 1 _ rfl
    have z2 := row_cell rx 2 _ rfl
    have p0 := row_cell rl 0 _ rfl
    have p1 := row_cell rl 1 _ rfl
    have p2 := row_cell rl 2 _ rfl
    clear hX bX rl rx hlb hx3 hxl
    go_wp2_with fail
    clear z0 z1 z2 p0 p1 p2
    go_loopw [14] (fun i wr => ∃ j : Nat, j ≤ fz ∧ i = .int .i64 j ∧ Below X.heap.size X wr) (fun i _ => fz - (intOf i).toNat)
    case atStart => exact ⟨0, by omega, rfl, Below.refl _ _⟩
    case round =>
      rename World => Y
      obtain ⟨j, hj, rfl, hbY⟩ := hrel
      have HbY := Lib.hid hbY
      have HY2 : Hid (Below W.heap.size W Y) := HX.out.trans (hbY.mono HX.out.size)
      have hsY := hbY.size
      clear hbY
      by_cases hjf : j < fz
      · have hji : decide ((j : Int) < (fz : Int)) = true := decide_eq_true (by omega)
        have hjn : decide (j < fz) = true := decide_eq_true hjf
        have hj0 : decide (0 ≤ (j : Int)) = true := decide_eq_true (by omega)
        obtain ⟨ab, ao, rfl, _, hac⟩ := (HC1.out.below HbY.out) (by omega)
        obtain ⟨cb, co, rfl, _, hcc⟩ := (HC2.out.below HbY.out) (by omega)
        have a0 := ovr_cell (show Y.cell? ⟨ab, ao + j * 3, none⟩ = some (I (at0 (fzL l cs l.length) j 0)) from hac j hjf 0 (by omega))
        have a1 := ovr_cell (show Y.cell? ⟨ab, ao + j * 3 + 1, none⟩ = some (I (at0 (fzL l cs l.length) j 1)) from hac j hjf 1 (by omega))
        have a2 := ovr_cell (show Y.cell? ⟨ab, ao + j * 3 + 2, none⟩ = some (I (at0 (fzL l cs l.length) j 2)) from hac j hjf 2 (by omega))
        have c0 := ovr_cell (show Y.cell? ⟨cb, co + j * 3, none⟩ = some (I (at0 (fzL l cs l.length) j 0)) from hcc j hjf 0 (by omega))
        have c1 := ovr_cell (show Y.cell? ⟨cb, co + j * 3 + 1, none⟩ = some (I (at0 (fzL l cs l.length) j 1)) from hcc j hjf 1 (by omega))
        have c2 := ovr_cell (show Y.cell? ⟨cb, co + j * 3 + 2, none⟩ = some (I (at0 (fzL l cs l.length) j 2)) from hcc j hjf 2 (by omega))
        clear hac hcc
        go_upto_region 17 with (fail)
        refine wp_region_below_lit (by kernel_rfl) (by kernel_rfl) ?_
        repeat (go_big_quiet_step (fail))
        refine wpQuiet_nil ?_
        intro Y2 hb2
        have Hb2 : Hid (Below X.heap.size X Y2) := HbY.out.trans (hb2.mono hsY)
        clear hb2 a0 a1 a2 c0 c1 c2
        go_wp2_with fail
        go_roundw
        case rel => exact ⟨j + 1, hjf, by go_num, Hb2.out⟩
        case measure => simp [intOf]; omega
      · obtain rfl : j = fz := by omega
        have hji : decide ((j : Int) < (j : Int)) = false := decide_eq_false (by omega)
        go_wp2_with fail
        refine (known_any Y (HY.out Y HY2.out).2.2.2.2.1).mono ?_
        rintro e wk ⟨rfl, hbk⟩
        have HK : Hid (Below W.heap.size W wk) := Below.trans HY2.out (hbk.mono (Below.size HY2.out))
        clear hbk
        go_wp2_with fail
        go_ret
        exact ⟨rfl, (HY.out wk HK.out).2.2.2.2.2⟩
end Go.Proofs.YtfifdfagikbahaaDoor
