/- The walk of the law MeltFreezes. -/
import Derived.Test.YtfifdfagikbahaaDoorLmc
import Derived.Test.YtfifdfagikbahaaDoorFo6
import Derived.Deep.RegionHeld3
namespace Go.Proofs.YtfifdfagikbahaaDoor
open Go.RowKit
attribute [local go_sem] Oper.semAt_some eq3
theorem shF_bd {n a b : Int} (hn : 0 ≤ n) (ha : 0 ≤ a ∧ a ≤ b) (hb : 0 < b) : 0 ≤ shF n a b ∧ shF n a b ≤ n := by
  rw [shF_eq hb]
  refine ⟨Int.ediv_nonneg (Int.mul_nonneg hn ha.1) (by omega), Int.ediv_le_of_le_mul hb (Int.mul_le_mul_of_nonneg_left ha.2 hn)⟩
/-- What is left while the species of a slice are gone through. -/
def lfE (D : Nat → Nat → Int) (i s j : Nat) : Int := if j < s then D j (i + 1) else D j i
theorem lfE_set {D : Nat → Nat → Int} {i s : Nat} {dn : Int} (hs : s < 3) (h : D s (i + 1) = dn) : (#[I (lfE D i s 0), I (lfE D i s 1), I (lfE D i s 2)] : Array Value).setIfInBounds s (I dn) = #[I (lfE D i (s + 1) 0), I (lfE D i (s + 1) 1), I (lfE D i (s + 1) 2)] := by
  subst h
  match s, hs with
  | 0, _ => simp [lfE]
  | 1, _ => simp [lfE]
  | 2, _ => simp [lfE]
theorem lfE_0 {D : Nat → Nat → Int} {i j : Nat} : lfE D i 0 j = D j i := if_neg (by omega)
theorem lfE_3 {D : Nat → Nat → Int} {i j : Nat} (hj : j < 3) : lfE D i 3 j = D j (i + 1) := if_pos hj
theorem lfE_s {D : Nat → Nat → Int} {i s : Nat} : lfE D i s s = D s i := if_neg (by omega)
/-- What the walk asks of a step. -/
structure FzS (m : Mlt) (l : List Stp) (st : Nat → Int) (cs : List (Nat → Int)) (i s : Nat) : Prop where
  d1 : wkG m (tdG cs s) s (st s) l (i + 1) = wkG m (tdG cs s) s (st s) l i - at0 cs i s
  m1 : msK m l (i + 1) = msK m l i - (at0 l i).ms
  c0 : 0 ≤ at0 cs i s ∧ at0 cs i s ≤ wkG m (tdG cs s) s (st s) l i
  eq : (at0 l i).ms = msK m l i → at0 cs i s = wkG m (tdG cs s) s (st s) l i
  ne : (at0 l i).ms ≠ msK m l i → at0 cs i s - 1 ≤ shF (wkG m (tdG cs s) s (st s) l i) (at0 l i).ms (msK m l i) ∧ shF (wkG m (tdG cs s) s (st s) l i) (msK m l i - (at0 l i).ms) (msK m l i) - 1 ≤ wkG m (tdG cs s) s (st s) l i - at0 cs i s
  db : 0 ≤ wkG m (tdG cs s) s (st s) l i ∧ wkG m (tdG cs s) s (st s) l i ≤ 300000000000000
  ms : 1 ≤ (at0 l i).ms ∧ (at0 l i).ms ≤ msK m l i ∧ msK m l i ≤ 1000000000
  sl : at0 (fzL l cs l.length) i = at0 cs i
theorem fzS_of {m : Mlt} {l : List Stp} {st : Nat → Int} {cs : List (Nat → Int)} (h : flE m l st cs = 0) (ho : OnlyF l) {i s : Nat} (hi : i < l.length) (hs : s < 3) : FzS m l st cs i s := by
  obtain ⟨h0, _, hok⟩ := flE_ok h
  have hv := vld_of h0
  have hg := goes_ok (hok s hs)
  obtain ⟨g1, g2, g3, g4, g5, g6⟩ := frz_step ho hv hs hg hi
  have hM := hv.ms (show i ≤ l.length by omega)
  have hx := isS_ms (hv.isS hi) (.inl (ho i hi).1)
  have hle := hv.le hi (ho i hi).1
  refine ⟨g1, g2, ⟨g3, g4⟩, g5, g6, hg.bd' hv hs (Nat.le_refl _) (show i ≤ l.length by omega), ⟨hx.1, hle, hM.2⟩, ?_⟩
  have := fzL_at (cs := cs) l.length i hi (ho i hi).1
  rwa [ho.fz i (by omega)] at this
theorem only_three {x : Stp} (h : x.kd = 1 ∧ x.b 1 ≤ 10000 ∧ x.b 3 ≤ 10000 ∧ x.b 5 ≤ 10000) : x.kd = 1 ∧ ∀ s, s < 3 → x.b (s * 2 + 1) ≤ 10000 := by
  refine ⟨h.1, fun s hs => ?_⟩
  match s, hs with | 0, _ => exact h.2.1 | 1, _ => exact h.2.2.1 | 2, _ => exact h.2.2.2
set_option maxRecDepth 100000 in
set_option maxHeartbeats 8000000 in
theorem meltFreezes_any (m : Mlt) (A : Option Addr) (c : Nat) (l : List Stp) (st : Nat → Int) (Ch : Option Addr) (cc : Nat) (cs : List (Nat → Int)) (w : World) (hG : Glob w) (hx : Rd w w.heap.size 8 A l.length (rT l)) (hk : ∀ j, j < l.length → 0 ≤ (at0 l j).kd ∧ (at0 l j).kd ≤ 255) (hn : l.length ≤ maxLen) (hc : Rd w w.heap.size 3 Ch cs.length (rN3 cs)) (hcn : cs.length ≤ maxLen) :
    Calls Tryd.prog 9 #[.agg (mltArr m), .slice A l.length c, .agg (csArr st Ch cs.length cc)] w fun e w' => e = .returned (.bool true) ∧ Below w.heap.size w w' := by
  obtain ⟨W, hW⟩ : ∃ W, W = (w.alloc (.cells (mltArr m) 27)).alloc (.cells (csArr st Ch cs.length cc) 66) := ⟨_, rfl⟩
  have hb0 : Below w.heap.size w W := by rw [hW]; exact ((Below.refl _ _).alloc (Nat.le_refl _) _).alloc (by simp) _
  have r0 : W.heap[w.heap.size]? = some (.cells (mltArr m) 27 (0, 0)) := by rw [hW]; exact heap_before (heap_last _ _ _ rfl)
  have r1 : W.heap[w.heap.size + 1]? = some (.cells (csArr st Ch cs.length cc) 66 (0, 0)) := by rw [hW]; exact heap_last _ _ _ (by simp)
  have sW : w.heap.size + 2 = W.heap.size := by rw [hW]; simp
  have HW := Lib.hid hW
  have HY : Hid (∀ W', Below W.heap.size W W' → W'.heap[w.heap.size]? = some (.cells (mltArr m) 27 (0, 0)) ∧ W'.heap[w.heap.size + 1]? = some (.cells (csArr st Ch cs.length cc) 66 (0, 0)) ∧ Rd W' w.heap.size 8 A l.length (rT l) ∧ Rd W' w.heap.size 3 Ch cs.length (rN3 cs) ∧ Glob W' ∧ Below w.heap.size w W') := fun W' h => by
    have h' := hb0.trans (h.mono hb0.size)
    exact ⟨(h.block _ (by omega)).trans r0, (h.block _ (by omega)).trans r1, hx.below h', hc.below h', hG.below h', h'⟩
  have Hk := Lib.hid hk
  have Hn := Lib.hid hn
  have Hcn := Lib.hid hcn
  have H0 : Hid (Below W.heap.size W W) := Below.refl _ _
  clear hW hb0 r0 r1 hG hx hc hk hn hcn
  go_enter Tryd.func9, Tryd.ntmps9
  go_upto_region 1 with (fail)
  rw [← HW.out]
  have x := fun k v h =>   (row_cell (HY.out W H0.out).2.1 k v h)
  have x0 := x 0 _ rfl
  have x1 := x 1 _ rfl
  have x2 := x 2 _ rfl
  have x3 := x 3 _ rfl
  clear x
  by_cases h60 : 40 < l.length
  · as_aux_lemma =>
      have d1 : decide (40 < (l.length : Int)) = true := decide_eq_true (by omega)
      clear h60
      go_wp2_with fail
      refine (known_any W (HY.out W H0.out).2.2.2.2.1).mono ?_
      rintro e wk ⟨rfl, hbk⟩
      have HK : Hid (Below W.heap.size W wk) := Below.trans H0.out (hbk.mono (Below.size H0.out))
      clear hbk
      go_wp2_with fail
      go_ret
      exact ⟨rfl, (HY.out wk HK.out).2.2.2.2.2⟩
  have d1 : decide (40 < (l.length : Int)) = false := decide_eq_false (by omega)
  by_cases h61 : 40 < cs.length
  · as_aux_lemma =>
      have d2 : decide (40 < (cs.length : Int)) = true := decide_eq_true (by omega)
      clear h60 h61
      go_wp2_with fail
      refine (known_any W (HY.out W H0.out).2.2.2.2.1).mono ?_
      rintro e wk ⟨rfl, hbk⟩
      have HK : Hid (Below W.heap.size W wk) := Below.trans H0.out (hbk.mono (Below.size H0.out))
      clear hbk
      go_wp2_with fail
      go_ret
      exact ⟨rfl, (HY.out wk HK.out).2.2.2.2.2⟩
  have d2 : decide (40 < (cs.length : Int)) = false := decide_eq_false (by omega)
  have hl60 : l.length ≤ 60 := by omega
  have hc60 : cs.length ≤ 60 := by omega
  clear h60 h61
  go_wp2_with fail
  clear d1 d2 x0 x1 x2 x3
  go_loopw [7] (fun i wr => ∃ k : Nat, k ≤ l.length ∧ i = .int .i64 k ∧ (∀ j, j < k → (at0 l j).kd = 1 ∧ ∀ s, s < 3 → (at0 l j).b (s * 2 + 1) ≤ 10000) ∧ wr = W) (fun i _ => l.length - (intOf i).toNat)
  case atStart => exact ⟨0, by omega, rfl, fun j hj => by omega, rfl⟩
  case round =>
    rename World => X
    obtain ⟨k, hk, rfl, hall, hwr⟩ := hrel
    have Hall := Lib.hid hall
    rw [hwr]
    clear hwr hall X
    by_cases hlt : k < l.length
    · have hki : decide ((k : Int) < (l.length : Int)) = true := decide_eq_true (by omega)
      have hkn : decide (k < l.length) = true := decide_eq_true hlt
      have hk0 : decide (0 ≤ (k : Int)) = true := decide_eq_true (by omega)
      obtain ⟨b, o, rfl, _, x0, x1, x2, x3, x4, x5, x6, x7⟩ := (HY.out W H0.out).2.2.1.stp hlt
      obtain ⟨x, hxx⟩ : ∃ x, at0 l k = x := ⟨_, rfl⟩
      rw [hxx] at x0 x3 x5 x7
      have Hxx := Lib.hid hxx
      clear x1 x2 x4 x6 hxx
      by_cases h1 : x.kd = 1
      · have e1 : (x.kd != 1) = false := by simpa using h1
        by_cases h3 : 10000 < x.b 1
        · as_aux_lemma =>
            have e3 : decide (10000 < x.b 1) = true := decide_eq_true h3
            clear h3 h1
            go_wp2_with fail
            refine (known_any W (HY.out W H0.out).2.2.2.2.1).mono ?_
            rintro e wk ⟨rfl, hbk⟩
            have HK : Hid (Below W.heap.size W wk) := Below.trans H0.out (hbk.mono (Below.size H0.out))
            clear hbk
            go_wp2_with fail
            go_ret
            exact ⟨rfl, (HY.out wk HK.out).2.2.2.2.2⟩
        have e3 : decide (10000 < x.b 1) = false := decide_eq_false h3
        by_cases h5 : 10000 < x.b 3
        · as_aux_lemma =>
            have e5 : decide (10000 < x.b 3) = true := decide_eq_true h5
            clear h3 h1 h5
            go_wp2_with fail
            refine (known_any W (HY.out W H0.out).2.2.2.2.1).mono ?_
            rintro e wk ⟨rfl, hbk⟩
            have HK : Hid (Below W.heap.size W wk) := Below.trans H0.out (hbk.mono (Below.size H0.out))
            clear hbk
            go_wp2_with fail
            go_ret
            exact ⟨rfl, (HY.out wk HK.out).2.2.2.2.2⟩
        have e5 : decide (10000 < x.b 3) = false := decide_eq_false h5
        by_cases h7 : 10000 < x.b 5
        · as_aux_lemma =>
            have e7 : decide (10000 < x.b 5) = true := decide_eq_true h7
            clear h3 h1 h5 h7
            go_wp2_with fail
            refine (known_any W (HY.out W H0.out).2.2.2.2.1).mono ?_
            rintro e wk ⟨rfl, hbk⟩
            have HK : Hid (Below W.heap.size W wk) := Below.trans H0.out (hbk.mono (Below.size H0.out))
            clear hbk
            go_wp2_with fail
            go_ret
            exact ⟨rfl, (HY.out wk HK.out).2.2.2.2.2⟩
        have e7 : decide (10000 < x.b 5) = false := decide_eq_false h7
        have Hx : Hid (x.kd = 1 ∧ x.b 1 ≤ 10000 ∧ x.b 3 ≤ 10000 ∧ x.b 5 ≤ 10000) := ⟨h1, by omega, by omega, by omega⟩
        clear h1 h3 h5 h7
        go_wp2_with fail
        go_roundw
        case rel =>
          refine ⟨k + 1, hlt, by go_num, fun j hj => ?_, by first | rfl | trivial⟩
          rcases Nat.lt_or_ge j k with h | h
          · exact Hall.out j h
          · obtain rfl : j = k := by omega
            rw [Hxx.out]
            exact only_three Hx.out
        case measure => simp [intOf]; omega
      · as_aux_lemma =>
          have e1 : (x.kd != 1) = true := by simpa using h1
          clear h1
          go_wp2_with fail
          refine (known_any W (HY.out W H0.out).2.2.2.2.1).mono ?_
          rintro e wk ⟨rfl, hbk⟩
          have HK : Hid (Below W.heap.size W wk) := Below.trans H0.out (hbk.mono (Below.size H0.out))
          clear hbk
          go_wp2_with fail
          go_ret
          exact ⟨rfl, (HY.out wk HK.out).2.2.2.2.2⟩
    · obtain rfl : k = l.length := by omega
      have hki : decide ((l.length : Int) < (l.length : Int)) = false := decide_eq_false (by omega)
      have Ho : Hid (OnlyF l) := Hall.out
      go_upto_region 8 with (fail)
      clear hki Hall
      have y := fun k v h => ovr_cell (row_cell (HY.out W H0.out).1 k v h)
      have y0 := y 0 _ rfl
      have y1 := y 1 _ rfl
      have y2 := y 2 _ rfl
      have y3 := y 3 _ rfl
      have y4 := y 4 _ rfl
      have y5 := y 5 _ rfl
      have y6 := y 6 _ rfl
      clear y
      have x := fun k v h => ovr_cell (row_cell (HY.out W H0.out).2.1 k v h)
      have x0 := x 0 _ rfl
      have x1 := x 1 _ rfl
      have x2 := x 2 _ rfl
      have x3 := x 3 _ rfl
      clear x
      go_cut [8, 9, 10] (fun s8 s9 s10 wx => ∃ (S : Option Addr) (n d xb : Nat) (E : Nat → Int), s8 = .slice S n d ∧ s9 = .pointer (some ⟨xb, 0, none⟩) ∧ s10 = I (flE m l st cs) ∧ n ≤ d ∧ d ≤ maxLen ∧ (flE m l st cs ≠ 0 → S = none ∧ n = 0 ∧ d = 0 ∧ E = fun _ => 0) ∧ (flE m l st cs = 0 → n = fzK l l.length ∧ E = fun s => wkG m (tdG cs s) s (st s) l l.length) ∧ ClIn W.heap.size wx S n (rN3 (fzL l cs l.length)) ∧ wx.heap[xb]? = some (.cells (cnArr E) 63 (0, 0)) ∧ W.heap.size ≤ xb ∧ Below W.heap.size W wx)
      case first =>
        have HK : Hid (∀ w', Below W.heap.size W w' → (w'.cell? ⟨w.heap.size, 0, none⟩ = some (I m.ms) ∧ w'.cell? ⟨w.heap.size, 1, none⟩ = some (I (m.ct 0)) ∧ w'.cell? ⟨w.heap.size, 2, none⟩ = some (I (m.ct 1)) ∧ w'.cell? ⟨w.heap.size, 3, none⟩ = some (I (m.ct 2)) ∧ w'.cell? ⟨w.heap.size, 4, none⟩ = some (I (m.ct 3)) ∧ w'.cell? ⟨w.heap.size, 5, none⟩ = some (I (m.ct 4)) ∧ w'.cell? ⟨w.heap.size, 6, none⟩ = some (I (m.ct 5))) ∧
          w'.cell? ⟨w.heap.size + 1, 0, none⟩ = some (I (st 0)) ∧ w'.cell? ⟨w.heap.size + 1, 1, none⟩ = some (I (st 1)) ∧ w'.cell? ⟨w.heap.size + 1, 2, none⟩ = some (I (st 2)) ∧ w'.cell? ⟨w.heap.size + 1, 3, none⟩ = some (.slice Ch cs.length cc)) := fun w' h => by
          have q := HY.out w' h
          exact ⟨⟨row_cell q.1 _ _ rfl, row_cell q.1 _ _ rfl, row_cell q.1 _ _ rfl, row_cell q.1 _ _ rfl, row_cell q.1 _ _ rfl, row_cell q.1 _ _ rfl, row_cell q.1 _ _ rfl⟩, row_cell q.2.1 _ _ rfl, row_cell q.2.1 _ _ rfl, row_cell q.2.1 _ _ rfl, row_cell q.2.1 _ _ rfl⟩
        clear y0 y1 y2 y3 y4 y5 y6 x0 x1 x2 x3
        have kb0 : Below W.heap.size W W.drew := (Below.refl _ _).drew
        go_region_held3 (fun w' => (w'.cell? ⟨w.heap.size, 0, none⟩ = some (I m.ms) ∧ w'.cell? ⟨w.heap.size, 1, none⟩ = some (I (m.ct 0)) ∧ w'.cell? ⟨w.heap.size, 2, none⟩ = some (I (m.ct 1)) ∧ w'.cell? ⟨w.heap.size, 3, none⟩ = some (I (m.ct 2)) ∧ w'.cell? ⟨w.heap.size, 4, none⟩ = some (I (m.ct 3)) ∧ w'.cell? ⟨w.heap.size, 5, none⟩ = some (I (m.ct 4)) ∧ w'.cell? ⟨w.heap.size, 6, none⟩ = some (I (m.ct 5))) ∧
          w'.cell? ⟨w.heap.size + 1, 0, none⟩ = some (I (st 0)) ∧ w'.cell? ⟨w.heap.size + 1, 1, none⟩ = some (I (st 1)) ∧ w'.cell? ⟨w.heap.size + 1, 2, none⟩ = some (I (st 2)) ∧ w'.cell? ⟨w.heap.size + 1, 3, none⟩ = some (.slice Ch cs.length cc)) (first
          | exact HK.out _ (by first | assumption | exact Below.alloc ‹Below W.heap.size W _› (Below.size ‹Below W.heap.size W _›) _)
          | (refine HK.out _ (Below.setCell (Below.setCell (Below.setCell (by first | assumption | exact Below.alloc ‹Below W.heap.size W _› (Below.size ‹Below W.heap.size W _›) _) ?_ _) ?_ _) ?_ _) <;> first | exact Nat.le_refl _ | exact Below.size kb0 | exact Below.size kb1 | exact Below.size kb2 | exact Below.size kb3)
          | trace_state) (first
          | (go_at_call 13; refine (ownSteps_any A l.length c (rT l) _ w.heap.size (by omega) (Below.size (HY.out _ (by first | assumption | exact Below.alloc ‹Below W.heap.size W _› (Below.size ‹Below W.heap.size W _›) _)).2.2.2.2.2) (HY.out _ (by first | assumption | exact Below.alloc ‹Below W.heap.size W _› (Below.size ‹Below W.heap.size W _›) _)).2.2.1).mono ?_; rintro e w1 ⟨A1, c1, rfl, l1, l2, hr1, k1⟩; have kb1 : Below W.heap.size W w1 := Below.trans (by first | assumption | exact Below.alloc ‹Below W.heap.size W _› (Below.size ‹Below W.heap.size W _›) _) (Below.mono k1 (Below.size (by first | assumption | exact Below.alloc ‹Below W.heap.size W _› (Below.size ‹Below W.heap.size W _›) _))); (first | (have hq := (k1.block W.heap.size (by simp)).trans (heap_last W.drew (.cells #[I 0, I 0, I 0] 63) W.heap.size rfl)) | (have hq := (k1.block _ (Array.getElem?_eq_some_iff.1 hq).1).trans hq) | skip); (try (have z0 := row_cell hq 0 _ rfl; have z1 := row_cell hq 1 _ rfl; have z2 := row_cell hq 2 _ rfl; have g0 := frozen_of_row _ _ 0 _ _ hq; have g1 := frozen_of_row _ _ 1 _ _ hq; have g2 := frozen_of_row _ _ 2 _ _ hq)))
          | (go_at_call 28; refine (ownCnts_any Ch cs.length cc (rN3 cs) _ w.heap.size (by omega) (Below.size (HY.out _ (by first | assumption | exact Below.alloc ‹Below W.heap.size W _› (Below.size ‹Below W.heap.size W _›) _)).2.2.2.2.2) (HY.out _ (by first | assumption | exact Below.alloc ‹Below W.heap.size W _› (Below.size ‹Below W.heap.size W _›) _)).2.2.2.1).mono ?_; rintro e w2 ⟨A2, c2, rfl, l3, l4, hr2, k2⟩; have kb2 : Below W.heap.size W w2 := Below.trans (by first | assumption | exact Below.alloc ‹Below W.heap.size W _› (Below.size ‹Below W.heap.size W _›) _) (Below.mono k2 (Below.size (by first | assumption | exact Below.alloc ‹Below W.heap.size W _› (Below.size ‹Below W.heap.size W _›) _))); (first | (have hq := (k2.block (World.heap w1).size (by simp)).trans (heap_last w1 (.cells #[I 0, I 0, I 0] 63) _ rfl)) | (have hq := (k2.block _ (Array.getElem?_eq_some_iff.1 hq).1).trans hq) | skip); (try (have z0 := row_cell hq 0 _ rfl; have z1 := row_cell hq 1 _ rfl; have z2 := row_cell hq 2 _ rfl; have g0 := frozen_of_row _ _ 0 _ _ hq; have g1 := frozen_of_row _ _ 1 _ _ hq; have g2 := frozen_of_row _ _ 2 _ _ hq)); have k12 : Below w1.heap.size w1 w2 := (by first | exact k2 | exact Below.trans (Below.alloc (Below.refl _ _) (Nat.le_refl _) _) (Below.mono k2 (by simp))); have hr1 := (hr1.below k12).more (Below.size k12))
          | (go_at_call 27; refine (follow_uni m A1 c1 l st A2 c2 cs _ (HY.out _ (by first | assumption | exact Below.alloc ‹Below W.heap.size W _› (Below.size ‹Below W.heap.size W _›) _)).2.2.2.2.1 (by first | exact hr1 | exact (hr1.alloc (Nat.le_refl _) _).more (by simp)) Hk.out Hn.out (by first | exact hr2 | exact (hr2.alloc (Nat.le_refl _) _).more (by simp)) Hcn.out).mono ?_; rintro e w3 ⟨S, n, d, E, rfl, hd1, hd2, hne, heq, hcl, k3⟩; have kb3 : Below W.heap.size W w3 := Below.trans (by first | assumption | exact Below.alloc ‹Below W.heap.size W _› (Below.size ‹Below W.heap.size W _›) _) (Below.mono k3 (Below.size (by first | assumption | exact Below.alloc ‹Below W.heap.size W _› (Below.size ‹Below W.heap.size W _›) _))); (first | (have hq := (k3.block (World.heap w2).size (by simp)).trans (heap_last w2 (.cells #[I 0, I 0, I 0] 63) _ rfl)) | (have hq := (k3.block _ (Array.getElem?_eq_some_iff.1 hq).1).trans hq) | skip); (try (have z0 := row_cell hq 0 _ rfl; have z1 := row_cell hq 1 _ rfl; have z2 := row_cell hq 2 _ rfl; have g0 := frozen_of_row _ _ 0 _ _ hq; have g1 := frozen_of_row _ _ 1 _ _ hq; have g2 := frozen_of_row _ _ 2 _ _ hq))))
        all_goals go_wp2_with fail
        all_goals go_meet
        all_goals
          have s1 := Below.size k1
          have s2 := Below.size k2
          have s3 := Below.size k3
          simp at s1 s2 s3
          first
          | exact ⟨S, n, d, w3.heap.size, E, rfl, rfl, rfl, hd1, hd2, hne, heq, hcl.row' (Below.size kb2) fun b o _ ho _ => heap_before ho, heap_last _ _ _ rfl, Below.size kb3, Below.alloc kb3 (Below.size kb3) _⟩
          | exact ⟨S, n, d, _, E, rfl, rfl, rfl, hd1, hd2, hne, heq, hcl.row' (by simp; omega) fun b o hb ho _ => (by simp at hb; exact ro (ro (ro ho (by omega)) (by omega)) (by omega)), rs (rs (rs hq 0 _) 1 _) 2 _, (by omega), (by refine Below.setCell (Below.setCell (Below.setCell kb3 ?_ _) ?_ _) ?_ _ <;> (show W.heap.size ≤ _; (try dsimp only); omega))⟩
          | exact ⟨S, n, d, _, E, rfl, rfl, rfl, hd1, hd2, hne, heq, hcl.row' (by omega) fun b o hb ho _ => ro (ro (ro ho (by omega)) (by omega)) (by omega), rs (rs (rs hq 0 _) 1 _) 2 _, (by omega), (by refine Below.setCell (Below.setCell (Below.setCell kb3 ?_ _) ?_ _) ?_ _ <;> (show W.heap.size ≤ _; (try dsimp only); omega))⟩
      obtain ⟨S, n, d, xb, E, rfl, rfl, rfl, hd1, hd2, hne, heq, hcl, hxr, hxb, hbx⟩ := hcut
      rename World => V
      have H3 : Hid (Below W.heap.size W V) := hbx
      have Hcl := Lib.hid hcl
      have Hxr := Lib.hid hxr
      have Hne := Lib.hid hne
      have Heq := Lib.hid heq
      have hsV := hbx.size
      clear hcl hxr hne heq hbx
      by_cases h0 : flE m l st cs = 0
      case neg =>
        as_aux_lemma =>
          obtain ⟨rfl, rfl, rfl, rfl⟩ := Hne.out h0
          obtain ⟨er, her⟩ : ∃ q, flE m l st cs = q := ⟨_, rfl⟩
          rw [her]
          have e1 : (er != 0) = true := by simp; omega
          clear her h0 hd1 hd2
          go_wp2_with fail
          refine (known_any V (HY.out V H3.out).2.2.2.2.1).mono ?_
          rintro e wk ⟨rfl, hbk⟩
          have HK : Hid (Below W.heap.size W wk) := Below.trans H3.out (hbk.mono (Below.size H3.out))
          clear hbk
          go_wp2_with fail
          go_ret
          exact ⟨rfl, (HY.out wk HK.out).2.2.2.2.2⟩
      obtain ⟨rfl, hE⟩ := Heq.out h0
      have HE := Lib.hid hE
      have Hfs : Hid (∀ i s, i < l.length → s < 3 → FzS m l st cs i s) := fun i s hi hs => fzS_of h0 Ho.out hi hs
      have Hend : Hid (0 < l.length → msK m l l.length = 0 → ∀ s, s < 3 → wkG m (tdG cs s) s (st s) l l.length = 0) := fun hl hm s hs => frz_end Ho.out (vld_of (flE_ok h0).1) hs (goes_ok ((flE_ok h0).2.2 s hs)) hl hm
      have Hms : Hid (∀ i, i ≤ l.length → 0 ≤ msK m l i ∧ msK m l i ≤ 1000000000) := fun i hi => (vld_of (flE_ok h0).1).ms hi
      rw [h0, Ho.out.fz l.length (Nat.le_refl _)]
      have Hcl2 := Hcl.out
      rw [Ho.out.fz l.length (Nat.le_refl _)] at Hcl2
      have Hcl := Lib.hid Hcl2
      clear h0 hE hd1 hd2 Hcl2 Hne Heq
      go_upto_region 11 with (fail)
      have x := fun k v h => ovr_cell (row_cell (HY.out V H3.out).2.1 k v h)
      have x0 := x 0 _ rfl
      have x1 := x 1 _ rfl
      have x2 := x 2 _ rfl
      have x3 := x 3 _ rfl
      clear x
      have y0 := ovr_cell (row_cell (HY.out V H3.out).1 0 _ rfl)
      refine wp_region_make_two (fun j => if j = 4 then some (NewAt V #[I 0, I 0, I 0] 63) else none) [2, 3] (by kernel_rfl) (by kernel_rfl) (by kernel_rfl) (by kernel_rfl) (by kernel_rfl) (by intro i hi; simp at hi; rcases hi with rfl | rfl <;> rfl) ⟨rfl, rfl⟩ (fun c a d v w h => by cases d <;> exact h) ?_
      simp only [sleepTwo_cons, sleepTwo_two]
      repeat (refine wpG_one rfl rfl rfl ?_; intro K hK; go_big_quiet_op; go_big_quiet_on)
      refine wpG_make (NewAt V #[I 0, I 0, I 0] 63) rfl rfl (fun w' hw' _ => ?_) (fun u hu => ?_)
      · go_simp
        exact new_grow hw'
      obtain ⟨_, _, db, rfl, _, hdb⟩ := hu
      simp only [Act.put, List.setIfInBounds_toArray, List.set_cons_zero, List.set_cons_succ]
      repeat (refine wpG_one rfl rfl rfl ?_; intro K hK; go_big_quiet_op; go_big_quiet_on)
      refine wpG_nil (fun w5 hw5 hG5 => ?_)
      have hx5 := (Box.now hG5.2).at.1
      clear hG5
      intro s t hs ht
      obtain rfl := Option.some.inj hs
      obtain rfl := Option.some.inj ht
      clear hs ht
      refine wp_store_row 63 _ _ rfl db rfl _ _ hx5 (cnArr st) rfl (by intro v hv; simp at hv; rcases hv with rfl | rfl | rfl <;> rfl) rfl (by kernel_rfl) ?_
      refine ⟨hw5.set hdb _, ?_⟩
      refine wp_assign _ (I m.ms) rfl rfl ?_
      refine ⟨hw5.set hdb _, ?_⟩
      simp only [Act.put, List.setIfInBounds_toArray, List.set_cons_zero, List.set_cons_succ]
      obtain ⟨Z, hZ⟩ : ∃ Z, Z = w5.setRow db (cnArr st) := ⟨_, rfl⟩
      have rZ : Z.heap[db]? = some (.cells (cnArr st) 63 (0, 0)) := by rw [hZ]; exact setRow_same hx5
      have bZ : Below V.heap.size V Z := by rw [hZ]; exact below_setRow hw5.le hdb _
      have HrZ := Lib.hid rZ
      have HbZ := Lib.hid bZ
      rw [← hZ]
      clear hZ rZ bZ hx5 hw5 x0 x1 x2 x3 y0
      -- what stays, as long as blocks of one's own change
      have HV : Hid (∀ X, Below V.heap.size V X → Below W.heap.size W X ∧ Rd X w.heap.size 8 A l.length (rT l) ∧ X.heap[xb]? = some (.cells (cnArr E) 63 (0, 0)) ∧ ClIn W.heap.size X S l.length (rN3 (fzL l cs l.length)) ∧ Glob X) := fun X h => by
        have h' := H3.out.trans (h.mono hsV)
        exact ⟨h', (HY.out X h').2.2.1, (h.block xb (Array.getElem?_eq_some_iff.1 Hxr.out).1).trans Hxr.out, Hcl.out.row fun b o _ ho _ => (h.block b (Array.getElem?_eq_some_iff.1 ho).1).trans ho, (HY.out X h').2.2.2.2.1⟩
      go_wp2_with fail
      go_loopw [13, 12] (fun i ms wr => ∃ k : Nat, k ≤ l.length ∧ i = .int .i64 k ∧ ms = I (msK m l k) ∧ wr.heap[db]? = some (.cells #[I (wkG m (tdG cs 0) 0 (st 0) l k), I (wkG m (tdG cs 1) 1 (st 1) l k), I (wkG m (tdG cs 2) 2 (st 2) l k)] 63 (0, 0)) ∧ Below V.heap.size V wr) (fun i _ _ => l.length - (intOf i).toNat)
      case atStart => exact ⟨0, by omega, rfl, rfl, HrZ.out, HbZ.out⟩
      case round =>
        rename World => X
        obtain ⟨k, hk, rfl, rfl, hrow, hbX⟩ := hrel
        have HbX := Lib.hid hbX
        have hsX := hbX.size
        have Hrow := Lib.hid hrow
        clear hbX hrow
        by_cases hlt : k < l.length
        · have hki : decide ((k : Int) < (l.length : Int)) = true := decide_eq_true (by omega)
          have hkn : decide (k < l.length) = true := decide_eq_true hlt
          have hk0 : decide (0 ≤ (k : Int)) = true := decide_eq_true (by omega)
          obtain ⟨D, hD⟩ : ∃ D : Nat → Nat → Int, D = fun s k => wkG m (tdG cs s) s (st s) l k := ⟨_, rfl⟩
          have hr0 : X.heap[db]? = some (.cells #[I (lfE D k 0 0), I (lfE D k 0 1), I (lfE D k 0 2)] 63 (0, 0)) := by rw [lfE_0, lfE_0, lfE_0, hD]; exact Hrow.out
          have HD := Lib.hid hD
          have Hr0 := Lib.hid hr0
          clear hD hr0
          go_wp2_with fail
          go_loopw [14] (fun i wr => ∃ s : Nat, s ≤ 3 ∧ i = .int .i64 s ∧ wr.heap[db]? = some (.cells #[I (lfE D k s 0), I (lfE D k s 1), I (lfE D k s 2)] 63 (0, 0)) ∧ Below V.heap.size V wr) (fun i _ => 3 - (intOf i).toNat)
          case atStart => exact ⟨0, by omega, rfl, Hr0.out, HbX.out⟩
          case round =>
            rename World => X1
            obtain ⟨s, hs, rfl, hr1, hb1⟩ := hrel
            have Hb1 := Lib.hid hb1
            have hs1 := hb1.size
            have Hr1 := Lib.hid hr1
            have q1 := HV.out X1 hb1
            clear hb1
            by_cases hs3 : s < 3
            · have hsi : decide ((s : Int) < 3) = true := decide_eq_true (by omega)
              have hsn : decide (s < 3) = true := decide_eq_true hs3
              have hs0 : decide (0 ≤ (s : Int)) = true := decide_eq_true (by omega)
              have hF := Hfs.out k s hlt hs3
              obtain ⟨b, o, rfl, _, _, x1, _, _, _, _, _, _⟩ := q1.2.1.stp hlt
              obtain ⟨ab, ao, rfl, _, hac⟩ := q1.2.2.2.1.rd (by omega)
              have a0 : X1.cell? ⟨ab, ao + k * 3 + s, none⟩ = some (I (at0 cs k s)) := by have := hac k hlt s hs3; unfold rN3 at this; rw [hF.sl] at this; exact this
              have d0 : X1.cell? ⟨db, s, none⟩ = some (I (D s k)) := by have := cn_cell (b := lfE D k s) hr1 hs3; rw [this, lfE_s]
              have f0 := frozen_of_row _ _ s _ _ hr1
              have hdl := (Array.getElem?_eq_some_iff.1 hr1).1
              have hDs : D s (k + 1) = D s k - at0 cs k s := by rw [HD.out]; exact hF.d1
              have g2 := hF.c0
              have g3 := hF.eq
              have g4 := hF.ne
              have g5 := hF.db
              have g6 := hF.ms
              have g7 := hF.m1
              have eD : wkG m (tdG cs s) s (st s) l k = D s k := by rw [HD.out]
              obtain ⟨dv, hdv⟩ : ∃ q, D s k = q := ⟨_, rfl⟩
              obtain ⟨cv, hcv⟩ : ∃ q, at0 cs k s = q := ⟨_, rfl⟩
              obtain ⟨xm, hxm⟩ : ∃ q, (at0 l k).ms = q := ⟨_, rfl⟩
              obtain ⟨mk, hmk⟩ : ∃ q, msK m l k = q := ⟨_, rfl⟩
              obtain ⟨mk1, hmk1⟩ : ∃ q, msK m l (k + 1) = q := ⟨_, rfl⟩
              rw [eD] at g2 g3 g4 g5
              rw [hdv] at d0 hDs g2 g3 g4 g5
              rw [hcv] at a0 hDs g2 g3 g4
              rw [hxm] at x1 g3 g4 g6 g7
              rw [hmk] at g3 g4 g6 g7
              rw [hmk1] at g7
              rw [← g7] at g4
              rw [hmk]
              have Hset := Lib.hid (lfE_set (D := D) (i := k) hs3 hDs)
              have w0 : IntKind.i64.wrap (dv - cv) = dv - cv := IntWalk.i64_in _ (by omega)
              clear hF hac q1 eD hdv hcv hxm hDs hmk1
              by_cases hxe : xm = mk
              · have e1 : (xm == mk) = true := by simpa using hxe
                have e2 : (cv != dv) = false := by simpa using g3 hxe
                clear hxe g2 g3 g4 g5 g6 g7
                go_upto_region 19 with (fail)
                have y0 := ovr_cell a0
                have y1 := ovr_cell d0
                refine wp_region_below_lit (by kernel_rfl) (by kernel_rfl) ?_
                repeat (go_big_quiet_step (fail))
                refine wpQuiet_nil ?_
                intro X2 hb2
                clear y0 y1
                have r2 := (hb2.block db hdl).trans Hr1.out
                have a2 : X2.cell? ⟨ab, ao + k * 3 + s, none⟩ = some (I cv) := (hb2.cell (block_lt_of_cell a0)).trans a0
                have d2' : X2.cell? ⟨db, s, none⟩ = some (I dv) := (hb2.cell hdl).trans d0
                have Hb2 : Hid (Below V.heap.size V X2) := Hb1.out.trans (hb2.mono hs1)
                have hs2 := Hb2.out.size
                have hdl2 := (Array.getElem?_eq_some_iff.1 r2).1
                have Hr2 := Lib.hid r2
                have Hd2 := Lib.hid d2'
                clear hb2 r2
                go_wp2_with fail
                have y0 := ovr_cell a2
                have y1 := ovr_cell d2'
                clear a2 d2'
                go_upto_region 23 with (fail)
                refine wp_region_below_tail (by kernel_rfl) (by kernel_rfl) (by kernel_rfl) ?_
                simp only [skipLast_two, skipLast_one]
                repeat (go_big_quiet_step (fail))
                refine wpQuiet_nil ?_
                intro X3 hb3 o3 ho3
                obtain rfl := Option.some.inj ho3
                clear ho3
                have r3 := (hb3.block db hdl2).trans Hr2.out
                have z0 : X3.cell? ⟨db, s, none⟩ = some (I dv) := (hb3.cell hdl2).trans Hd2.out
                have z1 := frozen_of_row _ _ s _ _ r3
                clear y0 y1
                unfold Oper.wp
                go_simp
                generalize hX4 : X3.setCell ⟨db, s, none⟩ _ = X4
                have r4 : X4.heap[db]? = some (.cells #[I (lfE D k (s + 1) 0), I (lfE D k (s + 1) 1), I (lfE D k (s + 1) 2)] 63 (0, 0)) := by rw [← hX4, ← Hset.out]; exact rs r3 s _
                have b4 : Below V.heap.size V X4 := by rw [← hX4]; exact Below.setCell (Hb2.out.trans (hb3.mono hs2)) (p := ⟨db, s, none⟩) hdb _
                have Hr4 := Lib.hid r4
                have Hb4 := Lib.hid b4
                clear hX4 r4 b4 r3 z0 z1 hb3
                go_wp2_with fail
                go_roundw
                case rel => exact ⟨s + 1, hs3, by go_num, Hr4.out, Hb4.out⟩
                case measure => simp [intOf]; omega
              · have e1 : (xm == mk) = false := by simpa using hxe
                obtain ⟨k1, k2⟩ := g4 hxe
                have wm : IntKind.i64.wrap (mk - xm) = mk1 := by rw [IntWalk.i64_in _ (by omega)]; exact g7.symm
                have hn : 0 ≤ dv ∧ dv ≤ 300000000000000 := g5
                have ha1 : 0 ≤ xm ∧ xm ≤ mk := by omega
                have ha2 : 0 ≤ mk1 ∧ mk1 ≤ mk := by omega
                have hb0 : 1 ≤ mk ∧ mk ≤ 1000000000 := by omega
                have bs1 := shF_bd hn.1 ha1 (show 0 < mk by omega)
                have bs2 := shF_bd hn.1 ha2 (show 0 < mk by omega)
                have cs1 : Hid (∀ W, Calls Tryd.prog 33 #[I dv, I xm, I mk] W fun e w' => e = .returned (I (shF dv xm mk)) ∧ Below W.heap.size W w') := fun W => share_any dv xm mk W hn ha1 hb0
                have cs2 : Hid (∀ W, Calls Tryd.prog 33 #[I dv, I mk1, I mk] W fun e w' => e = .returned (I (shF dv mk1 mk)) ∧ Below W.heap.size W w') := fun W => share_any dv mk1 mk W hn ha2 hb0
                obtain ⟨s1, hss1⟩ : ∃ q, shF dv xm mk = q := ⟨_, rfl⟩
                obtain ⟨s2, hss2⟩ : ∃ q, shF dv mk1 mk = q := ⟨_, rfl⟩
                rw [hss1] at cs1 k1 bs1
                rw [hss2] at cs2 k2 bs2
                have w1 : IntKind.i64.wrap (cv - 1) = cv - 1 := IntWalk.i64_in _ (by omega)
                have w2 : IntKind.i64.wrap (s2 - 1) = s2 - 1 := IntWalk.i64_in _ (by omega)
                have d1 : decide (s1 < cv - 1) = false := decide_eq_false (by omega)
                have d2 : decide (dv - cv < s2 - 1) = false := decide_eq_false (by omega)
                clear hxe g2 g3 g4 g5 g6 g7 k1 k2 hn ha1 ha2 hb0 bs1 bs2 hss1 hss2
                go_upto_region 21 with (fail)
                have y0 := ovr_cell a0
                have y1 := ovr_cell d0
                have y2 := ovr_cell x1
                refine wp_region_below_lit (by kernel_rfl) (by kernel_rfl) ?_
                repeat (go_big_quiet_step (fail))
                go_big_quiet_step ((go_at_call 33; exact call_below (cs1.out _)))
                repeat (go_big_quiet_step (fail))
                go_big_quiet_step ((go_at_call 33; exact call_below (cs2.out _)))
                repeat (go_big_quiet_step (fail))
                refine wpQuiet_nil ?_
                intro X2 hb2
                clear y0 y1 y2 cs1 cs2 d1 d2 w1 w2 wm
                have r2 := (hb2.block db hdl).trans Hr1.out
                have a2 : X2.cell? ⟨ab, ao + k * 3 + s, none⟩ = some (I cv) := (hb2.cell (block_lt_of_cell a0)).trans a0
                have d2' : X2.cell? ⟨db, s, none⟩ = some (I dv) := (hb2.cell hdl).trans d0
                have Hb2 : Hid (Below V.heap.size V X2) := Hb1.out.trans (hb2.mono hs1)
                have hs2 := Hb2.out.size
                have hdl2 := (Array.getElem?_eq_some_iff.1 r2).1
                have Hr2 := Lib.hid r2
                have Hd2 := Lib.hid d2'
                clear hb2 r2
                go_wp2_with fail
                have y0 := ovr_cell a2
                have y1 := ovr_cell d2'
                clear a2 d2'
                go_upto_region 23 with (fail)
                refine wp_region_below_tail (by kernel_rfl) (by kernel_rfl) (by kernel_rfl) ?_
                simp only [skipLast_two, skipLast_one]
                repeat (go_big_quiet_step (fail))
                refine wpQuiet_nil ?_
                intro X3 hb3 o3 ho3
                obtain rfl := Option.some.inj ho3
                clear ho3
                have r3 := (hb3.block db hdl2).trans Hr2.out
                have z0 : X3.cell? ⟨db, s, none⟩ = some (I dv) := (hb3.cell hdl2).trans Hd2.out
                have z1 := frozen_of_row _ _ s _ _ r3
                clear y0 y1
                unfold Oper.wp
                go_simp
                generalize hX4 : X3.setCell ⟨db, s, none⟩ _ = X4
                have r4 : X4.heap[db]? = some (.cells #[I (lfE D k (s + 1) 0), I (lfE D k (s + 1) 1), I (lfE D k (s + 1) 2)] 63 (0, 0)) := by rw [← hX4, ← Hset.out]; exact rs r3 s _
                have b4 : Below V.heap.size V X4 := by rw [← hX4]; exact Below.setCell (Hb2.out.trans (hb3.mono hs2)) (p := ⟨db, s, none⟩) hdb _
                have Hr4 := Lib.hid r4
                have Hb4 := Lib.hid b4
                clear hX4 r4 b4 r3 z0 z1 hb3
                go_wp2_with fail
                go_roundw
                case rel => exact ⟨s + 1, hs3, by go_num, Hr4.out, Hb4.out⟩
                case measure => simp [intOf]; omega
            · obtain rfl : s = 3 := by omega
              have hsi : decide (((3 : Nat) : Int) < 3) = false := rfl
              obtain ⟨b, o, rfl, _, _, x1, _, _, _, _, _, _⟩ := q1.2.1.stp hlt
              have hF := Hfs.out k 0 hlt (by omega)
              have g6 := hF.ms
              have g7 := hF.m1
              have wm : IntKind.i64.wrap (msK m l k - (at0 l k).ms) = msK m l (k + 1) := by rw [IntWalk.i64_in _ (by omega)]; exact g7.symm
              have Hr1' : Hid (X1.heap[db]? = some (.cells #[I (wkG m (tdG cs 0) 0 (st 0) l (k + 1)), I (wkG m (tdG cs 1) 1 (st 1) l (k + 1)), I (wkG m (tdG cs 2) 2 (st 2) l (k + 1))] 63 (0, 0))) := by
                have := Hr1.out
                rw [lfE_3 (by omega), lfE_3 (by omega), lfE_3 (by omega), HD.out] at this
                exact this
              obtain ⟨xm, hxm⟩ : ∃ q, (at0 l k).ms = q := ⟨_, rfl⟩
              obtain ⟨mk, hmk⟩ : ∃ q, msK m l k = q := ⟨_, rfl⟩
              rw [hxm] at x1 wm
              rw [hmk] at wm ⊢
              clear hF g6 g7 q1 hxm hmk
              go_wp2_with fail
              go_roundw
              case rel => exact ⟨k + 1, hlt, by go_num, rfl, Hr1'.out, Hb1.out⟩
              case measure => simp [intOf]; omega
        · obtain rfl : k = l.length := by omega
          have hki : decide ((l.length : Int) < (l.length : Int)) = false := decide_eq_false (by omega)
          have q1 := HV.out X HbX.out
          have hx1 := q1.2.2.1
          have hr1 := Hrow.out
          have HX : Hid (Below W.heap.size W X) := q1.1
          have hmm := Hms.out l.length (Nat.le_refl _)
          rw [HE.out] at hx1
          have he0 := Hend.out
          obtain ⟨v0, hv0⟩ : ∃ q, wkG m (tdG cs 0) 0 (st 0) l l.length = q := ⟨_, rfl⟩
          obtain ⟨v1, hv1⟩ : ∃ q, wkG m (tdG cs 1) 1 (st 1) l l.length = q := ⟨_, rfl⟩
          obtain ⟨v2, hv2⟩ : ∃ q, wkG m (tdG cs 2) 2 (st 2) l l.length = q := ⟨_, rfl⟩
          have hz : 0 < l.length → msK m l l.length = 0 → v0 = 0 ∧ v1 = 0 ∧ v2 = 0 := fun hl hm => ⟨by rw [← hv0]; exact he0 hl hm 0 (by omega), by rw [← hv1]; exact he0 hl hm 1 (by omega), by rw [← hv2]; exact he0 hl hm 2 (by omega)⟩
          have hx2 : X.heap[xb]? = some (.cells #[I v0, I v1, I v2] 63 (0, 0)) := by rw [← hv0, ← hv1, ← hv2]; exact hx1
          rw [hv0, hv1, hv2] at hr1
          have z0 := row_cell hr1 0 _ rfl
          have z1 := row_cell hr1 1 _ rfl
          have z2 := row_cell hr1 2 _ rfl
          have p0 := row_cell hx2 0 _ rfl
          have p1 := row_cell hx2 1 _ rfl
          have p2 := row_cell hx2 2 _ rfl
          obtain ⟨mk, hmk⟩ : ∃ q, msK m l l.length = q := ⟨_, rfl⟩
          rw [hmk] at hz hmm ⊢
          clear q1 hx1 hx2 hr1 he0 hv0 hv1 hv2 hmk
          by_cases hm : 0 < mk
          · as_aux_lemma =>
              have e1 : decide (0 < mk) = true := decide_eq_true hm
              clear hm hz hmm
              go_wp2_with fail
              refine (known_any X (HY.out X HX.out).2.2.2.2.1).mono ?_
              rintro e wk ⟨rfl, hbk⟩
              have HK : Hid (Below W.heap.size W wk) := Below.trans HX.out (hbk.mono (Below.size HX.out))
              clear hbk
              go_wp2_with fail
              go_ret
              exact ⟨rfl, (HY.out wk HK.out).2.2.2.2.2⟩
          have e1 : decide (0 < mk) = false := decide_eq_false hm
          by_cases hl0 : l.length = 0
          · as_aux_lemma =>
              have e2 : ((l.length : Int) == 0) = true := beq_iff_eq.2 (by omega)
              have e3 : (l.length == 0) = true := beq_iff_eq.2 hl0
              clear hm hz hmm hl0
              go_wp2_with fail
              refine (known_any X (HY.out X HX.out).2.2.2.2.1).mono ?_
              rintro e wk ⟨rfl, hbk⟩
              have HK : Hid (Below W.heap.size W wk) := Below.trans HX.out (hbk.mono (Below.size HX.out))
              clear hbk
              go_wp2_with fail
              go_ret
              exact ⟨rfl, (HY.out wk HK.out).2.2.2.2.2⟩
          · as_aux_lemma =>
              have e2 : ((l.length : Int) == 0) = false := beq_eq_false_iff_ne.2 (by omega)
              have e3 : (l.length == 0) = false := beq_eq_false_iff_ne.2 hl0
              obtain ⟨rfl, rfl, rfl⟩ := hz (by omega) (by omega)
              clear hm hz hmm hl0
              go_wp2_with fail
              refine (known_any X (HY.out X HX.out).2.2.2.2.1).mono ?_
              rintro e wk ⟨rfl, hbk⟩
              have HK : Hid (Below W.heap.size W wk) := Below.trans HX.out (hbk.mono (Below.size HX.out))
              clear hbk
              go_wp2_with fail
              go_ret
              exact ⟨rfl, (HY.out wk HK.out).2.2.2.2.2⟩
end Go.Proofs.YtfifdfagikbahaaDoor
