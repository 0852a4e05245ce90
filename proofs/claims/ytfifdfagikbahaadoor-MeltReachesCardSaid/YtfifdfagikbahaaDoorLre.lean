/- The walk of the law MeltReaches (printed by gen_lre.py). -/
import Derived.Test.YtfifdfagikbahaaDoorXe5
import Derived.Test.YtfifdfagikbahaaDoorFo5
import Derived.Deep.RegionHeld3
namespace Go.Proofs.YtfifdfagikbahaaDoor
open Go.RowKit
attribute [local go_sem] Oper.semAt_some
/-- A slice and a species. -/
abbrev whArr (sl s : Int) : Array Value := #[I sl, I s]
set_option maxRecDepth 100000 in
set_option maxHeartbeats 8000000 in
theorem meltReaches_any (m : Mlt) (A : Option Addr) (c : Nat) (l : List Stp) (sl s : Int) (w : World) (hG : Glob w) (hx : Rd w w.heap.size 8 A l.length (rT l)) (hk : ∀ j, j < l.length → 0 ≤ (at0 l j).kd ∧ (at0 l j).kd ≤ 255) (hn : l.length ≤ maxLen) (hsl : -9223372036854775808 ≤ sl ∧ sl ≤ 9223372036854775807) :
    Calls Tryd.prog 11 #[.agg (mltArr m), .slice A l.length c, .agg (whArr sl s)] w fun e w' => e = .returned (.bool true) ∧ Below w.heap.size w w' := by
  obtain ⟨W, hW⟩ : ∃ W, W = (w.alloc (.cells (mltArr m) 27)).alloc (.cells (whArr sl s) 92) := ⟨_, rfl⟩
  have hb0 : Below w.heap.size w W := by rw [hW]; exact ((Below.refl _ _).alloc (Nat.le_refl _) _).alloc (by simp) _
  have r0 : W.heap[w.heap.size]? = some (.cells (mltArr m) 27 (0, 0)) := by rw [hW]; exact heap_before (heap_last _ _ _ rfl)
  have r1 : W.heap[w.heap.size + 1]? = some (.cells (whArr sl s) 92 (0, 0)) := by rw [hW]; exact heap_last _ _ _ (by simp)
  have sW : w.heap.size + 2 = W.heap.size := by rw [hW]; simp
  have HW := Lib.hid hW
  have HY : Hid (∀ W', Below W.heap.size W W' → W'.heap[w.heap.size]? = some (.cells (mltArr m) 27 (0, 0)) ∧ W'.heap[w.heap.size + 1]? = some (.cells (whArr sl s) 92 (0, 0)) ∧ Rd W' w.heap.size 8 A l.length (rT l) ∧ Glob W' ∧ Below w.heap.size w W') := fun W' h => by
    have h' := hb0.trans (h.mono hb0.size)
    exact ⟨(h.block _ (by omega)).trans r0, (h.block _ (by omega)).trans r1, hx.below h', hG.below h', h'⟩
  have Hk := Lib.hid hk
  have Hn := Lib.hid hn
  have Hsl := Lib.hid hsl
  clear hW hb0 r0 r1 hG hx hk hn hsl
  go_enter Tryd.func11, Tryd.ntmps11
  go_upto_region 1 with (fail)
  rw [← HW.out]
  have x0 := ovr_cell (row_c3 (HY.out W (Below.refl _ _)).2.1 0 _ rfl)
  have x1 := ovr_cell (row_c3 (HY.out W (Below.refl _ _)).2.1 1 _ rfl)
  refine wp_region_below_lit (by kernel_rfl) (by kernel_rfl) ?_
  repeat (go_big_quiet_step (fail))
  refine wpQuiet_nil ?_
  intro W1 hb1
  have H1 := Lib.hid hb1
  have zW1 := hb1.size
  clear hb1 x0 x1
  by_cases h60 : 60 < l.length
  · as_aux_lemma =>
      have d1 : decide (60 < (l.length : Int)) = true := decide_eq_true (by omega)
      clear h60
      go_wp2_with fail
      refine (known_any W1 (HY.out W1 H1.out).2.2.2.1).mono ?_
      rintro e wk ⟨rfl, hbk⟩
      have HK : Hid (Below W.heap.size W wk) := Below.trans H1.out (hbk.mono (Below.size H1.out))
      clear hbk
      go_wp2_with fail
      go_ret
      exact ⟨rfl, (HY.out wk HK.out).2.2.2.2⟩
  have d1 : decide (60 < (l.length : Int)) = false := decide_eq_false (by omega)
  have hl60 : l.length ≤ 60 := by omega
  clear h60
  by_cases h0 : ckF m l = 0
  case neg =>
    obtain ⟨er, her⟩ : ∃ q, ckF m l = q := ⟨_, rfl⟩
    have hxe : xeE m l sl s = er := by unfold xeE; rw [if_pos h0, her]
    rw [her] at h0
    go_upto_region 4 with (fail)
    have y := fun k v h => ovr_cell (row_c3 (HY.out W1 H1.out).1 k v h)
    have y0 := y 0 _ rfl
    have y1 := y 1 _ rfl
    have y2 := y 2 _ rfl
    have y3 := y 3 _ rfl
    have y4 := y 4 _ rfl
    have y5 := y 5 _ rfl
    have y6 := y 6 _ rfl
    clear y
    refine wp_region_make_two (fun j => if j = 2 then some (OlF 8 l.length (rT l)) else if j = 3 then some (PrdF m l) else if j = 7 then some (NewAt W1 (runArr (.slice none 0 0) fun _ => 0) 35) else none) [6] (by kernel_rfl) (by kernel_rfl) (by kernel_rfl) (by kernel_rfl) (by kernel_rfl) (by intro i hi; simp at hi; subst hi; rfl) ⟨rfl, rfl⟩ (fun c a d v w h => by cases d <;> exact h) ?_
    simp only [sleepTwo_cons, sleepTwo_two]
    repeat (refine wpG_one rfl rfl rfl ?_; intro K hK; go_big_quiet_op; go_big_quiet_on)
    refine wpG_make (OlF 8 l.length (rT l)) rfl rfl (fun w' hw' _ => ?_) (fun u hu => ?_)
    · go_simp
      exact olF_grow (ownSteps_any A l.length c (rT l) w' w.heap.size (by omega) (by have := hw'.le.size; omega) (HY.out w' (H1.out.trans (hw'.le.mono zW1))).2.2.1)
    obtain ⟨_, _, A1, c1, rfl, _, _, _⟩ := hu
    simp only [Act.put, List.setIfInBounds_toArray, List.set_cons_zero, List.set_cons_succ]
    refine wpG_make (PrdF m l) rfl rfl (fun w' hw' hk => ?_) (fun u hu => ?_)
    · obtain ⟨b1, e1, he1, _, _, hr1⟩ := (hk ⟨2, .data⟩ (by simp) rfl _ _ _ rfl rfl rfl (by simp) rfl).now
      obtain ⟨rfl, rfl⟩ : A1 = b1 ∧ c1 = e1 := by simp at he1; exact he1
      go_simp
      exact predict_grow m A1 c1 l w' (HY.out w' (H1.out.trans (hw'.le.mono zW1))).2.2.2.1 hr1 Hk.out Hn.out
    obtain ⟨_, _, hu⟩ := hu
    (rcases hu with ⟨_, rfl⟩ | ⟨h1, _⟩; rotate_left; · exact absurd (her.symm.trans h1) h0)
    simp only [Act.put, List.setIfInBounds_toArray, List.set_cons_zero, List.set_cons_succ]
    repeat (refine wpG_one rfl rfl rfl ?_; intro K hK; go_big_quiet_op; go_big_quiet_on)
    refine wpG_make (NewAt W1 (runArr (.slice none 0 0) fun _ => 0) 35) rfl rfl (fun w' hw' _ => ?_) (fun u hu => ?_)
    · go_simp
      exact new_grow hw'
    obtain ⟨_, _, rb, rfl, _, hrb⟩ := hu
    simp only [Act.put, List.setIfInBounds_toArray, List.set_cons_zero, List.set_cons_succ]
    repeat (refine wpG_one rfl rfl rfl ?_; intro K hK; go_big_quiet_op; go_big_quiet_on)
    refine wpG_nil (fun w5 hw5 hG5 => ?_)
    have hx5 := (Box.now hG5.2).at.1
    skip
    clear hG5
    intro s1 t1 hs ht
    obtain rfl := Option.some.inj hs
    obtain rfl := Option.some.inj ht
    clear hs ht
    refine wp_store_row 35 _ _ rfl rb rfl _ _ hx5 (runArr (.slice none 0 0) fun _ => 0) rfl (run_one rfl) rfl (by kernel_rfl) ?_
    refine ⟨hw5.set hrb _, ?_⟩
    refine wp_assign _ (I er) rfl rfl ?_
    refine ⟨hw5.set hrb _, ?_⟩
    simp only [Act.put, List.setIfInBounds_toArray, List.set_cons_zero, List.set_cons_succ]
    obtain ⟨Z, hZ⟩ : ∃ Z, Z = w5.setRow rb (runArr (.slice none 0 0) fun _ => 0) := ⟨_, rfl⟩
    have rZ : Z.heap[rb]? = some (.cells (runArr (.slice none 0 0) fun _ => 0) 35 (0, 0)) := by rw [hZ]; exact setRow_same hx5
    have HrZ := Lib.hid rZ
    have bZ : Below W1.heap.size W1 Z := by rw [hZ]; exact below_setRow hw5.le hrb _
    have HZ := Lib.hid bZ
    clear y0 y1 y2 y3 y4 y5 y6
    rw [← hZ]
    have e1 : (er != 0) = true := by simp; omega
    have e2 : (er == er) = true := by simp
    have e3 : (er != er) = false := by simp
    have zZ := bZ.size
    have Hxe := Lib.hid hxe
    have He0 := Lib.hid h0
    clear hZ rZ bZ hx5 hw5 her h0 hxe
    go_wp2_with fail
    go_loopw [11] (fun i wr => ∃ k : Nat, k ≤ 2 ∧ i = .int .i64 k ∧ Below Z.heap.size Z wr) (fun i _ => 2 - (intOf i).toNat)
    case atStart => exact ⟨0, by omega, rfl, Below.refl _ _⟩
    case round =>
      rename World => X
      obtain ⟨k, hk2, rfl, hbX⟩ := hrel
      have HbX := Lib.hid hbX
      have HX : Hid (∀ w', Below X.heap.size X w' → w'.heap[w.heap.size]? = some (.cells (mltArr m) 27 (0, 0)) ∧ Rd w' w.heap.size 8 A l.length (rT l) ∧ Glob w' ∧ Below w.heap.size w w') := fun w' h => by
        have q := HY.out w' (H1.out.trans ((HZ.out.trans ((hbX.trans (h.mono hbX.size)).mono zZ)).mono zW1))
        exact ⟨q.1, q.2.2⟩
      have zX := hbX.size
      clear hbX
      by_cases hk3 : k < 2
      · have hki : decide ((k : Int) < 2) = true := decide_eq_true (by omega)
        obtain ⟨mo, hmo⟩ : ∃ b, ((k : Int) == 1) = b := ⟨_, rfl⟩
        go_upto_region 8 with (fail)
        have hsX : X.heap.size = X.heap.size := rfl
        go_cut [12, 13, 14] from 38 to 49 (fun s12 s13 s14 wx => ∃ (S : Option Addr) (n d xb : Nat) (E : Nat → Int), s12 = .pointer (some ⟨xb, 0, none⟩) ∧ s13 = .slice S n d ∧ s14 = I (xeE m l sl s) ∧ n ≤ d ∧ d ≤ maxLen ∧ (xeE m l sl s ≠ 0 → S = none ∧ n = 0 ∧ d = 0 ∧ E = fun _ => 0) ∧ (xeE m l sl s = 0 → n = l.length ∧ E = xeS m mo) ∧ ClIn X.heap.size wx S n (rN3 (xcs m l (atK l sl l.length) mo)) ∧ wx.heap[xb]? = some (.cells (cnArr E) 63 (0, 0)) ∧ X.heap.size ≤ xb ∧ Below X.heap.size X wx)
        case first =>
          as_aux_lemma =>
            have HK : Hid (∀ w', Below X.heap.size X w' → w'.cell? ⟨w.heap.size, 0, none⟩ = some (I m.ms) ∧ w'.cell? ⟨w.heap.size, 1, none⟩ = some (I (m.ct 0)) ∧ w'.cell? ⟨w.heap.size, 2, none⟩ = some (I (m.ct 1)) ∧ w'.cell? ⟨w.heap.size, 3, none⟩ = some (I (m.ct 2)) ∧ w'.cell? ⟨w.heap.size, 4, none⟩ = some (I (m.ct 3)) ∧ w'.cell? ⟨w.heap.size, 5, none⟩ = some (I (m.ct 4)) ∧ w'.cell? ⟨w.heap.size, 6, none⟩ = some (I (m.ct 5))) := fun w' h => by
              have q := (HX.out w' h).1
              exact ⟨row_c3 q _ _ rfl, row_c3 q _ _ rfl, row_c3 q _ _ rfl, row_c3 q _ _ rfl, row_c3 q _ _ rfl, row_c3 q _ _ rfl, row_c3 q _ _ rfl⟩
            have kb0 : Below X.heap.size X X.drew := (Below.refl _ _).drew
            go_region_held3 (fun w' => w'.cell? ⟨w.heap.size, 0, none⟩ = some (I m.ms) ∧ w'.cell? ⟨w.heap.size, 1, none⟩ = some (I (m.ct 0)) ∧ w'.cell? ⟨w.heap.size, 2, none⟩ = some (I (m.ct 1)) ∧ w'.cell? ⟨w.heap.size, 3, none⟩ = some (I (m.ct 2)) ∧ w'.cell? ⟨w.heap.size, 4, none⟩ = some (I (m.ct 3)) ∧ w'.cell? ⟨w.heap.size, 5, none⟩ = some (I (m.ct 4)) ∧ w'.cell? ⟨w.heap.size, 6, none⟩ = some (I (m.ct 5))) (first
              | exact HK.out _ (by first | assumption | exact Below.alloc ‹Below X.heap.size X _› (Below.size ‹Below X.heap.size X _›) _)
              | (refine HK.out _ (Below.setCell (Below.setCell (Below.setCell (by first | assumption | exact Below.alloc ‹Below X.heap.size X _› (Below.size ‹Below X.heap.size X _›) _) ?_ _) ?_ _) ?_ _) <;> first | exact Nat.le_refl _ | exact Below.size kb0 | exact Below.size kb1 | exact Below.size kb2)
              | trace_state) (first
              | (go_at_call 13; refine (ownSteps_any A l.length c (rT l) _ w.heap.size (by omega) (Below.size (HX.out _ (by first | assumption | exact Below.alloc ‹Below X.heap.size X _› (Below.size ‹Below X.heap.size X _›) _)).2.2.2) (HX.out _ (by first | assumption | exact Below.alloc ‹Below X.heap.size X _› (Below.size ‹Below X.heap.size X _›) _)).2.1).mono ?_; rintro e w1 ⟨A1, c1, rfl, l1, l2, hr1, k1⟩; have kb1 : Below X.heap.size X w1 := Below.trans (by first | assumption | exact Below.alloc ‹Below X.heap.size X _› (Below.size ‹Below X.heap.size X _›) _) (Below.mono k1 (Below.size (by first | assumption | exact Below.alloc ‹Below X.heap.size X _› (Below.size ‹Below X.heap.size X _›) _))); (first | (have hq := (k1.block X.heap.size (by simp)).trans (heap_last X.drew (.cells #[I 0, I 0, I 0] 63) X.heap.size rfl)) | (have hq := (k1.block _ (Array.getElem?_eq_some_iff.1 hq).1).trans hq) | skip); (try (have z0 := row_c3 hq 0 _ rfl; have z1 := row_c3 hq 1 _ rfl; have z2 := row_c3 hq 2 _ rfl; have g0 := frozen_of_row _ _ 0 _ _ hq; have g1 := frozen_of_row _ _ 1 _ _ hq; have g2 := frozen_of_row _ _ 2 _ _ hq)))
              | (go_at_call 38; refine (extreme_uni m A1 c1 l sl s mo _ (HX.out _ (by first | assumption | exact Below.alloc ‹Below X.heap.size X _› (Below.size ‹Below X.heap.size X _›) _)).2.2.1 (by first | exact hr1 | exact (hr1.alloc (Nat.le_refl _) _).more (by simp)) Hk.out Hn.out Hsl.out).mono ?_; rintro e w2 ⟨S, n, d, E, rfl, hd1, hd2, hne, heq, hcl, k2⟩; have kb2 : Below X.heap.size X w2 := Below.trans (by first | assumption | exact Below.alloc ‹Below X.heap.size X _› (Below.size ‹Below X.heap.size X _›) _) (Below.mono k2 (Below.size (by first | assumption | exact Below.alloc ‹Below X.heap.size X _› (Below.size ‹Below X.heap.size X _›) _))); (first | (have hq := (k2.block (World.heap w1).size (by simp)).trans (heap_last w1 (.cells #[I 0, I 0, I 0] 63) _ rfl)) | (have hq := (k2.block _ (Array.getElem?_eq_some_iff.1 hq).1).trans hq) | skip); (try (have z0 := row_c3 hq 0 _ rfl; have z1 := row_c3 hq 1 _ rfl; have z2 := row_c3 hq 2 _ rfl; have g0 := frozen_of_row _ _ 0 _ _ hq; have g1 := frozen_of_row _ _ 1 _ _ hq; have g2 := frozen_of_row _ _ 2 _ _ hq))))
            all_goals go_wp2_with fail
            all_goals go_meet
            all_goals
              have s1 := Below.size k1
              have s2 := Below.size k2
              simp at s1 s2
              first
              | exact ⟨S, n, d, w2.heap.size, E, rfl, rfl, rfl, hd1, hd2, hne, heq, hcl.row' (Below.size kb1) fun b o _ ho _ => heap_before ho, heap_last _ _ _ rfl, Below.size kb2, Below.alloc kb2 (Below.size kb2) _⟩
              | exact ⟨S, n, d, _, E, rfl, rfl, rfl, hd1, hd2, hne, heq, hcl.row' (by simp; omega) fun b o hb ho _ => (by simp at hb; exact ro (ro (ro ho (by omega)) (by omega)) (by omega)), rs (rs (rs hq 0 _) 1 _) 2 _, (by omega), (by refine Below.setCell (Below.setCell (Below.setCell kb2 ?_ _) ?_ _) ?_ _ <;> (show X.heap.size ≤ _; (try dsimp only); omega))⟩
              | exact ⟨S, n, d, _, E, rfl, rfl, rfl, hd1, hd2, hne, heq, hcl.row' (by omega) fun b o hb ho _ => ro (ro (ro ho (by omega)) (by omega)) (by omega), rs (rs (rs hq 0 _) 1 _) 2 _, (by omega), (by refine Below.setCell (Below.setCell (Below.setCell kb2 ?_ _) ?_ _) ?_ _ <;> (show X.heap.size ≤ _; (try dsimp only); omega))⟩
        obtain ⟨Ch, n, dc, xb, E, rfl, rfl, rfl, hd1, hd2, hne, heq, hcl, hxr, hxb, hbx⟩ := hcut
        rename World => Y
        have HbY := Lib.hid hbx
        have Hcl := Lib.hid hcl
        have Hxr := Lib.hid hxr
        have Hne := Lib.hid hne
        have Heq := Lib.hid heq
        clear hcl hxr hne heq hbx
        rw [Hxe.out]
        obtain ⟨rfl, rfl, rfl, rfl⟩ := Hne.out (by rw [Hxe.out]; exact He0.out)
        have z0 := row_c3 Hxr.out 0 (I 0) rfl
        have z1 := row_c3 Hxr.out 1 (I 0) rfl
        have z2 := row_c3 Hxr.out 2 (I 0) rfl
        have eq0 := eq3 0 0 0
        have HZY : Hid (Below Z.heap.size Z Y) := HbX.out.trans (HbY.out.mono zX)
        go_wp2_with fail
        go_roundw
        case rel => exact ⟨k + 1, by omega, by go_num, HZY.out⟩
        case measure => simp [intOf]; omega
      · obtain rfl : k = 2 := by omega
        have hki : decide (((2 : Nat) : Int) < 2) = false := rfl
        have HZW : Hid (Below W.heap.size W X) := H1.out.trans ((HZ.out.trans (HbX.out.mono zZ)).mono zW1)
        go_wp2_with fail
        refine (known_any X (HY.out X HZW.out).2.2.2.1).mono ?_
        rintro e wk ⟨rfl, hbk⟩
        have HK : Hid (Below W.heap.size W wk) := Below.trans HZW.out (hbk.mono (Below.size HZW.out))
        clear hbk
        go_wp2_with fail
        go_ret
        exact ⟨rfl, (HY.out wk HK.out).2.2.2.2⟩
  go_upto_region 4 with (fail)
  have y := fun k v h => ovr_cell (row_c3 (HY.out W1 H1.out).1 k v h)
  have y0 := y 0 _ rfl
  have y1 := y 1 _ rfl
  have y2 := y 2 _ rfl
  have y3 := y 3 _ rfl
  have y4 := y 4 _ rfl
  have y5 := y 5 _ rfl
  have y6 := y 6 _ rfl
  clear y
  refine wp_region_make_two (fun j => if j = 2 then some (OlF 8 l.length (rT l)) else if j = 3 then some (PrdF m l) else if j = 7 then some (NewAt W1 (runArr (.slice none 0 0) fun _ => 0) 35) else none) [6] (by kernel_rfl) (by kernel_rfl) (by kernel_rfl) (by kernel_rfl) (by kernel_rfl) (by intro i hi; simp at hi; subst hi; rfl) ⟨rfl, rfl⟩ (fun c a d v w h => by cases d <;> exact h) ?_
  simp only [sleepTwo_cons, sleepTwo_two]
  repeat (refine wpG_one rfl rfl rfl ?_; intro K hK; go_big_quiet_op; go_big_quiet_on)
  refine wpG_make (OlF 8 l.length (rT l)) rfl rfl (fun w' hw' _ => ?_) (fun u hu => ?_)
  · go_simp
    exact olF_grow (ownSteps_any A l.length c (rT l) w' w.heap.size (by omega) (by have := hw'.le.size; omega) (HY.out w' (H1.out.trans (hw'.le.mono zW1))).2.2.1)
  obtain ⟨_, _, A1, c1, rfl, _, _, _⟩ := hu
  simp only [Act.put, List.setIfInBounds_toArray, List.set_cons_zero, List.set_cons_succ]
  refine wpG_make (PrdF m l) rfl rfl (fun w' hw' hk => ?_) (fun u hu => ?_)
  · obtain ⟨b1, e1, he1, _, _, hr1⟩ := (hk ⟨2, .data⟩ (by simp) rfl _ _ _ rfl rfl rfl (by simp) rfl).now
    obtain ⟨rfl, rfl⟩ : A1 = b1 ∧ c1 = e1 := by simp at he1; exact he1
    go_simp
    exact predict_grow m A1 c1 l w' (HY.out w' (H1.out.trans (hw'.le.mono zW1))).2.2.2.1 hr1 Hk.out Hn.out
  obtain ⟨_, _, hu⟩ := hu
  (rcases hu with ⟨h1, _⟩ | ⟨_, S, d, rfl, hd3, hd4, _⟩; · exact absurd h0 h1)
  simp only [Act.put, List.setIfInBounds_toArray, List.set_cons_zero, List.set_cons_succ]
  repeat (refine wpG_one rfl rfl rfl ?_; intro K hK; go_big_quiet_op; go_big_quiet_on)
  refine wpG_make (NewAt W1 (runArr (.slice none 0 0) fun _ => 0) 35) rfl rfl (fun w' hw' _ => ?_) (fun u hu => ?_)
  · go_simp
    exact new_grow hw'
  obtain ⟨_, _, rb, rfl, _, hrb⟩ := hu
  simp only [Act.put, List.setIfInBounds_toArray, List.set_cons_zero, List.set_cons_succ]
  repeat (refine wpG_one rfl rfl rfl ?_; intro K hK; go_big_quiet_op; go_big_quiet_on)
  refine wpG_nil (fun w5 hw5 hG5 => ?_)
  have hx5 := (Box.now hG5.2).at.1
  (have hP := (Box.now hG5.1.2).sl h0)
  clear hG5
  intro s1 t1 hs ht
  obtain rfl := Option.some.inj hs
  obtain rfl := Option.some.inj ht
  clear hs ht
  refine wp_store_row 35 _ _ rfl rb rfl _ _ hx5 (runArr (.slice S (fzK l l.length) d) (prR m l)) rfl (run_one rfl) rfl (by kernel_rfl) ?_
  refine ⟨hw5.set hrb _, ?_⟩
  refine wp_assign _ (I 0) rfl rfl ?_
  refine ⟨hw5.set hrb _, ?_⟩
  simp only [Act.put, List.setIfInBounds_toArray, List.set_cons_zero, List.set_cons_succ]
  obtain ⟨Z, hZ⟩ : ∃ Z, Z = w5.setRow rb (runArr (.slice S (fzK l l.length) d) (prR m l)) := ⟨_, rfl⟩
  have rZ : Z.heap[rb]? = some (.cells (runArr (.slice S (fzK l l.length) d) (prR m l)) 35 (0, 0)) := by rw [hZ]; exact setRow_same hx5
  have HrZ := Lib.hid rZ
  have bZ : Below W1.heap.size W1 Z := by rw [hZ]; exact below_setRow hw5.le hrb _
  have HZ := Lib.hid bZ
  clear y0 y1 y2 y3 y4 y5 y6
  have sZ : SlIn 0 Z (.slice S (fzK l l.length) d) (fzK l l.length) (prS m l) := by
    rw [hZ]
    rcases hP.2 with h | ⟨b, c, cs, h0, _, h2, h3⟩
    · exact .inl h
    · refine .inr ⟨b, c, cs, h0, Nat.zero_le _, ?_, h3⟩
      rw [setRow_other]
      · exact h2
      · rintro rfl
        rw [hx5] at h2
        injection h2 with h2
        injection h2 with _ ht _
        exact absurd ht (by decide)
  have HsZ := Lib.hid sZ.rd
  have zZ := bZ.size
  rw [← hZ]
  have Hck : Hid (ckF m l = 0) := h0
  clear hZ rZ bZ sZ hP hx5 hw5 h0
  obtain ⟨fz, hfz⟩ : ∃ q, fzK l l.length = q := ⟨_, rfl⟩
  have Hfz := Lib.hid hfz
  have hfl : fz ≤ 60 := by have := fzK_le l l.length; omega
  rw [hfz] at HrZ HsZ hd3 ⊢
  clear hfz
  have hrl := (Array.getElem?_eq_some_iff.1 HrZ.out).1
  go_wp2_with fail
  go_loopw [11] (fun i wr => ∃ k : Nat, k ≤ 2 ∧ i = .int .i64 k ∧ Below Z.heap.size Z wr) (fun i _ => 2 - (intOf i).toNat)
  case atStart => exact ⟨0, by omega, rfl, Below.refl _ _⟩
  case round =>
    rename World => X
    obtain ⟨k, hk2, rfl, hbX⟩ := hrel
    have HbX := Lib.hid hbX
    have HZW' : Hid (∀ w', Below X.heap.size X w' → Below Z.heap.size Z w' ∧ Below W.heap.size W w') := fun w' h => ⟨hbX.trans (h.mono hbX.size), H1.out.trans ((HZ.out.trans ((hbX.trans (h.mono hbX.size)).mono zZ)).mono zW1)⟩
    have HX : Hid (∀ w', Below X.heap.size X w' → w'.heap[w.heap.size]? = some (.cells (mltArr m) 27 (0, 0)) ∧ Rd w' w.heap.size 8 A l.length (rT l) ∧ Glob w' ∧ Below w.heap.size w w') := fun w' h => by
      have q := HY.out w' (HZW'.out w' h).2
      exact ⟨q.1, q.2.2⟩
    have zX := hbX.size
    clear hbX
    by_cases hk3 : k < 2
    case neg =>
      obtain rfl : k = 2 := by omega
      have hki : decide (((2 : Nat) : Int) < 2) = false := rfl
      have HZW : Hid (Below W.heap.size W X) := (HZW'.out X (Below.refl _ _)).2
      go_wp2_with fail
      refine (known_any X (HY.out X HZW.out).2.2.2.1).mono ?_
      rintro e wk ⟨rfl, hbk⟩
      have HK : Hid (Below W.heap.size W wk) := Below.trans HZW.out (hbk.mono (Below.size HZW.out))
      clear hbk
      go_wp2_with fail
      go_ret
      exact ⟨rfl, (HY.out wk HK.out).2.2.2.2⟩
    have hki : decide ((k : Int) < 2) = true := decide_eq_true (by omega)
    obtain ⟨mo, hmo⟩ : ∃ b, ((k : Int) == 1) = b := ⟨_, rfl⟩
    go_upto_region 8 with (fail)
    have hsX : X.heap.size = X.heap.size := rfl
    go_cut [12, 13, 14] from 38 to 49 (fun s12 s13 s14 wx => ∃ (S : Option Addr) (n d xb : Nat) (E : Nat → Int), s12 = .pointer (some ⟨xb, 0, none⟩) ∧ s13 = .slice S n d ∧ s14 = I (xeE m l sl s) ∧ n ≤ d ∧ d ≤ maxLen ∧ (xeE m l sl s ≠ 0 → S = none ∧ n = 0 ∧ d = 0 ∧ E = fun _ => 0) ∧ (xeE m l sl s = 0 → n = l.length ∧ E = xeS m mo) ∧ ClIn X.heap.size wx S n (rN3 (xcs m l (atK l sl l.length) mo)) ∧ wx.heap[xb]? = some (.cells (cnArr E) 63 (0, 0)) ∧ X.heap.size ≤ xb ∧ Below X.heap.size X wx)
    case first =>
      as_aux_lemma =>
        have HK : Hid (∀ w', Below X.heap.size X w' → w'.cell? ⟨w.heap.size, 0, none⟩ = some (I m.ms) ∧ w'.cell? ⟨w.heap.size, 1, none⟩ = some (I (m.ct 0)) ∧ w'.cell? ⟨w.heap.size, 2, none⟩ = some (I (m.ct 1)) ∧ w'.cell? ⟨w.heap.size, 3, none⟩ = some (I (m.ct 2)) ∧ w'.cell? ⟨w.heap.size, 4, none⟩ = some (I (m.ct 3)) ∧ w'.cell? ⟨w.heap.size, 5, none⟩ = some (I (m.ct 4)) ∧ w'.cell? ⟨w.heap.size, 6, none⟩ = some (I (m.ct 5))) := fun w' h => by
          have q := (HX.out w' h).1
          exact ⟨row_c3 q _ _ rfl, row_c3 q _ _ rfl, row_c3 q _ _ rfl, row_c3 q _ _ rfl, row_c3 q _ _ rfl, row_c3 q _ _ rfl, row_c3 q _ _ rfl⟩
        have kb0 : Below X.heap.size X X.drew := (Below.refl _ _).drew
        go_region_held3 (fun w' => w'.cell? ⟨w.heap.size, 0, none⟩ = some (I m.ms) ∧ w'.cell? ⟨w.heap.size, 1, none⟩ = some (I (m.ct 0)) ∧ w'.cell? ⟨w.heap.size, 2, none⟩ = some (I (m.ct 1)) ∧ w'.cell? ⟨w.heap.size, 3, none⟩ = some (I (m.ct 2)) ∧ w'.cell? ⟨w.heap.size, 4, none⟩ = some (I (m.ct 3)) ∧ w'.cell? ⟨w.heap.size, 5, none⟩ = some (I (m.ct 4)) ∧ w'.cell? ⟨w.heap.size, 6, none⟩ = some (I (m.ct 5))) (first
          | exact HK.out _ (by first | assumption | exact Below.alloc ‹Below X.heap.size X _› (Below.size ‹Below X.heap.size X _›) _)
          | (refine HK.out _ (Below.setCell (Below.setCell (Below.setCell (by first | assumption | exact Below.alloc ‹Below X.heap.size X _› (Below.size ‹Below X.heap.size X _›) _) ?_ _) ?_ _) ?_ _) <;> first | exact Nat.le_refl _ | exact Below.size kb0 | exact Below.size kb1 | exact Below.size kb2)
          | trace_state) (first
          | (go_at_call 13; refine (ownSteps_any A l.length c (rT l) _ w.heap.size (by omega) (Below.size (HX.out _ (by first | assumption | exact Below.alloc ‹Below X.heap.size X _› (Below.size ‹Below X.heap.size X _›) _)).2.2.2) (HX.out _ (by first | assumption | exact Below.alloc ‹Below X.heap.size X _› (Below.size ‹Below X.heap.size X _›) _)).2.1).mono ?_; rintro e w1 ⟨A1, c1, rfl, l1, l2, hr1, k1⟩; have kb1 : Below X.heap.size X w1 := Below.trans (by first | assumption | exact Below.alloc ‹Below X.heap.size X _› (Below.size ‹Below X.heap.size X _›) _) (Below.mono k1 (Below.size (by first | assumption | exact Below.alloc ‹Below X.heap.size X _› (Below.size ‹Below X.heap.size X _›) _))); (first | (have hq := (k1.block X.heap.size (by simp)).trans (heap_last X.drew (.cells #[I 0, I 0, I 0] 63) X.heap.size rfl)) | (have hq := (k1.block _ (Array.getElem?_eq_some_iff.1 hq).1).trans hq) | skip); (try (have z0 := row_c3 hq 0 _ rfl; have z1 := row_c3 hq 1 _ rfl; have z2 := row_c3 hq 2 _ rfl; have g0 := frozen_of_row _ _ 0 _ _ hq; have g1 := frozen_of_row _ _ 1 _ _ hq; have g2 := frozen_of_row _ _ 2 _ _ hq)))
          | (go_at_call 38; refine (extreme_uni m A1 c1 l sl s mo _ (HX.out _ (by first | assumption | exact Below.alloc ‹Below X.heap.size X _› (Below.size ‹Below X.heap.size X _›) _)).2.2.1 (by first | exact hr1 | exact (hr1.alloc (Nat.le_refl _) _).more (by simp)) Hk.out Hn.out Hsl.out).mono ?_; rintro e w2 ⟨S, n, d, E, rfl, hd1, hd2, hne, heq, hcl, k2⟩; have kb2 : Below X.heap.size X w2 := Below.trans (by first | assumption | exact Below.alloc ‹Below X.heap.size X _› (Below.size ‹Below X.heap.size X _›) _) (Below.mono k2 (Below.size (by first | assumption | exact Below.alloc ‹Below X.heap.size X _› (Below.size ‹Below X.heap.size X _›) _))); (first | (have hq := (k2.block (World.heap w1).size (by simp)).trans (heap_last w1 (.cells #[I 0, I 0, I 0] 63) _ rfl)) | (have hq := (k2.block _ (Array.getElem?_eq_some_iff.1 hq).1).trans hq) | skip); (try (have z0 := row_c3 hq 0 _ rfl; have z1 := row_c3 hq 1 _ rfl; have z2 := row_c3 hq 2 _ rfl; have g0 := frozen_of_row _ _ 0 _ _ hq; have g1 := frozen_of_row _ _ 1 _ _ hq; have g2 := frozen_of_row _ _ 2 _ _ hq))))
        all_goals go_wp2_with fail
        all_goals go_meet
        all_goals
          have s1 := Below.size k1
          have s2 := Below.size k2
          simp at s1 s2
          first
          | exact ⟨S, n, d, w2.heap.size, E, rfl, rfl, rfl, hd1, hd2, hne, heq, hcl.row' (Below.size kb1) fun b o _ ho _ => heap_before ho, heap_last _ _ _ rfl, Below.size kb2, Below.alloc kb2 (Below.size kb2) _⟩
          | exact ⟨S, n, d, _, E, rfl, rfl, rfl, hd1, hd2, hne, heq, hcl.row' (by simp; omega) fun b o hb ho _ => (by simp at hb; exact ro (ro (ro ho (by omega)) (by omega)) (by omega)), rs (rs (rs hq 0 _) 1 _) 2 _, (by omega), (by refine Below.setCell (Below.setCell (Below.setCell kb2 ?_ _) ?_ _) ?_ _ <;> (show X.heap.size ≤ _; (try dsimp only); omega))⟩
          | exact ⟨S, n, d, _, E, rfl, rfl, rfl, hd1, hd2, hne, heq, hcl.row' (by omega) fun b o hb ho _ => ro (ro (ro ho (by omega)) (by omega)) (by omega), rs (rs (rs hq 0 _) 1 _) 2 _, (by omega), (by refine Below.setCell (Below.setCell (Below.setCell kb2 ?_ _) ?_ _) ?_ _ <;> (show X.heap.size ≤ _; (try dsimp only); omega))⟩
    obtain ⟨Ch, n, dc, xb, E, rfl, rfl, rfl, hd1, hd2, hne, heq, hcl, hxr, hxb, hbx⟩ := hcut
    rename World => Y
    have HbY := Lib.hid hbx
    have Hcl := Lib.hid hcl
    have Hxr := Lib.hid hxr
    have Hne := Lib.hid hne
    have Heq := Lib.hid heq
    clear hcl hxr hne heq hbx
    have e1 : ((0 : Int) != 0) = false := rfl
    have HZY : Hid (Below Z.heap.size Z Y) := HbX.out.trans (HbY.out.mono zX)
    have g0 := row_c3 ((HZY.out.block rb hrl).trans HrZ.out) 0 _ rfl
    by_cases hin : 0 ≤ sl ∧ sl < (fz : Int) ∧ 0 ≤ s ∧ s ≤ 2
    case neg =>
      have H7 : Hid (xeE m l sl s = 7) := xe_no Hck.out (by rw [Hfz.out]; exact hin)
      go_upto_region 12 with (fail)
      go_cut [81] from 65 to 81 (fun c wx => c = .bool true ∧ wx = Y)
      case first =>
        by_cases a1 : sl < 0
        · have d1 : decide (sl < 0) = true := decide_eq_true a1
          clear hin
          go_wp2_with fail
          go_meet
          case rel => exact ⟨rfl, rfl⟩
        have d1 : decide (sl < 0) = false := decide_eq_false a1
        by_cases a2 : (fz : Int) ≤ sl
        · have d2 : decide ((fz : Int) ≤ sl) = true := decide_eq_true a2
          clear hin
          go_wp2_with fail
          go_meet
          case rel => exact ⟨rfl, rfl⟩
        have d2 : decide ((fz : Int) ≤ sl) = false := decide_eq_false a2
        by_cases a3 : s < 0
        · have d3 : decide (s < 0) = true := decide_eq_true a3
          clear hin
          go_wp2_with fail
          go_meet
          case rel => exact ⟨rfl, rfl⟩
        have d3 : decide (s < 0) = false := decide_eq_false a3
        have d4 : decide (2 < s) = true := decide_eq_true (by omega)
        clear hin
        go_wp2_with fail
        go_meet
        case rel => exact ⟨rfl, rfl⟩
      obtain ⟨rfl, hwc⟩ := hcut
      rw [hwc, H7.out]
      obtain ⟨rfl, rfl, rfl, rfl⟩ := Hne.out (by rw [H7.out]; decide)
      clear hwc g0
      have z0 := row_c3 Hxr.out 0 (I 0) rfl
      have z1 := row_c3 Hxr.out 1 (I 0) rfl
      have z2 := row_c3 Hxr.out 2 (I 0) rfl
      have eq0 := eq3 0 0 0
      go_wp2_with fail
      go_roundw
      case rel => exact ⟨k + 1, by omega, by go_num, HZY.out⟩
      case measure => simp [intOf]; omega
    have d1 : decide (sl < 0) = false := decide_eq_false (by omega)
    have d2 : decide ((fz : Int) ≤ sl) = false := decide_eq_false (by omega)
    have d3 : decide (s < 0) = false := decide_eq_false (by omega)
    have d4 : decide (2 < s) = false := decide_eq_false (by omega)
    obtain ⟨j, rfl⟩ : ∃ q : Nat, sl = q := ⟨sl.toNat, by omega⟩
    obtain ⟨i, rfl⟩ : ∃ q : Nat, s = q := ⟨s.toNat, by omega⟩
    have hjf : j < fz := by omega
    have hi3 : i < 3 := by omega
    have d2n : decide (fz ≤ j) = false := decide_eq_false (by omega)
    have d4n : decide (2 < i) = false := decide_eq_false (by omega)
    have hR := rchd mo Hck.out (show j < fzK l l.length by rw [Hfz.out]; exact hjf) hi3
    have HR := Lib.hid hR
    rw [hR.e]
    obtain ⟨hnl, hE⟩ := Heq.out hR.e
    have HHe := Lib.hid hR.e
    obtain ⟨cs, hcs⟩ : ∃ q, xcs m l (atK l (j : Int) l.length) mo = q := ⟨_, rfl⟩
    obtain ⟨st, hst⟩ : ∃ q, xeS m mo = q := ⟨_, rfl⟩
    have hcn : cs.length = l.length := by rw [← hcs]; exact xcs_len _ _ _ _
    have hnc : n = cs.length := by omega
    subst hnc
    rw [hcs] at Hcl
    rw [hE, hst] at Hxr
    clear hE
    have Hcn := Lib.hid hcn
    have HRf := Lib.hid hR.f
    have HRv := Lib.hid hR.v
    rw [hcs, hst] at HRf
    rw [hcs] at HRv
    have zY := HZY.out.size
    have HYX : Hid (∀ w', Below Y.heap.size Y w' → w'.heap[w.heap.size]? = some (.cells (mltArr m) 27 (0, 0)) ∧ Rd w' w.heap.size 8 A l.length (rT l) ∧ Glob w' ∧ Below w.heap.size w w') := fun w' h => HX.out w' (HbY.out.trans (h.mono HbY.out.size))
    have hxl := (Array.getElem?_eq_some_iff.1 Hxr.out).1
    have HXb : Hid (∀ w', Below Y.heap.size Y w' → w'.heap[xb]? = some (.cells (cnArr st) 63 (0, 0))) := fun w' h => (h.block xb hxl).trans Hxr.out
    have Hch : Hid (∀ w', Below Y.heap.size Y w' → Rd w' Y.heap.size 3 Ch cs.length (rN3 cs)) := fun w' h => Hcl.out.rd.below h
    clear hR hnl hcs hst hcn hin Heq Hne HR
    go_upto_region 15 with (fail)
    go_cut [15, 16, 17] from 94 to 104 (fun s15 s16 s17 wx => ∃ (S : Option Addr) (n2 d xb : Nat) (E : Nat → Int), s15 = .slice S n2 d ∧ s16 = .pointer (some ⟨xb, 0, none⟩) ∧ s17 = I (flE m l st cs) ∧ n2 ≤ d ∧ d ≤ maxLen ∧ (flE m l st cs ≠ 0 → S = none ∧ n2 = 0 ∧ d = 0 ∧ E = fun _ => 0) ∧ (flE m l st cs = 0 → n2 = fzK l l.length ∧ E = fun s => wkG m (tdG cs s) s (st s) l l.length) ∧ ClIn Y.heap.size wx S n2 (rN3 (fzL l cs l.length)) ∧ wx.heap[xb]? = some (.cells (cnArr E) 63 (0, 0)) ∧ Y.heap.size ≤ xb ∧ Below Y.heap.size Y wx)
    case first =>
      as_aux_lemma =>
        have HK : Hid (∀ w', Below Y.heap.size Y w' → w'.cell? ⟨w.heap.size, 0, none⟩ = some (I m.ms) ∧ w'.cell? ⟨w.heap.size, 1, none⟩ = some (I (m.ct 0)) ∧ w'.cell? ⟨w.heap.size, 2, none⟩ = some (I (m.ct 1)) ∧ w'.cell? ⟨w.heap.size, 3, none⟩ = some (I (m.ct 2)) ∧ w'.cell? ⟨w.heap.size, 4, none⟩ = some (I (m.ct 3)) ∧ w'.cell? ⟨w.heap.size, 5, none⟩ = some (I (m.ct 4)) ∧ w'.cell? ⟨w.heap.size, 6, none⟩ = some (I (m.ct 5)) ∧ w'.cell? ⟨xb, 0, none⟩ = some (I (st 0)) ∧ w'.cell? ⟨xb, 1, none⟩ = some (I (st 1)) ∧ w'.cell? ⟨xb, 2, none⟩ = some (I (st 2))) := fun w' h => by
          have q := (HYX.out w' h).1
          have p := HXb.out w' h
          exact ⟨row_c3 q _ _ rfl, row_c3 q _ _ rfl, row_c3 q _ _ rfl, row_c3 q _ _ rfl, row_c3 q _ _ rfl, row_c3 q _ _ rfl, row_c3 q _ _ rfl, row_c3 p _ _ rfl, row_c3 p _ _ rfl, row_c3 p _ _ rfl⟩
        have kb0 : Below Y.heap.size Y Y.drew := (Below.refl _ _).drew
        go_region_held3 (fun w' => w'.cell? ⟨w.heap.size, 0, none⟩ = some (I m.ms) ∧ w'.cell? ⟨w.heap.size, 1, none⟩ = some (I (m.ct 0)) ∧ w'.cell? ⟨w.heap.size, 2, none⟩ = some (I (m.ct 1)) ∧ w'.cell? ⟨w.heap.size, 3, none⟩ = some (I (m.ct 2)) ∧ w'.cell? ⟨w.heap.size, 4, none⟩ = some (I (m.ct 3)) ∧ w'.cell? ⟨w.heap.size, 5, none⟩ = some (I (m.ct 4)) ∧ w'.cell? ⟨w.heap.size, 6, none⟩ = some (I (m.ct 5)) ∧ w'.cell? ⟨xb, 0, none⟩ = some (I (st 0)) ∧ w'.cell? ⟨xb, 1, none⟩ = some (I (st 1)) ∧ w'.cell? ⟨xb, 2, none⟩ = some (I (st 2))) (first
          | exact HK.out _ (by first | assumption | exact Below.alloc ‹Below Y.heap.size Y _› (Below.size ‹Below Y.heap.size Y _›) _)
          | (refine HK.out _ (Below.setCell (Below.setCell (Below.setCell (by first | assumption | exact Below.alloc ‹Below Y.heap.size Y _› (Below.size ‹Below Y.heap.size Y _›) _) ?_ _) ?_ _) ?_ _) <;> first | exact Nat.le_refl _ | exact Below.size kb0 | exact Below.size kb1 | exact Below.size kb2 | exact Below.size kb3)
          | trace_state) (first
          | (go_at_call 13; refine (ownSteps_any A l.length c (rT l) _ w.heap.size (by omega) (Below.size (HYX.out _ (by first | assumption | exact Below.alloc ‹Below Y.heap.size Y _› (Below.size ‹Below Y.heap.size Y _›) _)).2.2.2) (HYX.out _ (by first | assumption | exact Below.alloc ‹Below Y.heap.size Y _› (Below.size ‹Below Y.heap.size Y _›) _)).2.1).mono ?_; rintro e w1 ⟨A1, c1, rfl, l1, l2, hr1, k1⟩; have kb1 : Below Y.heap.size Y w1 := Below.trans (by first | assumption | exact Below.alloc ‹Below Y.heap.size Y _› (Below.size ‹Below Y.heap.size Y _›) _) (Below.mono k1 (Below.size (by first | assumption | exact Below.alloc ‹Below Y.heap.size Y _› (Below.size ‹Below Y.heap.size Y _›) _))); (first | (have hq := (k1.block Y.heap.size (by simp)).trans (heap_last Y.drew (.cells #[I 0, I 0, I 0] 63) Y.heap.size rfl)) | (have hq := (k1.block _ (Array.getElem?_eq_some_iff.1 hq).1).trans hq) | skip); (try (have z0 := row_c3 hq 0 _ rfl; have z1 := row_c3 hq 1 _ rfl; have z2 := row_c3 hq 2 _ rfl; have g0 := frozen_of_row _ _ 0 _ _ hq; have g1 := frozen_of_row _ _ 1 _ _ hq; have g2 := frozen_of_row _ _ 2 _ _ hq)))
          | (go_at_call 28; refine (ownCnts_any Ch cs.length dc (rN3 cs) _ Y.heap.size (by have := Hcn.out; omega) (Below.size (by first | assumption | exact Below.alloc ‹Below Y.heap.size Y _› (Below.size ‹Below Y.heap.size Y _›) _)) (Hch.out _ (by first | assumption | exact Below.alloc ‹Below Y.heap.size Y _› (Below.size ‹Below Y.heap.size Y _›) _))).mono ?_; rintro e w2 ⟨A2, c2, rfl, l3, l4, hr2, k2⟩; have kb2 : Below Y.heap.size Y w2 := Below.trans (by first | assumption | exact Below.alloc ‹Below Y.heap.size Y _› (Below.size ‹Below Y.heap.size Y _›) _) (Below.mono k2 (Below.size (by first | assumption | exact Below.alloc ‹Below Y.heap.size Y _› (Below.size ‹Below Y.heap.size Y _›) _))); (first | (have hq := (k2.block (World.heap w1).size (by simp)).trans (heap_last w1 (.cells #[I 0, I 0, I 0] 63) _ rfl)) | (have hq := (k2.block _ (Array.getElem?_eq_some_iff.1 hq).1).trans hq) | skip); (try (have z0 := row_c3 hq 0 _ rfl; have z1 := row_c3 hq 1 _ rfl; have z2 := row_c3 hq 2 _ rfl; have g0 := frozen_of_row _ _ 0 _ _ hq; have g1 := frozen_of_row _ _ 1 _ _ hq; have g2 := frozen_of_row _ _ 2 _ _ hq)); have k12 : Below w1.heap.size w1 w2 := (by first | exact k2 | exact Below.trans (Below.alloc (Below.refl _ _) (Nat.le_refl _) _) (Below.mono k2 (by simp))); have hr1 := (hr1.below k12).more (Below.size k12))
          | (go_at_call 27; refine (follow_uni m A1 c1 l st A2 c2 cs _ (HYX.out _ (by first | assumption | exact Below.alloc ‹Below Y.heap.size Y _› (Below.size ‹Below Y.heap.size Y _›) _)).2.2.1 (by first | exact hr1 | exact (hr1.alloc (Nat.le_refl _) _).more (by simp)) Hk.out Hn.out (by first | exact hr2 | exact (hr2.alloc (Nat.le_refl _) _).more (by simp)) (by have := Hn.out; have := Hcn.out; omega)).mono ?_; rintro e w3 ⟨S, n2, d, E, rfl, hd1, hd2, hne, heq, hcl, k3⟩; have kb3 : Below Y.heap.size Y w3 := Below.trans (by first | assumption | exact Below.alloc ‹Below Y.heap.size Y _› (Below.size ‹Below Y.heap.size Y _›) _) (Below.mono k3 (Below.size (by first | assumption | exact Below.alloc ‹Below Y.heap.size Y _› (Below.size ‹Below Y.heap.size Y _›) _))); (first | (have hq := (k3.block (World.heap w2).size (by simp)).trans (heap_last w2 (.cells #[I 0, I 0, I 0] 63) _ rfl)) | (have hq := (k3.block _ (Array.getElem?_eq_some_iff.1 hq).1).trans hq) | skip); (try (have z0 := row_c3 hq 0 _ rfl; have z1 := row_c3 hq 1 _ rfl; have z2 := row_c3 hq 2 _ rfl; have g0 := frozen_of_row _ _ 0 _ _ hq; have g1 := frozen_of_row _ _ 1 _ _ hq; have g2 := frozen_of_row _ _ 2 _ _ hq))))
        all_goals go_wp2_with fail
        all_goals go_meet
        all_goals
          have s1 := Below.size k1
          have s2 := Below.size k2
          have s3 := Below.size k3
          simp at s1 s2 s3
          first
          | exact ⟨S, n2, d, w3.heap.size, E, rfl, rfl, rfl, hd1, hd2, hne, heq, hcl.row' (Below.size kb2) fun b o _ ho _ => heap_before ho, heap_last _ _ _ rfl, Below.size kb3, Below.alloc kb3 (Below.size kb3) _⟩
          | exact ⟨S, n2, d, _, E, rfl, rfl, rfl, hd1, hd2, hne, heq, hcl.row' (by simp; omega) fun b o hb ho _ => (by simp at hb; exact ro (ro (ro ho (by omega)) (by omega)) (by omega)), rs (rs (rs hq 0 _) 1 _) 2 _, (by omega), (by refine Below.setCell (Below.setCell (Below.setCell kb3 ?_ _) ?_ _) ?_ _ <;> (show Y.heap.size ≤ _; (try dsimp only); omega))⟩
          | exact ⟨S, n2, d, _, E, rfl, rfl, rfl, hd1, hd2, hne, heq, hcl.row' (by omega) fun b o hb ho _ => ro (ro (ro ho (by omega)) (by omega)) (by omega), rs (rs (rs hq 0 _) 1 _) 2 _, (by omega), (by refine Below.setCell (Below.setCell (Below.setCell kb3 ?_ _) ?_ _) ?_ _ <;> (show Y.heap.size ≤ _; (try dsimp only); omega))⟩
    obtain ⟨S2, n2, d2, xb2, E2, rfl, rfl, rfl, hd3', hd4', hne2, heq2, hcl2, hxr2, hxb2, hbx2⟩ := hcut
    rename World => V9
    have HZ9 : Hid (Below Z.heap.size Z V9) := HZY.out.trans (hbx2.mono zY)
    have hn2 : fz = n2 := ((heq2 HRf.out).1.trans Hfz.out).symm
    subst hn2
    have Hcl2 := Lib.hid hcl2
    rw [HRf.out]
    have g0 := row_c3 ((HZ9.out.block rb hrl).trans HrZ.out) 0 _ rfl
    obtain ⟨sb, so, hSe, _, hsc⟩ := (HsZ.out.below HZ9.out) (by omega)
    subst hSe
    obtain ⟨b2, cur, hS2, _, hb2, hcur⟩ := Hcl2.out (by omega)
    subst hS2
    have z1 : V9.cell? ⟨sb, so + j * 7 + 1 + i * 2, none⟩ = some (I (prS m l j (1 + i * 2))) := by rw [show so + j * 7 + 1 + i * 2 = so + j * 7 + (1 + i * 2) by omega]; exact hsc j hjf (1 + i * 2) (by omega)
    have z2 : V9.cell? ⟨sb, so + j * 7 + 1 + i * 2 + 1, none⟩ = some (I (prS m l j (1 + i * 2 + 1))) := by rw [show so + j * 7 + 1 + i * 2 + 1 = so + j * 7 + (1 + i * 2 + 1) by omega]; exact hsc j hjf (1 + i * 2 + 1) (by omega)
    have z3 : V9.cell? ⟨b2, j * 3 + i, none⟩ = some (I (prS m l j (1 + i * 2 + if mo then 1 else 0))) := by
      rw [cell_of_row _ _ _ _ _ _ hb2, hcur j i hjf hi3, ← HRv.out]
      rfl
    have q1 : decide ((j : Int) < (fz : Int)) = true := decide_eq_true (by omega)
    have q2 : decide (j < fz) = true := decide_eq_true hjf
    have q3 : decide (0 ≤ (j : Int)) = true := decide_eq_true (by omega)
    have q4 : decide ((i : Int) < 3) = true := decide_eq_true (by omega)
    have q5 : decide (i < 3) = true := decide_eq_true hi3
    have q6 : decide (0 ≤ (i : Int)) = true := decide_eq_true (by omega)
    have HZY : Hid (Below Z.heap.size Z V9) := HZ9
    clear hsc hb2 hcur hd1 hd2 hxb hxl hcl2 heq2 hne2 hxr2 hxb2 hbx2 HRv HRf Hch HXb HYX Hxr Hcl
    rcases mo with _ | _
    · simp only [Bool.false_eq_true, if_false, Nat.add_zero] at z3
      generalize prS m l j (1 + i * 2) = v1 at *
      generalize prS m l j (1 + i * 2 + 1) = v2 at *
      have e9 : (v1 != v1) = false := by simp
      go_wp2_with fail
      go_roundw
      case rel => exact ⟨k + 1, by omega, by go_num, HZY.out⟩
      case measure => simp [intOf]; omega
    · simp only [if_true] at z3
      generalize prS m l j (1 + i * 2) = v1 at *
      generalize prS m l j (1 + i * 2 + 1) = v2 at *
      have e9 : (v2 != v2) = false := by simp
      go_wp2_with fail
      go_roundw
      case rel => exact ⟨k + 1, by omega, by go_num, HZY.out⟩
      case measure => simp [intOf]; omega
end Go.Proofs.YtfifdfagikbahaaDoor
