/- The contract of Through of the reference of chapter 1. -/
import Derived.Test.YtmadlmmfbpmebaaJt
import Derived.Test.YtmadlmmfbpmebaaJi
import Derived.Test.YtmadlmmfbpmebaaJo
namespace Go.Proofs.Ytmadlmmfbpmebaa
open Go.RowKit
set_option maxRecDepth 100000 in
set_option maxHeartbeats 4000000 in
theorem refThrough_any (A : Option Addr) (c : Nat) (TT : List (List Rng)) (C : Nat → Option Addr) (D : Nat → Nat) (x : Rng) (w : World) (B : Nat) (hB : B ≤ w.heap.size) (hx : RdT w B A TT C D)
    (hz : ∀ k, k < TT.length → ∀ j, j < (at0 TT k).length → (-9223372036854775808 ≤ (at0 (at0 TT k) j).lo ∧ (at0 (at0 TT k) j).lo ≤ 9223372036854775807) ∧ (-9223372036854775808 ≤ (at0 (at0 TT k) j).hi ∧ (at0 (at0 TT k) j).hi ≤ 9223372036854775807)) :
    Calls Try.prog 54 #[.slice A TT.length c, x.val] w (RetT w (thF TT x)) := by
  have hf : Hid (thF TT x = if 10 < TT.length then (⟨0, 0⟩, 0, 5) else if TT.any badT || !rngOk x then (⟨0, 0⟩, 0, 2) else thG TT TT.length 0 x) := rfl
  have HX : Hid (∀ W', Below w.heap.size w W' → RdT W' B A TT C D ∧ B ≤ W'.heap.size) := fun W' h => ⟨hx.below (h.mono hB), Nat.le_trans hB h.size⟩
  have ct : Hid (∀ W' k, k < TT.length → Below w.heap.size w W' → Calls Try.prog 35 #[.slice (C k) (at0 TT k).length (D k)] W' fun e w' => e = .returned (.bool (tabB (at0 TT k))) ∧ Below W'.heap.size W' w') := fun W' k hk h => refTable_any (C k) (D k) (at0 TT k) W' B (hx.2 k hk).1 (Nat.le_trans hB h.size) ((hx.2 k hk).2.below (h.mono hB)) (hz k hk)
  have ca : Hid (∀ W' k y, k < TT.length → Below w.heap.size w W' → Calls Try.prog 34 #[.slice (C k) (at0 TT k).length (D k), y.val] W' (RetRn W' (vaF (at0 TT k) y))) := fun W' k y hk h => refValue_any (C k) (D k) (at0 TT k) y W' B (hx.2 k hk).1 (Nat.le_trans hB h.size) ((hx.2 k hk).2.below (h.mono hB)) (hz k hk)
  have cr := Lib.hid fun W => refRange_any x W
  clear hx hB hz
  have HUw : Hid (∀ u, Below w.heap.size w (ovr w u)) := fun u => ovr_below _ _
  obtain ⟨W, hW⟩ : ∃ W, W = ((w.alloc (.cells #[I x.lo, I x.hi] 38)).alloc (.cells #[I 0, I 0] 38)) := ⟨_, rfl⟩
  have rowW0 : W.heap[w.heap.size]? = some (.cells #[I x.lo, I x.hi] 38 (0, 0)) := by rw [hW]; exact heap_before (heap_last _ _ _ rfl)
  have yW00 := ovr_cell (W := W) (b := w.heap.size) (o := 0) (v := I x.lo) (by rw [cell_of_row _ _ _ _ _ _ rowW0]; rfl)
  have yW01 := ovr_cell (W := W) (b := w.heap.size) (o := 1) (v := I x.hi) (by rw [cell_of_row _ _ _ _ _ _ rowW0]; rfl)
  have RrowW0 := Lib.hid (ovr_row rowW0)
  clear rowW0
  have rowW1 : W.heap[w.heap.size + 1]? = some (.cells #[I 0, I 0] 38 (0, 0)) := by rw [hW]; exact heap_last _ _ _ (by simp)
  have yW10 := ovr_cell (W := W) (b := w.heap.size + 1) (o := 0) (v := I 0) (by rw [cell_of_row _ _ _ _ _ _ rowW1]; rfl)
  have yW11 := ovr_cell (W := W) (b := w.heap.size + 1) (o := 1) (v := I 0) (by rw [cell_of_row _ _ _ _ _ _ rowW1]; rfl)
  have RrowW1 := Lib.hid (ovr_row rowW1)
  clear rowW1
  have HUW : Hid (∀ u, Below w.heap.size w (ovr W u)) := U2 hW
  have HW := Lib.hid hW
  clear hW
  by_cases h10 : 10 < TT.length
  · rw [if_pos h10] at hf
    have hb : decide (10 < (TT.length : Int)) = true := decide_eq_true (by omega)
    clear h10
    go_enter Try.func54, Try.ntmps54
    go_upto_region 1 with (fail)
    rw [← HW.out]
    obtain ⟨u0, hu0⟩ := ovr_self W
    rw [hu0]
    clear hu0
    go_wp2_with (refine wpList_store_row rfl 38 _ _ rfl (w.heap.size + 1) rfl _ _ (RrowW1.out _) _ rfl (one2 rfl rfl) rfl (by kernel_rfl) ?_)
    refine bodyPost_ret (results_cell_tt rfl _ _ (w.heap.size + 1) 38 _ (0, 0) _ rfl (setRow_same (RrowW1.out _)) Try.underlying38 rfl (by kernel_rfl)) rfl ?_
    exact ⟨by rw [hf.out]; rfl, below_setRow (HUW.out _) (by omega) _⟩
  rw [if_neg h10] at hf
  have hb : decide (10 < (TT.length : Int)) = false := decide_eq_false (by omega)
  go_enter Try.func54, Try.ntmps54
  go_upto_region 1 with (fail)
  rw [← HW.out]
  obtain ⟨u0, hu0⟩ := ovr_self W
  rw [hu0]
  clear hu0
  go_wp2_with fail
  go_loopw [7] (fun i wr => ∃ k : Nat, k ≤ TT.length ∧ i = .int .i64 k ∧ (∀ j, j < k → tabB (at0 TT j) = true) ∧ ∃ u, wr = ovr W u) (fun i _ => TT.length - (intOf i).toNat)
  case atStart => exact ⟨0, by omega, rfl, fun j hj => absurd hj (by omega), u0, rfl⟩
  case round =>
    obtain ⟨k, hk, rfl, hg, u, rfl⟩ := hrel
    have Hg := Lib.hid hg
    clear hg
    by_cases hlt : k < TT.length
    · have hltb : decide ((k : Int) < (TT.length : Int)) = true := decide_eq_true (by omega)
      obtain ⟨b, o, rfl, _, e0⟩ := (HX.out _ (HUW.out u)).1.at hlt
      have cq := ct.out (ovr W u) k hlt (HUW.out u)
      rcases hp : tabB (at0 TT k) with _ | _
      · rw [hp] at cq
        have Ca := Lib.hid cq
        have ha : TT.any badT = true := by
          rw [List.any_eq_true]
          exact ⟨at0 TT k, by rw [at0_get hlt]; exact List.getElem_mem _, by unfold badT; rw [hp]; rfl⟩
        rw [ha, Bool.true_or, if_pos rfl] at hf
        clear cq ha
        obtain ⟨L, hL⟩ : ∃ L, at0 TT k = L := ⟨_, rfl⟩
        rw [hL] at e0 Ca
        clear hL hp
        go_wp2_with fail
        refine Ca.out.mono ?_
        rintro e w1 ⟨rfl, hb1⟩
        obtain ⟨u1, rfl⟩ := ovr_next hb1
        clear hb1
        go_wp2_with (refine wpList_store_row rfl 38 _ _ rfl (w.heap.size + 1) rfl _ _ (RrowW1.out _) _ rfl (one2 rfl rfl) rfl (by kernel_rfl) ?_)
        refine bodyPost_ret (results_cell_tt rfl _ _ (w.heap.size + 1) 38 _ (0, 0) _ rfl (setRow_same (RrowW1.out _)) Try.underlying38 rfl (by kernel_rfl)) rfl ?_
        exact ⟨by rw [hf.out]; rfl, below_setRow (HUW.out _) (by omega) _⟩
      · rw [hp] at cq
        have Ca := Lib.hid cq
        have hn := Lib.hid (succ_case Hg.out hp)
        clear cq
        obtain ⟨L, hL⟩ : ∃ L, at0 TT k = L := ⟨_, rfl⟩
        rw [hL] at e0 Ca
        clear hL hp
        go_wp2_with fail
        refine Ca.out.mono ?_
        rintro e w1 ⟨rfl, hb1⟩
        obtain ⟨u1, rfl⟩ := ovr_next hb1
        clear hb1
        go_wp2_with fail
        go_roundw
        case rel => exact ⟨k + 1, by omega, by go_num, hn.out, u1, rfl⟩
        case measure => simp [intOf]; omega
    · obtain rfl : k = TT.length := by omega
      have hltb : decide ((TT.length : Int) < (TT.length : Int)) = false := decide_eq_false (by omega)
      have ha : TT.any badT = false := by
        rw [List.any_eq_false]
        intro t ht
        obtain ⟨j, hj, rfl⟩ := at0_mem ht
        unfold badT
        rw [Hg.out j hj]
        decide
      rw [ha] at hf
      clear ha
      rcases hx2 : rngOk x with _ | _ <;> rw [hx2] at hf cr
      · rw [if_pos (show (false || !false) = true from rfl)] at hf
        clear hx2
        go_wp2_with fail
        refine (cr.out _).mono ?_
        rintro e w1 ⟨rfl, hb1⟩
        obtain ⟨u1, rfl⟩ := ovr_next hb1
        clear hb1
        go_wp2_with (refine wpList_store_row rfl 38 _ _ rfl (w.heap.size + 1) rfl _ _ (RrowW1.out _) _ rfl (one2 rfl rfl) rfl (by kernel_rfl) ?_)
        refine bodyPost_ret (results_cell_tt rfl _ _ (w.heap.size + 1) 38 _ (0, 0) _ rfl (setRow_same (RrowW1.out _)) Try.underlying38 rfl (by kernel_rfl)) rfl ?_
        exact ⟨by rw [hf.out]; rfl, below_setRow (HUW.out _) (by omega) _⟩
      · rw [if_neg (show ¬ ((false || !true) = true) by decide)] at hf
        clear hx2
        go_wp2_with fail
        refine (cr.out _).mono ?_
        rintro e w1 ⟨rfl, hb1⟩
        obtain ⟨u1, rfl⟩ := ovr_next hb1
        clear hb1
        go_wp2_with fail
        go_loopw [8] (fun i wr => ∃ k : Nat, ∃ y : Rng, k ≤ TT.length ∧ i = .int .i64 k ∧ thG TT TT.length 0 x = thG TT (TT.length - k) k y ∧ wr.heap[w.heap.size]? = some (.cells #[I y.lo, I y.hi] 38 (0, 0)) ∧ wr.heap[w.heap.size + 1]? = some (.cells #[I 0, I 0] 38 (0, 0)) ∧ Below w.heap.size w wr) (fun i _ => TT.length - (intOf i).toNat)
        case atStart => exact ⟨0, x, by omega, rfl, rfl, RrowW0.out _, RrowW1.out _, HUW.out _⟩
        case round =>
          obtain ⟨k, y, hk, rfl, hg, hr, hr2, hb⟩ := hrel
          rename World => X
          have reX : ∀ v, ∃ x, ovr X v = ovr w x := fun v => ovr_reB hb v
          have yX00 := ovr_cell (W := X) (b := w.heap.size) (o := 0) (v := I y.lo) (by rw [cell_of_row _ _ _ _ _ _ hr]; rfl)
          have yX01 := ovr_cell (W := X) (b := w.heap.size) (o := 1) (v := I y.hi) (by rw [cell_of_row _ _ _ _ _ _ hr]; rfl)
          have RrowX0 := Lib.hid (ovr_row hr)
          clear hr
          have yX10 := ovr_cell (W := X) (b := w.heap.size + 1) (o := 0) (v := I 0) (by rw [cell_of_row _ _ _ _ _ _ hr2]; rfl)
          have yX11 := ovr_cell (W := X) (b := w.heap.size + 1) (o := 1) (v := I 0) (by rw [cell_of_row _ _ _ _ _ _ hr2]; rfl)
          have RrowX1 := Lib.hid (ovr_row hr2)
          clear hr2
          have HUX : Hid (∀ u, Below w.heap.size w (ovr X u)) := fun u => by obtain ⟨x, hx⟩ := reX u; rw [hx]; exact HUw.out x
          clear reX hb
          obtain ⟨u, hu⟩ := ovr_self X
          rw [hu]
          clear hu
          by_cases hlt : k < TT.length
          · have hltb : decide ((k : Int) < (TT.length : Int)) = true := decide_eq_true (by omega)
            rw [thG_step hlt] at hg
            have cq : Hid (∀ W', Below w.heap.size w W' → Calls Try.prog 34 #[.slice (C k) (at0 TT k).length (D k), y.val] W' (RetRn W' (vaF (at0 TT k) y))) := fun W' h => ca.out W' k y hlt h
            go_upto_region 13 with (fail)
            have hbY := ovr_below X u
            obtain ⟨Y, hY⟩ : ∃ Y, Y = ovr X u := ⟨_, rfl⟩
            rw [← hY] at hbY
            rw [← hY]
            have hY' := Lib.hid hY
            clear hY
            have hbY' := Lib.hid hbY
            have reY : ∀ v, ∃ x, ovr Y v = ovr X x := fun v => ovr_reB hbY v
            replace yX00 := tr_cell reY yX00
            replace yX01 := tr_cell reY yX01
            replace RrowX0 := Lib.hid (tr_row reY RrowX0.out)
            replace yX10 := tr_cell reY yX10
            replace yX11 := tr_cell reY yX11
            replace RrowX1 := Lib.hid (tr_row reY RrowX1.out)
            have HUY : Hid (∀ u, Below w.heap.size w (ovr Y u)) := fun u => by obtain ⟨x, hx⟩ := reY u; rw [hx]; exact HUX.out x
            clear reY hbY
            obtain ⟨b, o, hA, _, e0⟩ := (HX.out _ (below_self HUY.out)).1.at hlt
            have f0 := ovr_cell e0
            obtain ⟨⟨v, z⟩, hv⟩ : ∃ q, vaF (at0 TT k) y = q := ⟨_, rfl⟩
            rw [hv] at hg cq
            clear hv
            obtain ⟨L, hL⟩ : ∃ L, at0 TT k = L := ⟨_, rfl⟩
            rw [hL] at e0 f0 cq
            clear hL
            subst hA
            have HYw : Hid (∀ w', Cl Y w' → Below w.heap.size w w') := fun w' hw' => (below_self HUY.out).trans (hw'.le.mono (below_self HUY.out).size)
            refine wp_region_make_two (fun j => if j = 5 then some (fun u _ => u = .tuple #[v.val, I z]) else if j = 9 then some (NewAt Y #[I 0, I 0] 38) else none) [8] (by kernel_rfl) (by kernel_rfl) (by kernel_rfl) (by kernel_rfl) (by kernel_rfl) (by intro i hi; simp at hi; subst hi; rfl) ⟨rfl, rfl⟩ (fun c a d v w h => by cases d <;> exact h) ?_
            simp only [sleepTwo_cons, sleepTwo_two]
            repeat (refine wpG_one rfl rfl rfl ?_; intro K hK; go_big_quiet_op; go_big_quiet_on)
            refine wpG_make (fun u _ => u = .tuple #[v.val, I z]) rfl rfl (fun w' hw' _ => ?_) (fun u hu => ?_)
            · go_simp
              exact call_grow (cq.out w' (HYw.out w' hw'))
            obtain ⟨_, _, rfl⟩ := hu
            simp only [Act.put, List.setIfInBounds_toArray, List.set_cons_zero, List.set_cons_succ]
            repeat (refine wpG_one rfl rfl rfl ?_; intro K hK; go_big_quiet_op; go_big_quiet_on)
            refine wpG_make (NewAt Y #[I 0, I 0] 38) rfl rfl (fun w' hw' _ => ?_) (fun u hu => ?_)
            · go_simp
              exact new_grow hw'
            obtain ⟨_, _, bn, rfl, _, _⟩ := hu
            simp only [Act.put, List.setIfInBounds_toArray, List.set_cons_zero, List.set_cons_succ]
            repeat (refine wpG_one rfl rfl rfl ?_; intro K hK; go_big_quiet_op; go_big_quiet_on)
            refine wpG_nil (fun w5 hw5 hG => ?_)
            have hn := (Box.now hG.2).at
            intro s t' hs ht'
            obtain rfl := Option.some.inj hs
            obtain rfl := Option.some.inj ht'
            clear hG hs ht'
            refine wp_store_row 38 _ _ rfl bn rfl _ _ hn.1 #[I v.lo, I v.hi] rfl (one2 rfl rfl) rfl (by kernel_rfl) ?_
            refine ⟨hw5.set hn.2 _, ?_⟩
            refine wp_assign _ (I z) rfl rfl ?_
            refine ⟨hw5.set hn.2 _, ?_⟩
            simp only [Act.put, List.setIfInBounds_toArray, List.set_cons_zero, List.set_cons_succ]
            obtain ⟨Z, hZ⟩ : ∃ Z, Z = w5.setRow bn #[I v.lo, I v.hi] := ⟨_, rfl⟩
            have rZ : Z.heap[bn]? = some (.cells #[I v.lo, I v.hi] 38 (0, 0)) := by rw [hZ]; exact setRow_same hn.1
            have hbZ : Below Y.heap.size Y Z := by rw [hZ]; exact below_setRow hw5.le hn.2 _
            rw [← hZ]
            clear hZ hn hw5 e0 f0
            have reZ : ∀ v, ∃ x, ovr Z v = ovr Y x := fun v => ovr_reB hbZ v
            replace yX00 := tr_cell reZ yX00
            replace yX01 := tr_cell reZ yX01
            replace RrowX0 := Lib.hid (tr_row reZ RrowX0.out)
            replace yX10 := tr_cell reZ yX10
            replace yX11 := tr_cell reZ yX11
            replace RrowX1 := Lib.hid (tr_row reZ RrowX1.out)
            have yZ00 := ovr_cell (W := Z) (b := bn) (o := 0) (v := I v.lo) (by rw [cell_of_row _ _ _ _ _ _ rZ]; rfl)
            have yZ01 := ovr_cell (W := Z) (b := bn) (o := 1) (v := I v.hi) (by rw [cell_of_row _ _ _ _ _ _ rZ]; rfl)
            have RrowZ0 := Lib.hid (ovr_row rZ)
            clear rZ
            have HUZ : Hid (∀ u, Below w.heap.size w (ovr Z u)) := fun u => by obtain ⟨x, hx⟩ := reZ u; rw [hx]; exact HUY.out x
            clear reZ hbZ
            obtain ⟨u2, hu2⟩ := ovr_self Z
            rw [hu2]
            clear hu2
            by_cases hz : z = 0
            · subst hz
              rw [if_pos rfl] at hg
              have Hg2 := Lib.hid hg
              clear hg
              go_wp2_with (refine wpList_store_row rfl 38 _ _ rfl (w.heap.size) rfl _ _ (RrowX0.out _) _ rfl (one2 rfl rfl) rfl (by kernel_rfl) ?_)
              go_roundw
              case rel => exact ⟨k + 1, v, by omega, by go_num, Hg2.out, setRow_same (RrowX0.out _), (setRow_other (by omega)).trans (RrowX1.out _), below_setRow (HUZ.out _) (by omega) _⟩
              case measure => simp [intOf]; omega
            · rw [if_neg hz] at hg
              have Hg2 := Lib.hid hg
              have zb : (z != 0) = true := by simpa using hz
              clear hg hz
              go_wp2_with (refine wpList_store_row rfl 38 _ _ rfl (w.heap.size + 1) rfl _ _ (RrowX1.out _) _ rfl (one2 rfl rfl) rfl (by kernel_rfl) ?_)
              refine bodyPost_ret (results_cell_tt rfl _ _ (w.heap.size + 1) 38 _ (0, 0) _ rfl (setRow_same (RrowX1.out _)) Try.underlying38 rfl (by kernel_rfl)) rfl ?_
              exact ⟨by rw [hf.out, Hg2.out]; rfl, below_setRow (HUZ.out _) (by omega) _⟩
          · obtain rfl : k = TT.length := by omega
            rw [Nat.sub_self] at hg
            have Hg2 := Lib.hid hg
            clear hg
            go_wp2_with (refine wpList_store_row rfl 38 _ _ rfl (w.heap.size + 1) rfl _ _ (RrowX1.out _) _ rfl (one2 rfl rfl) rfl (by kernel_rfl) ?_)
            refine bodyPost_ret (results_cell_tt rfl _ _ (w.heap.size + 1) 38 _ (0, 0) _ rfl (setRow_same (RrowX1.out _)) Try.underlying38 rfl (by kernel_rfl)) rfl ?_
            exact ⟨by rw [hf.out, Hg2.out]; rfl, below_setRow (HUX.out _) (by omega) _⟩
end Go.Proofs.Ytmadlmmfbpmebaa
