/- Seen of the reference of package pull. -/
import Derived.Test.YtbojgcaehlapiaaRj
import Derived.Test.YtbojgcaehlapiaaRpa
namespace Go.Proofs.Ytbojgcaehlapiaa.Un
open Go.RowKit
attribute [local go_sem] Oper.semAt_some
theorem spn_bad (r : Rng) (m : Int) : spnB r.lo r.hi m = !Go.Proofs.Ytbojgcaehlapiaa.badR m r := by
  rw [Bool.eq_iff_iff]
  simp only [spnB, Go.Proofs.Ytbojgcaehlapiaa.badR, Go.Proofs.Ytbojgcaehlapiaa.inB, Go.Proofs.Ytbojgcaehlapiaa.outB, Bool.and_eq_true, decide_eq_true_eq, List.any_cons, List.any_nil, Bool.or_false, Bool.not_not, Bool.not_or, Bool.not_eq_true', decide_eq_false_iff_not]
  omega
theorem range_yes {m : Int} {xs : List Rng} (h : ∀ j, j < xs.length → spnB (at0 xs j).lo (at0 xs j).hi m = true) : rangeB m xs = true := by
  unfold rangeB
  rw [Bool.not_eq_true', List.any_eq_false]
  intro x hx
  obtain ⟨j, hj, rfl⟩ := List.mem_iff_getElem.1 hx
  have h1 := h j hj
  rw [spn_bad] at h1
  simpa [at0, hj] using h1
theorem range_no {m : Int} {xs : List Rng} {k : Nat} (hk : k < xs.length) (h : spnB (at0 xs k).lo (at0 xs k).hi m = false) : rangeB m xs = false := by
  unfold rangeB
  rw [Bool.not_eq_false', List.any_eq_true]
  refine ⟨xs[k], List.getElem_mem hk, ?_⟩
  rw [spn_bad] at h
  simpa [at0, hk] using h
set_option maxRecDepth 100000 in
set_option maxHeartbeats 2000000 in
theorem refRg_any (A : Option Addr) (c : Nat) (xs : List Rng) (w : World) (B : Nat) (hm : xs.length ≤ 1000) (hB : B ≤ w.heap.size) (hx : Rd w B 2 A xs.length (rR xs)) :
    Calls Try.prog 36 #[.slice A xs.length c] w fun e w' => e = .returned (.bool (rangeB 10000000000 xs)) ∧ Below w.heap.size w w' := by
  have HX : Hid (∀ u, Rd (ovr w u) B 2 A xs.length (rR xs)) := fun u => hx.below ((ovr_below w u).mono hB)
  obtain ⟨u0, hu0⟩ := ovr_self w
  have H0 := Lib.hid hu0
  clear hx hB hu0
  have HUw : Hid (∀ u, Below w.heap.size w (ovr w u)) := fun u => ovr_below _ _
  go_enter Try.func36, Try.ntmps36
  go_wp2_with fail
  go_loopw [3] (fun i wr => ∃ k : Nat, k ≤ xs.length ∧ i = .int .i64 k ∧ (∀ j, j < k → spnB (at0 xs j).lo (at0 xs j).hi 10000000000 = true) ∧ ∃ u, wr = ovr w u) (fun i _ => xs.length - (intOf i).toNat)
  case atStart => exact ⟨0, by omega, rfl, fun _ h => absurd h (by omega), u0, H0.out⟩
  case round =>
    obtain ⟨k, hk, rfl, hall, u, rfl⟩ := hrel
    have HA := Lib.hid hall
    clear hall
    by_cases hlt : k < xs.length
    · obtain ⟨b, o, rfl, _, e0, e1⟩ := (HX.out u).rng hlt
      rcases ho : spnB (at0 xs k).lo (at0 xs k).hi 10000000000 with _ | _
      all_goals
        have HO := Lib.hid ho
        have cr := Lib.hid fun W => span_any (at0 xs k).lo (at0 xs k).hi 10000000000 W
        rw [ho] at cr
        clear ho
        obtain ⟨q, hq⟩ : ∃ q, at0 xs k = q := ⟨_, rfl⟩
        rw [hq] at e0 e1 cr
        clear hq
        go_wp2_with fail
        refine (cr.out _).mono ?_
        rintro e w1 ⟨rfl, hb1⟩
        obtain ⟨u1, rfl⟩ := ovr_next hb1
        clear hb1
      · have hn : Hid (rangeB 10000000000 xs = false) := range_no hlt HO.out
        go_wp2_with fail
        go_ret
        exact ⟨by rw [hn.out]; rfl, ovr_below _ _⟩
      · go_wp2_with fail
        go_roundw
        case rel => exact ⟨k + 1, by omega, by go_num, succ_case HA.out HO.out, u1, rfl⟩
        case measure => simp [intOf]; omega
    · obtain rfl : k = xs.length := by omega
      have hn : Hid (rangeB 10000000000 xs = true) := range_yes HA.out
      go_wp2_with fail
      go_ret
      exact ⟨by rw [hn.out]; rfl, ovr_below _ _⟩
set_option maxRecDepth 100000 in
set_option maxHeartbeats 4000000 in
theorem refSeen_any (sc ig og a b : Rng) (w : World) : Calls Try.prog 12 #[.agg (opArr sc ig og), .agg (rgArr a b)] w (RetRn w (snF sc ig og a b)) := by
  obtain ⟨W, hW⟩ : ∃ W, W = (((w.alloc (.cells #[I sc.lo, I sc.hi, I ig.lo, I ig.hi, I og.lo, I og.hi] 62)).alloc (.cells #[I a.lo, I a.hi, I b.lo, I b.hi] 64)).alloc (.cells #[I 0, I 0] 23)) := ⟨_, rfl⟩
  have rowW0 : W.heap[w.heap.size]? = some (.cells #[I sc.lo, I sc.hi, I ig.lo, I ig.hi, I og.lo, I og.hi] 62 (0, 0)) := by rw [hW]; exact heap_before (heap_before (heap_last _ _ _ rfl))
  have yW00 := ovr_cell (W := W) (b := w.heap.size) (o := 0) (v := I sc.lo) (by rw [cell_of_row _ _ _ _ _ _ rowW0]; rfl)
  have yW01 := ovr_cell (W := W) (b := w.heap.size) (o := 1) (v := I sc.hi) (by rw [cell_of_row _ _ _ _ _ _ rowW0]; rfl)
  have yW02 := ovr_cell (W := W) (b := w.heap.size) (o := 2) (v := I ig.lo) (by rw [cell_of_row _ _ _ _ _ _ rowW0]; rfl)
  have yW03 := ovr_cell (W := W) (b := w.heap.size) (o := 3) (v := I ig.hi) (by rw [cell_of_row _ _ _ _ _ _ rowW0]; rfl)
  have yW04 := ovr_cell (W := W) (b := w.heap.size) (o := 4) (v := I og.lo) (by rw [cell_of_row _ _ _ _ _ _ rowW0]; rfl)
  have yW05 := ovr_cell (W := W) (b := w.heap.size) (o := 5) (v := I og.hi) (by rw [cell_of_row _ _ _ _ _ _ rowW0]; rfl)
  have RrowW0 := Lib.hid (ovr_row rowW0)
  clear rowW0
  have rowW1 : W.heap[w.heap.size + 1]? = some (.cells #[I a.lo, I a.hi, I b.lo, I b.hi] 64 (0, 0)) := by rw [hW]; exact heap_before (heap_last _ _ _ (by simp))
  have yW10 := ovr_cell (W := W) (b := w.heap.size + 1) (o := 0) (v := I a.lo) (by rw [cell_of_row _ _ _ _ _ _ rowW1]; rfl)
  have yW11 := ovr_cell (W := W) (b := w.heap.size + 1) (o := 1) (v := I a.hi) (by rw [cell_of_row _ _ _ _ _ _ rowW1]; rfl)
  have yW12 := ovr_cell (W := W) (b := w.heap.size + 1) (o := 2) (v := I b.lo) (by rw [cell_of_row _ _ _ _ _ _ rowW1]; rfl)
  have yW13 := ovr_cell (W := W) (b := w.heap.size + 1) (o := 3) (v := I b.hi) (by rw [cell_of_row _ _ _ _ _ _ rowW1]; rfl)
  have RrowW1 := Lib.hid (ovr_row rowW1)
  clear rowW1
  have rowW2 : W.heap[w.heap.size + 1 + 1]? = some (.cells #[I 0, I 0] 23 (0, 0)) := by rw [hW]; exact heap_last _ _ _ (by simp)
  have yW20 := ovr_cell (W := W) (b := w.heap.size + 1 + 1) (o := 0) (v := I 0) (by rw [cell_of_row _ _ _ _ _ _ rowW2]; rfl)
  have yW21 := ovr_cell (W := W) (b := w.heap.size + 1 + 1) (o := 1) (v := I 0) (by rw [cell_of_row _ _ _ _ _ _ rowW2]; rfl)
  have RrowW2 := Lib.hid (ovr_row rowW2)
  clear rowW2
  have HUW : Hid (∀ u, Below w.heap.size w (ovr W u)) := U3 hW
  have HW := Lib.hid hW
  clear hW
  have cr := Lib.hid fun (W : World) (b1 : Nat) (t : TypeId) (h : W.heap[b1]? = some (.cells (five sc ig og a b) t (0, 0))) => refRg_any (some ⟨b1, 0, none⟩) 5 [sc, ig, og, a, b] W W.heap.size (by simp) (Nat.le_refl _) (five_rd h)
  rcases hr : rangeB 10000000000 [sc, ig, og, a, b] with _ | _ <;> (rw [hr] at cr)
  · have hf : Hid (snF sc ig og a b = (⟨0, 0⟩, 2)) := by show _ = _; unfold snF; rw [hr]; rfl
    clear hr
    go_enter Try.func12, Try.ntmps12
    go_upto_region 1 with (fail)
    rw [← HW.out]
    obtain ⟨u0, hu0⟩ := ovr_self W
    rw [hu0]
    clear hu0
    go_wp2_with fail
    refine (cr.out _ _ _ (heap_last _ _ _ rfl)).mono ?_
    rintro e w1 ⟨rfl, hb1⟩
    have hb2 : Below (ovr W u0).heap.size (ovr W u0) w1 := ((Below.refl _ _).alloc (Nat.le_refl _) _).trans (hb1.mono (by simp))
    obtain ⟨u1, rfl⟩ := ovr_next hb2
    clear hb1 hb2
    go_wp2_with (refine wpList_store_row rfl 23 _ _ rfl (w.heap.size + 1 + 1) rfl _ _ (RrowW2.out _) _ rfl (one2 rfl rfl) rfl (by kernel_rfl) ?_)
    refine bodyPost_ret (results_cell_tmp rfl _ _ (w.heap.size + 1 + 1) 23 _ (0, 0) _ rfl (setRow_same (RrowW2.out _)) Try.underlying23 rfl (by kernel_rfl)) rfl ?_
    exact ⟨by rw [hf.out]; rfl, below_setRow (HUW.out _) (by omega) _⟩
  have hf : Hid (snF sc ig og a b = (if (mtF sc ig og a b).2 = 0 then mtF sc ig og a b else (⟨0, 0⟩, 40))) := by show _ = _; unfold snF; rw [hr]; rfl
  clear hr
  have c1 := Lib.hid fun W => refTimes_any a sc 1000000 W
  have c2 := Lib.hid fun W => refTimes_any b sc 1000000 W
  have c3 := Lib.hid fun W => refLess_any (tmF a sc 1000000).1 ig W
  have c4 := Lib.hid fun W => refLess_any (tmF b sc 1000000).1 og W
  have cm := Lib.hid fun (W : World) (b1 : Nat) (t : TypeId) (h : W.heap[b1]? = some (.cells (two (edF sc a ig) (edF sc b og)) t (0, 0))) => refMeet_any (some ⟨b1, 0, none⟩) 2 [edF sc a ig, edF sc b og] W W.heap.size (show 2 ≤ maxLen by decide) (Nat.le_refl _) (two_rd h)
  have hm : mtF sc ig og a b = foF cuF [edF sc a ig, edF sc b og] := rfl
  have hda : edF sc a ig = (leF (tmF a sc 1000000).1 ig).1 := rfl
  have hdb : edF sc b og = (leF (tmF b sc 1000000).1 og).1 := rfl
  rw [tmR_eq] at c1 c2
  rw [leR_eq] at c3 c4
  obtain ⟨⟨⟨x1, y1⟩, z1⟩, hq1⟩ : ∃ q, tmF a sc 1000000 = q := ⟨_, rfl⟩
  rw [hq1] at c1 c3 hda
  obtain ⟨⟨⟨x2, y2⟩, z2⟩, hq2⟩ : ∃ q, tmF b sc 1000000 = q := ⟨_, rfl⟩
  rw [hq2] at c2 c4 hdb
  simp only at c3 c4 hda hdb
  obtain ⟨⟨⟨x3, y3⟩, z3⟩, hq3⟩ : ∃ q, leF (⟨x1, y1⟩ : Rng) ig = q := ⟨_, rfl⟩
  rw [hq3] at c3 hda
  obtain ⟨⟨⟨x4, y4⟩, z4⟩, hq4⟩ : ∃ q, leF (⟨x2, y2⟩ : Rng) og = q := ⟨_, rfl⟩
  rw [hq4] at c4 hdb
  simp only at hda hdb
  rw [hda, hdb] at cm hm
  obtain ⟨⟨⟨x5, y5⟩, z5⟩, hq5⟩ : ∃ q, foF cuF [(⟨x3, y3⟩ : Rng), ⟨x4, y4⟩] = q := ⟨_, rfl⟩
  rw [hq5] at cm hm
  rw [hm] at hf
  clear hm hda hdb hq1 hq2 hq3 hq4 hq5
  go_enter Try.func12, Try.ntmps12
  go_upto_region 1 with (fail)
  rw [← HW.out]
  obtain ⟨u0, hu0⟩ := ovr_self W
  rw [hu0]
  clear hu0
  go_wp2_with fail
  refine (cr.out _ _ _ (heap_last _ _ _ rfl)).mono ?_
  rintro e w1 ⟨rfl, hb1⟩
  have hb2 : Below (ovr W u0).heap.size (ovr W u0) w1 := ((Below.refl _ _).alloc (Nat.le_refl _) _).trans (hb1.mono (by simp))
  obtain ⟨u1, rfl⟩ := ovr_next hb2
  clear hb1 hb2
  go_wp2_with fail
  refine (c1.out _).mono ?_
  rintro e w1 ⟨rfl, hb1⟩
  obtain ⟨u2, rfl⟩ := ovr_next hb1
  clear hb1
  go_upto_region 4 with (fail)
  obtain ⟨X1, hX1⟩ : ∃ X1, X1 = ((ovr W u2).alloc (.cells #[I x1, I y1] 23)) := ⟨_, rfl⟩
  have reX1 : ∀ v, ∃ x, ovr X1 v = ovr W x := fun v => ovr_re1 hX1
  replace yW00 := tr_cell reX1 yW00
  replace yW01 := tr_cell reX1 yW01
  replace yW02 := tr_cell reX1 yW02
  replace yW03 := tr_cell reX1 yW03
  replace yW04 := tr_cell reX1 yW04
  replace yW05 := tr_cell reX1 yW05
  replace RrowW0 := Lib.hid (tr_row reX1 RrowW0.out)
  replace yW10 := tr_cell reX1 yW10
  replace yW11 := tr_cell reX1 yW11
  replace yW12 := tr_cell reX1 yW12
  replace yW13 := tr_cell reX1 yW13
  replace RrowW1 := Lib.hid (tr_row reX1 RrowW1.out)
  replace yW20 := tr_cell reX1 yW20
  replace yW21 := tr_cell reX1 yW21
  replace RrowW2 := Lib.hid (tr_row reX1 RrowW2.out)
  have rowX10 : X1.heap[(ovr W u2).heap.size]? = some (.cells #[I x1, I y1] 23 (0, 0)) := by rw [hX1]; exact heap_last _ _ _ rfl
  have yX100 := ovr_cell (W := X1) (b := (ovr W u2).heap.size) (o := 0) (v := I x1) (by rw [cell_of_row _ _ _ _ _ _ rowX10]; rfl)
  have yX101 := ovr_cell (W := X1) (b := (ovr W u2).heap.size) (o := 1) (v := I y1) (by rw [cell_of_row _ _ _ _ _ _ rowX10]; rfl)
  have RrowX10 := Lib.hid (ovr_row rowX10)
  clear rowX10
  have HBX1 : Hid (∀ u, Below W.heap.size W (ovr X1 u)) := fun u => by obtain ⟨x, hx⟩ := reX1 u; rw [hx]; exact ovr_below _ _
  have HUX1 : Hid (∀ u, Below w.heap.size w (ovr X1 u)) := fun u => by obtain ⟨x, hx⟩ := reX1 u; rw [hx]; exact HUW.out x
  clear reX1
  have HX1 := Lib.hid hX1
  clear hX1
  rw [← HX1.out]
  obtain ⟨v1, hv1⟩ := ovr_self X1
  rw [hv1]
  clear hv1
  go_wp2_with fail
  refine (c2.out _).mono ?_
  rintro e w1 ⟨rfl, hb1⟩
  obtain ⟨u3, rfl⟩ := ovr_next hb1
  clear hb1
  go_upto_region 5 with (fail)
  obtain ⟨X2, hX2⟩ : ∃ X2, X2 = ((ovr X1 u3).alloc (.cells #[I x2, I y2] 23)) := ⟨_, rfl⟩
  have reX2 : ∀ v, ∃ x, ovr X2 v = ovr X1 x := fun v => ovr_re1 hX2
  replace yW00 := tr_cell reX2 yW00
  replace yW01 := tr_cell reX2 yW01
  replace yW02 := tr_cell reX2 yW02
  replace yW03 := tr_cell reX2 yW03
  replace yW04 := tr_cell reX2 yW04
  replace yW05 := tr_cell reX2 yW05
  replace RrowW0 := Lib.hid (tr_row reX2 RrowW0.out)
  replace yW10 := tr_cell reX2 yW10
  replace yW11 := tr_cell reX2 yW11
  replace yW12 := tr_cell reX2 yW12
  replace yW13 := tr_cell reX2 yW13
  replace RrowW1 := Lib.hid (tr_row reX2 RrowW1.out)
  replace yW20 := tr_cell reX2 yW20
  replace yW21 := tr_cell reX2 yW21
  replace RrowW2 := Lib.hid (tr_row reX2 RrowW2.out)
  replace yX100 := tr_cell reX2 yX100
  replace yX101 := tr_cell reX2 yX101
  replace RrowX10 := Lib.hid (tr_row reX2 RrowX10.out)
  have rowX20 : X2.heap[(ovr X1 u3).heap.size]? = some (.cells #[I x2, I y2] 23 (0, 0)) := by rw [hX2]; exact heap_last _ _ _ rfl
  have yX200 := ovr_cell (W := X2) (b := (ovr X1 u3).heap.size) (o := 0) (v := I x2) (by rw [cell_of_row _ _ _ _ _ _ rowX20]; rfl)
  have yX201 := ovr_cell (W := X2) (b := (ovr X1 u3).heap.size) (o := 1) (v := I y2) (by rw [cell_of_row _ _ _ _ _ _ rowX20]; rfl)
  have RrowX20 := Lib.hid (ovr_row rowX20)
  clear rowX20
  have HBX2 : Hid (∀ u, Below X1.heap.size X1 (ovr X2 u)) := fun u => by obtain ⟨x, hx⟩ := reX2 u; rw [hx]; exact ovr_below _ _
  have HUX2 : Hid (∀ u, Below w.heap.size w (ovr X2 u)) := fun u => by obtain ⟨x, hx⟩ := reX2 u; rw [hx]; exact HUX1.out x
  clear reX2
  have HX2 := Lib.hid hX2
  clear hX2
  rw [← HX2.out]
  obtain ⟨v2, hv2⟩ := ovr_self X2
  rw [hv2]
  clear hv2
  go_wp2_with fail
  refine (c3.out _).mono ?_
  rintro e w1 ⟨rfl, hb1⟩
  obtain ⟨u4, rfl⟩ := ovr_next hb1
  clear hb1
  go_upto_region 6 with (refine wpList_store_row rfl 23 _ _ rfl ((ovr W u2).heap.size) rfl _ _ (RrowX10.out _) _ rfl (one2 rfl rfl) rfl (by kernel_rfl) ?_)
  have s1 : w.heap.size + 1 + 1 < (ovr W u2).heap.size := by
    have h1 := (ovr_below W u2).size
    have h2 := congrArg (fun w : World => w.heap.size) HW.out
    simp at h2
    omega
  have s2 : (ovr W u2).heap.size < (ovr X1 u3).heap.size := by
    have h1 := (ovr_below X1 u3).size
    have h2 := congrArg (fun w : World => w.heap.size) HX1.out
    simp at h2
    omega
  obtain ⟨Z, hZ⟩ : ∃ Z, Z = (ovr X2 u4).setRow (ovr W u2).heap.size #[I x3, I y3] := ⟨_, rfl⟩
  have q1 : Z.heap[w.heap.size]? = some (.cells (opArr sc ig og) 62 (0, 0)) := by rw [hZ, setRow_other (by omega)]; exact RrowW0.out _
  have q3 : Z.heap[w.heap.size + 1 + 1]? = some (.cells #[I 0, I 0] 23 (0, 0)) := by rw [hZ, setRow_other (by omega)]; exact RrowW2.out _
  have q4 : Z.heap[(ovr W u2).heap.size]? = some (.cells #[I x3, I y3] 23 (0, 0)) := by rw [hZ]; exact setRow_same (RrowX10.out _)
  have q5 : Z.heap[(ovr X1 u3).heap.size]? = some (.cells #[I x2, I y2] 23 (0, 0)) := by rw [hZ, setRow_other (by omega)]; exact RrowX20.out _
  have hbZ : Below w.heap.size w Z := by rw [hZ]; exact below_setRow (HUX2.out _) (by omega) _
  rw [← hZ]
  have S1 := Lib.hid s1
  have S2 := Lib.hid s2
  have HBZ := Lib.hid hbZ
  clear hZ s1 s2 hbZ yW00 yW01 yW02 yW03 yW04 yW05 yW10 yW11 yW12 yW13 yW20 yW21 yX100 yX101 yX200 yX201 RrowW0 RrowW1 RrowW2 RrowX10 RrowX20
  have HUZ : Hid (∀ u, Below w.heap.size w (ovr Z u)) := fun u => HBZ.out.trans ((ovr_below Z u).mono HBZ.out.size)
  have yZ00 := ovr_cell (W := Z) (b := w.heap.size) (o := 0) (v := I sc.lo) (by rw [cell_of_row _ _ _ _ _ _ q1]; rfl)
  have zZ00 : ∀ u, (ovr Z u).frozen? ⟨w.heap.size, 0, none⟩ = false := fun u => frozen_of_row _ _ _ _ _ (ovr_row q1 u)
  have yZ01 := ovr_cell (W := Z) (b := w.heap.size) (o := 1) (v := I sc.hi) (by rw [cell_of_row _ _ _ _ _ _ q1]; rfl)
  have zZ01 : ∀ u, (ovr Z u).frozen? ⟨w.heap.size, 1, none⟩ = false := fun u => frozen_of_row _ _ _ _ _ (ovr_row q1 u)
  have yZ02 := ovr_cell (W := Z) (b := w.heap.size) (o := 2) (v := I ig.lo) (by rw [cell_of_row _ _ _ _ _ _ q1]; rfl)
  have zZ02 : ∀ u, (ovr Z u).frozen? ⟨w.heap.size, 2, none⟩ = false := fun u => frozen_of_row _ _ _ _ _ (ovr_row q1 u)
  have yZ03 := ovr_cell (W := Z) (b := w.heap.size) (o := 3) (v := I ig.hi) (by rw [cell_of_row _ _ _ _ _ _ q1]; rfl)
  have zZ03 : ∀ u, (ovr Z u).frozen? ⟨w.heap.size, 3, none⟩ = false := fun u => frozen_of_row _ _ _ _ _ (ovr_row q1 u)
  have yZ04 := ovr_cell (W := Z) (b := w.heap.size) (o := 4) (v := I og.lo) (by rw [cell_of_row _ _ _ _ _ _ q1]; rfl)
  have zZ04 : ∀ u, (ovr Z u).frozen? ⟨w.heap.size, 4, none⟩ = false := fun u => frozen_of_row _ _ _ _ _ (ovr_row q1 u)
  have yZ05 := ovr_cell (W := Z) (b := w.heap.size) (o := 5) (v := I og.hi) (by rw [cell_of_row _ _ _ _ _ _ q1]; rfl)
  have zZ05 : ∀ u, (ovr Z u).frozen? ⟨w.heap.size, 5, none⟩ = false := fun u => frozen_of_row _ _ _ _ _ (ovr_row q1 u)
  have RrowZ0 := Lib.hid (ovr_row q1)
  clear q1
  have yZ10 := ovr_cell (W := Z) (b := w.heap.size + 1 + 1) (o := 0) (v := I 0) (by rw [cell_of_row _ _ _ _ _ _ q3]; rfl)
  have zZ10 : ∀ u, (ovr Z u).frozen? ⟨w.heap.size + 1 + 1, 0, none⟩ = false := fun u => frozen_of_row _ _ _ _ _ (ovr_row q3 u)
  have yZ11 := ovr_cell (W := Z) (b := w.heap.size + 1 + 1) (o := 1) (v := I 0) (by rw [cell_of_row _ _ _ _ _ _ q3]; rfl)
  have zZ11 : ∀ u, (ovr Z u).frozen? ⟨w.heap.size + 1 + 1, 1, none⟩ = false := fun u => frozen_of_row _ _ _ _ _ (ovr_row q3 u)
  have RrowZ1 := Lib.hid (ovr_row q3)
  clear q3
  have yZ20 := ovr_cell (W := Z) (b := (ovr W u2).heap.size) (o := 0) (v := I x3) (by rw [cell_of_row _ _ _ _ _ _ q4]; rfl)
  have zZ20 : ∀ u, (ovr Z u).frozen? ⟨(ovr W u2).heap.size, 0, none⟩ = false := fun u => frozen_of_row _ _ _ _ _ (ovr_row q4 u)
  have yZ21 := ovr_cell (W := Z) (b := (ovr W u2).heap.size) (o := 1) (v := I y3) (by rw [cell_of_row _ _ _ _ _ _ q4]; rfl)
  have zZ21 : ∀ u, (ovr Z u).frozen? ⟨(ovr W u2).heap.size, 1, none⟩ = false := fun u => frozen_of_row _ _ _ _ _ (ovr_row q4 u)
  have RrowZ2 := Lib.hid (ovr_row q4)
  clear q4
  have yZ30 := ovr_cell (W := Z) (b := (ovr X1 u3).heap.size) (o := 0) (v := I x2) (by rw [cell_of_row _ _ _ _ _ _ q5]; rfl)
  have zZ30 : ∀ u, (ovr Z u).frozen? ⟨(ovr X1 u3).heap.size, 0, none⟩ = false := fun u => frozen_of_row _ _ _ _ _ (ovr_row q5 u)
  have yZ31 := ovr_cell (W := Z) (b := (ovr X1 u3).heap.size) (o := 1) (v := I y2) (by rw [cell_of_row _ _ _ _ _ _ q5]; rfl)
  have zZ31 : ∀ u, (ovr Z u).frozen? ⟨(ovr X1 u3).heap.size, 1, none⟩ = false := fun u => frozen_of_row _ _ _ _ _ (ovr_row q5 u)
  have RrowZ3 := Lib.hid (ovr_row q5)
  clear q5
  obtain ⟨u5, hu5⟩ := ovr_self Z
  rw [hu5]
  clear hu5
  go_wp2_with fail
  refine (c4.out _).mono ?_
  rintro e w1 ⟨rfl, hb1⟩
  obtain ⟨u6, rfl⟩ := ovr_next hb1
  clear hb1
  go_upto_region 7 with (refine wpList_store_row rfl 23 _ _ rfl ((ovr X1 u3).heap.size) rfl _ _ (RrowZ3.out _) _ rfl (one2 rfl rfl) rfl (by kernel_rfl) ?_)
  obtain ⟨Y, hY⟩ : ∃ Y, Y = (ovr Z u6).setRow (ovr X1 u3).heap.size #[I x4, I y4] := ⟨_, rfl⟩
  have q3 : Y.heap[w.heap.size + 1 + 1]? = some (.cells #[I 0, I 0] 23 (0, 0)) := by rw [hY, setRow_other (by have := S1.out; have := S2.out; omega)]; exact RrowZ1.out _
  have q4 : Y.heap[(ovr W u2).heap.size]? = some (.cells #[I x3, I y3] 23 (0, 0)) := by rw [hY, setRow_other (by have := S1.out; have := S2.out; omega)]; exact RrowZ2.out _
  have q5 : Y.heap[(ovr X1 u3).heap.size]? = some (.cells #[I x4, I y4] 23 (0, 0)) := by rw [hY]; exact setRow_same (RrowZ3.out _)
  have hbY : Below w.heap.size w Y := by rw [hY]; exact below_setRow (HUZ.out _) (by have := S1.out; have := S2.out; omega) _
  rw [← hY]
  have HBY := Lib.hid hbY
  clear hY hbY yZ00 yZ01 yZ02 yZ03 yZ04 yZ05 yZ10 yZ11 yZ20 yZ21 yZ30 yZ31 zZ00 zZ01 zZ02 zZ03 zZ04 zZ05 zZ10 zZ11 zZ20 zZ21 zZ30 zZ31 RrowZ0 RrowZ1 RrowZ2 RrowZ3
  have HUY : Hid (∀ u, Below w.heap.size w (ovr Y u)) := fun u => HBY.out.trans ((ovr_below Y u).mono HBY.out.size)
  have yY00 := ovr_cell (W := Y) (b := w.heap.size + 1 + 1) (o := 0) (v := I 0) (by rw [cell_of_row _ _ _ _ _ _ q3]; rfl)
  have zY00 : ∀ u, (ovr Y u).frozen? ⟨w.heap.size + 1 + 1, 0, none⟩ = false := fun u => frozen_of_row _ _ _ _ _ (ovr_row q3 u)
  have yY01 := ovr_cell (W := Y) (b := w.heap.size + 1 + 1) (o := 1) (v := I 0) (by rw [cell_of_row _ _ _ _ _ _ q3]; rfl)
  have zY01 : ∀ u, (ovr Y u).frozen? ⟨w.heap.size + 1 + 1, 1, none⟩ = false := fun u => frozen_of_row _ _ _ _ _ (ovr_row q3 u)
  have RrowY0 := Lib.hid (ovr_row q3)
  clear q3
  have yY10 := ovr_cell (W := Y) (b := (ovr W u2).heap.size) (o := 0) (v := I x3) (by rw [cell_of_row _ _ _ _ _ _ q4]; rfl)
  have zY10 : ∀ u, (ovr Y u).frozen? ⟨(ovr W u2).heap.size, 0, none⟩ = false := fun u => frozen_of_row _ _ _ _ _ (ovr_row q4 u)
  have yY11 := ovr_cell (W := Y) (b := (ovr W u2).heap.size) (o := 1) (v := I y3) (by rw [cell_of_row _ _ _ _ _ _ q4]; rfl)
  have zY11 : ∀ u, (ovr Y u).frozen? ⟨(ovr W u2).heap.size, 1, none⟩ = false := fun u => frozen_of_row _ _ _ _ _ (ovr_row q4 u)
  have RrowY1 := Lib.hid (ovr_row q4)
  clear q4
  have yY20 := ovr_cell (W := Y) (b := (ovr X1 u3).heap.size) (o := 0) (v := I x4) (by rw [cell_of_row _ _ _ _ _ _ q5]; rfl)
  have zY20 : ∀ u, (ovr Y u).frozen? ⟨(ovr X1 u3).heap.size, 0, none⟩ = false := fun u => frozen_of_row _ _ _ _ _ (ovr_row q5 u)
  have yY21 := ovr_cell (W := Y) (b := (ovr X1 u3).heap.size) (o := 1) (v := I y4) (by rw [cell_of_row _ _ _ _ _ _ q5]; rfl)
  have zY21 : ∀ u, (ovr Y u).frozen? ⟨(ovr X1 u3).heap.size, 1, none⟩ = false := fun u => frozen_of_row _ _ _ _ _ (ovr_row q5 u)
  have RrowY2 := Lib.hid (ovr_row q5)
  clear q5
  obtain ⟨u7, hu7⟩ := ovr_self Y
  rw [hu7]
  clear hu7
  go_wp2_with fail
  refine (cm.out _ _ _ (heap_last _ _ _ rfl)).mono ?_
  rintro e w1 ⟨rfl, hb1⟩
  have hb2 : Below (ovr Y u7).heap.size (ovr Y u7) w1 := ((Below.refl _ _).alloc (Nat.le_refl _) _).trans (hb1.mono (by simp))
  obtain ⟨u8, rfl⟩ := ovr_next hb2
  clear hb1 hb2
  go_upto_region 8 with (fail)
  obtain ⟨V, hV⟩ : ∃ V, V = ((ovr Y u8).alloc (.cells #[I x5, I y5] 23)) := ⟨_, rfl⟩
  have reV : ∀ v, ∃ x, ovr V v = ovr Y x := fun v => ovr_re1 hV
  replace yY00 := tr_cell reV yY00
  replace zY00 := tr_froz reV zY00
  replace yY01 := tr_cell reV yY01
  replace zY01 := tr_froz reV zY01
  replace RrowY0 := Lib.hid (tr_row reV RrowY0.out)
  replace yY10 := tr_cell reV yY10
  replace zY10 := tr_froz reV zY10
  replace yY11 := tr_cell reV yY11
  replace zY11 := tr_froz reV zY11
  replace RrowY1 := Lib.hid (tr_row reV RrowY1.out)
  replace yY20 := tr_cell reV yY20
  replace zY20 := tr_froz reV zY20
  replace yY21 := tr_cell reV yY21
  replace zY21 := tr_froz reV zY21
  replace RrowY2 := Lib.hid (tr_row reV RrowY2.out)
  have rowV0 : V.heap[(ovr Y u8).heap.size]? = some (.cells #[I x5, I y5] 23 (0, 0)) := by rw [hV]; exact heap_last _ _ _ rfl
  have yV00 := ovr_cell (W := V) (b := (ovr Y u8).heap.size) (o := 0) (v := I x5) (by rw [cell_of_row _ _ _ _ _ _ rowV0]; rfl)
  have yV01 := ovr_cell (W := V) (b := (ovr Y u8).heap.size) (o := 1) (v := I y5) (by rw [cell_of_row _ _ _ _ _ _ rowV0]; rfl)
  have RrowV0 := Lib.hid (ovr_row rowV0)
  clear rowV0
  have HBV : Hid (∀ u, Below Y.heap.size Y (ovr V u)) := fun u => by obtain ⟨x, hx⟩ := reV u; rw [hx]; exact ovr_below _ _
  have HUV : Hid (∀ u, Below w.heap.size w (ovr V u)) := fun u => by obtain ⟨x, hx⟩ := reV u; rw [hx]; exact HUY.out x
  clear reV
  have HV := Lib.hid hV
  clear hV
  rw [← HV.out]
  obtain ⟨v8, hv8⟩ := ovr_self V
  rw [hv8]
  clear hv8
  by_cases h0 : z5 = 0
  · have h0b : (z5 != 0) = false := by simpa using h0
    have h0c := Lib.hid h0
    clear h0
    go_wp2_with (refine wpList_store_row rfl 23 _ _ rfl (w.heap.size + 1 + 1) rfl _ _ (RrowY0.out _) _ rfl (one2 rfl rfl) rfl (by kernel_rfl) ?_)
    refine bodyPost_ret (results_cell_tmp rfl _ _ (w.heap.size + 1 + 1) 23 _ (0, 0) _ rfl (setRow_same (RrowY0.out _)) Try.underlying23 rfl (by kernel_rfl)) rfl ?_
    exact ⟨by rw [hf.out, if_pos h0c.out, h0c.out]; rfl, below_setRow (HUV.out _) (by omega) _⟩
  · have h0b : (z5 != 0) = true := by simpa using h0
    have h0c := Lib.hid h0
    clear h0
    go_wp2_with (refine wpList_store_row rfl 23 _ _ rfl (w.heap.size + 1 + 1) rfl _ _ (RrowY0.out _) _ rfl (one2 rfl rfl) rfl (by kernel_rfl) ?_)
    refine bodyPost_ret (results_cell_tmp rfl _ _ (w.heap.size + 1 + 1) 23 _ (0, 0) _ rfl (setRow_same (RrowY0.out _)) Try.underlying23 rfl (by kernel_rfl)) rfl ?_
    exact ⟨by rw [hf.out, if_neg h0c.out]; rfl, below_setRow (HUV.out _) (by omega) _⟩
end Go.Proofs.Ytbojgcaehlapiaa.Un
