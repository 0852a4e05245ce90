/- The reference of chapter 5: Growth, Slice, Cuts, Print, Usable; growths of one own. -/
import Derived.Test.YteibgenkklpoaaaGreatDza
import Derived.Test.YteibgenkklpoaaaGreatDp1
import Derived.Test.YteibgenkklpoaaaGreatJia
import Derived.Test.YteibgenkklpoaaaGreatDp2
import Derived.Test.YteibgenkklpoaaaGreatDu2
import Derived.Test.YteibgenkklpoaaaGreatJa
import Derived.Test.YteibgenkklpoaaaGreatDp3
import Derived.Maps.AppendAt
import Derived.ArgAppend
import Derived.Test.YteibgenkklpoaaaGreatWh1
import Derived.Test.YteibgenkklpoaaaGreatRo
import Derived.Test.YteibgenkklpoaaaGreatFda
namespace Go.Proofs.YteibgenkklpoaaaGreat.Un
open Go.RowKit
def IBd (t : List Rng) : Prop := ∀ j, j < t.length → (-9223372036854775808 ≤ (at0 t j).lo ∧ (at0 t j).lo ≤ 9223372036854775807) ∧ (-9223372036854775808 ≤ (at0 t j).hi ∧ (at0 t j).hi ≤ 9223372036854775807)
set_option maxRecDepth 100000 in
theorem clip_any (r : Rng) (l h : Int) (w : World) : Calls Tryz.prog 76 #[r.val, I l, I h] w fun e w' => e = .returned ((⟨max l (min h r.lo), max l (min h r.hi)⟩ : Rng).val) ∧ Below w.heap.size w w' := by
  obtain ⟨lo, hi⟩ := r
  obtain ⟨W, hW⟩ : ∃ W, W = ((w.alloc (.cells #[I lo, I hi] 23)).alloc (.cells #[I 0, I 0] 23)) := ⟨_, rfl⟩
  have rowW0 : W.heap[w.heap.size]? = some (.cells #[I lo, I hi] 23 (0, 0)) := by rw [hW]; exact heap_before (heap_last _ _ _ rfl)
  have yW00 := ovr_cell (W := W) (b := w.heap.size) (o := 0) (v := I lo) (by rw [cell_of_row _ _ _ _ _ _ rowW0]; rfl)
  have yW01 := ovr_cell (W := W) (b := w.heap.size) (o := 1) (v := I hi) (by rw [cell_of_row _ _ _ _ _ _ rowW0]; rfl)
  have RrowW0 := Lib.hid (ovr_row rowW0)
  clear rowW0
  have rowW1 : W.heap[w.heap.size + 1]? = some (.cells #[I 0, I 0] 23 (0, 0)) := by rw [hW]; exact heap_last _ _ _ (by simp)
  have yW10 := ovr_cell (W := W) (b := w.heap.size + 1) (o := 0) (v := I 0) (by rw [cell_of_row _ _ _ _ _ _ rowW1]; rfl)
  have yW11 := ovr_cell (W := W) (b := w.heap.size + 1) (o := 1) (v := I 0) (by rw [cell_of_row _ _ _ _ _ _ rowW1]; rfl)
  have RrowW1 := Lib.hid (ovr_row rowW1)
  clear rowW1
  have HUW : Hid (∀ u, Below w.heap.size w (ovr W u)) := U2 hW
  have HW := Lib.hid hW
  clear hW
  go_enter Tryz.func76, Tryz.ntmps76
  go_upto_region 1 with (fail)
  rw [← HW.out]
  obtain ⟨u0, hu0⟩ := ovr_self W
  rw [hu0]
  clear hu0
  go_wp2_with (with_reducible show wpList _ _ _ (⟨none, Op.store _ _ _, _, _, _, _⟩ :: _) _ _; refine Hid.out ?_)
  refine Lib.hid ?_
  refine wpList_store_row rfl 23 _ _ rfl (w.heap.size + 1) rfl _ _ (RrowW1.out u0) #[I (max l (min h lo)), I (max l (min h hi))] rfl (one2 rfl rfl) rfl (by kernel_rfl) ?_
  go_wp2_with fail
  simp only [Act.put]
  refine bodyPost_ret (results_cell_only rfl _ _ (w.heap.size + 1) 23 _ (0, 0) _ rfl (setRow_same (RrowW1.out _)) Tryz.underlying23 rfl (by kernel_rfl)) rfl ?_
  exact ⟨rfl, below_setRow (HUW.out _) (Nat.le_succ _) _⟩
set_option maxRecDepth 100000 in
set_option maxHeartbeats 1000000 in
theorem refEnds_any (g : Gro) (A Z F : Option Addr) (a c d : Nat) (w : World) (B : Nat) (hB : B ≤ w.heap.size) (hg : GroIn w B g A Z F) (h0 : 0 < g.r.length) :
    Calls Tryz.prog 22 #[.agg (grA g A Z F a c d)] w fun e w' => e = .returned (.tuple #[I (at0 g.r 0).lo, I (lastX g.r)]) ∧ Below w.heap.size w w' := by
  obtain ⟨b, o, rfl, _, _, _⟩ := hg.r.rng h0
  have HX : Hid (∀ V, Below w.heap.size w V → Rd V B 2 (some ⟨b, o, none⟩) g.r.length (rR g.r)) := fun V hV => hg.r.below (hV.mono hB)
  have hl := hg.lr
  obtain ⟨k, hk⟩ : ∃ k, g.r.length = k + 1 := ⟨g.r.length - 1, by omega⟩
  obtain ⟨L, hL⟩ : ∃ L, lastX g.r = L := ⟨_, rfl⟩
  rw [hL]
  have hL2 : (at0 g.r k).lo = L := by rw [← hL]; unfold lastX; rw [hk, Nat.add_sub_cancel]
  clear hg hB hL
  obtain ⟨W, hW⟩ : ∃ W, W = (w.alloc (.cells #[.slice (some ⟨b, o, none⟩) g.r.length a, I g.o, .slice Z g.z.length c, .slice F g.f.length d] 48)) := ⟨_, rfl⟩
  have rowW0 : W.heap[w.heap.size]? = some (.cells #[.slice (some ⟨b, o, none⟩) g.r.length a, I g.o, .slice Z g.z.length c, .slice F g.f.length d] 48 (0, 0)) := by rw [hW]; exact heap_last _ _ _ rfl
  have yW00 := ovr_cell (W := W) (b := w.heap.size) (o := 0) (v := .slice (some ⟨b, o, none⟩) g.r.length a) (by rw [cell_of_row _ _ _ _ _ _ rowW0]; rfl)
  have yW01 := ovr_cell (W := W) (b := w.heap.size) (o := 1) (v := I g.o) (by rw [cell_of_row _ _ _ _ _ _ rowW0]; rfl)
  have yW02 := ovr_cell (W := W) (b := w.heap.size) (o := 2) (v := .slice Z g.z.length c) (by rw [cell_of_row _ _ _ _ _ _ rowW0]; rfl)
  have yW03 := ovr_cell (W := W) (b := w.heap.size) (o := 3) (v := .slice F g.f.length d) (by rw [cell_of_row _ _ _ _ _ _ rowW0]; rfl)
  have RrowW0 := Lib.hid (ovr_row rowW0)
  clear rowW0
  have HUW : Hid (∀ u, Below w.heap.size w (ovr W u)) := U1 hW
  have HW := Lib.hid hW
  clear hW
  go_enter Tryz.func22, Tryz.ntmps22
  go_upto_region 1 with fail
  rw [← HW.out]
  obtain ⟨u0, hu0⟩ := ovr_self W
  rw [hu0]
  clear hu0
  have hbY := ovr_below W u0
  obtain ⟨Y, hY⟩ : ∃ Y, Y = ovr W u0 := ⟨_, rfl⟩
  rw [← hY] at hbY
  rw [← hY]
  have hY' := Lib.hid hY
  clear hY
  have hbY' := Lib.hid hbY
  have reY : ∀ v, ∃ x, ovr Y v = ovr W x := fun v => ovr_reB hbY v
  replace yW00 := tr_cell reY yW00
  replace yW01 := tr_cell reY yW01
  replace yW02 := tr_cell reY yW02
  replace yW03 := tr_cell reY yW03
  replace RrowW0 := Lib.hid (tr_row reY RrowW0.out)
  have HUY : Hid (∀ u, Below w.heap.size w (ovr Y u)) := fun u => by obtain ⟨x, hx⟩ := reY u; rw [hx]; exact HUW.out x
  clear reY hbY
  have hr := HX.out Y (below_self0' HUY.out)
  obtain ⟨e0, _⟩ := rd_rng_at hr h0
  obtain ⟨e1, _⟩ := rd_rng_at hr (k := k) (by omega)
  rw [Nat.zero_mul, Nat.add_zero] at e0
  rw [hL2] at e1
  have z0 := ovr_cell e0
  have z1 := ovr_cell e1
  have kk : IntKind.i64.wrap ((k : Int) + 1 - 1) = k := by rw [show (k : Int) + 1 - 1 = k by omega]; exact IntWalk.i64_in _ (by omega)
  rw [hk] at yW00 hl
  clear hk h0 e0 e1 hr hL2
  refine Dl.wp_region_late 14 [5, 6, 7, 8, 9, 10, 11, 12, 13] (fun _ => none) (by kernel_rfl) (by kernel_rfl) (by kernel_rfl) (by kernel_rfl) [] (E := 23)
    ⟨by kernel_rfl, alloc_rng, fun j hj => by cases hj⟩ (by kernel_rfl) (fun _ _ => rfl) (fun c a d v w h => by cases d <;> exact h) ?_
  simp only [List.take_succ_cons, List.take_zero, List.drop_succ_cons, List.drop_zero]
  repeat (refine Dk.wpG_one rfl rfl rfl ?_; intro K hK; go_big_quiet_op; go_big_quiet_on)
  refine Dk.wpG_nil (fun w5 hw5 _ => ?_)
  refine Dl.wpTailH_cons (wp_assign _ (I (at0 g.r 0).lo) rfl rfl ⟨hw5, ?_⟩)
  refine Dl.wpTailH_cons (wp_assign _ (I L) rfl rfl ⟨hw5, ?_⟩)
  refine Dl.wpTailH_nil ?_
  simp only [Act.put]
  obtain ⟨x5, rfl⟩ := hw5
  go_wp2_with fail
  go_ret2
  exact ⟨rfl, HUY.out _⟩
set_option maxRecDepth 100000 in
set_option maxHeartbeats 4000000 in
theorem refGrowth_any (g : Gro) (A Z F : Option Addr) (a c d : Nat) (w : World) (B : Nat) (hB : B ≤ w.heap.size) (hg : GroIn w B g A Z F) (hbr : IBd g.r) (hbf : IBd g.f) :
    Calls Tryz.prog 19 #[.agg (grA g A Z F a c d)] w fun e w' => e = .returned (.bool (okGro g)) ∧ Below w.heap.size w w' := by
  have HG : Hid (∀ V, Below w.heap.size w V → GroIn V B g A Z F ∧ B ≤ V.heap.size) := fun V hV => ⟨hg.below hB hV, Nat.le_trans hB hV.size⟩
  have T1 : Hid (∀ V, Below w.heap.size w V → Calls Tryz.prog 49 #[.slice A g.r.length a] V fun e w' => e = .returned (.bool (tabB g.r)) ∧ Below V.heap.size V w') := fun V hV => refTable_any A a g.r V B (by have := hg.lr; unfold maxLen; omega) (HG.out V hV).2 (HG.out V hV).1.r hbr
  have T2 : Hid (∀ V, Below w.heap.size w V → Calls Tryz.prog 49 #[.slice F g.f.length d] V fun e w' => e = .returned (.bool (tabB g.f)) ∧ Below V.heap.size V w') := fun V hV => refTable_any F d g.f V B (by have := hg.lf; unfold maxLen; omega) (HG.out V hV).2 (HG.out V hV).1.f hbf
  have Z1 : Hid (∀ V, Below w.heap.size w V → Calls Tryz.prog 11 #[.slice Z g.z.length c, .int .u8 0] V fun e w' => e = .returned (I (zE g.z 0)) ∧ Below V.heap.size V w') := fun V hV => refZones_any Z c g.z 0 V B (by have := hg.lz; unfold maxLen; omega) (HG.out V hV).2 (HG.out V hV).1.z
  have E1 : Hid (∀ V, Below w.heap.size w V → 0 < g.r.length → Calls Tryz.prog 22 #[.agg (grA g A Z F a c d)] V fun e w' => e = .returned (.tuple #[I (at0 g.r 0).lo, I (lastX g.r)]) ∧ Below V.heap.size V w') := fun V hV h0 => refEnds_any g A Z F a c d V B (HG.out V hV).2 (HG.out V hV).1 h0
  have hf : Hid (okGro g = (tabB g.r && (tabB g.f && (!g.r.any (outB 0 1000000) && (!g.f.any (outB 1 20000) && (decide (0 ≤ g.o ∧ g.o ≤ 1000000 ∧ 1 ≤ g.z.length ∧ g.z.length ≤ 20) && (!g.z.any notGr && decide ((at0 g.f 0).lo = (at0 g.r 0).lo ∧ lastX g.f = lastX g.r ∧ 0 ≤ (at0 g.r 0).lo ∧ lastX g.r ≤ 3000)))))))) := rfl
  have hno : Hid (¬ (0 ≤ g.o ∧ g.o ≤ 1000000 ∧ 1 ≤ g.z.length ∧ g.z.length ≤ 20) ∨ g.z.any notGr = true → okGro g = false) := fun h => by
    rw [hf.out]
    rcases h with h | h
    · rw [decide_eq_false h]; simp
    · rw [h]; simp
  have hn1 : Hid ((∃ n, n < g.r.length ∧ outB 0 1000000 (at0 g.r n) = true) → okGro g = false) := fun ⟨n, hn, hb⟩ => by
    have : g.r.any (outB 0 1000000) = true := List.any_eq_true.2 ⟨at0 g.r n, by rw [at0_get hn]; exact List.getElem_mem hn, hb⟩
    rw [hf.out, this]; simp
  have hn2 : Hid ((∃ n, n < g.f.length ∧ outB 1 20000 (at0 g.f n) = true) → okGro g = false) := fun ⟨n, hn, hb⟩ => by
    have : g.f.any (outB 1 20000) = true := List.any_eq_true.2 ⟨at0 g.f n, by rw [at0_get hn]; exact List.getElem_mem hn, hb⟩
    rw [hf.out, this]; simp
  have HLZ := Lib.hid hg.lz
  clear hg hB hbr hbf
  obtain ⟨W, hW⟩ : ∃ W, W = (w.alloc (.cells #[.slice A g.r.length a, I g.o, .slice Z g.z.length c, .slice F g.f.length d] 48)) := ⟨_, rfl⟩
  have rowW0 : W.heap[w.heap.size]? = some (.cells #[.slice A g.r.length a, I g.o, .slice Z g.z.length c, .slice F g.f.length d] 48 (0, 0)) := by rw [hW]; exact heap_last _ _ _ rfl
  have yW00 := ovr_cell (W := W) (b := w.heap.size) (o := 0) (v := .slice A g.r.length a) (by rw [cell_of_row _ _ _ _ _ _ rowW0]; rfl)
  have yW01 := ovr_cell (W := W) (b := w.heap.size) (o := 1) (v := I g.o) (by rw [cell_of_row _ _ _ _ _ _ rowW0]; rfl)
  have yW02 := ovr_cell (W := W) (b := w.heap.size) (o := 2) (v := .slice Z g.z.length c) (by rw [cell_of_row _ _ _ _ _ _ rowW0]; rfl)
  have yW03 := ovr_cell (W := W) (b := w.heap.size) (o := 3) (v := .slice F g.f.length d) (by rw [cell_of_row _ _ _ _ _ _ rowW0]; rfl)
  have RrowW0 := Lib.hid (ovr_row rowW0)
  clear rowW0
  have HUW : Hid (∀ u, Below w.heap.size w (ovr W u)) := U1 hW
  have HW := Lib.hid hW
  clear hW
  go_enter Tryz.func19, Tryz.ntmps19
  go_upto_region 1 with (fail)
  rw [← HW.out]
  obtain ⟨u0, hu0⟩ := ovr_self W
  rw [hu0]
  clear hu0
  go_wp2_with fail
  refine (T1.out _ (HUW.out u0)).mono ?_
  rcases h1 : tabB g.r with _ | _ <;> rw [h1] at hf
  · skip
    rintro e w1 ⟨rfl, hb1⟩
    obtain ⟨u1, rfl⟩ := ovr_next hb1
    clear hb1
    go_wp2_with fail
    go_ret
    exact ⟨by rw [hf.out]; rfl, HUW.out _⟩
  rintro e w1 ⟨rfl, hb1⟩
  obtain ⟨u1, rfl⟩ := ovr_next hb1
  clear hb1
  go_wp2_with fail
  refine (T2.out _ (HUW.out u1)).mono ?_
  rcases h2 : tabB g.f with _ | _ <;> rw [h2] at hf
  · skip
    rintro e w1 ⟨rfl, hb1⟩
    obtain ⟨u2, rfl⟩ := ovr_next hb1
    clear hb1
    go_wp2_with fail
    go_ret
    exact ⟨by rw [hf.out]; rfl, HUW.out _⟩
  rintro e w1 ⟨rfl, hb1⟩
  obtain ⟨u2, rfl⟩ := ovr_next hb1
  clear hb1
  have HL1 := Lib.hid (tabB_len h1)
  have HL2 := Lib.hid (tabB_len h2)
  clear h1 h2 T1 T2
  obtain ⟨b1, o1, rfl, _, _, _⟩ := (HG.out _ (HUW.out u2)).1.r.rng (k := 0) (by have := HL1.out; omega)
  obtain ⟨b2, o2, rfl, _, _, _⟩ := (HG.out _ (HUW.out u2)).1.f.rng (k := 0) (by have := HL2.out; omega)
  have RD1 : Hid (∀ V, Below w.heap.size w V → Rd V B 2 (some ⟨b1, o1, none⟩) g.r.length (rR g.r)) := fun V hV => (HG.out V hV).1.r
  have RD2 : Hid (∀ V, Below w.heap.size w V → Rd V B 2 (some ⟨b2, o2, none⟩) g.f.length (rR g.f)) := fun V hV => (HG.out V hV).1.f
  by_cases g1 : g.o < 0
  · have hf2 : Hid (okGro g = false) := hno.out (.inl (by omega))
    have d1 := decide_eq_true g1
    go_wp2_with fail
    go_ret
    exact ⟨by rw [hf2.out]; rfl, HUW.out _⟩
  have d1 := decide_eq_false g1
  by_cases g2 : 1000000 < g.o
  · have hf2 : Hid (okGro g = false) := hno.out (.inl (by omega))
    have d2 := decide_eq_true g2
    go_wp2_with fail
    go_ret
    exact ⟨by rw [hf2.out]; rfl, HUW.out _⟩
  have d2 := decide_eq_false g2
  by_cases g3 : g.z.length < 1
  · have hf2 : Hid (okGro g = false) := hno.out (.inl (by omega))
    have d3 : decide ((g.z.length : Int) < 1) = true := decide_eq_true (by omega)
    have d3' : (g.z.length : Int) < 1 := by omega
    go_wp2_with fail
    go_ret
    exact ⟨by rw [hf2.out]; rfl, HUW.out _⟩
  have d3 : decide ((g.z.length : Int) < 1) = false := decide_eq_false (by omega)
  go_wp2_with fail
  refine (Z1.out _ (HUW.out u2)).mono ?_
  rintro e w1 ⟨rfl, hb1⟩
  obtain ⟨u3, rfl⟩ := ovr_next hb1
  clear hb1
  by_cases h6 : zE g.z 0 = 0
  case neg =>
    have hf2 : Hid (okGro g = false) := hno.out (by
      unfold zE at h6
      split at h6
      · exact .inl (by omega)
      · split at h6
        · rename_i h7
          rw [Bool.or_eq_true] at h7
          rcases h7 with h7 | h7
          · exact .inr h7
          · simp at h7
        · exact absurd rfl h6)
    obtain ⟨q, hq⟩ : ∃ q, zE g.z 0 = q := ⟨_, rfl⟩
    rw [hq] at h6
    rw [hq]
    clear hq
    go_wp2_with fail
    go_ret
    exact ⟨by rw [hf2.out]; rfl, HUW.out _⟩
  have HZE : Hid (g.z.any notGr = false ∧ g.z.length ≤ 20) := by
    unfold zE at h6
    split at h6
    · cases h6
    · rename_i h8
      split at h6
      · cases h6
      · rename_i h7
        rw [Bool.not_eq_true, Bool.or_eq_false_iff] at h7
        exact ⟨h7.1, by omega⟩
  have HO : Hid (0 ≤ g.o ∧ g.o ≤ 1000000 ∧ 1 ≤ g.z.length ∧ g.z.length ≤ 20) := ⟨by omega, by omega, by omega, HZE.out.2⟩
  rw [h6]
  clear d1 d2 d3 g1 g2 g3 h6
  go_wp2_with fail
  go_loopw [3] (fun i wr => ∃ (n : Nat) (u : World), n ≤ g.r.length ∧ i = .int .i64 n ∧ wr = ovr W u ∧ ∀ j, j < n → outB 0 1000000 (at0 g.r j) = false) (fun i _ => g.r.length - (intOf i).toNat)
  case atStart => exact ⟨0, u3, by omega, rfl, rfl, fun j hj => absurd hj (by omega)⟩
  case round =>
    obtain ⟨n, u, hnl, rfl, rfl, hall⟩ := hrel
    have HALL := Lib.hid hall
    clear hall
    have hn60 : n ≤ 60 := by have := HL1.out; omega
    by_cases hlt : n < g.r.length
    · have HLT := Lib.hid hlt
      obtain ⟨e0, e1⟩ := rd_rng_at (RD1.out _ (HUW.out u)) hlt
      obtain ⟨y, hy⟩ : ∃ y, (at0 g.r n).hi = y := ⟨_, rfl⟩
      rw [hy] at e1
      have HY := Lib.hid hy
      clear hy
      by_cases q1 : y < 0
      · have hf2 : Hid (okGro g = false) := by
          have hb : outB 0 1000000 (at0 g.r n) = true := by unfold outB; rw [HY.out, decide_eq_true q1]; rfl
          exact hn1.out ⟨n, HLT.out, hb⟩
        have d1 := decide_eq_true q1
        go_wp2_with fail
        go_ret
        exact ⟨by rw [hf2.out]; rfl, HUW.out _⟩
      · by_cases q2 : 1000000 < y
        · have hf2 : Hid (okGro g = false) := by
            have hb : outB 0 1000000 (at0 g.r n) = true := by unfold outB; rw [HY.out, decide_eq_true q2, Bool.or_true]
            exact hn1.out ⟨n, HLT.out, hb⟩
          have d1 := decide_eq_false q1
          have d2 := decide_eq_true q2
          go_wp2_with fail
          go_ret
          exact ⟨by rw [hf2.out]; rfl, HUW.out _⟩
        · have hq : Hid (∀ j, j < n + 1 → outB 0 1000000 (at0 g.r j) = false) := fun j hj => by
            by_cases hjn : j = n
            · rw [hjn]; unfold outB; rw [HY.out, decide_eq_false q1, decide_eq_false q2]; rfl
            · exact HALL.out j (by omega)
          have d1 := decide_eq_false q1
          have d2 := decide_eq_false q2
          go_wp2_with fail
          exact ⟨⟨n + 1, u, HLT.out, rfl, rfl, hq.out⟩, by have := HLT.out; simp [intOf]; omega⟩
    · have hnn : n = g.r.length := by omega
      have hany : Hid (g.r.any (outB 0 1000000) = false) := by
        show _ = _
        rw [List.any_eq_false]
        intro x hx
        obtain ⟨j, hj, rfl⟩ := at0_mem hx
        rw [HALL.out j (by omega)]
        decide
      clear hnl
      subst hnn
      have HAN1 := hany
      clear hany HALL
      go_wp2_with fail
      go_loopw [4] (fun i wr => ∃ (n : Nat) (u : World), n ≤ g.f.length ∧ i = .int .i64 n ∧ wr = ovr W u ∧ ∀ j, j < n → outB 1 20000 (at0 g.f j) = false) (fun i _ => g.f.length - (intOf i).toNat)
      case atStart => exact ⟨0, u, by omega, rfl, rfl, fun j hj => absurd hj (by omega)⟩
      case round =>
        obtain ⟨n, u, hnl, rfl, rfl, hall⟩ := hrel
        have HALL := Lib.hid hall
        clear hall
        have hn60 : n ≤ 60 := by have := HL2.out; omega
        by_cases hlt : n < g.f.length
        · have HLT := Lib.hid hlt
          obtain ⟨e0, e1⟩ := rd_rng_at (RD2.out _ (HUW.out u)) hlt
          obtain ⟨y, hy⟩ : ∃ y, (at0 g.f n).hi = y := ⟨_, rfl⟩
          rw [hy] at e1
          have HY := Lib.hid hy
          clear hy
          by_cases q1 : y < 1
          · have hf2 : Hid (okGro g = false) := by
              have hb : outB 1 20000 (at0 g.f n) = true := by unfold outB; rw [HY.out, decide_eq_true q1]; rfl
              exact hn2.out ⟨n, HLT.out, hb⟩
            have d1 := decide_eq_true q1
            go_wp2_with fail
            go_ret
            exact ⟨by rw [hf2.out]; rfl, HUW.out _⟩
          · by_cases q2 : 20000 < y
            · have hf2 : Hid (okGro g = false) := by
                have hb : outB 1 20000 (at0 g.f n) = true := by unfold outB; rw [HY.out, decide_eq_true q2, Bool.or_true]
                exact hn2.out ⟨n, HLT.out, hb⟩
              have d1 := decide_eq_false q1
              have d2 := decide_eq_true q2
              go_wp2_with fail
              go_ret
              exact ⟨by rw [hf2.out]; rfl, HUW.out _⟩
            · have hq : Hid (∀ j, j < n + 1 → outB 1 20000 (at0 g.f j) = false) := fun j hj => by
                by_cases hjn : j = n
                · rw [hjn]; unfold outB; rw [HY.out, decide_eq_false q1, decide_eq_false q2]; rfl
                · exact HALL.out j (by omega)
              have d1 := decide_eq_false q1
              have d2 := decide_eq_false q2
              go_wp2_with fail
              exact ⟨⟨n + 1, u, HLT.out, rfl, rfl, hq.out⟩, by have := HLT.out; simp [intOf]; omega⟩
        · have hnn : n = g.f.length := by omega
          have hany : Hid (g.f.any (outB 1 20000) = false) := by
            show _ = _
            rw [List.any_eq_false]
            intro x hx
            obtain ⟨j, hj, rfl⟩ := at0_mem hx
            rw [HALL.out j (by omega)]
            decide
          clear hnl
          subst hnn
          have HAN2 := hany
          clear hany HALL
          go_wp2_with fail
          refine (E1.out _ (HUW.out u) (by have := HL1.out; omega)).mono ?_
          rintro e w1 ⟨rfl, hb1⟩
          obtain ⟨u7, rfl⟩ := ovr_next hb1
          clear hb1
          have hff : Hid (okGro g = decide ((at0 g.f 0).lo = (at0 g.r 0).lo ∧ lastX g.f = lastX g.r ∧ 0 ≤ (at0 g.r 0).lo ∧ lastX g.r ≤ 3000)) := by
            show _ = _
            rw [hf.out, HAN1.out, HAN2.out, decide_eq_true HO.out, HZE.out.1]
            rfl
          obtain ⟨k, hk⟩ : ∃ k, g.f.length = k + 1 := ⟨g.f.length - 1, by have := HL2.out; omega⟩
          have hk60 : k ≤ 60 := by have := HL2.out; omega
          obtain ⟨e0, _⟩ := rd_rng_at (RD2.out _ (HUW.out u7)) (k := 0) (by omega)
          obtain ⟨e1, _⟩ := rd_rng_at (RD2.out _ (HUW.out u7)) (k := k) (by omega)
          rw [Nat.zero_mul, Nat.add_zero] at e0
          have hL : lastX g.f = (at0 g.f k).lo := by unfold lastX; rw [hk, Nat.add_sub_cancel]
          rw [hL] at hff
          obtain ⟨x1, hx1⟩ : ∃ x, x = (at0 g.r 0).lo := ⟨_, rfl⟩
          obtain ⟨x2, hx2⟩ : ∃ x, x = lastX g.r := ⟨_, rfl⟩
          obtain ⟨y1, hy1⟩ : ∃ x, x = (at0 g.f 0).lo := ⟨_, rfl⟩
          obtain ⟨y2, hy2⟩ : ∃ x, x = (at0 g.f k).lo := ⟨_, rfl⟩
          rw [← hx1, ← hx2, ← hy1, ← hy2] at hff
          rw [← hx1, ← hx2]
          rw [← hy1] at e0
          rw [← hy2] at e1
          have hbf := Lib.hid (HUW.out u7)
          rw [hk] at yW03
          clear hx1 hx2 hy1 hy2 hL hk
          by_cases k3 : 0 ≤ x1
          case neg =>
            have hf2 : Hid (okGro g = false) := by show _ = _; rw [hff.out]; exact decide_eq_false (by omega)
            have d1 := decide_eq_false k3
            go_wp2_with fail
            go_ret
            exact ⟨by rw [hf2.out]; rfl, HUW.out _⟩
          have d1 := decide_eq_true k3
          by_cases k4 : x2 ≤ 3000
          case neg =>
            have hf2 : Hid (okGro g = false) := by show _ = _; rw [hff.out]; exact decide_eq_false (by omega)
            have d2 := decide_eq_false k4
            go_wp2_with fail
            go_ret
            exact ⟨by rw [hf2.out]; rfl, HUW.out _⟩
          have d2 := decide_eq_true k4
          by_cases k1 : y1 = x1
          case neg =>
            have hf2 : Hid (okGro g = false) := by show _ = _; rw [hff.out]; exact decide_eq_false (by omega)
            have k1' : (y1 == x1) = false := by simpa using k1
            go_wp2_with fail
            go_ret
            exact ⟨by rw [hf2.out]; rfl, HUW.out _⟩
          by_cases k2 : y2 = x2
          case neg =>
            have hf2 : Hid (okGro g = false) := by show _ = _; rw [hff.out]; exact decide_eq_false (by omega)
            have k2' : (y2 == x2) = false := by simpa using k2
            subst k1
            go_wp2_with fail
            go_ret
            exact ⟨by rw [hf2.out]; rfl, HUW.out _⟩
          have hf2 : Hid (okGro g = true) := by show _ = _; rw [hff.out]; exact decide_eq_true (by omega)
          subst k1 k2
          go_wp2_with fail
          go_ret
          exact ⟨by rw [hf2.out]; rfl, HUW.out _⟩
end Go.Proofs.YteibgenkklpoaaaGreat.Un
namespace Go.Proofs.YteibgenkklpoaaaGreat.Un
open Go.RowKit
theorem clip_ins (r : Rng) {l h : Int} (hl : l ≤ h) : (⟨max l (min h r.lo), max l (min h r.hi)⟩ : Rng) = insF r l h := by
  unfold insF
  have key : ∀ x : Int, max l (min h x) = min (max x l) h := fun x => by omega
  rw [key, key]
theorem clipI_any (r : Rng) (l h : Int) (hl : l ≤ h) (w : World) : Calls Tryz.prog 76 #[r.val, I l, I h] w fun e w' => e = .returned ((insF r l h).val) ∧ Below w.heap.size w w' := by
  have := clip_any r l h w
  rw [clip_ins r hl] at this
  exact this
/-- A new block of a slice of one element. -/
def SlNw (w0 : World) (cs : Array Value) (t : TypeId) (u : Value) (w : World) : Prop := ∃ b, u = .slice (some ⟨b, 0, none⟩) 1 1 ∧ w.heap[b]? = some (.cells cs t (0, 0)) ∧ w0.heap.size ≤ b
theorem slnw_grow {w0 w : World} {cs : Array Value} {t : TypeId} (h : Cl w0 w) : Le w (w.alloc (.cells cs t)) ∧ Box (SlNw w0 cs t) (.slice (some ⟨w.heap.size, 0, none⟩) 1 1) (w.alloc (.cells cs t)) :=
  ⟨(Below.refl _ _).alloc (Nat.le_refl _) _, fun _ h2 => ⟨_, rfl, (h2.block _ (by simp)).trans (heap_alloc_new w _), h.le.size⟩⟩
theorem SlNw.at {w0 w : World} {cs : Array Value} {t : TypeId} {b : Nat} (h : SlNw w0 cs t (.slice (some ⟨b, 0, none⟩) 1 1) w) : w.heap[b]? = some (.cells cs t (0, 0)) ∧ w0.heap.size ≤ b := by
  obtain ⟨b', e, h1, h2⟩ := h
  have : b = b' := by injection e with e1; injection e1 with e2; injection e2
  subst this
  exact ⟨h1, h2⟩
theorem rd_eq {w : World} {B sz n : Nat} {A : Option Addr} {g g' : Nat → Nat → Value} (h : Rd w B sz A n g) (hg : ∀ k, k < n → ∀ j, j < sz → g k j = g' k j) : Rd w B sz A n g' := fun h0 => by
  obtain ⟨b, o, hA, hlt, hc⟩ := h h0
  exact ⟨b, o, hA, hlt, fun k hk j hj => (hc k hk j hj).trans (by rw [hg k hk j hj])⟩
/-- The sets of the first k zones. -/
def rsK (m : Mdl) (g : Gro) (x : Rng) (k : Nat) : List Value := flat 1 (fun j _ => .int .u8 (slV m g x (at0 g.z j))) k
theorem rsK_succ (m : Mdl) (g : Gro) (x : Rng) (k : Nat) : rsK m g x (k + 1) = rsK m g x k ++ [.int .u8 (slV m g x (at0 g.z k))] := by
  unfold rsK
  rw [flat_succ 1 (by omega)]
  rfl
def RetRs (m : Mdl) (g : Gro) (x : Rng) (w : World) (e : Ending) (w' : World) : Prop :=
  ∃ b c, e = .returned (.slice (some ⟨b, 0, none⟩) g.z.length c) ∧ g.z.length ≤ c ∧ w.heap.size ≤ b ∧ Rd w' w'.heap.size 1 (some ⟨b, 0, none⟩) g.z.length (rU8 (slL m g x)) ∧ Below w.heap.size w w'
set_option maxRecDepth 100000 in
set_option maxHeartbeats 4000000 in
theorem refSlice_any (m : Mdl) (g : Gro) (fr tp : Int) (A Z F : Option Addr) (a c d : Nat) (w : World) (B : Nat) (hB : B ≤ w.heap.size) (hg : GroIn w B g A Z F) (hbr : IBd g.r) (hbf : IBd g.f) (hm : okMdl m = true) (ho : okGro g = true) (hx : (at0 g.r 0).lo ≤ fr ∧ fr ≤ tp ∧ tp ≤ lastX g.r) :
    Calls Tryz.prog 50 #[.agg (mdA m), .agg (grA g A Z F a c d), I fr, I tp] w (RetRs m g ⟨fr, tp⟩ w) := by
  have HG : Hid (∀ V, Below w.heap.size w V → GroIn V B g A Z F ∧ B ≤ V.heap.size) := fun V hV => ⟨hg.below hB hV, Nat.le_trans hB hV.size⟩
  have hgo := okGro_ok ho
  have hv := hgo.va_r (x := ⟨fr, tp⟩) hx
  have hf := hgo.va_f (x := ⟨fr, tp⟩) hx
  have PL : Hid (∀ j, j < g.z.length → PlOk m (rtF g ⟨fr, tp⟩) (gdF g ⟨fr, tp⟩ (at0 g.z j))) := fun j hj => hgo.pl hm hx hj
  have TM : Hid (∀ j, j < g.z.length → ∃ p, tmF (at0 g.z j) (vaF g.f ⟨fr, tp⟩).1 10000 = (p, 0)) := fun j hj => ⟨_, tm_pos (spanB_iff.1 (hgo.z j hj)) hf.2⟩
  have V1 : Hid (∀ V, Below w.heap.size w V → Calls Tryz.prog 74 #[.slice A g.r.length a, .agg #[I fr, I tp]] V (RetRn V (vaF g.r ⟨fr, tp⟩))) := fun V hV => refValue_any A a g.r ⟨fr, tp⟩ V B (by have := hg.lr; unfold maxLen; omega) (HG.out V hV).2 (HG.out V hV).1.r hbr
  have V2 : Hid (∀ V, Below w.heap.size w V → Calls Tryz.prog 74 #[.slice F g.f.length d, .agg #[I fr, I tp]] V (RetRn V (vaF g.f ⟨fr, tp⟩))) := fun V hV => refValue_any F d g.f ⟨fr, tp⟩ V B (by have := hg.lf; unfold maxLen; omega) (HG.out V hV).2 (HG.out V hV).1.f hbf
  have hrt : Hid (rtF g ⟨fr, tp⟩ = insF ⟨(vaF g.r ⟨fr, tp⟩).1.lo - g.o, (vaF g.r ⟨fr, tp⟩).1.hi + g.o⟩ 0 1000000) := rfl
  have hgd : Hid (∀ z, gdF g ⟨fr, tp⟩ z = insF (tmF z (vaF g.f ⟨fr, tp⟩).1 10000).1 1 1000000) := fun z => rfl
  have HO := hgo.o
  have HLZ := Lib.hid hgo.z2
  have HZ1 : Hid (0 < g.z.length) := hgo.z1
  obtain ⟨⟨vl, vh⟩, hvr⟩ : ∃ r, (vaF g.r ⟨fr, tp⟩).1 = r := ⟨_, rfl⟩
  obtain ⟨⟨fl, fh⟩, hfr⟩ : ∃ r, (vaF g.f ⟨fr, tp⟩).1 = r := ⟨_, rfl⟩
  have v1e : vaF g.r ⟨fr, tp⟩ = (⟨vl, vh⟩, 0) := by rw [← hvr]; have := congrArg Prod.snd hv.1; exact Prod.ext rfl this
  have v2e : vaF g.f ⟨fr, tp⟩ = (⟨fl, fh⟩, 0) := by rw [← hfr]; have := congrArg Prod.snd hf.1; exact Prod.ext rfl this
  have b1 := hv.2
  rw [v1e] at V1 b1 hrt
  rw [v2e] at V2 hgd TM
  simp only at b1
  have k1 : IntKind.i64.wrap (vl - g.o) = vl - g.o := IntWalk.i64_in _ (by omega)
  have k2 : IntKind.i64.wrap (vh + g.o) = vh + g.o := IntWalk.i64_in _ (by omega)
  obtain ⟨i3, hi3, jz0, jz1, jz2⟩ := info_parts set_info
  clear hg hB hgo hv hf hvr hfr v1e v2e b1 hx ho hm HO hbr hbf
  obtain ⟨W, hW⟩ : ∃ W, W = ((w.alloc (.cells #[I m.sc, I (m.b 0).lo, I (m.b 0).hi, I (m.b 1).lo, I (m.b 1).hi, I (m.b 2).lo, I (m.b 2).hi, I (m.b 3).lo, I (m.b 3).hi] 26)).alloc (.cells #[.slice A g.r.length a, I g.o, .slice Z g.z.length c, .slice F g.f.length d] 48)) := ⟨_, rfl⟩
  have rowW0 : W.heap[w.heap.size]? = some (.cells #[I m.sc, I (m.b 0).lo, I (m.b 0).hi, I (m.b 1).lo, I (m.b 1).hi, I (m.b 2).lo, I (m.b 2).hi, I (m.b 3).lo, I (m.b 3).hi] 26 (0, 0)) := by rw [hW]; exact heap_before (heap_last _ _ _ rfl)
  have yW00 := ovr_cell (W := W) (b := w.heap.size) (o := 0) (v := I m.sc) (by rw [cell_of_row _ _ _ _ _ _ rowW0]; rfl)
  have yW01 := ovr_cell (W := W) (b := w.heap.size) (o := 1) (v := I (m.b 0).lo) (by rw [cell_of_row _ _ _ _ _ _ rowW0]; rfl)
  have yW02 := ovr_cell (W := W) (b := w.heap.size) (o := 2) (v := I (m.b 0).hi) (by rw [cell_of_row _ _ _ _ _ _ rowW0]; rfl)
  have yW03 := ovr_cell (W := W) (b := w.heap.size) (o := 3) (v := I (m.b 1).lo) (by rw [cell_of_row _ _ _ _ _ _ rowW0]; rfl)
  have yW04 := ovr_cell (W := W) (b := w.heap.size) (o := 4) (v := I (m.b 1).hi) (by rw [cell_of_row _ _ _ _ _ _ rowW0]; rfl)
  have yW05 := ovr_cell (W := W) (b := w.heap.size) (o := 5) (v := I (m.b 2).lo) (by rw [cell_of_row _ _ _ _ _ _ rowW0]; rfl)
  have yW06 := ovr_cell (W := W) (b := w.heap.size) (o := 6) (v := I (m.b 2).hi) (by rw [cell_of_row _ _ _ _ _ _ rowW0]; rfl)
  have yW07 := ovr_cell (W := W) (b := w.heap.size) (o := 7) (v := I (m.b 3).lo) (by rw [cell_of_row _ _ _ _ _ _ rowW0]; rfl)
  have yW08 := ovr_cell (W := W) (b := w.heap.size) (o := 8) (v := I (m.b 3).hi) (by rw [cell_of_row _ _ _ _ _ _ rowW0]; rfl)
  have RrowW0 := Lib.hid (ovr_row rowW0)
  clear rowW0
  have rowW1 : W.heap[w.heap.size + 1]? = some (.cells #[.slice A g.r.length a, I g.o, .slice Z g.z.length c, .slice F g.f.length d] 48 (0, 0)) := by rw [hW]; exact heap_last _ _ _ (by simp)
  have yW10 := ovr_cell (W := W) (b := w.heap.size + 1) (o := 0) (v := .slice A g.r.length a) (by rw [cell_of_row _ _ _ _ _ _ rowW1]; rfl)
  have yW11 := ovr_cell (W := W) (b := w.heap.size + 1) (o := 1) (v := I g.o) (by rw [cell_of_row _ _ _ _ _ _ rowW1]; rfl)
  have yW12 := ovr_cell (W := W) (b := w.heap.size + 1) (o := 2) (v := .slice Z g.z.length c) (by rw [cell_of_row _ _ _ _ _ _ rowW1]; rfl)
  have yW13 := ovr_cell (W := W) (b := w.heap.size + 1) (o := 3) (v := .slice F g.f.length d) (by rw [cell_of_row _ _ _ _ _ _ rowW1]; rfl)
  have RrowW1 := Lib.hid (ovr_row rowW1)
  clear rowW1
  have HUW : Hid (∀ u, Below w.heap.size w (ovr W u)) := U2 hW
  have HW := Lib.hid hW
  clear hW
  go_enter Tryz.func50, Tryz.ntmps50
  go_upto_region 1 with (fail)
  rw [← HW.out]
  obtain ⟨u0, hu0⟩ := ovr_self W
  rw [hu0]
  clear hu0
  go_wp2_with fail
  refine (V1.out _ (HUW.out u0)).mono ?_
  rintro e w1 ⟨rfl, hb1⟩
  obtain ⟨u2, rfl⟩ := ovr_next hb1
  clear hb1
  go_upto_region 2 with (fail)
  obtain ⟨X2, hX2⟩ : ∃ X2, X2 = ((ovr W u2).alloc (.cells #[I vl, I vh] 23)) := ⟨_, rfl⟩
  have reX2 : ∀ v, ∃ x, ovr X2 v = ovr W x := fun v => ovr_re1 hX2
  replace yW00 := tr_cell reX2 yW00
  replace yW01 := tr_cell reX2 yW01
  replace yW02 := tr_cell reX2 yW02
  replace yW03 := tr_cell reX2 yW03
  replace yW04 := tr_cell reX2 yW04
  replace yW05 := tr_cell reX2 yW05
  replace yW06 := tr_cell reX2 yW06
  replace yW07 := tr_cell reX2 yW07
  replace yW08 := tr_cell reX2 yW08
  replace RrowW0 := Lib.hid (tr_row reX2 RrowW0.out)
  replace yW10 := tr_cell reX2 yW10
  replace yW11 := tr_cell reX2 yW11
  replace yW12 := tr_cell reX2 yW12
  replace yW13 := tr_cell reX2 yW13
  replace RrowW1 := Lib.hid (tr_row reX2 RrowW1.out)
  have rowX20 : X2.heap[(ovr W u2).heap.size]? = some (.cells #[I vl, I vh] 23 (0, 0)) := by rw [hX2]; exact heap_last _ _ _ rfl
  have yX200 := ovr_cell (W := X2) (b := (ovr W u2).heap.size) (o := 0) (v := I vl) (by rw [cell_of_row _ _ _ _ _ _ rowX20]; rfl)
  have yX201 := ovr_cell (W := X2) (b := (ovr W u2).heap.size) (o := 1) (v := I vh) (by rw [cell_of_row _ _ _ _ _ _ rowX20]; rfl)
  have RrowX20 := Lib.hid (ovr_row rowX20)
  clear rowX20
  have HBX2 : Hid (∀ u, Below W.heap.size W (ovr X2 u)) := fun u => by obtain ⟨x, hx⟩ := reX2 u; rw [hx]; exact ovr_below _ _
  have HUX2 : Hid (∀ u, Below w.heap.size w (ovr X2 u)) := fun u => by obtain ⟨x, hx⟩ := reX2 u; rw [hx]; exact HUW.out x
  clear reX2
  have HX2 := Lib.hid hX2
  clear hX2
  rw [← HX2.out]
  obtain ⟨u3, hu3⟩ := ovr_self X2
  rw [hu3]
  clear hu3
  go_wp2_with fail
  refine (V2.out _ (HUX2.out u3)).mono ?_
  rintro e w1 ⟨rfl, hb1⟩
  obtain ⟨u4, rfl⟩ := ovr_next hb1
  clear hb1
  go_upto_region 3 with (fail)
  obtain ⟨X3, hX3⟩ : ∃ X3, X3 = ((ovr X2 u4).alloc (.cells #[I fl, I fh] 23)) := ⟨_, rfl⟩
  have reX3 : ∀ v, ∃ x, ovr X3 v = ovr X2 x := fun v => ovr_re1 hX3
  replace yW00 := tr_cell reX3 yW00
  replace yW01 := tr_cell reX3 yW01
  replace yW02 := tr_cell reX3 yW02
  replace yW03 := tr_cell reX3 yW03
  replace yW04 := tr_cell reX3 yW04
  replace yW05 := tr_cell reX3 yW05
  replace yW06 := tr_cell reX3 yW06
  replace yW07 := tr_cell reX3 yW07
  replace yW08 := tr_cell reX3 yW08
  replace RrowW0 := Lib.hid (tr_row reX3 RrowW0.out)
  replace yW10 := tr_cell reX3 yW10
  replace yW11 := tr_cell reX3 yW11
  replace yW12 := tr_cell reX3 yW12
  replace yW13 := tr_cell reX3 yW13
  replace RrowW1 := Lib.hid (tr_row reX3 RrowW1.out)
  replace yX200 := tr_cell reX3 yX200
  replace yX201 := tr_cell reX3 yX201
  replace RrowX20 := Lib.hid (tr_row reX3 RrowX20.out)
  have rowX30 : X3.heap[(ovr X2 u4).heap.size]? = some (.cells #[I fl, I fh] 23 (0, 0)) := by rw [hX3]; exact heap_last _ _ _ rfl
  have yX300 := ovr_cell (W := X3) (b := (ovr X2 u4).heap.size) (o := 0) (v := I fl) (by rw [cell_of_row _ _ _ _ _ _ rowX30]; rfl)
  have yX301 := ovr_cell (W := X3) (b := (ovr X2 u4).heap.size) (o := 1) (v := I fh) (by rw [cell_of_row _ _ _ _ _ _ rowX30]; rfl)
  have RrowX30 := Lib.hid (ovr_row rowX30)
  clear rowX30
  have HBX3 : Hid (∀ u, Below X2.heap.size X2 (ovr X3 u)) := fun u => by obtain ⟨x, hx⟩ := reX3 u; rw [hx]; exact ovr_below _ _
  have HUX3 : Hid (∀ u, Below w.heap.size w (ovr X3 u)) := fun u => by obtain ⟨x, hx⟩ := reX3 u; rw [hx]; exact HUX2.out x
  clear reX3
  have HX3 := Lib.hid hX3
  clear hX3
  rw [← HX3.out]
  obtain ⟨u5, hu5⟩ := ovr_self X3
  rw [hu5]
  clear hu5
  obtain ⟨⟨rl, rh⟩, hR⟩ : ∃ r, rtF g ⟨fr, tp⟩ = r := ⟨_, rfl⟩
  have CI : Hid (∀ V, Calls Tryz.prog 76 #[.agg #[I (vl - g.o), I (vh + g.o)], I 0, I 1000000] V fun e w' => e = .returned (.agg #[I rl, I rh]) ∧ Below V.heap.size V w') := fun V => by
    have := clipI_any ⟨vl - g.o, vh + g.o⟩ 0 1000000 (by omega) V
    rw [← hrt.out, hR] at this
    exact this
  rw [hR] at PL
  have HWX : Hid (Below w.heap.size w X3) := below_self HUX3.out
  go_wp2_with fail
  go_loopw [13, 14] (fun q i wr => ∃ k : Nat, k ≤ g.z.length ∧ i = .int .i64 k ∧ SoC 28 1 X3.heap.size k (rsK m g ⟨fr, tp⟩ k) q wr ∧ Below X3.heap.size X3 wr) (fun _ i _ => g.z.length - (intOf i).toNat)
  case atStart => exact ⟨0, by omega, rfl, .inl ⟨rfl, rfl, _, rfl⟩, (ovr_below _ _).alloc (ovr_below _ _).size _⟩
  case round =>
    obtain ⟨k, hk, rfl, hso, hb⟩ := hrel
    rename World => Y
    have HBY := Lib.hid hb
    have HSO := Lib.hid hso
    clear hso
    have hk20 : k ≤ 20 := by have := HLZ.out; omega
    have reY : ∀ v, ∃ x, ovr Y v = ovr X3 x := fun v => ovr_reB hb v
    have SX3_yW00 := Lib.hid yW00
    replace yW00 := tr_cell reY yW00
    have SX3_yW01 := Lib.hid yW01
    replace yW01 := tr_cell reY yW01
    have SX3_yW02 := Lib.hid yW02
    replace yW02 := tr_cell reY yW02
    have SX3_yW03 := Lib.hid yW03
    replace yW03 := tr_cell reY yW03
    have SX3_yW04 := Lib.hid yW04
    replace yW04 := tr_cell reY yW04
    have SX3_yW05 := Lib.hid yW05
    replace yW05 := tr_cell reY yW05
    have SX3_yW06 := Lib.hid yW06
    replace yW06 := tr_cell reY yW06
    have SX3_yW07 := Lib.hid yW07
    replace yW07 := tr_cell reY yW07
    have SX3_yW08 := Lib.hid yW08
    replace yW08 := tr_cell reY yW08
    have SX3_RrowW0 := Lib.hid RrowW0.out
    replace RrowW0 := Lib.hid (tr_row reY RrowW0.out)
    have SX3_yW10 := Lib.hid yW10
    replace yW10 := tr_cell reY yW10
    have SX3_yW11 := Lib.hid yW11
    replace yW11 := tr_cell reY yW11
    have SX3_yW12 := Lib.hid yW12
    replace yW12 := tr_cell reY yW12
    have SX3_yW13 := Lib.hid yW13
    replace yW13 := tr_cell reY yW13
    have SX3_RrowW1 := Lib.hid RrowW1.out
    replace RrowW1 := Lib.hid (tr_row reY RrowW1.out)
    have SX3_yX200 := Lib.hid yX200
    replace yX200 := tr_cell reY yX200
    have SX3_yX201 := Lib.hid yX201
    replace yX201 := tr_cell reY yX201
    have SX3_RrowX20 := Lib.hid RrowX20.out
    replace RrowX20 := Lib.hid (tr_row reY RrowX20.out)
    have SX3_yX300 := Lib.hid yX300
    replace yX300 := tr_cell reY yX300
    have SX3_yX301 := Lib.hid yX301
    replace yX301 := tr_cell reY yX301
    have SX3_RrowX30 := Lib.hid RrowX30.out
    replace RrowX30 := Lib.hid (tr_row reY RrowX30.out)
    have HUY : Hid (∀ u, Below w.heap.size w (ovr Y u)) := fun u => by obtain ⟨x, hx⟩ := reY u; rw [hx]; exact HUX3.out x
    clear reY hb
    obtain ⟨y0, hy0⟩ := ovr_self Y
    rw [hy0]
    clear hy0
    by_cases hlt : k < g.z.length
    · have HLT := Lib.hid hlt
      obtain ⟨⟨zl, zh⟩, hzz⟩ : ∃ z, at0 g.z k = z := ⟨_, rfl⟩
      have TMK := TM.out k hlt
      have PLK := Lib.hid (PL.out k hlt)
      rw [hzz] at TMK PLK
      obtain ⟨⟨pl, ph⟩, hp⟩ := TMK
      have GD := hgd.out ⟨zl, zh⟩
      rw [hp] at GD
      have HZZ := Lib.hid hzz
      have CT : Hid (∀ V, Calls Tryz.prog 75 #[.agg #[I zl, I zh], .agg #[I fl, I fh], I 10000] V fun e w' => e = .returned (.tuple #[.agg #[I pl, I ph], I 0]) ∧ Below V.heap.size V w') := fun V => by
        have := refTimes_any ⟨zl, zh⟩ ⟨fl, fh⟩ 10000 V
        rw [tmR_eq, hp] at this
        exact this
      clear hp hzz
      obtain ⟨b, o, rfl, _, _, _⟩ := (HG.out Y (HWX.out.trans (HBY.out.mono HWX.out.size))).1.z.rng hlt
      go_upto_region 7 with fail
      have hbY7 := ovr_below Y y0
      obtain ⟨Y7, hY7⟩ : ∃ Y7, Y7 = ovr Y y0 := ⟨_, rfl⟩
      rw [← hY7] at hbY7
      rw [← hY7]
      have hY7' := Lib.hid hY7
      clear hY7
      have hbY7' := Lib.hid hbY7
      have reY7 : ∀ v, ∃ x, ovr Y7 v = ovr Y x := fun v => ovr_reB hbY7 v
      replace yW00 := tr_cell reY7 yW00
      replace yW01 := tr_cell reY7 yW01
      replace yW02 := tr_cell reY7 yW02
      replace yW03 := tr_cell reY7 yW03
      replace yW04 := tr_cell reY7 yW04
      replace yW05 := tr_cell reY7 yW05
      replace yW06 := tr_cell reY7 yW06
      replace yW07 := tr_cell reY7 yW07
      replace yW08 := tr_cell reY7 yW08
      replace RrowW0 := Lib.hid (tr_row reY7 RrowW0.out)
      replace yW10 := tr_cell reY7 yW10
      replace yW11 := tr_cell reY7 yW11
      replace yW12 := tr_cell reY7 yW12
      replace yW13 := tr_cell reY7 yW13
      replace RrowW1 := Lib.hid (tr_row reY7 RrowW1.out)
      replace yX200 := tr_cell reY7 yX200
      replace yX201 := tr_cell reY7 yX201
      replace RrowX20 := Lib.hid (tr_row reY7 RrowX20.out)
      replace yX300 := tr_cell reY7 yX300
      replace yX301 := tr_cell reY7 yX301
      replace RrowX30 := Lib.hid (tr_row reY7 RrowX30.out)
      have HUY7 : Hid (∀ u, Below w.heap.size w (ovr Y7 u)) := fun u => by obtain ⟨x, hx⟩ := reY7 u; rw [hx]; exact HUY.out x
      clear reY7 hbY7
      have HY7 : Hid (Below X3.heap.size X3 Y7) := HBY.out.trans (hbY7'.out.mono HBY.out.size)
      obtain ⟨e0, e1⟩ := rd_rng_at (HG.out Y7 (HWX.out.trans (HY7.out.mono HWX.out.size))).1.z hlt
      rw [HZZ.out] at e0 e1
      have c0 := ovr_cell e0
      have c1 := ovr_cell e1
      clear e0 e1
      refine Dl.wp_region_late 11 [9] (fun j => if j = 6 then some (fun u _ => u = .tuple #[.agg #[I pl, I ph], I 0]) else if j = 10 then some (NewAt Y7 #[I 0, I 0] 23) else none) (by kernel_rfl) (by kernel_rfl) (by kernel_rfl) (by kernel_rfl) [10] (E := 23)
        ⟨by kernel_rfl, alloc_rng, fun j hj => by simp only [List.mem_cons, List.not_mem_nil, or_false] at hj; rcases hj with rfl; exact ⟨_, _, _, rfl⟩⟩ (by kernel_rfl) (fun i hi => by simp only [List.mem_cons, List.not_mem_nil, or_false] at hi; rcases hi with rfl; rfl) (fun c a d v w h => by cases d <;> exact h) ?_
      simp only [List.take_succ_cons, List.take_zero, List.drop_succ_cons, List.drop_zero]
      repeat (refine Dk.wpG_one rfl rfl rfl ?_; intro K hK; go_big_quiet_op; go_big_quiet_on)
      refine Dk.wpG_make (fun u _ => u = .tuple #[.agg #[I pl, I ph], I 0]) rfl rfl (fun w' hw' _ => ?_) (fun u hu => ?_)
      · go_simp
        exact call_grow (CT.out w')
      obtain ⟨_, _, rfl⟩ := hu
      simp only [Act.put, List.setIfInBounds_toArray, List.set_cons_zero, List.set_cons_succ]
      repeat (refine Dk.wpG_one rfl rfl rfl ?_; intro K hK; go_big_quiet_op; go_big_quiet_on)
      refine Dk.wpG_make (NewAt Y7 #[I 0, I 0] 23) rfl rfl (fun w' hw' _ => ?_) (fun u hu => ?_)
      · go_simp
        exact new_grow hw'
      obtain ⟨_, _, PB, rfl, _, _⟩ := hu
      simp only [Act.put, List.setIfInBounds_toArray, List.set_cons_zero, List.set_cons_succ]
      refine Dk.wpG_nil (fun w5 hw5 hG => ?_)
      have hn1 := (Box.now hG.2).at
      clear hG
      refine Dl.wpTailH_cons ?_
      refine wp_store_row 23 _ _ rfl PB rfl _ _ hn1.1 #[I pl, I ph] rfl (one2 rfl rfl) rfl (by kernel_rfl) ?_
      have hc1 := below_setRow hw5.le hn1.2 #[I pl, I ph]
      refine ⟨Cl.of hc1, ?_⟩
      refine Dl.wpTailH_cons (wp_assign _ (I 0) rfl rfl ⟨Cl.of hc1, ?_⟩)
      refine Dl.wpTailH_nil ?_
      simp only [Act.put, List.setIfInBounds_toArray, List.set_cons_zero, List.set_cons_succ]
      obtain ⟨WV, hWV⟩ : ∃ WV, WV = w5.setRow PB #[I pl, I ph] := ⟨_, rfl⟩
      have rp : WV.heap[PB]? = some (.cells #[I pl, I ph] 23 (0, 0)) := by rw [hWV]; exact setRow_same hn1.1
      have hbWV : Below Y7.heap.size Y7 WV := by rw [hWV]; exact hc1
      have HYV : Hid (Below Y.heap.size Y WV) := hbY7'.out.trans (hbWV.mono hbY7'.out.size)
      rw [← hWV]
      clear hWV hn1 hw5 hc1
      have reWV : ∀ v, ∃ x, ovr WV v = ovr Y7 x := fun v => ovr_reB hbWV v
      replace yW00 := tr_cell reWV yW00
      replace yW01 := tr_cell reWV yW01
      replace yW02 := tr_cell reWV yW02
      replace yW03 := tr_cell reWV yW03
      replace yW04 := tr_cell reWV yW04
      replace yW05 := tr_cell reWV yW05
      replace yW06 := tr_cell reWV yW06
      replace yW07 := tr_cell reWV yW07
      replace yW08 := tr_cell reWV yW08
      replace RrowW0 := Lib.hid (tr_row reWV RrowW0.out)
      replace yW10 := tr_cell reWV yW10
      replace yW11 := tr_cell reWV yW11
      replace yW12 := tr_cell reWV yW12
      replace yW13 := tr_cell reWV yW13
      replace RrowW1 := Lib.hid (tr_row reWV RrowW1.out)
      replace yX200 := tr_cell reWV yX200
      replace yX201 := tr_cell reWV yX201
      replace RrowX20 := Lib.hid (tr_row reWV RrowX20.out)
      replace yX300 := tr_cell reWV yX300
      replace yX301 := tr_cell reWV yX301
      replace RrowX30 := Lib.hid (tr_row reWV RrowX30.out)
      have yWV00 := ovr_cell (W := WV) (b := PB) (o := 0) (v := I pl) (by rw [cell_of_row _ _ _ _ _ _ rp]; rfl)
      have yWV01 := ovr_cell (W := WV) (b := PB) (o := 1) (v := I ph) (by rw [cell_of_row _ _ _ _ _ _ rp]; rfl)
      have RrowWV0 := Lib.hid (ovr_row rp)
      clear rp
      have HUWV : Hid (∀ u, Below w.heap.size w (ovr WV u)) := fun u => by obtain ⟨x, hx⟩ := reWV u; rw [hx]; exact HUY7.out x
      clear reWV hbWV
      clear c0 c1
      obtain ⟨⟨gl, gh⟩, hG⟩ : ∃ r, gdF g ⟨fr, tp⟩ ⟨zl, zh⟩ = r := ⟨_, rfl⟩
      have hsv : slV m g ⟨fr, tp⟩ (at0 g.z k) = regK (posB m ⟨rl, rh⟩ ⟨gl, gh⟩) 5 := by rw [HZZ.out]; unfold slV; rw [hR, hG]
      rw [hG] at PLK GD
      have CI2 : Hid (∀ V, Calls Tryz.prog 76 #[.agg #[I pl, I ph], I 1, I 1000000] V fun e w' => e = .returned (.agg #[I gl, I gh]) ∧ Below V.heap.size V w') := fun V => by
        have := clipI_any ⟨pl, ph⟩ 1 1000000 (by omega) V
        rw [← GD] at this
        exact this
      have CR : Hid (∀ V, Calls Tryz.prog 38 #[.agg (mdA m), .agg #[I rl, I rh], .agg #[I gl, I gh]] V fun e w' => e = .returned (.int .u8 (regK (posB m ⟨rl, rh⟩ ⟨gl, gh⟩) 5)) ∧ Below V.heap.size V w') := fun V => refRegions_any m ⟨rl, rh⟩ ⟨gl, gh⟩ PLK.out V
      obtain ⟨q, hq⟩ : ∃ q, regK (posB m ⟨rl, rh⟩ ⟨gl, gh⟩) 5 = q := ⟨_, rfl⟩
      rw [hq] at CR hsv
      have HSV := Lib.hid hsv
      clear hq hsv hG GD
      go_upto_region 8 with fail
      refine wp_region_seq2 18 (fun j => if j = 13 then some (fun u _ => u = .agg #[I rl, I rh]) else if j = 15 then some (fun u _ => u = .agg #[I gl, I gh]) else if j = 16 then some (fun u _ => u = .int .u8 q) else if j = 17 then some (SlNw WV #[.int .u8 q] 28) else none) (by kernel_rfl) (by kernel_rfl) (by kernel_rfl) (by kernel_rfl) (by kernel_rfl) ?_
      simp only [List.take_succ_cons, List.take_zero, List.drop_succ_cons, List.drop_zero]
      repeat (refine wpG_one rfl rfl rfl ?_; intro K hK; go_big_quiet_op; go_big_quiet_on)
      refine wpG_make (fun u _ => u = .agg #[I rl, I rh]) rfl rfl (fun w' hw' _ => ?_) (fun u hu => ?_)
      · go_simp
        exact call_grow (CI.out w')
      obtain ⟨_, _, rfl⟩ := hu
      simp only [Act.put, List.setIfInBounds_toArray, List.set_cons_zero, List.set_cons_succ]
      repeat (refine wpG_one rfl rfl rfl ?_; intro K hK; go_big_quiet_op; go_big_quiet_on)
      refine wpG_make (fun u _ => u = .agg #[I gl, I gh]) rfl rfl (fun w' hw' _ => ?_) (fun u hu => ?_)
      · go_simp
        exact call_grow (CI2.out w')
      obtain ⟨_, _, rfl⟩ := hu
      simp only [Act.put, List.setIfInBounds_toArray, List.set_cons_zero, List.set_cons_succ]
      refine wpG_make (fun u _ => u = .int .u8 q) rfl rfl (fun w' hw' _ => ?_) (fun u hu => ?_)
      · go_simp
        exact call_grow (CR.out w')
      obtain ⟨_, _, rfl⟩ := hu
      simp only [Act.put, List.setIfInBounds_toArray, List.set_cons_zero, List.set_cons_succ]
      refine wpG_make (SlNw WV #[.int .u8 q] 28) rfl rfl (fun w' hw' _ => ?_) (fun u hu => ?_)
      · go_simp
        exact slnw_grow hw'
      obtain ⟨_, _, bn, rfl, _, _⟩ := hu
      simp only [Act.put, List.setIfInBounds_toArray, List.set_cons_zero, List.set_cons_succ]
      refine wpG_nil (fun w5 hw5 hG => ?_)
      have hn := (Box.now hG.2).at
      have h5 : Below Y.heap.size Y w5 := HYV.out.trans (hw5.le.mono HYV.out.size)
      clear hG hw5
      refine wpTailIn_cons Wd.wide (by intro c h; cases h) ?_
      refine wp_app_soc _ _ 58 rfl 28 i3 _ 1 1 Tryz.underlying58 hi3 jz0 jz1 jz2 rfl (by decide) X3.heap.size k (rsK m g ⟨fr, tp⟩ k) _ rfl (HSO.out.over h5) ⟨bn, 0, none⟩ 1 [.int .u8 q] rfl rfl (cells_row hn.1) (by simp [Value.oneCell']) (Nat.le_trans HBY.out.size h5.size) (by omega) (by decide) ?_
      intro v' w6 hso6 hb6
      refine wpTailIn_cons Wd.wide (by intro c h; cases h) ?_
      refine wp_assign _ v' rfl rfl ?_
      refine wpTailIn_nil ?_
      simp only [Act.put, List.setIfInBounds_toArray, List.set_cons_zero, List.set_cons_succ]
      have HSO6 : Hid (SoC 28 1 X3.heap.size (k + 1) (rsK m g ⟨fr, tp⟩ (k + 1)) v' w6) := by show SoC _ _ _ _ _ _ _; rw [rsK_succ, HSV.out]; exact hso6
      have HB6 : Hid (Below X3.heap.size X3 w6) := HBY.out.trans ((h5.mono HBY.out.size).trans hb6)
      clear hn h5 hso6 hb6
      go_wp2_with fail
      exact ⟨⟨k + 1, HLT.out, rfl, HSO6.out, HB6.out⟩, by have := HLT.out; simp [intOf]; omega⟩
    · obtain rfl : k = g.z.length := by omega
      obtain ⟨b7, c7, hv7, hb7, _, ho7⟩ := soc_own (HSO.out.over (ovr_below Y y0)) HZ1.out
      subst hv7
      obtain ⟨A7, c8, he7, hc7, _, hrd⟩ := Rd.of_own_max (g := fun j _ => .int .u8 (slV m g ⟨fr, tp⟩ (at0 g.z j))) ho7
      obtain ⟨rfl, rfl⟩ : A7 = some ⟨b7, 0, none⟩ ∧ c8 = c7 := by
        injection he7 with h1 h2 h3
        exact ⟨h1.symm, h3.symm⟩
      have hrd2 : Rd (ovr Y y0) (ovr Y y0).heap.size 1 (some ⟨b7, 0, none⟩) g.z.length (rU8 (slL m g ⟨fr, tp⟩)) := rd_eq hrd fun i hi j hj => by
        have h9 : at0 (slL m g ⟨fr, tp⟩) i = slV m g ⟨fr, tp⟩ (at0 g.z i) := by
          unfold slL
          rw [at0_get (show i < (g.z.map (slV m g ⟨fr, tp⟩)).length by simpa using hi), List.getElem_map, at0_get hi]
        show _ = Value.int .u8 (at0 (slL m g ⟨fr, tp⟩) i)
        rw [h9]
      have HRD := Lib.hid hrd2
      have hbf := Lib.hid (HWX.out.trans ((HBY.out.trans ((ovr_below Y y0).mono HBY.out.size)).mono HWX.out.size))
      have HB7 : Hid (w.heap.size ≤ b7) := Nat.le_trans HWX.out.size hb7
      clear hrd hrd2 ho7 hb7
      go_wp2_with fail
      go_ret
      exact ⟨b7, _, rfl, hc7, HB7.out, HRD.out, hbf.out⟩
end Go.Proofs.YteibgenkklpoaaaGreat.Un
namespace Go.Proofs.YteibgenkklpoaaaGreat.Un
open Go.RowKit
theorem run_app_soU {P : Program} (w : World) (t ty : TypeId)
    (e : TypeId) (i : TypeInfo) (z : Value) (bytes : Nat) (h1 : P.underlying t = some (.slice e)) (h2 : P.info? e = some i) (h3 : i.zero = some z) (h4 : i.size = 1) (h5 : i.bytes = bytes) (h6 : z.cells.size = 1)
    {B n : Nat} {olds : List Value} {v : Value} (hso : SoC e 1 B n olds v w) (hn0 : n = 0 → ∃ b, v = .slice (some ⟨b, 0, none⟩) 0 0) (ad : Addr) (c : Nat) (x : Value)
    (hc : w.cell? ad = some x) (h1c : x.oneCell' = true) (hB : B ≤ w.heap.size) (hl : n ≤ 1000000) (hb : bytes ≤ 1000) :
    ∃ v' w', (Builtin.append_ #[t, t] ty #[v, .slice (some ad) 1 c]).run P w = .ok v' w' ∧ SoC e 1 B (n + 1) (olds ++ [x]) v' w' ∧ Below B w w' ∧
      (∀ b, b < w.heap.size → (n = 0 ∨ v.ownBlock ≠ some b) → w'.heap[b]? = w.heap[b]? ∧ v'.ownBlock ≠ some b) ∧ w.heap.size ≤ w'.heap.size := by
  have hm : (n + 1) * bytes ≤ 1000001 * 1000 := Nat.mul_le_mul (by omega) hb
  have hc' : ∀ j u, [x][j]? = some u → w.cell? (ad.add j) = some u := fun j u hu => by
    match j with
    | 0 => simp at hu; subst hu; simpa [Addr.add] using hc
    | j + 1 => simp at hu
  by_cases hz : n = 0
  · obtain ⟨b, rfl⟩ := hn0 hz
    have ho : olds = [] := by
      rcases hso with ⟨_, h, _⟩ | h
      · exact h
      · exact List.eq_nil_of_length_eq_zero (by rw [h.1, hz])
    subst ho
    subst hz
    obtain ⟨v', w', hrun, hown, hgr⟩ := run_append_arg_grows (P := P) w t ty e i z 1 bytes h1 h2 h3 h4 h5 h6 (by omega) ⟨b, 0, none⟩ 0 0 [] (by simp) (fun j u hu => by simp at hu) ad 1 c [x] rfl hc' (by omega) (by unfold maxLen; omega) (by simp only [Nat.zero_add] at hm ⊢; omega)
    refine ⟨v', w', hrun, .inr ?_, (Below.refl _ _).grown hgr hB (fun k hk => by cases hk), fun b' hb' _ => ⟨hgr.block b' hb' (by simp), fun h => ?_⟩, hgr.size⟩
    · have := own_base hown hB
      simpa using this
    · have := (hown.lt b' h).1
      omega
  · have ho := hso.resolve_left (fun h => hz h.1)
    obtain ⟨v', w', hrun, hown, hgr, _, hat⟩ := run_append_own_at (P := P) w B t ty e i z 1 bytes h1 h2 h3 h4 h5 h6 (by omega) v n olds ho ad 1 c [x] rfl hc' (by intro u hu; simp at hu; subst hu; exact h1c) (by unfold maxLen; omega) (by omega) hB
    refine ⟨v', w', hrun, .inr hown, (Below.refl _ _).grown hgr hB (fun k hk => (ho.lt k hk).1), fun b' hb' hne => ?_, hgr.size⟩
    by_cases hv : v.ownBlock = some b'
    · exfalso
      rcases hne with h | h
      · exact hz h
      · exact h hv
    · refine ⟨hgr.block b' hb' (fun h => hv h.symm), fun h => ?_⟩
      rcases hat with h' | h'
      · rw [h'] at h; exact hv h
      · rw [h'] at h; injection h with h; omega
theorem wp_app_soU {P : Program} {o : Oper} {a : Act} {w : World} {K : Act → World → Prop} {Q : Exit → Act → World → Prop} (s x : Operand) (t : TypeId) (ho : o.op = .call { callee := .builtin .append, args := #[s, x], argTypes := #[t, t] })
    (e : TypeId) (i : TypeInfo) (z : Value) (bytes : Nat) (h1 : P.underlying t = some (.slice e)) (h2 : P.info? e = some i) (h3 : i.zero = some z) (h4 : i.size = 1) (h5 : i.bytes = bytes) (h6 : z.cells.size = 1)
    (B n : Nat) (olds : List Value) (v : Value) (hs : a.eval s = v) (hso : SoC e 1 B n olds v w) (hn0 : n = 0 → ∃ b, v = .slice (some ⟨b, 0, none⟩) 0 0) (ad : Addr) (c : Nat) (y : Value) (hx : a.eval x = .slice (some ad) 1 c)
    (hc : w.cell? ad = some y) (h1c : y.oneCell' = true) (hB : B ≤ w.heap.size) (hl : n ≤ 1000000) (hb : bytes ≤ 1000)
    (h : ∀ v' w', SoC e 1 B (n + 1) (olds ++ [y]) v' w' → Below B w w' → (∀ b, b < w.heap.size → (n = 0 ∨ v.ownBlock ≠ some b) → w'.heap[b]? = w.heap[b]? ∧ v'.ownBlock ≠ some b) → w.heap.size ≤ w'.heap.size → K (a.put o.dst v') w') : o.wp P a w K Q := by
  obtain ⟨v', w', hr, h8, h9, h10, h11⟩ := run_app_soU (P := P) w t o.type e i z bytes h1 h2 h3 h4 h5 h6 hso hn0 ad c y hc h1c hB hl hb
  unfold Oper.wp execOp
  simp only [ho, resolve, invoke, builtin, Sem.run_bind, Sem.run_pure, Result.andThen_ok, List.map_toArray, List.map_cons, List.map_nil, hs, hx, hr]
  exact h v' w' h8 h9 h10 h11
theorem rd_kept {w w' : World} {B B' b o n : Nat} {g : Nat → Nat → Value} (h : Rd w B 1 (some ⟨b, o, none⟩) n g) (hb : w'.heap[b]? = w.heap[b]?) (hB : b < B') : Rd w' B' 1 (some ⟨b, o, none⟩) n g := fun h0 => by
  obtain ⟨b', o', e, _, hc⟩ := h h0
  injection e with e
  injection e with e1 e2
  subst e1 e2
  refine ⟨b, o, rfl, hB, fun k hk j hj => ?_⟩
  rw [World.cell?_of_block (a := ⟨b, o + k * 1 + j, none⟩) hb]
  exact hc k hk j hj
/-- A slice's answer, from a world on. -/
def SlR (Y : World) (m : Mdl) (g : Gro) (x : Rng) (u : Value) (w : World) : Prop := ∃ b c, u = .slice (some ⟨b, 0, none⟩) g.z.length c ∧ g.z.length ≤ c ∧ Y.heap.size ≤ b ∧ b < w.heap.size ∧ Rd w w.heap.size 1 (some ⟨b, 0, none⟩) g.z.length (rU8 (slL m g x))
theorem slr_grow {P : Program} {f : FuncId} {args : Array Value} {Y w : World} {m : Mdl} {g : Gro} {x : Rng} (hC : Cl Y w) (h0 : 0 < g.z.length) (h : Calls P f args w (RetRs m g x w)) : Calls P f args w fun e w' => ∃ u, e = .returned u ∧ Le w w' ∧ Box (SlR Y m g x) u w' :=
  h.mono fun _ _ ⟨b, c, he, hc, hb, hr, hl⟩ => ⟨_, he, hl, fun _ h3 => ⟨b, c, rfl, hc, Nat.le_trans hC.le.size hb, by
    obtain ⟨b', o', e, hlt, _⟩ := hr h0
    injection e with e
    injection e with e1 e2
    subst e1
    exact Nat.lt_of_lt_of_le hlt h3.size, (hr.below h3).more h3.size⟩⟩
/-- A list of slices under way. -/
structure PrL (B : Nat) (m : Mdl) (g : Gro) (cuts : List Int) (v : Value) (n : Nat) (S : Nat → Value) (w : World) : Prop where
  so : SoC 58 1 B n ((List.range n).map S) v w
  z : n = 0 → ∃ b, v = .slice (some ⟨b, 0, none⟩) 0 0
  sl : ∀ i, i < n → ∃ b c, S i = .slice (some ⟨b, 0, none⟩) g.z.length c ∧ b < w.heap.size ∧ v.ownBlock ≠ some b ∧ Rd w w.heap.size 1 (some ⟨b, 0, none⟩) g.z.length (rU8 (slL m g (cutR cuts i)))
theorem PrL.below {B : Nat} {m : Mdl} {g : Gro} {cuts : List Int} {v : Value} {n : Nat} {S : Nat → Value} {w w' : World} (h : PrL B m g cuts v n S w) (hb : Below w.heap.size w w') : PrL B m g cuts v n S w' :=
  ⟨h.so.over hb, h.z, fun i hi => by
    obtain ⟨b, c, h1, h2, h3, h4⟩ := h.sl i hi
    exact ⟨b, c, h1, Nat.lt_of_lt_of_le h2 hb.size, h3, (h4.below hb).more hb.size⟩⟩
theorem PrL.more {B : Nat} {m : Mdl} {g : Gro} {cuts : List Int} {v v' : Value} {n : Nat} {S : Nat → Value} {w w' Y : World} (h : PrL B m g cuts v n S w) (hY : ∀ b, v.ownBlock = some b → 0 < n → b < Y.heap.size) {y : Value} (hy : SlR Y m g (cutR cuts n) y w)
    (hso : SoC 58 1 B (n + 1) ((List.range n).map S ++ [y]) v' w') (hk : ∀ b, b < w.heap.size → (n = 0 ∨ v.ownBlock ≠ some b) → w'.heap[b]? = w.heap[b]? ∧ v'.ownBlock ≠ some b) (hs : w.heap.size ≤ w'.heap.size) : PrL B m g cuts v' (n + 1) (fun i => if i = n then y else S i) w' := by
  refine ⟨?_, fun h0 => absurd h0 (by omega), fun i hi => ?_⟩
  · have e : ((List.range (n + 1)).map fun i => if i = n then y else S i) = (List.range n).map S ++ [y] := by
      rw [List.range_succ, List.map_append, List.map_singleton, if_pos rfl]
      congr 1
      refine List.map_congr_left fun i hi => ?_
      rw [if_neg (by have := List.mem_range.1 hi; omega)]
    rw [e]
    exact hso
  · by_cases hin : i = n
    · subst hin
      obtain ⟨b, c, h1, _, h3, h4, h5⟩ := hy
      simp only [if_pos]
      have hq : i = 0 ∨ v.ownBlock ≠ some b := by
        by_cases h0 : i = 0
        · exact .inl h0
        · refine .inr fun he => ?_
          have := hY b he (by omega)
          omega
      obtain ⟨k1, k2⟩ := hk b h4 hq
      exact ⟨b, c, h1, by omega, k2, rd_kept h5 k1 (by omega)⟩
    · obtain ⟨b, c, h1, h2, h3, h4⟩ := h.sl i (by omega)
      simp only [if_neg hin]
      obtain ⟨k1, k2⟩ := hk b h2 (.inr h3)
      exact ⟨b, c, h1, by omega, k2, rd_kept h4 k1 (by omega)⟩
def RetPp (m : Mdl) (g : Gro) (cuts : List Int) (w : World) (e : Ending) (w' : World) : Prop :=
  ∃ A c n, ∃ S : Nat → Value, e = .returned (.slice A n c) ∧ n = cuts.length - 1 ∧ Rd w' w'.heap.size 1 A n (fun i _ => S i) ∧ (∀ i, i < n → ∃ b c, S i = .slice (some ⟨b, 0, none⟩) g.z.length c ∧ Rd w' w'.heap.size 1 (some ⟨b, 0, none⟩) g.z.length (rU8 (slL m g (cutR cuts i)))) ∧ Below w.heap.size w w'
theorem ct_ok {g : Gro} {cuts : List Int} (h : ctE g cuts = 0) : cuts.length ≤ 500 ∧ ∀ j, j < cuts.length → ctB g cuts j = false := by
  unfold ctE at h
  split at h
  · cases h
  · split at h
    · cases h
    · rename_i h1 h2
      refine ⟨by omega, fun j hj => ?_⟩
      rw [Bool.not_eq_true, List.any_eq_false] at h2
      have := h2 j (List.mem_range.2 hj)
      simpa using this
set_option maxRecDepth 100000 in
set_option maxHeartbeats 4000000 in
theorem refCuts_any (g : Gro) (cuts : List Int) (A Z F C : Option Addr) (a c d q : Nat) (w : World) (B : Nat) (hB : B ≤ w.heap.size) (hg : GroIn w B g A Z F) (hC : Rd w B 1 C cuts.length (rI cuts)) (hl : cuts.length ≤ 1000) (hr : 0 < g.r.length) :
    Calls Tryz.prog 20 #[.agg (grA g A Z F a c d), .slice C cuts.length q] w fun e w' => e = .returned (I (ctE g cuts)) ∧ Below w.heap.size w w' := by
  have HC : Hid (∀ V, Below w.heap.size w V → Rd V B 1 C cuts.length (rI cuts)) := fun V hV => hC.below (hV.mono hB)
  have E1 : Hid (∀ V, Below w.heap.size w V → Calls Tryz.prog 22 #[.agg (grA g A Z F a c d)] V fun e w' => e = .returned (.tuple #[I (at0 g.r 0).lo, I (lastX g.r)]) ∧ Below V.heap.size V w') := fun V hV => refEnds_any g A Z F a c d V B (Nat.le_trans hB hV.size) (hg.below hB hV) hr
  have hfc : Hid (ctE g cuts = if 500 < cuts.length then 5 else if (List.range cuts.length).any (ctB g cuts) then 3 else 0) := rfl
  have HL := Lib.hid hl
  clear hg hB hC hl hr
  obtain ⟨W, hW⟩ : ∃ W, W = (w.alloc (.cells #[.slice A g.r.length a, I g.o, .slice Z g.z.length c, .slice F g.f.length d] 48)) := ⟨_, rfl⟩
  have rowW0 : W.heap[w.heap.size]? = some (.cells #[.slice A g.r.length a, I g.o, .slice Z g.z.length c, .slice F g.f.length d] 48 (0, 0)) := by rw [hW]; exact heap_last _ _ _ rfl
  have yW00 := ovr_cell (W := W) (b := w.heap.size) (o := 0) (v := .slice A g.r.length a) (by rw [cell_of_row _ _ _ _ _ _ rowW0]; rfl)
  have yW01 := ovr_cell (W := W) (b := w.heap.size) (o := 1) (v := I g.o) (by rw [cell_of_row _ _ _ _ _ _ rowW0]; rfl)
  have yW02 := ovr_cell (W := W) (b := w.heap.size) (o := 2) (v := .slice Z g.z.length c) (by rw [cell_of_row _ _ _ _ _ _ rowW0]; rfl)
  have yW03 := ovr_cell (W := W) (b := w.heap.size) (o := 3) (v := .slice F g.f.length d) (by rw [cell_of_row _ _ _ _ _ _ rowW0]; rfl)
  have RrowW0 := Lib.hid (ovr_row rowW0)
  clear rowW0
  have HUW : Hid (∀ u, Below w.heap.size w (ovr W u)) := U1 hW
  have HW := Lib.hid hW
  clear hW
  go_enter Tryz.func20, Tryz.ntmps20
  go_upto_region 1 with (fail)
  rw [← HW.out]
  obtain ⟨u0, hu0⟩ := ovr_self W
  rw [hu0]
  clear hu0
  by_cases h3 : 500 < cuts.length
  · rw [if_pos h3] at hfc
    have d1 : decide ((500 : Int) < (cuts.length : Int)) = true := decide_eq_true (by omega)
    go_wp2_with fail
    go_ret
    exact ⟨by rw [hfc.out]; rfl, HUW.out _⟩
  rw [if_neg h3] at hfc
  have d1 : decide ((500 : Int) < (cuts.length : Int)) = false := decide_eq_false (by omega)
  go_wp2_with fail
  refine (E1.out _ (HUW.out u0)).mono ?_
  rintro e w1 ⟨rfl, hb1⟩
  obtain ⟨u3, rfl⟩ := ovr_next hb1
  clear hb1
  clear d1 h3
  go_wp2_with fail
  go_loopw [7] (fun i wr => ∃ (k : Nat) (u : World), k ≤ cuts.length ∧ i = .int .i64 k ∧ wr = ovr W u ∧ ∀ j, j < k → ctB g cuts j = false) (fun i _ => cuts.length - (intOf i).toNat)
  case atStart => exact ⟨0, u3, by omega, rfl, rfl, fun j hj => absurd hj (by omega)⟩
  case round =>
    obtain ⟨k, u, hkn, rfl, rfl, hall⟩ := hrel
    have HALL := Lib.hid hall
    clear hall
    by_cases hlt : k < cuts.length
    · have HLT := Lib.hid hlt
      obtain ⟨b, o, rfl, _, _⟩ := (HC.out _ (HUW.out u)).int hlt
      have hkm : k < 9223372036854775807 := by have := HL.out; omega
      have hct : Hid (ctB g cuts k = (decide (at0 cuts k < (at0 g.r 0).lo) || (decide (lastX g.r < at0 cuts k) || (decide (0 < k) && decide (at0 cuts k ≤ at0 cuts (k - 1)))))) := rfl
      have HBAD : Hid (ctB g cuts k = true → (List.range cuts.length).any (ctB g cuts) = true) := fun h => List.any_eq_true.2 ⟨k, List.mem_range.2 HLT.out, h⟩
      go_upto_region 7 with fail
      have hbY := ovr_below W u
      obtain ⟨Y, hY⟩ : ∃ Y, Y = ovr W u := ⟨_, rfl⟩
      rw [← hY] at hbY
      rw [← hY]
      have hY' := Lib.hid hY
      clear hY
      have hbY' := Lib.hid hbY
      have reY : ∀ v, ∃ x, ovr Y v = ovr W x := fun v => ovr_reB hbY v
      replace yW00 := tr_cell reY yW00
      replace yW01 := tr_cell reY yW01
      replace yW02 := tr_cell reY yW02
      replace yW03 := tr_cell reY yW03
      replace RrowW0 := Lib.hid (tr_row reY RrowW0.out)
      have HUY : Hid (∀ u, Below w.heap.size w (ovr Y u)) := fun u => by obtain ⟨x, hx⟩ := reY u; rw [hx]; exact HUW.out x
      clear reY hbY
      have HYW := Lib.hid hbY'.out
      have HYB : Hid (Below w.heap.size w Y) := below_self0' HUY.out
      obtain ⟨b', o', he, _, e0⟩ := (HC.out Y HYB.out).int hlt
      obtain ⟨rfl, rfl⟩ : b = b' ∧ o = o' := by simp at he; exact he
      have c0 := ovr_cell e0
      clear he e0
      rcases q1 : decide (at0 cuts k < (at0 g.r 0).lo) with _ | _
      case true =>
        have hf3 : Hid (ctE g cuts = 3) := by show _ = _; rw [hfc.out, if_pos (HBAD.out (by rw [hct.out, q1]; simp))]
        refine wp_region_below_lit (by kernel_rfl) (by kernel_rfl) ?_
        repeat (go_big_quiet_step (fail))
        refine wpQuiet_nil ?_
        intro V hV
        have hbv := Lib.hid (HYB.out.trans (hV.mono HYB.out.size))
        clear hV
        go_wp2_with fail
        go_ret
        exact ⟨by rw [hf3.out]; rfl, hbv.out⟩
      rcases q2 : decide (lastX g.r < at0 cuts k) with _ | _
      case true =>
        have hf3 : Hid (ctE g cuts = 3) := by show _ = _; rw [hfc.out, if_pos (HBAD.out (by rw [hct.out, q1, q2]; simp))]
        refine wp_region_below_lit (by kernel_rfl) (by kernel_rfl) ?_
        repeat (go_big_quiet_step (fail))
        refine wpQuiet_nil ?_
        intro V hV
        have hbv := Lib.hid (HYB.out.trans (hV.mono HYB.out.size))
        clear hV
        go_wp2_with fail
        go_ret
        exact ⟨by rw [hf3.out]; rfl, hbv.out⟩
      by_cases h0 : 0 < k
      · obtain ⟨b', o', he, _, e1⟩ := (HC.out Y HYB.out).int (k := k - 1) (by omega)
        obtain ⟨rfl, rfl⟩ : b = b' ∧ o = o' := by simp at he; exact he
        have c1 := ovr_cell e1
        have d0 : decide (0 < (k : Int)) = true := decide_eq_true (by omega)
        have q0 : decide (0 < k) = true := decide_eq_true h0
        have kk : IntKind.i64.wrap ((k : Int) - 1) = ((k - 1 : Nat) : Int) := by rw [show ((k - 1 : Nat) : Int) = (k : Int) - 1 by omega]; exact IntWalk.i64_in _ (by omega)
        have hk1 : k - 1 < cuts.length := by omega
        clear he h0 e1
        rcases q3 : decide (at0 cuts k ≤ at0 cuts (k - 1)) with _ | _
        case true =>
          have hf3 : Hid (ctE g cuts = 3) := by show _ = _; rw [hfc.out, if_pos (HBAD.out (by rw [hct.out, q1, q2, q0, q3]; simp))]
          refine wp_region_below_lit (by kernel_rfl) (by kernel_rfl) ?_
          repeat (go_big_quiet_step (fail))
          refine wpQuiet_nil ?_
          intro V hV
          have hbv := Lib.hid (HYB.out.trans (hV.mono HYB.out.size))
          clear hV
          go_wp2_with fail
          go_ret
          exact ⟨by rw [hf3.out]; rfl, hbv.out⟩
        have hk1 : Hid (∀ j, j < k + 1 → ctB g cuts j = false) := fun j hj => by
          by_cases hjk : j = k
          · rw [hjk, hct.out, q1, q2, q0, q3]; rfl
          · exact HALL.out j (by omega)
        refine wp_region_below_lit (by kernel_rfl) (by kernel_rfl) ?_
        repeat (go_big_quiet_step (fail))
        refine wpQuiet_nil ?_
        intro V hV
        obtain ⟨v9, hv9⟩ : ∃ v, V = ovr W v := ⟨V, ovr_of (HYW.out.trans (hV.mono HYW.out.size))⟩
        rw [hv9]
        clear hV hv9
        go_wp2_with fail
        exact ⟨⟨k + 1, v9, HLT.out, rfl, rfl, hk1.out⟩, by have := HLT.out; simp [intOf]; omega⟩
      · have d0 : decide (0 < (k : Int)) = false := decide_eq_false (by omega)
        have q0 : decide (0 < k) = false := decide_eq_false h0
        clear h0
        have hk1 : Hid (∀ j, j < k + 1 → ctB g cuts j = false) := fun j hj => by
          by_cases hjk : j = k
          · rw [hjk, hct.out, q1, q2, q0]; rfl
          · exact HALL.out j (by omega)
        refine wp_region_below_lit (by kernel_rfl) (by kernel_rfl) ?_
        repeat (go_big_quiet_step (fail))
        refine wpQuiet_nil ?_
        intro V hV
        obtain ⟨v9, hv9⟩ : ∃ v, V = ovr W v := ⟨V, ovr_of (HYW.out.trans (hV.mono HYW.out.size))⟩
        rw [hv9]
        clear hV hv9
        go_wp2_with fail
        exact ⟨⟨k + 1, v9, HLT.out, rfl, rfl, hk1.out⟩, by have := HLT.out; simp [intOf]; omega⟩
    · obtain rfl : k = cuts.length := by omega
      have hf2 : Hid (ctE g cuts = 0) := by
        show _ = _
        rw [hfc.out, if_neg]
        rw [List.any_eq_true]
        rintro ⟨j, hj, hb⟩
        rw [HALL.out j (List.mem_range.1 hj)] at hb
        cases hb
      go_wp2_with fail
      go_ret
      exact ⟨by rw [hf2.out]; rfl, HUW.out _⟩
def SlRB (Y : World) (m : Mdl) (g : Gro) (x : Rng) (u : Value) (w : World) : Prop := ∃ b' y, u = .slice (some ⟨b', 0, none⟩) 1 1 ∧ w.heap[b']? = some (.cells #[y] 58 (0, 0)) ∧ SlR Y m g x y w
theorem slrb_grow {Y w : World} {m : Mdl} {g : Gro} {x : Rng} {y : Value} (h : Box (SlR Y m g x) y w) : Le w (w.alloc (.cells #[y] 58)) ∧ Box (SlRB Y m g x) (.slice (some ⟨w.heap.size, 0, none⟩) 1 1) (w.alloc (.cells #[y] 58)) := by
  have hl : Le w (w.alloc (.cells #[y] 58)) := (Below.refl _ _).alloc (Nat.le_refl _) _
  exact ⟨hl, fun w3 h3 => ⟨w.heap.size, y, rfl, (h3.block _ (by simp)).trans (heap_alloc_new w _), h w3 (hl.trans h3)⟩⟩
theorem map_flat1 (S : Nat → Value) : ∀ n, (List.range n).map S = flat 1 (fun i _ => S i) n
  | 0 => rfl
  | n + 1 => by
    rw [List.range_succ, List.map_append, flat_succ 1 (by omega), map_flat1 S n]
    rfl
set_option maxRecDepth 100000 in
set_option maxHeartbeats 4000000 in
theorem refPrint_any (m : Mdl) (g : Gro) (cuts : List Int) (A Z F C : Option Addr) (a c d q : Nat) (w : World) (B : Nat) (hB : B ≤ w.heap.size) (hg : GroIn w B g A Z F) (hbr : IBd g.r) (hbf : IBd g.f) (hC : Rd w B 1 C cuts.length (rI cuts)) (hm : okMdl m = true) (ho : okGro g = true) (hct : ctE g cuts = 0) :
    Calls Tryz.prog 21 #[.agg (mdA m), .agg (grA g A Z F a c d), .slice C cuts.length q] w (RetPp m g cuts w) := by
  have HC : Hid (∀ V, Below w.heap.size w V → Rd V B 1 C cuts.length (rI cuts)) := fun V hV => hC.below (hV.mono hB)
  have C4 : Hid (∀ V, Below w.heap.size w V → ∀ fr tp, (at0 g.r 0).lo ≤ fr ∧ fr ≤ tp ∧ tp ≤ lastX g.r → Calls Tryz.prog 50 #[.agg (mdA m), .agg (grA g A Z F a c d), I fr, I tp] V (RetRs m g ⟨fr, tp⟩ V)) := fun V hV fr tp h3 => refSlice_any m g fr tp A Z F a c d V B (Nat.le_trans hB hV.size) (hg.below hB hV) hbr hbf hm ho h3
  obtain ⟨hlen, hall⟩ := ct_ok hct
  have HALL := Lib.hid hall
  have HL := Lib.hid hlen
  have HZ1 : Hid (0 < g.z.length) := (okGro_ok ho).z1
  obtain ⟨i3, hi3, jz0, jz1, jz2⟩ := info_parts sets_info
  clear hg hB hC hbr hbf hm ho hct hlen hall
  obtain ⟨W, hW⟩ : ∃ W, W = ((w.alloc (.cells #[I m.sc, I (m.b 0).lo, I (m.b 0).hi, I (m.b 1).lo, I (m.b 1).hi, I (m.b 2).lo, I (m.b 2).hi, I (m.b 3).lo, I (m.b 3).hi] 26)).alloc (.cells #[.slice A g.r.length a, I g.o, .slice Z g.z.length c, .slice F g.f.length d] 48)) := ⟨_, rfl⟩
  have rowW0 : W.heap[w.heap.size]? = some (.cells #[I m.sc, I (m.b 0).lo, I (m.b 0).hi, I (m.b 1).lo, I (m.b 1).hi, I (m.b 2).lo, I (m.b 2).hi, I (m.b 3).lo, I (m.b 3).hi] 26 (0, 0)) := by rw [hW]; exact heap_before (heap_last _ _ _ rfl)
  have yW00 := ovr_cell (W := W) (b := w.heap.size) (o := 0) (v := I m.sc) (by rw [cell_of_row _ _ _ _ _ _ rowW0]; rfl)
  have yW01 := ovr_cell (W := W) (b := w.heap.size) (o := 1) (v := I (m.b 0).lo) (by rw [cell_of_row _ _ _ _ _ _ rowW0]; rfl)
  have yW02 := ovr_cell (W := W) (b := w.heap.size) (o := 2) (v := I (m.b 0).hi) (by rw [cell_of_row _ _ _ _ _ _ rowW0]; rfl)
  have yW03 := ovr_cell (W := W) (b := w.heap.size) (o := 3) (v := I (m.b 1).lo) (by rw [cell_of_row _ _ _ _ _ _ rowW0]; rfl)
  have yW04 := ovr_cell (W := W) (b := w.heap.size) (o := 4) (v := I (m.b 1).hi) (by rw [cell_of_row _ _ _ _ _ _ rowW0]; rfl)
  have yW05 := ovr_cell (W := W) (b := w.heap.size) (o := 5) (v := I (m.b 2).lo) (by rw [cell_of_row _ _ _ _ _ _ rowW0]; rfl)
  have yW06 := ovr_cell (W := W) (b := w.heap.size) (o := 6) (v := I (m.b 2).hi) (by rw [cell_of_row _ _ _ _ _ _ rowW0]; rfl)
  have yW07 := ovr_cell (W := W) (b := w.heap.size) (o := 7) (v := I (m.b 3).lo) (by rw [cell_of_row _ _ _ _ _ _ rowW0]; rfl)
  have yW08 := ovr_cell (W := W) (b := w.heap.size) (o := 8) (v := I (m.b 3).hi) (by rw [cell_of_row _ _ _ _ _ _ rowW0]; rfl)
  have RrowW0 := Lib.hid (ovr_row rowW0)
  clear rowW0
  have rowW1 : W.heap[w.heap.size + 1]? = some (.cells #[.slice A g.r.length a, I g.o, .slice Z g.z.length c, .slice F g.f.length d] 48 (0, 0)) := by rw [hW]; exact heap_last _ _ _ (by simp)
  have yW10 := ovr_cell (W := W) (b := w.heap.size + 1) (o := 0) (v := .slice A g.r.length a) (by rw [cell_of_row _ _ _ _ _ _ rowW1]; rfl)
  have yW11 := ovr_cell (W := W) (b := w.heap.size + 1) (o := 1) (v := I g.o) (by rw [cell_of_row _ _ _ _ _ _ rowW1]; rfl)
  have yW12 := ovr_cell (W := W) (b := w.heap.size + 1) (o := 2) (v := .slice Z g.z.length c) (by rw [cell_of_row _ _ _ _ _ _ rowW1]; rfl)
  have yW13 := ovr_cell (W := W) (b := w.heap.size + 1) (o := 3) (v := .slice F g.f.length d) (by rw [cell_of_row _ _ _ _ _ _ rowW1]; rfl)
  have RrowW1 := Lib.hid (ovr_row rowW1)
  clear rowW1
  have HUW : Hid (∀ u, Below w.heap.size w (ovr W u)) := U2 hW
  have HW := Lib.hid hW
  clear hW
  have HWB : Hid (Below w.heap.size w W) := below_self0' HUW.out
  go_enter Tryz.func21, Tryz.ntmps21
  go_upto_region 1 with (fail)
  rw [← HW.out]
  obtain ⟨u0, hu0⟩ := ovr_self W
  rw [hu0]
  clear hu0
  go_wp2_with fail
  go_loopw [7, 8] (fun v i wr => ∃ (n : Nat) (S : Nat → Value), i = .int .i64 n ∧ (n = 0 ∨ n + 1 ≤ cuts.length) ∧ PrL W.heap.size m g cuts v n S wr ∧ Below W.heap.size W wr) (fun _ i _ => cuts.length - (intOf i).toNat)
  case atStart => exact ⟨0, fun _ => undef, rfl, .inl rfl, ⟨.inl ⟨rfl, rfl, _, rfl⟩, fun _ => ⟨_, rfl⟩, fun i hi => absurd hi (by omega)⟩, (ovr_below _ _).alloc (ovr_below _ _).size _⟩
  case round =>
    obtain ⟨n, S, rfl, hn, hs, hb⟩ := hrel
    rename World => Y
    have HBY := Lib.hid hb
    have HS := Lib.hid hs
    have HN := Lib.hid hn
    have hkm : n < 9223372036854775806 := by have := HL.out; omega
    clear hs hn
    by_cases hlt : n + 1 < cuts.length
    · skip
      have reY : ∀ v, ∃ x, ovr Y v = ovr W x := fun v => ovr_reB hb v
      have SW_yW00 := Lib.hid yW00
      replace yW00 := tr_cell reY yW00
      have SW_yW01 := Lib.hid yW01
      replace yW01 := tr_cell reY yW01
      have SW_yW02 := Lib.hid yW02
      replace yW02 := tr_cell reY yW02
      have SW_yW03 := Lib.hid yW03
      replace yW03 := tr_cell reY yW03
      have SW_yW04 := Lib.hid yW04
      replace yW04 := tr_cell reY yW04
      have SW_yW05 := Lib.hid yW05
      replace yW05 := tr_cell reY yW05
      have SW_yW06 := Lib.hid yW06
      replace yW06 := tr_cell reY yW06
      have SW_yW07 := Lib.hid yW07
      replace yW07 := tr_cell reY yW07
      have SW_yW08 := Lib.hid yW08
      replace yW08 := tr_cell reY yW08
      have SW_RrowW0 := Lib.hid RrowW0.out
      replace RrowW0 := Lib.hid (tr_row reY RrowW0.out)
      have SW_yW10 := Lib.hid yW10
      replace yW10 := tr_cell reY yW10
      have SW_yW11 := Lib.hid yW11
      replace yW11 := tr_cell reY yW11
      have SW_yW12 := Lib.hid yW12
      replace yW12 := tr_cell reY yW12
      have SW_yW13 := Lib.hid yW13
      replace yW13 := tr_cell reY yW13
      have SW_RrowW1 := Lib.hid RrowW1.out
      replace RrowW1 := Lib.hid (tr_row reY RrowW1.out)
      have HUY : Hid (∀ u, Below w.heap.size w (ovr Y u)) := fun u => by obtain ⟨x, hx⟩ := reY u; rw [hx]; exact HUW.out x
      clear reY hb
      have d1 : decide ((n : Int) + 1 < (cuts.length : Int)) = true := decide_eq_true (by omega)
      have HLT := Lib.hid hlt
      have hYw : Hid (∀ V, Below Y.heap.size Y V → Below w.heap.size w V) := fun V hV => (HWB.out.trans (HBY.out.mono HWB.out.size)).trans (hV.mono (Nat.le_trans HWB.out.size HBY.out.size))
      obtain ⟨b, o, rfl, _, e0⟩ := (HC.out _ (hYw.out Y (Below.refl _ _))).int (k := n) (by omega)
      obtain ⟨b', o', he, _, e1⟩ := (HC.out _ (hYw.out Y (Below.refl _ _))).int (k := n + 1) (by omega)
      obtain ⟨rfl, rfl⟩ : b = b' ∧ o = o' := by simp at he; exact he
      have c0 := ovr_cell e0
      have c1 := ovr_cell e1
      have hord : Hid ((at0 g.r 0).lo ≤ at0 cuts n ∧ at0 cuts n ≤ at0 cuts (n + 1) ∧ at0 cuts (n + 1) ≤ lastX g.r) := by
        have h1 := HALL.out n (by omega)
        have h2 := HALL.out (n + 1) (by omega)
        unfold ctB at h1 h2
        simp only [Bool.or_eq_false_iff, decide_eq_false_iff_not, Nat.add_sub_cancel, Bool.and_eq_false_iff] at h1 h2
        show _ ∧ _ ∧ _
        omega
      have CS : Hid (∀ V, Below Y.heap.size Y V → Calls Tryz.prog 50 #[.agg (mdA m), .agg (grA g A Z F a c d), I (at0 cuts n), I (at0 cuts (n + 1))] V (RetRs m g (cutR cuts n) V)) := fun V hV => C4.out V (hYw.out V hV) _ _ hord.out
      have hlt0 : n < cuts.length := by omega
      clear he e0 e1
      go_upto_region 5 with fail
      refine wp_region_seq2 14 (fun j => if j = 12 then some (SlR Y m g (cutR cuts n)) else if j = 13 then some (SlRB Y m g (cutR cuts n)) else none) (by kernel_rfl) (by kernel_rfl) (by kernel_rfl) (by kernel_rfl) (by kernel_rfl) ?_
      simp only [List.take_succ_cons, List.take_zero, List.drop_succ_cons, List.drop_zero]
      repeat (refine wpG_one rfl rfl rfl ?_; intro K hK; go_big_quiet_op; go_big_quiet_on)
      refine wpG_make (SlR Y m g (cutR cuts n)) rfl rfl (fun w' hw' _ => ?_) (fun u hu => ?_)
      · go_simp
        exact slr_grow hw' HZ1.out (CS.out w' hw'.le)
      obtain ⟨_, _, b1, c1', rfl, _, _, _, _⟩ := hu
      simp only [Act.put, List.setIfInBounds_toArray, List.set_cons_zero, List.set_cons_succ]
      refine wpG_make (SlRB Y m g (cutR cuts n)) rfl rfl (fun w' hw' hk => ?_) (fun u hu => ?_)
      · have hk2 := hk ⟨12, .data⟩ (by simp) rfl _ 29 _ rfl rfl rfl (Nat.lt_of_lt_of_eq (by decide : 29 < 33) rfl) rfl
        go_simp
        exact slrb_grow hk2
      obtain ⟨_, _, b2, y2, rfl, _, _⟩ := hu
      simp only [Act.put, List.setIfInBounds_toArray, List.set_cons_zero, List.set_cons_succ]
      refine wpG_nil (fun w5 hw5 hG => ?_)
      obtain ⟨b4, y, he4, hr4, hy⟩ := Box.now hG.2
      obtain rfl : b2 = b4 := by injection he4 with e1; injection e1 with e2; injection e2
      have h5 := hw5.le
      clear hG hw5 he4
      have hs5 := HS.out.below h5
      have hbs : W.heap.size ≤ w5.heap.size := Nat.le_trans HBY.out.size h5.size
      have hcell : w5.cell? ⟨b2, 0, none⟩ = some y := by rw [cell_of_row _ _ _ _ _ _ hr4]; rfl
      have hone : y.oneCell' = true := by
        obtain ⟨b, c, rfl, _⟩ := hy
        rfl
      refine wpTailIn_cons Wd.wide (by intro c h; cases h) ?_
      refine wp_app_soU _ _ 53 rfl 58 i3 _ 24 Tryz.underlying53 hi3 jz0 jz1 jz2 rfl W.heap.size n ((List.range n).map S) u7 rfl hs5.so hs5.z ⟨b2, 0, none⟩ 1 y rfl hcell hone hbs (by have := HL.out; omega) (by decide) ?_
      intro v' w6 hso6 hb6 hk6 hz6
      refine wpTailIn_cons Wd.wide (by intro c h; cases h) ?_
      refine wp_assign _ v' rfl rfl ?_
      refine wpTailIn_nil ?_
      simp only [Act.put, List.setIfInBounds_toArray, List.set_cons_zero, List.set_cons_succ]
      have hs6 := hs5.more (Y := Y) (fun b hb h0 => by
        rcases HS.out.so with ⟨h1, _⟩ | h1
        · omega
        · exact (h1.lt b hb).2) hy hso6 hk6 hz6
      have hb7 : Below W.heap.size W w6 := (HBY.out.trans (h5.mono HBY.out.size)).trans hb6
      have HS6 := Lib.hid hs6
      have HB6 := Lib.hid hb7
      clear hs5 hbs hr4 hy hcell hone h5 hso6 hb6 hk6 hz6 hs6 hb7
      go_wp2_with fail
      exact ⟨⟨n + 1, _, by rw [Int.natCast_add]; rfl, .inr HLT.out, HS6.out, HB6.out⟩, by have := HLT.out; simp [intOf]; omega⟩
    · have d1 : decide ((n : Int) + 1 < (cuts.length : Int)) = false := decide_eq_false (by omega)
      have hnn : Hid (n = cuts.length - 1) := by show _ = _; have := HN.out; omega
      have hbf := Lib.hid (HWB.out.trans (HBY.out.mono HWB.out.size))
      have hso := HS.out.so
      rw [map_flat1] at hso
      obtain ⟨A7, c7, rfl, _, _, hrd⟩ := hso.rd
      have HRD := Lib.hid hrd
      clear hb hlt hso hrd
      go_wp2_with fail
      go_ret
      exact ⟨A7, c7, n, S, rfl, hnn.out, HRD.out, fun i hi => by
        obtain ⟨b, c, h1, _, _, h4⟩ := HS.out.sl i hi
        exact ⟨b, c, h1, h4⟩, hbf.out⟩
end Go.Proofs.YteibgenkklpoaaaGreat.Un
namespace Go.Proofs.YteibgenkklpoaaaGreat.Un
open Go.RowKit
def usM (g : Gro) : Nat := (lastX g.r - (at0 g.r 0).lo).toNat
theorem us_fin (m : Mdl) (g : Gro) (v : Int) (h0 : 0 ≤ (at0 g.r 0).lo) (h1 : (at0 g.r 0).lo < lastX g.r) : usF m g v = usR (fineG m g v) (at0 g.r 0).lo (usM g) := by
  unfold usF
  rw [show usN g = usM g + 1 from rfl]
  have hl : (at0 g.r 0).lo + (usM g : Int) = lastX g.r := by unfold usM; omega
  have hf : fineG m g v ((at0 g.r 0).lo + (usM g : Int)) = false := by
    unfold fineG
    rw [hl, decide_eq_false (by omega)]
    rfl
  rcases us_rel (fineG m g v) h0 (usM g) with ⟨h2, h3, _⟩ | ⟨h2, _, h3, _⟩
  · unfold usP
    rw [hf, if_neg (by decide), if_pos h2, h3]
  · unfold usP
    rw [hf, if_neg (by decide), if_neg (by omega), h3]
def gdAll (v : Int) (l : List Int) (j : Nat) : Bool := (l.take j).all fun y => !badS v y
theorem gdAll_succ (v : Int) (l : List Int) {j : Nat} (hj : j < l.length) : gdAll v l (j + 1) = (gdAll v l j && !badS v (at0 l j)) := by
  unfold gdAll
  rw [List.take_add_one, List.getElem?_eq_getElem hj, at0_get hj, List.all_append]
  simp
theorem gdAll_end (v : Int) (l : List Int) : gdAll v l l.length = !(l.any (badS v)) := by
  unfold gdAll
  rw [List.take_length, List.not_any_eq_all_not]
/-- The answer of the reference's Usable. -/
def RetUs (m : Mdl) (g : Gro) (v : Int) (w : World) (e : Ending) (w' : World) : Prop :=
  ∃ A c l, e = .returned (.slice A l.length c) ∧ l = usR (fineG m g v) (at0 g.r 0).lo (usM g) ∧ l.length ≤ 3000 ∧ Rd w' w'.heap.size 2 A l.length (rR l) ∧ Below w.heap.size w w'
set_option maxRecDepth 100000 in
set_option maxHeartbeats 4000000 in
theorem refUsable_any (m : Mdl) (g : Gro) (v : Int) (A Z F : Option Addr) (a c d : Nat) (w : World) (B : Nat) (hB : B ≤ w.heap.size) (hg : GroIn w B g A Z F) (hbr : IBd g.r) (hbf : IBd g.f) (hm : okMdl m = true) (ho : okGro g = true) :
    Calls Tryz.prog 24 #[.agg (mdA m), .agg (grA g A Z F a c d), .int .u8 v] w (RetUs m g v w) := by
  have C4 : Hid (∀ V, Below w.heap.size w V → ∀ fr tp, (at0 g.r 0).lo ≤ fr ∧ fr ≤ tp ∧ tp ≤ lastX g.r → Calls Tryz.prog 50 #[.agg (mdA m), .agg (grA g A Z F a c d), I fr, I tp] V (RetRs m g ⟨fr, tp⟩ V)) := fun V hV fr tp h3 => refSlice_any m g fr tp A Z F a c d V B (Nat.le_trans hB hV.size) (hg.below hB hV) hbr hbf hm ho h3
  have hgo := okGro_ok ho
  have E1 : Hid (∀ V, Below w.heap.size w V → Calls Tryz.prog 22 #[.agg (grA g A Z F a c d)] V fun e w' => e = .returned (.tuple #[I (at0 g.r 0).lo, I (lastX g.r)]) ∧ Below V.heap.size V w') := fun V hV => refEnds_any g A Z F a c d V B (Nat.le_trans hB hV.size) (hg.below hB hV) (by have := hgo.r.n2; omega)
  have hf0 := hgo.lo
  have hl0 := hgo.hi
  have hfl := tab_asc hgo.r
  have HZ2 := Lib.hid hgo.z2
  obtain ⟨fst, hfst⟩ : ∃ x, (at0 g.r 0).lo = x := ⟨_, rfl⟩
  obtain ⟨lst, hlst⟩ : ∃ x, lastX g.r = x := ⟨_, rfl⟩
  obtain ⟨N, hN⟩ : ∃ x, usM g = x := ⟨_, rfl⟩
  have hNl : lst = fst + (N : Int) := by rw [← hN, ← hlst, ← hfst]; unfold usM; omega
  have HRET : Hid (∀ e w', (∃ A c l, e = .returned (.slice A l.length c) ∧ l = usR (fineG m g v) fst N ∧ l.length ≤ 3000 ∧ Rd w' w'.heap.size 2 A l.length (rR l) ∧ Below w.heap.size w w') → RetUs m g v w e w') := fun e w' h => by unfold RetUs; rw [hfst, hN]; exact h
  have HFG : Hid (∀ k, k < lst → fineG m g v k = !((slL m g ⟨k, k + 1⟩).any (badS v))) := fun k hk => by
    unfold fineG
    rw [hlst, decide_eq_true hk, show min (k + 1) lst = k + 1 by omega]
    rfl
  rw [hfst, hlst] at C4 E1
  rw [hfst] at hf0 hfl
  rw [hlst] at hl0 hfl
  have HN3 : Hid (N ≤ 3000) := by show _ ≤ _; omega
  have HF0 : Hid (0 ≤ fst ∧ lst ≤ 3000 ∧ lst = fst + (N : Int)) := ⟨hf0, hl0, hNl⟩
  obtain ⟨i0, hi0, iz0, iz1, iz2⟩ := info_parts rng_info
  obtain ⟨fg, hfg⟩ : ∃ f, fineG m g v = f := ⟨_, rfl⟩
  rw [hfg] at HRET HFG
  clear hg hB hgo hbr hbf hm ho hf0 hl0 hfl hfst hlst hN hNl hfg
  obtain ⟨W, hW⟩ : ∃ W, W = ((w.alloc (.cells #[I m.sc, I (m.b 0).lo, I (m.b 0).hi, I (m.b 1).lo, I (m.b 1).hi, I (m.b 2).lo, I (m.b 2).hi, I (m.b 3).lo, I (m.b 3).hi] 26)).alloc (.cells #[.slice A g.r.length a, I g.o, .slice Z g.z.length c, .slice F g.f.length d] 48)) := ⟨_, rfl⟩
  have rowW0 : W.heap[w.heap.size]? = some (.cells #[I m.sc, I (m.b 0).lo, I (m.b 0).hi, I (m.b 1).lo, I (m.b 1).hi, I (m.b 2).lo, I (m.b 2).hi, I (m.b 3).lo, I (m.b 3).hi] 26 (0, 0)) := by rw [hW]; exact heap_before (heap_last _ _ _ rfl)
  have yW00 := ovr_cell (W := W) (b := w.heap.size) (o := 0) (v := I m.sc) (by rw [cell_of_row _ _ _ _ _ _ rowW0]; rfl)
  have yW01 := ovr_cell (W := W) (b := w.heap.size) (o := 1) (v := I (m.b 0).lo) (by rw [cell_of_row _ _ _ _ _ _ rowW0]; rfl)
  have yW02 := ovr_cell (W := W) (b := w.heap.size) (o := 2) (v := I (m.b 0).hi) (by rw [cell_of_row _ _ _ _ _ _ rowW0]; rfl)
  have yW03 := ovr_cell (W := W) (b := w.heap.size) (o := 3) (v := I (m.b 1).lo) (by rw [cell_of_row _ _ _ _ _ _ rowW0]; rfl)
  have yW04 := ovr_cell (W := W) (b := w.heap.size) (o := 4) (v := I (m.b 1).hi) (by rw [cell_of_row _ _ _ _ _ _ rowW0]; rfl)
  have yW05 := ovr_cell (W := W) (b := w.heap.size) (o := 5) (v := I (m.b 2).lo) (by rw [cell_of_row _ _ _ _ _ _ rowW0]; rfl)
  have yW06 := ovr_cell (W := W) (b := w.heap.size) (o := 6) (v := I (m.b 2).hi) (by rw [cell_of_row _ _ _ _ _ _ rowW0]; rfl)
  have yW07 := ovr_cell (W := W) (b := w.heap.size) (o := 7) (v := I (m.b 3).lo) (by rw [cell_of_row _ _ _ _ _ _ rowW0]; rfl)
  have yW08 := ovr_cell (W := W) (b := w.heap.size) (o := 8) (v := I (m.b 3).hi) (by rw [cell_of_row _ _ _ _ _ _ rowW0]; rfl)
  have RrowW0 := Lib.hid (ovr_row rowW0)
  clear rowW0
  have rowW1 : W.heap[w.heap.size + 1]? = some (.cells #[.slice A g.r.length a, I g.o, .slice Z g.z.length c, .slice F g.f.length d] 48 (0, 0)) := by rw [hW]; exact heap_last _ _ _ (by simp)
  have yW10 := ovr_cell (W := W) (b := w.heap.size + 1) (o := 0) (v := .slice A g.r.length a) (by rw [cell_of_row _ _ _ _ _ _ rowW1]; rfl)
  have yW11 := ovr_cell (W := W) (b := w.heap.size + 1) (o := 1) (v := I g.o) (by rw [cell_of_row _ _ _ _ _ _ rowW1]; rfl)
  have yW12 := ovr_cell (W := W) (b := w.heap.size + 1) (o := 2) (v := .slice Z g.z.length c) (by rw [cell_of_row _ _ _ _ _ _ rowW1]; rfl)
  have yW13 := ovr_cell (W := W) (b := w.heap.size + 1) (o := 3) (v := .slice F g.f.length d) (by rw [cell_of_row _ _ _ _ _ _ rowW1]; rfl)
  have RrowW1 := Lib.hid (ovr_row rowW1)
  clear rowW1
  have HUW : Hid (∀ u, Below w.heap.size w (ovr W u)) := U2 hW
  have HW := Lib.hid hW
  clear hW
  have HWB : Hid (Below w.heap.size w W) := below_self0' HUW.out
  go_enter Tryz.func24, Tryz.ntmps24
  go_upto_region 1 with (fail)
  rw [← HW.out]
  obtain ⟨u0, hu0⟩ := ovr_self W
  rw [hu0]
  clear hu0
  have hwX : Hid (Below w.heap.size w ((ovr W u0).alloc (.cells #[] 23))) := (HUW.out u0).alloc (HUW.out u0).size _
  go_upto_region 2 with fail
  refine name_w fun X0 hX0 => ?_
  have hbX : Below W.heap.size W X0 := by rw [hX0]; exact (ovr_below W u0).alloc (ovr_below W u0).size _
  have HXB : Hid (Below w.heap.size w X0) := HWB.out.trans (hbX.mono HWB.out.size)
  clear hX0
  have reX0 : ∀ v, ∃ x, ovr X0 v = ovr W x := fun v => ovr_reB hbX v
  have SW_yW00 := Lib.hid yW00
  replace yW00 := tr_cell reX0 yW00
  have SW_yW01 := Lib.hid yW01
  replace yW01 := tr_cell reX0 yW01
  have SW_yW02 := Lib.hid yW02
  replace yW02 := tr_cell reX0 yW02
  have SW_yW03 := Lib.hid yW03
  replace yW03 := tr_cell reX0 yW03
  have SW_yW04 := Lib.hid yW04
  replace yW04 := tr_cell reX0 yW04
  have SW_yW05 := Lib.hid yW05
  replace yW05 := tr_cell reX0 yW05
  have SW_yW06 := Lib.hid yW06
  replace yW06 := tr_cell reX0 yW06
  have SW_yW07 := Lib.hid yW07
  replace yW07 := tr_cell reX0 yW07
  have SW_yW08 := Lib.hid yW08
  replace yW08 := tr_cell reX0 yW08
  have SW_RrowW0 := Lib.hid RrowW0.out
  replace RrowW0 := Lib.hid (tr_row reX0 RrowW0.out)
  have SW_yW10 := Lib.hid yW10
  replace yW10 := tr_cell reX0 yW10
  have SW_yW11 := Lib.hid yW11
  replace yW11 := tr_cell reX0 yW11
  have SW_yW12 := Lib.hid yW12
  replace yW12 := tr_cell reX0 yW12
  have SW_yW13 := Lib.hid yW13
  replace yW13 := tr_cell reX0 yW13
  have SW_RrowW1 := Lib.hid RrowW1.out
  replace RrowW1 := Lib.hid (tr_row reX0 RrowW1.out)
  have HUX0 : Hid (∀ u, Below w.heap.size w (ovr X0 u)) := fun u => by obtain ⟨x, hx⟩ := reX0 u; rw [hx]; exact HUW.out x
  clear reX0 hbX
  obtain ⟨x0, hx0⟩ := ovr_self X0
  rw [hx0]
  clear hx0
  go_wp2_with fail
  refine (E1.out _ (HUX0.out x0)).mono ?_
  rintro e w1 ⟨rfl, hb1⟩
  obtain ⟨x1, rfl⟩ := ovr_next hb1
  clear hb1
  go_wp2_with fail
  go_loopw [7, 10] (fun q i wr => ∃ (n : Nat), n ≤ N ∧ i = I (fst + n) ∧ SoC 23 2 X0.heap.size (usR fg fst n).length (rc (usR fg fst n)) q wr ∧ Below X0.heap.size X0 wr) (fun _ i _ => (lst - intOf i).toNat)
  case atStart => exact ⟨0, by omega, by simp, .inl ⟨rfl, rfl, _, rfl⟩, ovr_below X0 x1⟩
  case round =>
    obtain ⟨n, hn, rfl, hso, hb⟩ := hrel
    rename World => Y
    have HBY := Lib.hid hb
    have HSO := Lib.hid hso
    obtain ⟨l, hl⟩ : ∃ l, usR fg fst n = l := ⟨_, rfl⟩
    have hll : l.length ≤ n := by rw [← hl]; exact usR_len fg fst n
    rw [hl] at HSO
    have HLL : Hid (l.length ≤ 3000) := by show _ ≤ _; have := HN3.out; omega
    have HLQ := Lib.hid hl
    clear hso hl hll
    by_cases hlt : n < N
    · have HLT := Lib.hid hlt
      have hκ : fst + (n : Int) < lst := by have := HF0.out; omega
      have MEAS : Hid ((lst - intOf (I (fst + n + 1))).toNat < (lst - intOf (I (fst + n))).toNat) := by show _ < _; simp only [intOf]; omega
      have HST0 : Hid (usR fg fst (n + 1) = if fg (fst + n) then (if 0 < l.length ∧ (at0 l (l.length - 1)).hi = fst + n then l.take (l.length - 1) ++ [⟨(at0 l (l.length - 1)).lo, fst + n + 1⟩] else l ++ [⟨fst + n, fst + n + 1⟩]) else l) := by show _ = _; rw [← HLQ.out]; rfl
      have hfgk := HFG.out (fst + n) hκ
      have HK1 : Hid (fst + ((n + 1 : Nat) : Int) = fst + n + 1) := by show _ = _; omega
      have C4n : Hid (∀ V, Below w.heap.size w V → Calls Tryz.prog 50 #[.agg (mdA m), .agg (grA g A Z F a c d), I (fst + n), I (fst + n + 1)] V (RetRs m g ⟨fst + n, fst + n + 1⟩ V)) := fun V hV => C4.out V hV _ _ (by have := HF0.out; omega)
      have hκb : 0 ≤ fst + (n : Int) ∧ fst + (n : Int) < 3000 := by have := HF0.out; omega
      obtain ⟨κ, hκe⟩ : ∃ κ, fst + (n : Int) = κ := ⟨_, rfl⟩
      rw [hκe] at hκ MEAS HST0 hfgk HK1 C4n hκb
      rw [hκe]
      have k1 : IntKind.i64.wrap (κ + 1) = κ + 1 := IntWalk.i64_in _ (by omega)
      have HFK := Lib.hid hfgk
      have HKB := Lib.hid hκb
      clear hlt hfgk hκe hκb
      have d0 := decide_eq_true hκ
      have reY : ∀ v, ∃ x, ovr Y v = ovr X0 x := fun v => ovr_reB hb v
      have SX0_yW00 := Lib.hid yW00
      replace yW00 := tr_cell reY yW00
      have SX0_yW01 := Lib.hid yW01
      replace yW01 := tr_cell reY yW01
      have SX0_yW02 := Lib.hid yW02
      replace yW02 := tr_cell reY yW02
      have SX0_yW03 := Lib.hid yW03
      replace yW03 := tr_cell reY yW03
      have SX0_yW04 := Lib.hid yW04
      replace yW04 := tr_cell reY yW04
      have SX0_yW05 := Lib.hid yW05
      replace yW05 := tr_cell reY yW05
      have SX0_yW06 := Lib.hid yW06
      replace yW06 := tr_cell reY yW06
      have SX0_yW07 := Lib.hid yW07
      replace yW07 := tr_cell reY yW07
      have SX0_yW08 := Lib.hid yW08
      replace yW08 := tr_cell reY yW08
      have SX0_RrowW0 := Lib.hid RrowW0.out
      replace RrowW0 := Lib.hid (tr_row reY RrowW0.out)
      have SX0_yW10 := Lib.hid yW10
      replace yW10 := tr_cell reY yW10
      have SX0_yW11 := Lib.hid yW11
      replace yW11 := tr_cell reY yW11
      have SX0_yW12 := Lib.hid yW12
      replace yW12 := tr_cell reY yW12
      have SX0_yW13 := Lib.hid yW13
      replace yW13 := tr_cell reY yW13
      have SX0_RrowW1 := Lib.hid RrowW1.out
      replace RrowW1 := Lib.hid (tr_row reY RrowW1.out)
      have HUY : Hid (∀ u, Below w.heap.size w (ovr Y u)) := fun u => by obtain ⟨x, hx⟩ := reY u; rw [hx]; exact HUX0.out x
      clear reY hb
      obtain ⟨y0, hy0⟩ := ovr_self Y
      rw [hy0]
      clear hy0
      go_wp2_with fail
      refine (C4n.out _ (HUY.out y0)).mono ?_
      rintro e X ⟨b1, c1, rfl, hc1, hb1, hr1, hbX⟩
      have HBX : Hid (Below X0.heap.size X0 X) := (HBY.out.trans ((ovr_below Y y0).mono HBY.out.size)).trans (hbX.mono (Nat.le_trans HBY.out.size (ovr_below Y y0).size))
      have HSOX : Hid (SoC 23 2 X0.heap.size l.length (rc l) u7 X) := (HSO.out.over (ovr_below Y y0)).over hbX
      have HR1 : Hid (Rd X X.heap.size 1 (some ⟨b1, 0, none⟩) g.z.length (rU8 (slL m g ⟨κ, κ + 1⟩))) := hr1
      clear hr1 hbX hb1 hc1 d0 hκ
      obtain ⟨sl, hsl⟩ : ∃ s, slL m g ⟨κ, κ + 1⟩ = s := ⟨_, rfl⟩
      have hsn : g.z.length = sl.length := by rw [← hsl]; simp [slL]
      rw [hsl] at HR1 HFK
      have HSN := Lib.hid hsn
      have HSL : Hid (g.z.length ≤ 20) := HZ2.out
      clear hsl hsn
      go_wp2_with fail
      go_loopw [11, 13] (fun f i wr => ∃ j : Nat, j ≤ g.z.length ∧ i = .int .i64 j ∧ f = .bool (gdAll v sl j) ∧ wr = X) (fun _ i _ => g.z.length - (intOf i).toNat)
      case atStart => exact ⟨0, by omega, rfl, rfl, rfl⟩
      case round =>
        obtain ⟨j, hj, rfl, rfl, rfl⟩ := hrel
        have hj20 : j ≤ 20 := by have := HSL.out; omega
        by_cases hjl : j < g.z.length
        · have HJ := Lib.hid hjl
          have hgs := Lib.hid (gdAll_succ v sl (j := j) (by rw [← HSN.out]; exact hjl))
          obtain ⟨b', o', he, _, hc⟩ := HR1.out (by omega)
          injection he with he
          injection he with he1 he2
          subst he1 he2
          have e0 := hc j hjl 0 (by omega)
          rw [show 0 + j * 1 + 0 = j by omega] at e0
          unfold rU8 at e0
          have hbs : Hid (badS v (at0 sl j) = decide (bits .andNot .u8 (at0 sl j) v ≠ 0)) := rfl
          obtain ⟨y, hy⟩ : ∃ y, at0 sl j = y := ⟨_, rfl⟩
          rw [hy] at e0 hgs hbs
          clear hc hy
          rcases hq : gdAll v sl j with _ | _
          · rw [hq] at hgs
            clear hq
            go_wp2_with fail
            exact ⟨⟨j + 1, HJ.out, rfl, by rw [hgs.out]; rfl, trivial⟩, by have := HJ.out; simp [intOf]; omega⟩
          · rw [hq] at hgs
            clear hq
            by_cases hz : bits .andNot .u8 y v = 0
            · have hgs2 : Hid (gdAll v sl (j + 1) = true) := by show _ = _; rw [hgs.out, hbs.out, hz]; rfl
              go_wp2_with fail
              exact ⟨⟨j + 1, HJ.out, rfl, by rw [hgs2.out], trivial⟩, by have := HJ.out; simp [intOf]; omega⟩
            · have hgs2 : Hid (gdAll v sl (j + 1) = false) := by show _ = _; rw [hgs.out, hbs.out, decide_eq_true hz]; rfl
              have hz2 : (bits .andNot .u8 y v == 0) = false := by simpa using hz
              go_wp2_with fail
              exact ⟨⟨j + 1, HJ.out, rfl, by rw [hgs2.out], trivial⟩, by have := HJ.out; simp [intOf]; omega⟩
        · obtain rfl : j = g.z.length := by omega
          have hge : gdAll v sl g.z.length = fg κ := by rw [HSN.out, gdAll_end, HFK.out]
          rw [hge]
          clear hj20 hjl hj hge
          rcases hfk : fg κ with _ | _
          · rw [hfk, if_neg (by decide)] at HST0
            clear hfk
            go_wp2_with fail
            go_roundw
            case rel => exact ⟨n + 1, HLT.out, by rw [HK1.out], by rw [HST0.out]; exact HSOX.out, HBX.out⟩
            case measure => exact MEAS.out
          rw [hfk, if_pos rfl] at HST0
          clear hfk
          by_cases hl0 : 0 < l.length
          · obtain ⟨p, x, hpx⟩ : ∃ p x, l = p ++ [x] := ⟨l.dropLast, l.getLast (by intro e; rw [e] at hl0; exact absurd hl0 (Nat.lt_irrefl _)), (List.dropLast_concat_getLast _).symm⟩
            obtain ⟨gb, cap, hv, hg1, hg2, ho⟩ := soc_own HSOX.out hl0
            have hlp : l.length = p.length + 1 := by rw [hpx]; simp
            have hlast : at0 l (l.length - 1) = x := by rw [hlp, Nat.add_sub_cancel, hpx, at0_last]
            have htake : l.take (l.length - 1) = p := by rw [hlp, Nat.add_sub_cancel, hpx, List.take_left]
            rw [hlast, htake] at HST0
            have hc1 : wr.cell? ⟨gb, p.length * 2 + 1, none⟩ = some (I x.hi) := by
              rw [hv] at ho
              rw [ho.cellAt _ (by omega), hpx]
              exact rc_get' p x
            have hp9 : p.length ≤ 3000 := by have := HLL.out; omega
            have HO := Lib.hid ho
            have HG1 := Lib.hid hg1
            have HLP := Lib.hid hlp
            have HPX := Lib.hid hpx
            have HL0 := Lib.hid hl0
            subst hv
            rw [hlp]
            clear ho hg1 hg2 hlp hpx hl0 hlast htake
            by_cases hhi : x.hi = κ
            · have hfz : wr.frozen? ⟨gb, p.length * 2 + 1, none⟩ = false := HO.out.frozenAt _
              have HST : Hid (usR fg fst (n + 1) = p ++ [⟨x.lo, κ + 1⟩]) := by show _ = _; rw [HST0.out, if_pos ⟨HL0.out, hhi⟩]
              rw [hhi] at hc1
              clear hhi
              go_wp2_with fail
              have hst := HO.out.stored (p.length * 2 + 1) (I (κ + 1))
              go_roundw
              case rel =>
                refine ⟨n + 1, HLT.out, by rw [HK1.out], ?_, HBX.out.setCell HG1.out _⟩
                rw [HST.out]
                refine .inr ?_
                have h9 := hst.1
                rw [HPX.out, rc_set'] at h9
                simpa using h9
              case measure => exact MEAS.out
            · have HST : Hid (usR fg fst (n + 1) = l ++ [⟨κ, κ + 1⟩]) := by show _ = _; rw [HST0.out, if_neg (fun h => hhi h.2)]
              have hbq2 : (x.hi == κ) = false := by simpa using hhi
              have HSO9 : Hid (SoC 23 2 X0.heap.size (p.length + 1) (rc l) (.slice (some ⟨gb, 0, none⟩) (p.length + 1) cap) wr) := by
                have h9 := HSOX.out
                rw [HLP.out] at h9
                exact h9
              have HLEN : Hid (l.length = p.length + 1) := HLP.out
              go_wp2_with (with_reducible show wpList _ _ _ (⟨some 78, _, _, _, _, _⟩ :: _) _ _; refine Hid.out ?_)
              refine Lib.hid ?_
              refine wpList_app_soc rfl _ _ 27 rfl 23 i0 _ 2 16 Tryz.underlying27 hi0 iz0 iz1 iz2 rfl (by decide) X0.heap.size (p.length + 1) (rc l) _ rfl (HSO9.out.over ((Below.refl _ _).alloc (Nat.le_refl _) _)) ⟨wr.heap.size, 0, none⟩ 1 [I κ, I (κ + 1)] rfl rfl (cells_row (heap_last _ _ _ rfl)) (by simp [Value.oneCell']) (by have := HBX.out.size; simp; omega) (by have := HLL.out; have := HLEN.out; omega) (by decide) ?_
              intro v' w2 hso2 hb2
              have HB2 : Hid (Below X0.heap.size X0 w2) := (HBX.out.alloc HBX.out.size _).trans hb2
              have HSO3 := Lib.hid hso2
              clear hso2 hb2
              go_wp2_with fail
              go_roundw
              case rel => exact ⟨n + 1, HLT.out, by rw [HK1.out], by rw [HST.out, List.length_append, rc_app, HLEN.out]; exact HSO3.out, HB2.out⟩
              case measure => exact MEAS.out
          · have hl0' : l.length = 0 := by omega
            have HST : Hid (usR fg fst (n + 1) = l ++ [⟨κ, κ + 1⟩]) := by show _ = _; rw [HST0.out, if_neg (fun h => hl0 h.1)]
            obtain ⟨A7, c7, rfl, _⟩ := (show SoC 23 2 X0.heap.size l.length (flat 2 (rR l) l.length) u7 wr by rw [← rc_flat]; exact HSOX.out).rd
            have HSO9 : Hid (SoC 23 2 X0.heap.size 0 (rc l) (.slice A7 0 c7) wr) := by
              have h9 := HSOX.out
              rw [hl0'] at h9
              exact h9
            have HLEN : Hid (l.length = 0) := hl0'
            rw [hl0']
            clear hl0 hl0'
            go_wp2_with (with_reducible show wpList _ _ _ (⟨some 78, _, _, _, _, _⟩ :: _) _ _; refine Hid.out ?_)
            refine Lib.hid ?_
            refine wpList_app_soc rfl _ _ 27 rfl 23 i0 _ 2 16 Tryz.underlying27 hi0 iz0 iz1 iz2 rfl (by decide) X0.heap.size (0) (rc l) _ rfl (HSO9.out.over ((Below.refl _ _).alloc (Nat.le_refl _) _)) ⟨wr.heap.size, 0, none⟩ 1 [I κ, I (κ + 1)] rfl rfl (cells_row (heap_last _ _ _ rfl)) (by simp [Value.oneCell']) (by have := HBX.out.size; simp; omega) (by have := HLL.out; have := HLEN.out; omega) (by decide) ?_
            intro v' w2 hso2 hb2
            have HB2 : Hid (Below X0.heap.size X0 w2) := (HBX.out.alloc HBX.out.size _).trans hb2
            have HSO3 := Lib.hid hso2
            clear hso2 hb2
            go_wp2_with fail
            go_roundw
            case rel => exact ⟨n + 1, HLT.out, by rw [HK1.out], by rw [HST.out, List.length_append, rc_app, HLEN.out]; exact HSO3.out, HB2.out⟩
            case measure => exact MEAS.out
    · obtain rfl : n = N := by omega
      have hbf := Lib.hid (HXB.out.trans (HBY.out.mono HXB.out.size))
      have hlN : ¬ fst + (n : Int) < lst := by have := HF0.out; omega
      obtain ⟨A7, c7, rfl, hc7, _, hrd⟩ := (show SoC 23 2 X0.heap.size l.length (flat 2 (rR l) l.length) u7 Y by rw [← rc_flat]; exact HSO.out).rd
      have HRD := Lib.hid hrd
      have d0 := decide_eq_false hlN
      clear hb hrd hlt
      go_wp2_with fail
      go_ret
      exact HRET.out _ _ ⟨A7, c7, l, rfl, HLQ.out.symm, HLL.out, HRD.out, hbf.out⟩
end Go.Proofs.YteibgenkklpoaaaGreat.Un
namespace Go.Proofs.YteibgenkklpoaaaGreat.Un
open Go.RowKit
def wdB (g : Gro) : Bool := decide (70 < g.r.length) || (decide (70 < g.z.length) || decide (70 < g.f.length))
set_option maxRecDepth 100000 in
set_option maxHeartbeats 1000000 in
theorem wide_any (g : Gro) (A Z F : Option Addr) (a c d : Nat) (w : World) : Calls Tryz.prog 15 #[.agg (grA g A Z F a c d)] w fun e w' => e = .returned (.bool (wdB g)) ∧ Below w.heap.size w w' := by
  have hf : Hid (wdB g = (decide (70 < g.r.length) || (decide (70 < g.z.length) || decide (70 < g.f.length)))) := rfl
  obtain ⟨W, hW⟩ : ∃ W, W = (w.alloc (.cells #[.slice A g.r.length a, I g.o, .slice Z g.z.length c, .slice F g.f.length d] 48)) := ⟨_, rfl⟩
  have rowW0 : W.heap[w.heap.size]? = some (.cells #[.slice A g.r.length a, I g.o, .slice Z g.z.length c, .slice F g.f.length d] 48 (0, 0)) := by rw [hW]; exact heap_last _ _ _ rfl
  have yW00 := ovr_cell (W := W) (b := w.heap.size) (o := 0) (v := .slice A g.r.length a) (by rw [cell_of_row _ _ _ _ _ _ rowW0]; rfl)
  have yW01 := ovr_cell (W := W) (b := w.heap.size) (o := 1) (v := I g.o) (by rw [cell_of_row _ _ _ _ _ _ rowW0]; rfl)
  have yW02 := ovr_cell (W := W) (b := w.heap.size) (o := 2) (v := .slice Z g.z.length c) (by rw [cell_of_row _ _ _ _ _ _ rowW0]; rfl)
  have yW03 := ovr_cell (W := W) (b := w.heap.size) (o := 3) (v := .slice F g.f.length d) (by rw [cell_of_row _ _ _ _ _ _ rowW0]; rfl)
  have RrowW0 := Lib.hid (ovr_row rowW0)
  clear rowW0
  have HUW : Hid (∀ u, Below w.heap.size w (ovr W u)) := U1 hW
  have HW := Lib.hid hW
  clear hW
  go_enter Tryz.func15, Tryz.ntmps15
  go_upto_region 1 with (fail)
  rw [← HW.out]
  obtain ⟨u0, hu0⟩ := ovr_self W
  rw [hu0]
  clear hu0
  by_cases h1 : 70 < g.r.length
  · have d1 : decide ((70 : Int) < (g.r.length : Int)) = true := decide_eq_true (by omega)
    rw [decide_eq_true h1] at hf
    have h1' : (70 : Int) < (g.r.length : Int) := by omega
    go_wp2_with fail
    go_ret
    exact ⟨by rw [hf.out]; rfl, HUW.out _⟩
  have d1 : decide ((70 : Int) < (g.r.length : Int)) = false := decide_eq_false (by omega)
  rw [decide_eq_false h1] at hf
  by_cases h2 : 70 < g.z.length
  · have d2 : decide ((70 : Int) < (g.z.length : Int)) = true := decide_eq_true (by omega)
    rw [decide_eq_true h2] at hf
    have h2' : (70 : Int) < (g.z.length : Int) := by omega
    go_wp2_with fail
    go_ret
    exact ⟨by rw [hf.out]; rfl, HUW.out _⟩
  have d2 : decide ((70 : Int) < (g.z.length : Int)) = false := decide_eq_false (by omega)
  rw [decide_eq_false h2] at hf
  by_cases h3 : 70 < g.f.length
  · have d3 : decide ((70 : Int) < (g.f.length : Int)) = true := decide_eq_true (by omega)
    rw [decide_eq_true h3] at hf
    have h3' : (70 : Int) < (g.f.length : Int) := by omega
    go_wp2_with fail
    go_ret
    exact ⟨by rw [hf.out]; rfl, HUW.out _⟩
  have d3 : decide ((70 : Int) < (g.f.length : Int)) = false := decide_eq_false (by omega)
  rw [decide_eq_false h3] at hf
  go_wp2_with fail
  go_ret
  exact ⟨by rw [hf.out]; rfl, HUW.out _⟩
theorem wd_no {g : Gro} (h : wdB g = false) : g.r.length ≤ 70 ∧ g.z.length ≤ 70 ∧ g.f.length ≤ 70 := by
  unfold wdB at h
  simp only [Bool.or_eq_false_iff, decide_eq_false_iff_not] at h
  omega
theorem GroRd.inn {w : World} {B : Nat} {g : Gro} {A Z F : Option Addr} (h : GroRd w B g A Z F) (hl : g.r.length ≤ 70 ∧ g.z.length ≤ 70 ∧ g.f.length ≤ 70) : GroIn w B g A Z F := ⟨h.r, h.z, h.f, by omega, by omega, by omega⟩
/-- A store into a block that no list of pairs of integers lies in. -/
theorem rd_off {w : World} {q B n : Nat} {T : TypeId} {A : Option Addr} {zs : List Rng} (hq : w.heap[q]? = some (.cells #[.slice none 0 0, I 0, .slice none 0 0, .slice none 0 0] T (0, 0))) (h : Rd w B 2 A n (rR zs)) (cs : Array Value) : Rd (w.setRow q cs) B 2 A n (rR zs) := fun hn => by
  obtain ⟨b, o, hA, hlt, hc⟩ := h hn
  have hne : b ≠ q := by
    rintro rfl
    have e0 := hc 0 hn 0 (by omega)
    have e1 := hc 0 hn 1 (by omega)
    rw [cell_of_row _ _ _ _ _ _ hq] at e0 e1
    rw [show o + 0 * 2 + 0 = o by omega] at e0
    rw [show o + 0 * 2 + 1 = o + 1 by omega] at e1
    match o, e0, e1 with
    | 0, e0, _ => exact absurd e0 (by unfold rR; intro h; injection h with h; cases h)
    | 1, _, e1 => exact absurd e1 (by unfold rR; intro h; injection h with h; cases h)
    | 2, e0, _ => exact absurd e0 (by unfold rR; intro h; injection h with h; cases h)
    | 3, e0, _ => exact absurd e0 (by unfold rR; intro h; injection h with h; cases h)
    | o + 4, e0, _ => simp at e0
  refine ⟨b, o, hA, hlt, fun k hk j hj => ?_⟩
  rw [← hc k hk j hj]
  unfold World.cell?
  rw [setRow_other hne]
theorem growth_info : (Tryz.prog.info? 48).map (fun i => (i.zero, i.size)) = some (some (.agg #[.slice none 0 0, I 0, .slice none 0 0, .slice none 0 0]), 4) := by kernel_rfl
def RetOw (g : Gro) (w : World) (e : Ending) (w' : World) : Prop :=
  ∃ A Z F a c d, e = .returned (.agg (grA g A Z F a c d)) ∧ GroIn w' w'.heap.size g A Z F ∧ Below w.heap.size w w'
set_option maxRecDepth 100000 in
set_option maxHeartbeats 4000000 in
theorem own_any (g : Gro) (A Z F : Option Addr) (a c d : Nat) (w : World) (B : Nat) (hB : B ≤ w.heap.size) (hg : GroIn w B g A Z F) (hl : g.r.length ≤ 70 ∧ g.z.length ≤ 70 ∧ g.f.length ≤ 70) :
    Calls Tryz.prog 16 #[.agg (grA g A Z F a c d)] w (RetOw g w) := by
  have HG : Hid (∀ V, Below w.heap.size w V → GroIn V B g A Z F ∧ B ≤ V.heap.size) := fun V hV => ⟨hg.below hB hV, Nat.le_trans hB hV.size⟩
  have HL := Lib.hid hl
  obtain ⟨i3, hi3, jz0, jz1, jz2⟩ := info_parts knot_info
  have CZ : Hid (∀ V, Below w.heap.size w V → Calls Tryz.prog 8 #[.slice Z g.z.length c] V (RetLc V 2 g.z.length (rR g.z))) := fun V hV => zones_any Z g.z.length c (rR g.z) V B ⟨by unfold maxLen; omega, by omega⟩ (HG.out V hV).2 (HG.out V hV).1.z
  clear hg hB hl
  obtain ⟨W, hW⟩ : ∃ W, W = ((w.alloc (.cells #[.slice A g.r.length a, I g.o, .slice Z g.z.length c, .slice F g.f.length d] 48)).alloc (.cells #[.slice none 0 0, I 0, .slice none 0 0, .slice none 0 0] 48)) := ⟨_, rfl⟩
  have rowW0 : W.heap[w.heap.size]? = some (.cells #[.slice A g.r.length a, I g.o, .slice Z g.z.length c, .slice F g.f.length d] 48 (0, 0)) := by rw [hW]; exact heap_before (heap_last _ _ _ rfl)
  have yW00 := ovr_cell (W := W) (b := w.heap.size) (o := 0) (v := .slice A g.r.length a) (by rw [cell_of_row _ _ _ _ _ _ rowW0]; rfl)
  have yW01 := ovr_cell (W := W) (b := w.heap.size) (o := 1) (v := I g.o) (by rw [cell_of_row _ _ _ _ _ _ rowW0]; rfl)
  have yW02 := ovr_cell (W := W) (b := w.heap.size) (o := 2) (v := .slice Z g.z.length c) (by rw [cell_of_row _ _ _ _ _ _ rowW0]; rfl)
  have yW03 := ovr_cell (W := W) (b := w.heap.size) (o := 3) (v := .slice F g.f.length d) (by rw [cell_of_row _ _ _ _ _ _ rowW0]; rfl)
  have RrowW0 := Lib.hid (ovr_row rowW0)
  clear rowW0
  have rowW1 : W.heap[w.heap.size + 1]? = some (.cells #[.slice none 0 0, I 0, .slice none 0 0, .slice none 0 0] 48 (0, 0)) := by rw [hW]; exact heap_last _ _ _ (by simp)
  have yW10 := ovr_cell (W := W) (b := w.heap.size + 1) (o := 0) (v := .slice none 0 0) (by rw [cell_of_row _ _ _ _ _ _ rowW1]; rfl)
  have yW11 := ovr_cell (W := W) (b := w.heap.size + 1) (o := 1) (v := I 0) (by rw [cell_of_row _ _ _ _ _ _ rowW1]; rfl)
  have yW12 := ovr_cell (W := W) (b := w.heap.size + 1) (o := 2) (v := .slice none 0 0) (by rw [cell_of_row _ _ _ _ _ _ rowW1]; rfl)
  have yW13 := ovr_cell (W := W) (b := w.heap.size + 1) (o := 3) (v := .slice none 0 0) (by rw [cell_of_row _ _ _ _ _ _ rowW1]; rfl)
  have RrowW1 := Lib.hid (ovr_row rowW1)
  clear rowW1
  have HUW : Hid (∀ u, Below w.heap.size w (ovr W u)) := U2 hW
  have HW := Lib.hid hW
  clear hW
  go_enter Tryz.func16, Tryz.ntmps16
  go_upto_region 1 with (fail)
  rw [← HW.out]
  obtain ⟨u0, hu0⟩ := ovr_self W
  rw [hu0]
  clear hu0
  have hbY := ovr_below W u0
  obtain ⟨Y, hY⟩ : ∃ Y, Y = ovr W u0 := ⟨_, rfl⟩
  rw [← hY] at hbY
  rw [← hY]
  have hY' := Lib.hid hY
  clear hY
  have hbY' := Lib.hid hbY
  have reY : ∀ v, ∃ x, ovr Y v = ovr W x := fun v => ovr_reB hbY v
  replace yW00 := tr_cell reY yW00
  replace yW01 := tr_cell reY yW01
  replace yW02 := tr_cell reY yW02
  replace yW03 := tr_cell reY yW03
  replace RrowW0 := Lib.hid (tr_row reY RrowW0.out)
  replace yW10 := tr_cell reY yW10
  replace yW11 := tr_cell reY yW11
  replace yW12 := tr_cell reY yW12
  replace yW13 := tr_cell reY yW13
  replace RrowW1 := Lib.hid (tr_row reY RrowW1.out)
  have HUY : Hid (∀ u, Below w.heap.size w (ovr Y u)) := fun u => by obtain ⟨x, hx⟩ := reY u; rw [hx]; exact HUW.out x
  clear reY hbY
  refine wp_region_seq2 14 (fun j => if j = 0 then some Emp else if j = 3 then some (SlAt Y.heap.size 2 g.r.length (rR g.r)) else if j = 8 then some (SlK 2 g.z.length (rR g.z)) else if j = 9 then some Emp else if j = 12 then some (SlAt Y.heap.size 2 g.f.length (rR g.f)) else none) (by kernel_rfl) (by kernel_rfl) (by kernel_rfl) (by kernel_rfl) (by kernel_rfl) ?_
  simp only [List.take_succ_cons, List.take_zero, List.drop_succ_cons, List.drop_zero]
  refine wpG_make Emp rfl rfl (fun w' hw' _ => ?_) (fun u hu => ?_)
  · go_simp
    exact emp_grow w'
  obtain ⟨_, _, e1, rfl⟩ := hu
  simp only [Act.put, List.setIfInBounds_toArray, List.set_cons_zero, List.set_cons_succ]
  repeat (refine wpG_one rfl rfl rfl ?_; intro K hK; go_big_quiet_op; go_big_quiet_on)
  refine wpG_make (SlAt Y.heap.size 2 g.r.length (rR g.r)) rfl rfl (fun w' hw' _ => ?_) (fun u hu => ?_)
  · obtain ⟨x, rfl⟩ := hw'
    exact app_grow _ _ 46 rfl 88 i3 _ 2 16 Tryz.underlying46 hi3 jz0 jz1 jz2 rfl (by decide) e1 rfl A g.r.length a rfl (rR g.r) ((HG.out _ (HUY.out x)).1.r.more (HG.out _ (HUY.out x)).2) (by have := HL.out; omega) (by decide) (ovr_below Y x).size
  obtain ⟨_, _, A2, a2, rfl, _, _, _⟩ := hu
  simp only [Act.put, List.setIfInBounds_toArray, List.set_cons_zero, List.set_cons_succ]
  repeat (refine wpG_one rfl rfl rfl ?_; intro K hK; go_big_quiet_op; go_big_quiet_on)
  refine wpG_make (SlK 2 g.z.length (rR g.z)) rfl rfl (fun w' hw' _ => ?_) (fun u hu => ?_)
  · obtain ⟨x, rfl⟩ := hw'
    go_simp
    exact own_growK (CZ.out _ (HUY.out x))
  obtain ⟨_, _, Z2, c2, rfl, _, _, _⟩ := hu
  simp only [Act.put, List.setIfInBounds_toArray, List.set_cons_zero, List.set_cons_succ]
  refine wpG_make Emp rfl rfl (fun w' hw' _ => ?_) (fun u hu => ?_)
  · go_simp
    exact emp_grow w'
  obtain ⟨_, _, e2, rfl⟩ := hu
  simp only [Act.put, List.setIfInBounds_toArray, List.set_cons_zero, List.set_cons_succ]
  repeat (refine wpG_one rfl rfl rfl ?_; intro K hK; go_big_quiet_op; go_big_quiet_on)
  refine wpG_make (SlAt Y.heap.size 2 g.f.length (rR g.f)) rfl rfl (fun w' hw' _ => ?_) (fun u hu => ?_)
  · obtain ⟨x, rfl⟩ := hw'
    exact app_grow _ _ 46 rfl 88 i3 _ 2 16 Tryz.underlying46 hi3 jz0 jz1 jz2 rfl (by decide) e2 rfl F g.f.length d rfl (rR g.f) ((HG.out _ (HUY.out x)).1.f.more (HG.out _ (HUY.out x)).2) (by have := HL.out; omega) (by decide) (ovr_below Y x).size
  obtain ⟨_, _, F2, d2, rfl, _, _, _⟩ := hu
  simp only [Act.put, List.setIfInBounds_toArray, List.set_cons_zero, List.set_cons_succ]
  repeat (refine wpG_one rfl rfl rfl ?_; intro K hK; go_big_quiet_op; go_big_quiet_on)
  refine wpG_nil (fun w5 hw5 hG => ?_)
  obtain ⟨F3, d3, hF, _, hrF, _⟩ := Box.now hG.2
  obtain ⟨Z3, c3, hZ, _, _, hrZ⟩ := Box.now hG.1.1.2
  obtain ⟨A3, a3, hA, _, hrA, _⟩ := Box.now hG.1.1.1.2
  injection hF with hF1 hF2 hF3
  injection hZ with hZ1 hZ2 hZ3
  injection hA with hA1 hA2 hA3
  subst hF1 hF3 hZ1 hZ3 hA1 hA3
  clear hG
  obtain ⟨x5, rfl⟩ : ∃ x, w5 = ovr Y x := ⟨w5, ovr_of hw5.le⟩
  have hrow := RrowW1.out x5
  have hbw := HUY.out x5
  clear hw5
  refine wpTailIn_cons Wd.wide (by intro c h; cases h) ?_
  refine wp_store_row 48 _ _ rfl (w.heap.size + 1) rfl _ _ hrow #[.slice A2 g.r.length a2, I g.o, .slice Z2 g.z.length c2, .slice F2 g.f.length d2] rfl (by intro u hu; simp at hu; rcases hu with rfl | rfl | rfl | rfl <;> rfl) rfl (by kernel_rfl) ?_
  refine wpTailIn_nil ?_
  simp only [Act.put]
  have gA := rd_off hrow hrA #[.slice A2 g.r.length a2, I g.o, .slice Z2 g.z.length c2, .slice F2 g.f.length d2]
  have gZ := rd_off hrow hrZ #[.slice A2 g.r.length a2, I g.o, .slice Z2 g.z.length c2, .slice F2 g.f.length d2]
  have gF := rd_off hrow hrF #[.slice A2 g.r.length a2, I g.o, .slice Z2 g.z.length c2, .slice F2 g.f.length d2]
  have hb9 := below_setRow hbw (Nat.le_succ w.heap.size) #[.slice A2 g.r.length a2, I g.o, .slice Z2 g.z.length c2, .slice F2 g.f.length d2]
  go_wp2_with fail
  refine bodyPost_ret (results_cell_only rfl _ _ (w.heap.size + 1) 48 _ (0, 0) _ rfl (setRow_same (hrow)) Tryz.underlying48 rfl (by kernel_rfl)) rfl ?_
  refine ⟨A2, Z2, F2, a2, c2, d2, rfl, ⟨?_, ?_, ?_, ?_, ?_, ?_⟩, hb9⟩
  · rw [setRow_size]; exact gA
  · rw [setRow_size]; exact gZ
  · rw [setRow_size]; exact gF
  · have := HL.out; omega
  · have := HL.out; omega
  · have := HL.out; omega
/-- A growth of one's own. -/
def OwB (g : Gro) (u : Value) (w : World) : Prop := ∃ A Z F a c d, u = .agg (grA g A Z F a c d) ∧ GroIn w w.heap.size g A Z F
theorem OwB.box {g : Gro} {u : Value} {w : World} (h : OwB g u w) : Box (OwB g) u w := fun w' hl => by
  obtain ⟨A, Z, F, a, c, d, hu, hg⟩ := h
  exact ⟨A, Z, F, a, c, d, hu, (hg.r.below hl).more hl.size, (hg.z.below hl).more hl.size, (hg.f.below hl).more hl.size, hg.lr, hg.lz, hg.lf⟩
theorem ow_grow {P : Program} {f : FuncId} {args : Array Value} {w : World} {g : Gro} (h : Calls P f args w (RetOw g w)) : Calls P f args w fun e w' => ∃ u, e = .returned u ∧ Le w w' ∧ Box (OwB g) u w' :=
  h.mono fun _ _ ⟨A, Z, F, a, c, d, he, hg, hb⟩ => ⟨_, he, hb, OwB.box ⟨A, Z, F, a, c, d, rfl, hg⟩⟩
theorem OwB.at {g : Gro} {A Z F : Option Addr} {n1 n2 n3 a c d : Nat} {o : Int} {w : World} (h : OwB g (.agg #[.slice A n1 a, I o, .slice Z n2 c, .slice F n3 d]) w) : GroIn w w.heap.size g A Z F := by
  obtain ⟨A', Z', F', a', c', d', hu, hg⟩ := h
  unfold grA at hu
  simp only [Value.agg.injEq, Array.mk.injEq, List.cons.injEq, Value.slice.injEq] at hu
  obtain ⟨⟨rfl, _⟩, _, ⟨rfl, _⟩, ⟨rfl, _⟩, _⟩ := hu
  exact hg
end Go.Proofs.YteibgenkklpoaaaGreat.Un
