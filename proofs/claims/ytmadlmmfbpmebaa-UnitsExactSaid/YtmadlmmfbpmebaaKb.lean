/- The contract of known: the examples are as the document says. -/
import Derived.Test.YtmadlmmfbpmebaaKa
namespace Go.Proofs.Ytmadlmmfbpmebaa
open Go.RowKit
theorem all3 {P : Nat → Prop} (h0 : P 0) (h1 : P 1) (h2 : P 2) : ∀ k, k < 3 → P k
  | 0, _ => h0 | 1, _ => h1 | 2, _ => h2
theorem pick_por (W : World) (k : Nat) (hk : W.heap.size = k) : Calls Try.prog 24 #[I 10, .slice (some ⟨k, 0, none⟩) 3 3] (W.alloc (.cells #[I 2, I 0, I 1] 3)) fun e w' => ∃ A c, e = .returned (.tuple #[.slice A 3 c, I 0]) ∧ Rd w' w'.heap.size 1 A 3 (rI [6, 0, 4]) ∧ Below W.heap.size W w' := by
  subst hk
  have h := portions_any (some ⟨W.heap.size, 0, none⟩) 3 3 10 [2, 0, 1] (W.alloc (.cells #[I 2, I 0, I 1] 3)) _ rfl (by unfold maxLen; omega) (by simp) (Rd_new (heap_last _ _ _ rfl) _ _ _ _ (all3 (all1 rfl) (all1 rfl) (all1 rfl)))
  rw [ex3] at h
  refine h.mono ?_
  rintro e w' ⟨A, n, c, rfl, hn, _, hr, hb⟩
  have hn : n = 3 := hn
  subst hn
  exact ⟨A, c, rfl, hr, under2 hb⟩
theorem pick_bal (W : World) (k : Nat) (hk : W.heap.size = k) : Calls Try.prog 28 #[.slice (some ⟨k, 0, none⟩) 3 3, .agg #[I 18, I 30]] (W.alloc (.cells #[I 0, I 10, I 3, I 5, I 2, I 9] 38)) fun e w' => ∃ A c, e = .returned (.tuple #[.slice A 3 c, .agg #[I 18, I 24], I 0]) ∧ Rd w' w'.heap.size 2 A 3 (rR [⟨4, 10⟩, ⟨3, 5⟩, ⟨3, 9⟩]) ∧ Below W.heap.size W w' := by
  subst hk
  have h := balance_any (some ⟨W.heap.size, 0, none⟩) 3 3 [⟨0, 10⟩, ⟨3, 5⟩, ⟨2, 9⟩] ⟨18, 30⟩ (W.alloc (.cells #[I 0, I 10, I 3, I 5, I 2, I 9] 38)) _ rfl (by unfold maxLen; omega) (by simp) (Rd_new (heap_last _ _ _ rfl) _ _ _ _ (all3 (all2 rfl rfl) (all2 rfl rfl) (all2 rfl rfl)))
  rw [ex5] at h
  refine h.mono ?_
  rintro e w' ⟨A, n, c, rfl, hn, _, hr, hb⟩
  have hn : n = 3 := hn
  subst hn
  exact ⟨A, c, rfl, hr, under2 hb⟩
theorem hill_rd (W : World) : Rd (W.alloc (.cells #[I 0, I 0, I 10, I 5, I 20, I 0] 50)) (W.alloc (.cells #[I 0, I 0, I 10, I 5, I 20, I 0] 50)).heap.size 2 (some ⟨W.heap.size, 0, none⟩) 3 (rR hillT) :=
  Rd_new (heap_last _ _ _ rfl) _ _ _ _ (all3 (all2 rfl rfl) (all2 rfl rfl) (all2 rfl rfl))
theorem pick_whe (W : World) (k : Nat) (hk : W.heap.size = k) : Calls Try.prog 41 #[.slice (some ⟨k, 0, none⟩) 3 3, .agg #[I 2, I 4]] (W.alloc (.cells #[I 0, I 0, I 10, I 5, I 20, I 0] 50)) fun e w' => ∃ A c, e = .returned (.tuple #[.slice A 2 c, I 0]) ∧ Rd w' w'.heap.size 2 A 2 (rR [⟨4, 8⟩, ⟨12, 16⟩]) ∧ Below W.heap.size W w' := by
  subst hk
  have h := where2_any (some ⟨W.heap.size, 0, none⟩) 3 3 hillT ⟨2, 4⟩ _ _ rfl (by unfold maxLen; omega) (Nat.le_refl _) (hill_rd W)
  rw [ex6] at h
  refine h.mono ?_
  rintro e w' ⟨A, n, c, rfl, hn, _, hr, hb⟩
  have hn : n = 2 := hn
  subst hn
  exact ⟨A, c, rfl, hr, under2 hb⟩
theorem pick_val (W : World) (k : Nat) (hk : W.heap.size = k) : Calls Try.prog 33 #[.slice (some ⟨k, 0, none⟩) 3 3, .agg #[I 3, I 12]] (W.alloc (.cells #[I 0, I 0, I 10, I 5, I 20, I 0] 50)) fun e w' => e = .returned (.tuple #[.agg #[I 1, I 5], I 0]) ∧ Below W.heap.size W w' := by
  subst hk
  have h := value2_any (some ⟨W.heap.size, 0, none⟩) 3 3 hillT ⟨3, 12⟩ _ _ rfl (by unfold maxLen; omega) (Nat.le_refl _) (hill_rd W)
  rw [ex7] at h
  refine h.mono ?_
  rintro e w' ⟨rfl, hb⟩
  exact ⟨rfl, under2 hb⟩
theorem pick_sI (A : Option Addr) (c : Nat) (X W : World) (k : Nat) (hk : W.heap.size = k) (hX : Below X.heap.size X W) (hx : Rd X X.heap.size 1 A 3 (rI [6, 0, 4])) : Calls Try.prog 26 #[.slice A 3 c, .slice (some ⟨k, 0, none⟩) 3 3] (W.alloc (.cells #[I 6, I 0, I 4] 3)) fun e w' => e = .returned (.bool true) ∧ Below W.heap.size W w' := by
  subst hk
  have h := sameI_yes A (some ⟨W.heap.size, 0, none⟩) 3 c 3 [6, 0, 4] (W.alloc (.cells #[I 6, I 0, I 4] 3)) X.heap.size _ rfl (by omega) (by have := hX.size; simp; omega) (Nat.le_refl _) (hx.below (hX.alloc hX.size _)) ((Rd_new (heap_last _ _ _ rfl) _ _ _ _ (all3 (all1 rfl) (all1 rfl) (all1 rfl))))
  refine h.mono ?_
  rintro e w' ⟨rfl, hb⟩
  exact ⟨rfl, under2 hb⟩
theorem pick_sP (A : Option Addr) (c : Nat) (X W : World) (k : Nat) (hk : W.heap.size = k) (hX : Below X.heap.size X W) (hx : Rd X X.heap.size 2 A 3 (rR [⟨4, 10⟩, ⟨3, 5⟩, ⟨3, 9⟩])) : Calls Try.prog 30 #[.slice A 3 c, .slice (some ⟨k, 0, none⟩) 3 3] (W.alloc (.cells #[I 4, I 10, I 3, I 5, I 3, I 9] 38)) fun e w' => e = .returned (.bool true) ∧ Below W.heap.size W w' := by
  subst hk
  have h := sameR_yes A (some ⟨W.heap.size, 0, none⟩) 3 c 3 [⟨4, 10⟩, ⟨3, 5⟩, ⟨3, 9⟩] (W.alloc (.cells #[I 4, I 10, I 3, I 5, I 3, I 9] 38)) X.heap.size _ rfl (by omega) (by have := hX.size; simp; omega) (Nat.le_refl _) (hx.below (hX.alloc hX.size _)) ((Rd_new (heap_last _ _ _ rfl) _ _ _ _ (all3 (all2 rfl rfl) (all2 rfl rfl) (all2 rfl rfl))))
  refine h.mono ?_
  rintro e w' ⟨rfl, hb⟩
  exact ⟨rfl, under2 hb⟩
theorem pick_sW (A : Option Addr) (c : Nat) (X W : World) (k : Nat) (hk : W.heap.size = k) (hX : Below X.heap.size X W) (hx : Rd X X.heap.size 2 A 2 (rR [⟨4, 8⟩, ⟨12, 16⟩])) : Calls Try.prog 30 #[.slice A 2 c, .slice (some ⟨k, 0, none⟩) 2 2] (W.alloc (.cells #[I 4, I 8, I 12, I 16] 38)) fun e w' => e = .returned (.bool true) ∧ Below W.heap.size W w' := by
  subst hk
  have h := sameR_yes A (some ⟨W.heap.size, 0, none⟩) 2 c 2 [⟨4, 8⟩, ⟨12, 16⟩] (W.alloc (.cells #[I 4, I 8, I 12, I 16] 38)) X.heap.size _ rfl (by omega) (by have := hX.size; simp; omega) (Nat.le_refl _) (hx.below (hX.alloc hX.size _)) ((Rd_new (heap_last _ _ _ rfl) _ _ _ _ (all2 (all2 rfl rfl) (all2 rfl rfl))))
  refine h.mono ?_
  rintro e w' ⟨rfl, hb⟩
  exact ⟨rfl, under2 hb⟩
set_option maxRecDepth 100000 in
set_option maxHeartbeats 8000000 in
theorem known_any (w : World) : Calls Try.prog 22 #[] w fun e w' => e = .returned (.bool true) ∧ Below w.heap.size w w' := by
  have c1 : Hid (∀ w, Calls Try.prog 20 #[I (-7), I 5, I 3, .int .u8 3] w fun e w' => e = .returned (.tuple #[I (-12), I 1, I 0]) ∧ Below w.heap.size w w') := fun w => by
    have h := muldiv_any (-7) 5 3 3 w (by omega) (by omega) (by omega)
    rw [ex1] at h; exact h
  have c2 : Hid (∀ w, Calls Try.prog 46 #[.agg #[I 314, I 100], .agg #[I 315, I 100]] w fun e w' => e = .returned (.tuple #[.agg #[I 22, I 7], I 0]) ∧ Below w.heap.size w w') := fun w => by
    have h := simplest2_any ⟨314, 100⟩ ⟨315, 100⟩ w
    rw [ex2] at h; exact h
  have c4 : Hid (∀ w, Calls Try.prog 56 #[.agg #[I 2, I 3], .agg #[I (-4), I 5], I 2] w fun e w' => e = .returned (.tuple #[.agg #[I (-6), I 8], I 0]) ∧ Below w.heap.size w w') := fun w => by
    have h := times_any ⟨2, 3⟩ ⟨-4, 5⟩ 2 w
    rw [ex4] at h; exact h
  have HUw : Hid (∀ u, Below w.heap.size w (ovr w u)) := fun u => ovr_below _ _
  go_enter Try.func22, Try.ntmps22
  go_wp2_with fail
  refine (c1.out _).mono ?_
  rintro e w1 ⟨rfl, hb1⟩
  obtain ⟨u1, rfl⟩ : ∃ u, w1 = ovr w u := ⟨w1, ovr_of hb1⟩
  clear hb1
  go_wp2_with fail
  refine (c2.out _).mono ?_
  rintro e w1 ⟨rfl, hb1⟩
  obtain ⟨u2, rfl⟩ := ovr_next hb1
  clear hb1
  go_upto_region 3 with (fail)
  obtain ⟨X1, hX1⟩ : ∃ X1, X1 = ((ovr w u2).alloc (.cells #[I 22, I 7] 71)) := ⟨_, rfl⟩
  have reX1 : ∀ v, ∃ x, ovr X1 v = ovr w x := fun v => ovr_re1 hX1
  have rowX10 : X1.heap[(ovr w u2).heap.size]? = some (.cells #[I 22, I 7] 71 (0, 0)) := by rw [hX1]; exact heap_last _ _ _ rfl
  have yX100 := ovr_cell (W := X1) (b := (ovr w u2).heap.size) (o := 0) (v := I 22) (by rw [cell_of_row _ _ _ _ _ _ rowX10]; rfl)
  have yX101 := ovr_cell (W := X1) (b := (ovr w u2).heap.size) (o := 1) (v := I 7) (by rw [cell_of_row _ _ _ _ _ _ rowX10]; rfl)
  have RrowX10 := Lib.hid (ovr_row rowX10)
  clear rowX10
  have HBX1 : Hid (∀ u, Below w.heap.size w (ovr X1 u)) := fun u => by obtain ⟨x, hx⟩ := reX1 u; rw [hx]; exact ovr_below _ _
  have HUX1 : Hid (∀ u, Below w.heap.size w (ovr X1 u)) := fun u => by obtain ⟨x, hx⟩ := reX1 u; rw [hx]; exact HUw.out x
  clear reX1
  have HX1 := Lib.hid hX1
  clear hX1
  rw [← HX1.out]
  obtain ⟨v1, hv1⟩ := ovr_self X1
  rw [hv1]
  clear hv1
  go_wp2_with fail
  refine (pick_por (ovr X1 v1) _ rfl).mono ?_
  rintro e w1 ⟨A1, d1, rfl, hr1, hb1⟩
  obtain ⟨u3, rfl⟩ := ovr_next hb1
  clear hb1
  go_upto_region 4 with (fail)
  have hbX2 := ovr_below X1 u3
  obtain ⟨X2, hX2⟩ : ∃ X2, X2 = ovr X1 u3 := ⟨_, rfl⟩
  rw [← hX2] at hbX2
  rw [← hX2]
  have hX2' := Lib.hid hX2
  clear hX2
  have hbX2' := Lib.hid hbX2
  have reX2 : ∀ v, ∃ x, ovr X2 v = ovr X1 x := fun v => ovr_reB hbX2 v
  replace yX100 := tr_cell reX2 yX100
  replace yX101 := tr_cell reX2 yX101
  replace RrowX10 := Lib.hid (tr_row reX2 RrowX10.out)
  have HUX2 : Hid (∀ u, Below w.heap.size w (ovr X2 u)) := fun u => by obtain ⟨x, hx⟩ := reX2 u; rw [hx]; exact HUX1.out x
  clear reX2 hbX2
  rw [← hX2'.out] at hr1
  have HR1 := Lib.hid hr1
  clear hr1
  obtain ⟨v2, hv2⟩ := ovr_self X2
  rw [hv2]
  clear hv2
  go_wp2_with fail
  refine (pick_sI A1 d1 X2 (ovr X2 v2) _ rfl (ovr_below _ _) HR1.out).mono ?_
  rintro e w1 ⟨rfl, hb1⟩
  obtain ⟨u4, rfl⟩ := ovr_next hb1
  clear hb1
  go_wp2_with fail
  refine (c4.out _).mono ?_
  rintro e w1 ⟨rfl, hb1⟩
  obtain ⟨u5, rfl⟩ := ovr_next hb1
  clear hb1
  go_upto_region 7 with (fail)
  obtain ⟨X3, hX3⟩ : ∃ X3, X3 = ((ovr X2 u5).alloc (.cells #[I (-6), I 8] 38)) := ⟨_, rfl⟩
  have reX3 : ∀ v, ∃ x, ovr X3 v = ovr X2 x := fun v => ovr_re1 hX3
  replace yX100 := tr_cell reX3 yX100
  replace yX101 := tr_cell reX3 yX101
  replace RrowX10 := Lib.hid (tr_row reX3 RrowX10.out)
  have rowX30 : X3.heap[(ovr X2 u5).heap.size]? = some (.cells #[I (-6), I 8] 38 (0, 0)) := by rw [hX3]; exact heap_last _ _ _ rfl
  have yX300 := ovr_cell (W := X3) (b := (ovr X2 u5).heap.size) (o := 0) (v := I (-6)) (by rw [cell_of_row _ _ _ _ _ _ rowX30]; rfl)
  have yX301 := ovr_cell (W := X3) (b := (ovr X2 u5).heap.size) (o := 1) (v := I 8) (by rw [cell_of_row _ _ _ _ _ _ rowX30]; rfl)
  have RrowX30 := Lib.hid (ovr_row rowX30)
  clear rowX30
  have HBX3 : Hid (∀ u, Below X2.heap.size X2 (ovr X3 u)) := fun u => by obtain ⟨x, hx⟩ := reX3 u; rw [hx]; exact ovr_below _ _
  have HUX3 : Hid (∀ u, Below w.heap.size w (ovr X3 u)) := fun u => by obtain ⟨x, hx⟩ := reX3 u; rw [hx]; exact HUX2.out x
  clear reX3
  have HX3 := Lib.hid hX3
  clear hX3
  rw [← HX3.out]
  obtain ⟨v3, hv3⟩ := ovr_self X3
  rw [hv3]
  clear hv3
  go_wp2_with fail
  refine (pick_bal (ovr X3 v3) _ rfl).mono ?_
  rintro e w1 ⟨A2, d2, rfl, hr2, hb1⟩
  obtain ⟨u6, rfl⟩ := ovr_next hb1
  clear hb1
  go_upto_region 8 with (fail)
  obtain ⟨X4, hX4⟩ : ∃ X4, X4 = ((ovr X3 u6).alloc (.cells #[I 18, I 24] 38)) := ⟨_, rfl⟩
  have reX4 : ∀ v, ∃ x, ovr X4 v = ovr X3 x := fun v => ovr_re1 hX4
  replace yX100 := tr_cell reX4 yX100
  replace yX101 := tr_cell reX4 yX101
  replace RrowX10 := Lib.hid (tr_row reX4 RrowX10.out)
  replace yX300 := tr_cell reX4 yX300
  replace yX301 := tr_cell reX4 yX301
  replace RrowX30 := Lib.hid (tr_row reX4 RrowX30.out)
  have rowX40 : X4.heap[(ovr X3 u6).heap.size]? = some (.cells #[I 18, I 24] 38 (0, 0)) := by rw [hX4]; exact heap_last _ _ _ rfl
  have yX400 := ovr_cell (W := X4) (b := (ovr X3 u6).heap.size) (o := 0) (v := I 18) (by rw [cell_of_row _ _ _ _ _ _ rowX40]; rfl)
  have yX401 := ovr_cell (W := X4) (b := (ovr X3 u6).heap.size) (o := 1) (v := I 24) (by rw [cell_of_row _ _ _ _ _ _ rowX40]; rfl)
  have RrowX40 := Lib.hid (ovr_row rowX40)
  clear rowX40
  have HBX4 : Hid (∀ u, Below X3.heap.size X3 (ovr X4 u)) := fun u => by obtain ⟨x, hx⟩ := reX4 u; rw [hx]; exact ovr_below _ _
  have HUX4 : Hid (∀ u, Below w.heap.size w (ovr X4 u)) := fun u => by obtain ⟨x, hx⟩ := reX4 u; rw [hx]; exact HUX3.out x
  clear reX4
  have HX4 := Lib.hid hX4
  clear hX4
  have HR2 : Hid (Rd X4 X4.heap.size 2 A2 3 (rR [⟨4, 10⟩, ⟨3, 5⟩, ⟨3, 9⟩])) := by show Rd _ _ _ _ _ _; rw [HX4.out]; exact (hr2.alloc (Nat.le_refl _) _).more (by simp)
  clear hr2
  rw [← HX4.out]
  obtain ⟨v4, hv4⟩ := ovr_self X4
  rw [hv4]
  clear hv4
  go_wp2_with fail
  refine (hill_any _).mono ?_
  rintro e w1 ⟨rfl, rfl⟩
  go_wp2_with fail
  refine (pick_whe (ovr X4 v4) _ rfl).mono ?_
  rintro e w1 ⟨A3, d3, rfl, hr3, hb1⟩
  obtain ⟨u7, rfl⟩ := ovr_next hb1
  clear hb1
  go_upto_region 9 with (fail)
  have hbX5 := ovr_below X4 u7
  obtain ⟨X5, hX5⟩ : ∃ X5, X5 = ovr X4 u7 := ⟨_, rfl⟩
  rw [← hX5] at hbX5
  rw [← hX5]
  have hX5' := Lib.hid hX5
  clear hX5
  have hbX5' := Lib.hid hbX5
  have reX5 : ∀ v, ∃ x, ovr X5 v = ovr X4 x := fun v => ovr_reB hbX5 v
  replace yX100 := tr_cell reX5 yX100
  replace yX101 := tr_cell reX5 yX101
  replace RrowX10 := Lib.hid (tr_row reX5 RrowX10.out)
  replace yX300 := tr_cell reX5 yX300
  replace yX301 := tr_cell reX5 yX301
  replace RrowX30 := Lib.hid (tr_row reX5 RrowX30.out)
  replace yX400 := tr_cell reX5 yX400
  replace yX401 := tr_cell reX5 yX401
  replace RrowX40 := Lib.hid (tr_row reX5 RrowX40.out)
  have HUX5 : Hid (∀ u, Below w.heap.size w (ovr X5 u)) := fun u => by obtain ⟨x, hx⟩ := reX5 u; rw [hx]; exact HUX4.out x
  clear reX5 hbX5
  have HR2 : Hid (Rd X5 X5.heap.size 2 A2 3 (rR [⟨4, 10⟩, ⟨3, 5⟩, ⟨3, 9⟩])) := (HR2.out.below hbX5'.out).more hbX5'.out.size
  rw [← hX5'.out] at hr3
  have HR3 := Lib.hid hr3
  clear hr3
  obtain ⟨v5, hv5⟩ := ovr_self X5
  rw [hv5]
  clear hv5
  go_wp2_with fail
  refine (hill_any _).mono ?_
  rintro e w1 ⟨rfl, rfl⟩
  go_wp2_with fail
  refine (pick_val (ovr X5 v5) _ rfl).mono ?_
  rintro e w1 ⟨rfl, hb1⟩
  obtain ⟨u8, rfl⟩ := ovr_next hb1
  clear hb1
  go_upto_region 10 with (fail)
  obtain ⟨X6, hX6⟩ : ∃ X6, X6 = ((ovr X5 u8).alloc (.cells #[I 1, I 5] 38)) := ⟨_, rfl⟩
  have reX6 : ∀ v, ∃ x, ovr X6 v = ovr X5 x := fun v => ovr_re1 hX6
  replace yX100 := tr_cell reX6 yX100
  replace yX101 := tr_cell reX6 yX101
  replace RrowX10 := Lib.hid (tr_row reX6 RrowX10.out)
  replace yX300 := tr_cell reX6 yX300
  replace yX301 := tr_cell reX6 yX301
  replace RrowX30 := Lib.hid (tr_row reX6 RrowX30.out)
  replace yX400 := tr_cell reX6 yX400
  replace yX401 := tr_cell reX6 yX401
  replace RrowX40 := Lib.hid (tr_row reX6 RrowX40.out)
  have rowX60 : X6.heap[(ovr X5 u8).heap.size]? = some (.cells #[I 1, I 5] 38 (0, 0)) := by rw [hX6]; exact heap_last _ _ _ rfl
  have yX600 := ovr_cell (W := X6) (b := (ovr X5 u8).heap.size) (o := 0) (v := I 1) (by rw [cell_of_row _ _ _ _ _ _ rowX60]; rfl)
  have yX601 := ovr_cell (W := X6) (b := (ovr X5 u8).heap.size) (o := 1) (v := I 5) (by rw [cell_of_row _ _ _ _ _ _ rowX60]; rfl)
  have RrowX60 := Lib.hid (ovr_row rowX60)
  clear rowX60
  have HBX6 : Hid (∀ u, Below X5.heap.size X5 (ovr X6 u)) := fun u => by obtain ⟨x, hx⟩ := reX6 u; rw [hx]; exact ovr_below _ _
  have HUX6 : Hid (∀ u, Below w.heap.size w (ovr X6 u)) := fun u => by obtain ⟨x, hx⟩ := reX6 u; rw [hx]; exact HUX5.out x
  clear reX6
  have HX6 := Lib.hid hX6
  clear hX6
  rw [← HX6.out]
  obtain ⟨v6, hv6⟩ := ovr_self X6
  rw [hv6]
  clear hv6
  go_wp2_with fail
  have HB6 : Hid (∀ u, Below X5.heap.size X5 (ovr X6 u)) := HBX6.out
  refine (pick_sP A2 d2 X5 (ovr X6 v6) _ rfl (HB6.out _) HR2.out).mono ?_
  rintro e w1 ⟨rfl, hb1⟩
  obtain ⟨u9, rfl⟩ := ovr_next hb1
  clear hb1
  go_wp2_with fail
  refine (pick_sW A3 d3 X5 (ovr X6 u9) _ rfl (HB6.out _) HR3.out).mono ?_
  rintro e w1 ⟨rfl, hb1⟩
  obtain ⟨u10, rfl⟩ := ovr_next hb1
  clear hb1
  go_wp2_with fail
  go_ret
  exact ⟨rfl, HUX6.out _⟩
end Go.Proofs.Ytmadlmmfbpmebaa
