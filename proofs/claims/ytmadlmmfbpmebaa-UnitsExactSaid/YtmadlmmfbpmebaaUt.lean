/- The contracts of fold, Meet, Hull of package units. -/
import Derived.Test.YtmadlmmfbpmebaaUs
namespace Go.Proofs.Ytmadlmmfbpmebaa
open Go.RowKit
def foK (J : Rng → Rng → Rng) (xs : List Rng) : Nat → Rng
  | 0 => at0 xs 0 | k + 1 => J (foK J xs k) (at0 xs (k + 1))
def foF (J : Rng → Rng → Rng) (xs : List Rng) : Rng × Int :=
  if chk xs = 0 then (if xs.length = 0 then (⟨0, 0⟩, 2) else if (foK J xs (xs.length - 1)).hi < (foK J xs (xs.length - 1)).lo then (⟨0, 0⟩, 7) else (foK J xs (xs.length - 1), 0)) else (⟨0, 0⟩, chk xs)
set_option maxRecDepth 100000 in
set_option maxHeartbeats 2000000 in
theorem fold_any (J : Rng → Rng → Rng) (F : FuncId) (hF : ∀ args w, (callFunc F args).run Try.prog w = .ok (.enter F args) w) (hj : ∀ a b W, Calls Try.prog F #[a.val, b.val] W fun e w' => e = .returned ((J a b).val) ∧ Below W.heap.size W w') (A : Option Addr) (n c : Nat) (xs : List Rng) (w : World) (B : Nat) (hn : n = xs.length) (hc : n ≤ c) (hm : c ≤ maxLen) (hB : B ≤ w.heap.size) (hx : Rd w B 2 A n (rR xs)) :
    Calls Try.prog 102 #[.slice A n c, .func (Fn.func F) #[] #[]] w (RetRn w (foF J xs)) := by
  subst hn
  have hf : Hid (foF J xs = if chk xs = 0 then (if xs.length = 0 then (⟨0, 0⟩, 2) else if (foK J xs (xs.length - 1)).hi < (foK J xs (xs.length - 1)).lo then (⟨0, 0⟩, 7) else (foK J xs (xs.length - 1), 0)) else (⟨0, 0⟩, chk xs)) := rfl
  have HX : Hid (∀ W', Below w.heap.size w W' → Rd W' B 2 A xs.length (rR xs) ∧ B ≤ W'.heap.size) := fun W' h => ⟨hx.below (h.mono hB), Nat.le_trans hB h.size⟩
  have cc : Hid (∀ W', Rd W' B 2 A xs.length (rR xs) ∧ B ≤ W'.heap.size → Calls Try.prog 77 #[.slice A xs.length c] W' fun e w' => e = .returned (I (chk xs)) ∧ Below W'.heap.size W' w') := fun W' h => check_any A xs.length c xs W' B rfl (by omega) h.2 h.1
  have Hj := Lib.hid hj
  unfold maxLen at hm
  clear hx hB hj
  obtain ⟨W, hW⟩ : ∃ W, W = (w.alloc (.cells #[I 0, I 0] 38)) := ⟨_, rfl⟩
  have rowW0 : W.heap[w.heap.size]? = some (.cells #[I 0, I 0] 38 (0, 0)) := by rw [hW]; exact heap_last _ _ _ rfl
  have yW00 := ovr_cell (W := W) (b := w.heap.size) (o := 0) (v := I 0) (by rw [cell_of_row _ _ _ _ _ _ rowW0]; rfl)
  have yW01 := ovr_cell (W := W) (b := w.heap.size) (o := 1) (v := I 0) (by rw [cell_of_row _ _ _ _ _ _ rowW0]; rfl)
  have RrowW0 := Lib.hid (ovr_row rowW0)
  clear rowW0
  have HUW : Hid (∀ u, Below w.heap.size w (ovr W u)) := U1 hW
  have HW := Lib.hid hW
  clear hW
  go_enter Try.func102, Try.ntmps102
  go_upto_region 1 with (fail)
  rw [← HW.out]
  obtain ⟨u0, hu0⟩ := ovr_self W
  rw [hu0]
  clear hu0
  go_wp2_with fail
  refine (cc.out _ (HX.out _ (HUW.out _))).mono ?_
  rintro e w1 ⟨rfl, hb1⟩
  obtain ⟨u1, rfl⟩ := ovr_next hb1
  clear hb1
  by_cases h0 : chk xs = 0
  · rw [if_pos h0] at hf
    have hl := (chk_ok h0).1
    rw [h0]
    clear h0
    by_cases h1 : xs.length = 0
    · rw [if_pos h1] at hf
      have h1b : ((xs.length : Int) == 0) = true := by rw [h1]; rfl
      have H1 := Lib.hid h1
      clear h1
      go_wp2_with (refine wpList_store_row rfl 38 _ _ rfl (w.heap.size) rfl _ _ (RrowW0.out _) _ rfl (one2 rfl rfl) rfl (by kernel_rfl) ?_)
      refine bodyPost_ret (results_cell_tmp rfl _ _ (w.heap.size) 38 _ (0, 0) _ rfl (setRow_same (RrowW0.out _)) Try.underlying38 rfl (by kernel_rfl)) rfl ?_
      exact ⟨by rw [hf.out]; rfl, below_setRow (HUW.out _) (by omega) _⟩
    · rw [if_neg h1] at hf
      have h1b : ((xs.length : Int) == 0) = false := by rw [beq_eq_false_iff_ne]; omega
      have h1c : 0 < xs.length := by omega
      clear h1
      obtain ⟨b, o, rfl, _, e0, e1⟩ := (HX.out _ (HUW.out u1)).1.rng h1c
      rw [Nat.zero_mul, Nat.add_zero] at e0 e1
      go_upto_region 7 with (fail)
      obtain ⟨V, hV⟩ : ∃ V, V = (ovr W u1).alloc (.cells #[I (at0 xs 0).lo, I (at0 xs 0).hi] 38) := ⟨_, rfl⟩
      have rV : V.heap[(ovr W u1).heap.size]? = some (.cells #[I (at0 xs 0).lo, I (at0 xs 0).hi] 38 (0, 0)) := by rw [hV]; exact heap_last _ _ _ rfl
      have bV : Below W.heap.size W V := by rw [hV]; exact (ovr_below W u1).alloc (ovr_below W u1).size _
      have sk := (ovr_below W u1).size
      rw [← hV]
      obtain ⟨kx, hkx⟩ : ∃ kx, (ovr W u1).heap.size = kx := ⟨_, rfl⟩
      rw [hkx] at rV sk
      rw [hkx]
      have RV := Lib.hid rV
      have BV := Lib.hid bV
      have SK := Lib.hid sk
      clear e0 e1 hV hkx rV bV sk
      go_cut [24, 25, 26] (fun s24 s25 s26 wx => ∃ A', s24 = .slice A' (xs.length - 1) (c - 1) ∧ (0 < xs.length - 1 → A' = some ⟨b, o + 2, none⟩) ∧ s25 = .int .i64 ((xs.length - 1 : Nat) : Int) ∧ s26 = .int .i64 0 ∧ wx = V)
      case first =>
        by_cases hc1 : c = 1
        all_goals
          try subst hc1
          go_wp2_with fail
          go_meet
          case rel =>
            first
            | exact ⟨some ⟨b, o + 2, none⟩, rfl, fun _ => rfl, rfl, rfl, rfl⟩
            | exact ⟨some ⟨b, o, none⟩, by congr 1 <;> omega, fun h => by exfalso; omega, by congr 1; omega, rfl, rfl⟩
      case rest =>
        obtain ⟨A', rfl, hA, rfl, rfl, rfl⟩ := hcut
        have HA := Lib.hid hA
        clear hA
        go_wp2_with fail
        go_loopw [26] (fun i wr => ∃ k : Nat, k ≤ xs.length - 1 ∧ i = .int .i64 k ∧ wr.heap[kx]? = some (.cells #[I (foK J xs k).lo, I (foK J xs k).hi] 38 (0, 0)) ∧ Below W.heap.size W wr) (fun i _ => xs.length - 1 - (intOf i).toNat)
        case atStart => exact ⟨0, by omega, rfl, RV.out, BV.out⟩
        case round =>
          obtain ⟨k, hk, rfl, hr, hb⟩ := hrel
          rename World => X
          by_cases hlt : k < xs.length - 1
          · obtain rfl := HA.out (by omega)
            have HXW : Hid (∀ u, Below W.heap.size W (ovr X u)) := fun u => hb.trans ((ovr_below X u).mono hb.size)
            have reX : ∀ v, ∃ x, ovr X v = ovr W x := fun v => ovr_reB hb v
            replace yW00 := tr_cell reX yW00
            replace yW01 := tr_cell reX yW01
            replace RrowW0 := Lib.hid (tr_row reX RrowW0.out)
            have yX00 := ovr_cell (W := X) (b := kx) (o := 0) (v := I (foK J xs k).lo) (by rw [cell_of_row _ _ _ _ _ _ hr]; rfl)
            have yX01 := ovr_cell (W := X) (b := kx) (o := 1) (v := I (foK J xs k).hi) (by rw [cell_of_row _ _ _ _ _ _ hr]; rfl)
            have RrowX0 := Lib.hid (ovr_row hr)
            clear hr
            have HUX : Hid (∀ u, Below w.heap.size w (ovr X u)) := fun u => by obtain ⟨x, hx⟩ := reX u; rw [hx]; exact HUW.out x
            clear reX hb
            obtain ⟨u, hu⟩ := ovr_self X
            obtain ⟨b', o', hA, _, e0, e1⟩ := (HX.out _ (HUX.out u)).1.rng (show k + 1 < xs.length by omega)
            (injection hA with ea; injection ea with ea1 ea2; subst ea1 ea2)
            rw [show o + (k + 1) * 2 = o + 2 + k * 2 by omega] at e0 e1
            rw [hu]
            clear hu
            go_upto_region 10 with (fail)
            clear e0 e1
            obtain ⟨Y, hY⟩ : ∃ Y, Y = ((ovr X u).alloc (.cells #[I (at0 xs (k + 1)).lo, I (at0 xs (k + 1)).hi] 38)) := ⟨_, rfl⟩
            have reY : ∀ v, ∃ x, ovr Y v = ovr X x := fun v => ovr_re1 hY
            replace yW00 := tr_cell reY yW00
            replace yW01 := tr_cell reY yW01
            replace RrowW0 := Lib.hid (tr_row reY RrowW0.out)
            replace yX00 := tr_cell reY yX00
            replace yX01 := tr_cell reY yX01
            replace RrowX0 := Lib.hid (tr_row reY RrowX0.out)
            have rowY0 : Y.heap[(ovr X u).heap.size]? = some (.cells #[I (at0 xs (k + 1)).lo, I (at0 xs (k + 1)).hi] 38 (0, 0)) := by rw [hY]; exact heap_last _ _ _ rfl
            have yY00 := ovr_cell (W := Y) (b := (ovr X u).heap.size) (o := 0) (v := I (at0 xs (k + 1)).lo) (by rw [cell_of_row _ _ _ _ _ _ rowY0]; rfl)
            have yY01 := ovr_cell (W := Y) (b := (ovr X u).heap.size) (o := 1) (v := I (at0 xs (k + 1)).hi) (by rw [cell_of_row _ _ _ _ _ _ rowY0]; rfl)
            have RrowY0 := Lib.hid (ovr_row rowY0)
            clear rowY0
            have HUY : Hid (∀ u, Below w.heap.size w (ovr Y u)) := fun u => by obtain ⟨x, hx⟩ := reY u; rw [hx]; exact HUX.out x
            clear reY
            have HY := Lib.hid hY
            clear hY
            rw [← HY.out]
            obtain ⟨u2, hu2⟩ := ovr_self Y
            rw [hu2]
            clear hu2
            go_wp2_with fail
            refine (Hj.out (foK J xs k) (at0 xs (k + 1)) _).mono ?_
            rintro e w1 ⟨rfl, hb1⟩
            obtain ⟨u3, rfl⟩ := ovr_next hb1
            clear hb1
            have hk1 : Hid (foK J xs (k + 1) = J (foK J xs k) (at0 xs (k + 1))) := rfl
            have hBW : Hid (Below W.heap.size W (ovr Y u3)) := by obtain ⟨x, hx⟩ := ovr_re1 (v := u3) HY.out; show Below _ _ _; rw [hx]; exact HXW.out x
            go_wp2_with (refine wpList_store_row rfl 38 _ _ rfl (kx) rfl _ _ (RrowX0.out _) _ rfl (one2 rfl rfl) rfl (by kernel_rfl) ?_)
            go_roundw
            case rel => exact ⟨k + 1, by omega, by go_num, by rw [hk1.out]; exact setRow_same (RrowX0.out _), below_setRow hBW.out SK.out _⟩
            case measure => simp [intOf]; omega
          · obtain rfl : k = xs.length - 1 := by omega
            obtain ⟨z, hz⟩ : ∃ z, foK J xs (xs.length - 1) = z := ⟨_, rfl⟩
            rw [hz] at hf
            rw [hz] at hr
            clear hz
            have reX : ∀ v, ∃ x, ovr X v = ovr W x := fun v => ovr_reB hb v
            replace yW00 := tr_cell reX yW00
            replace yW01 := tr_cell reX yW01
            replace RrowW0 := Lib.hid (tr_row reX RrowW0.out)
            have yX00 := ovr_cell (W := X) (b := kx) (o := 0) (v := I z.lo) (by rw [cell_of_row _ _ _ _ _ _ hr]; rfl)
            have yX01 := ovr_cell (W := X) (b := kx) (o := 1) (v := I z.hi) (by rw [cell_of_row _ _ _ _ _ _ hr]; rfl)
            have RrowX0 := Lib.hid (ovr_row hr)
            clear hr
            have HUX : Hid (∀ u, Below w.heap.size w (ovr X u)) := fun u => by obtain ⟨x, hx⟩ := reX u; rw [hx]; exact HUW.out x
            clear reX hb
            obtain ⟨u, hu⟩ := ovr_self X
            rw [hu]
            clear hu
            by_cases h2 : z.hi < z.lo
            · rw [if_pos h2] at hf
              have h2b : decide (z.hi < z.lo) = true := decide_eq_true h2
              clear h2
              go_wp2_with (refine wpList_store_row rfl 38 _ _ rfl (w.heap.size) rfl _ _ (RrowW0.out _) _ rfl (one2 rfl rfl) rfl (by kernel_rfl) ?_)
              refine bodyPost_ret (results_cell_tmp rfl _ _ (w.heap.size) 38 _ (0, 0) _ rfl (setRow_same (RrowW0.out _)) Try.underlying38 rfl (by kernel_rfl)) rfl ?_
              exact ⟨by rw [hf.out]; rfl, below_setRow (HUX.out _) (by omega) _⟩
            · rw [if_neg h2] at hf
              have h2b : decide (z.hi < z.lo) = false := decide_eq_false h2
              clear h2
              go_wp2_with (refine wpList_store_row rfl 38 _ _ rfl (w.heap.size) rfl _ _ (RrowW0.out _) _ rfl (one2 rfl rfl) rfl (by kernel_rfl) ?_)
              refine bodyPost_ret (results_cell_tmp rfl _ _ (w.heap.size) 38 _ (0, 0) _ rfl (setRow_same (RrowW0.out _)) Try.underlying38 rfl (by kernel_rfl)) rfl ?_
              exact ⟨by rw [hf.out]; rfl, below_setRow (HUX.out _) (by omega) _⟩
  · rw [if_neg h0] at hf
    have h0b : (chk xs == 0) = false := by simpa using h0
    have h0c : (chk xs != 0) = true := by simpa using h0
    clear h0
    go_wp2_with (refine wpList_store_row rfl 38 _ _ rfl (w.heap.size) rfl _ _ (RrowW0.out _) _ rfl (one2 rfl rfl) rfl (by kernel_rfl) ?_)
    refine bodyPost_ret (results_cell_tmp rfl _ _ (w.heap.size) 38 _ (0, 0) _ rfl (setRow_same (RrowW0.out _)) Try.underlying38 rfl (by kernel_rfl)) rfl ?_
    exact ⟨by rw [hf.out]; rfl, below_setRow (HUW.out _) (by omega) _⟩
theorem meet_any (A : Option Addr) (n c : Nat) (xs : List Rng) (w : World) (B : Nat) (hn : n = xs.length) (hc : n ≤ c) (hm : c ≤ maxLen) (hB : B ≤ w.heap.size) (hx : Rd w B 2 A n (rR xs)) :
    Calls Try.prog 62 #[.slice A n c] w (RetRn w (foF cuF xs)) := by
  have HX : Hid (∀ W', Below w.heap.size w W' → Rd W' B 2 A n (rR xs) ∧ B ≤ W'.heap.size) := fun W' h => ⟨hx.below (h.mono hB), Nat.le_trans hB h.size⟩
  have cf : Hid (∀ W', Rd W' B 2 A n (rR xs) ∧ B ≤ W'.heap.size → Calls Try.prog 102 #[.slice A n c, .func (Fn.func 80) #[] #[]] W' (RetRn W' (foF cuF xs))) := fun W' h => fold_any cuF _ (fun _ _ => by kernel_rfl) cut_any A n c xs W' B hn hc hm h.2 h.1
  clear hx hB hm hn hc
  obtain ⟨W, hW⟩ : ∃ W, W = (w.alloc (.cells #[I 0, I 0] 38)) := ⟨_, rfl⟩
  have rowW0 : W.heap[w.heap.size]? = some (.cells #[I 0, I 0] 38 (0, 0)) := by rw [hW]; exact heap_last _ _ _ rfl
  have yW00 := ovr_cell (W := W) (b := w.heap.size) (o := 0) (v := I 0) (by rw [cell_of_row _ _ _ _ _ _ rowW0]; rfl)
  have yW01 := ovr_cell (W := W) (b := w.heap.size) (o := 1) (v := I 0) (by rw [cell_of_row _ _ _ _ _ _ rowW0]; rfl)
  have RrowW0 := Lib.hid (ovr_row rowW0)
  clear rowW0
  have HUW : Hid (∀ u, Below w.heap.size w (ovr W u)) := U1 hW
  have HW := Lib.hid hW
  clear hW
  go_enter Try.func62, Try.ntmps62
  go_upto_region 1 with (fail)
  rw [← HW.out]
  obtain ⟨u0, hu0⟩ := ovr_self W
  rw [hu0]
  clear hu0
  go_wp2_with fail
  refine (cf.out _ (HX.out _ (HUW.out _))).mono ?_
  rintro e w1 ⟨rfl, hb1⟩
  obtain ⟨u1, rfl⟩ := ovr_next hb1
  clear hb1
  go_wp2_with (refine wpList_store_row rfl 38 _ _ rfl (w.heap.size) rfl _ _ (RrowW0.out _) _ rfl (one2 rfl rfl) rfl (by kernel_rfl) ?_)
  refine bodyPost_ret (results_cell_tmp rfl _ _ (w.heap.size) 38 _ (0, 0) _ rfl (setRow_same (RrowW0.out _)) Try.underlying38 rfl (by kernel_rfl)) rfl ?_
  exact ⟨rfl, below_setRow (HUW.out _) (by omega) _⟩
theorem hull_any (A : Option Addr) (n c : Nat) (xs : List Rng) (w : World) (B : Nat) (hn : n = xs.length) (hc : n ≤ c) (hm : c ≤ maxLen) (hB : B ≤ w.heap.size) (hx : Rd w B 2 A n (rR xs)) :
    Calls Try.prog 63 #[.slice A n c] w (RetRn w (foF huF xs)) := by
  have HX : Hid (∀ W', Below w.heap.size w W' → Rd W' B 2 A n (rR xs) ∧ B ≤ W'.heap.size) := fun W' h => ⟨hx.below (h.mono hB), Nat.le_trans hB h.size⟩
  have cf : Hid (∀ W', Rd W' B 2 A n (rR xs) ∧ B ≤ W'.heap.size → Calls Try.prog 102 #[.slice A n c, .func (Fn.func 103) #[] #[]] W' (RetRn W' (foF huF xs))) := fun W' h => fold_any huF _ (fun _ _ => by kernel_rfl) hullf_any A n c xs W' B hn hc hm h.2 h.1
  clear hx hB hm hn hc
  obtain ⟨W, hW⟩ : ∃ W, W = (w.alloc (.cells #[I 0, I 0] 38)) := ⟨_, rfl⟩
  have rowW0 : W.heap[w.heap.size]? = some (.cells #[I 0, I 0] 38 (0, 0)) := by rw [hW]; exact heap_last _ _ _ rfl
  have yW00 := ovr_cell (W := W) (b := w.heap.size) (o := 0) (v := I 0) (by rw [cell_of_row _ _ _ _ _ _ rowW0]; rfl)
  have yW01 := ovr_cell (W := W) (b := w.heap.size) (o := 1) (v := I 0) (by rw [cell_of_row _ _ _ _ _ _ rowW0]; rfl)
  have RrowW0 := Lib.hid (ovr_row rowW0)
  clear rowW0
  have HUW : Hid (∀ u, Below w.heap.size w (ovr W u)) := U1 hW
  have HW := Lib.hid hW
  clear hW
  go_enter Try.func63, Try.ntmps63
  go_upto_region 1 with (fail)
  rw [← HW.out]
  obtain ⟨u0, hu0⟩ := ovr_self W
  rw [hu0]
  clear hu0
  go_wp2_with fail
  refine (cf.out _ (HX.out _ (HUW.out _))).mono ?_
  rintro e w1 ⟨rfl, hb1⟩
  obtain ⟨u1, rfl⟩ := ovr_next hb1
  clear hb1
  go_wp2_with (refine wpList_store_row rfl 38 _ _ rfl (w.heap.size) rfl _ _ (RrowW0.out _) _ rfl (one2 rfl rfl) rfl (by kernel_rfl) ?_)
  refine bodyPost_ret (results_cell_tmp rfl _ _ (w.heap.size) 38 _ (0, 0) _ rfl (setRow_same (RrowW0.out _)) Try.underlying38 rfl (by kernel_rfl)) rfl ?_
  exact ⟨rfl, below_setRow (HUW.out _) (by omega) _⟩
end Go.Proofs.Ytmadlmmfbpmebaa
