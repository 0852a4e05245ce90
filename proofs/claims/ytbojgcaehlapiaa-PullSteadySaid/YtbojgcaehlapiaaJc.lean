/- The contracts of Meet and Hull of the reference of chapter 1. -/
import Derived.Test.YtbojgcaehlapiaaJb
namespace Go.Proofs.Ytbojgcaehlapiaa.Un
open Go.RowKit
theorem foK_hull {xs : List Rng} (h : ∀ j, j < xs.length → rngOk (at0 xs j) = true) : ∀ k, k < xs.length → (foK huF xs k).lo ≤ (foK huF xs k).hi
  | 0, hk => (rngOk_iff.1 (h 0 hk)).2.2
  | k + 1, hk => by
    have h1 := foK_hull h k (by omega)
    have h2 := (rngOk_iff.1 (h (k + 1) hk)).2.2
    simp only [foK, huF]
    omega
theorem foF_hull {xs : List Rng} (h0 : chk xs = 0) (h1 : xs.length ≠ 0) : foF huF xs = (foK huF xs (xs.length - 1), 0) := by
  have hl := chk_ok h0
  have := foK_hull (fun j => rngs_at hl.2) (xs.length - 1) (by omega)
  unfold foF
  rw [if_pos h0, if_neg h1, if_neg (by omega)]
theorem foF_none {J : Rng → Rng → Rng} {xs : List Rng} (h0 : chk xs = 0) (h1 : xs.length = 0) : foF J xs = (⟨0, 0⟩, 2) := by
  unfold foF
  rw [if_pos h0, if_pos h1]
theorem foF_bad {J : Rng → Rng → Rng} {xs : List Rng} (h0 : ¬ chk xs = 0) : foF J xs = (⟨0, 0⟩, chk xs) := by
  unfold foF
  rw [if_neg h0]
set_option maxRecDepth 100000 in
set_option maxHeartbeats 2000000 in
theorem refMeet_any (A : Option Addr) (c : Nat) (xs : List Rng) (w : World) (B : Nat) (hm : xs.length ≤ maxLen) (hB : B ≤ w.heap.size) (hx : Rd w B 2 A xs.length (rR xs)) :
    Calls Try.prog 39 #[.slice A xs.length c] w (RetRn w (foF cuF xs)) := by
  have HX : Hid (∀ W', Below w.heap.size w W' → Rd W' B 2 A xs.length (rR xs) ∧ B ≤ W'.heap.size) := fun W' h => ⟨hx.below (h.mono hB), Nat.le_trans hB h.size⟩
  have cl : Hid (∀ W', Rd W' B 2 A xs.length (rR xs) ∧ B ≤ W'.heap.size → Calls Try.prog 75 #[.slice A xs.length c] W' fun e w' => e = .returned (I (chk xs)) ∧ Below W'.heap.size W' w') := fun W' h => refList_any A c xs W' B hm h.2 h.1
  clear hx hB hm
  obtain ⟨W, hW⟩ : ∃ W, W = (w.alloc (.cells #[I 0, I 0] 23)) := ⟨_, rfl⟩
  have rowW0 : W.heap[w.heap.size]? = some (.cells #[I 0, I 0] 23 (0, 0)) := by rw [hW]; exact heap_last _ _ _ rfl
  have yW00 := ovr_cell (W := W) (b := w.heap.size) (o := 0) (v := I 0) (by rw [cell_of_row _ _ _ _ _ _ rowW0]; rfl)
  have yW01 := ovr_cell (W := W) (b := w.heap.size) (o := 1) (v := I 0) (by rw [cell_of_row _ _ _ _ _ _ rowW0]; rfl)
  have RrowW0 := Lib.hid (ovr_row rowW0)
  clear rowW0
  have HUW : Hid (∀ u, Below w.heap.size w (ovr W u)) := U1 hW
  have HW := Lib.hid hW
  clear hW
  go_enter Try.func39, Try.ntmps39
  go_upto_region 1 with (fail)
  rw [← HW.out]
  obtain ⟨u0, hu0⟩ := ovr_self W
  rw [hu0]
  clear hu0
  go_wp2_with fail
  refine (cl.out _ (HX.out _ (HUW.out _))).mono ?_
  rintro e w1 ⟨rfl, hb1⟩
  obtain ⟨u1, rfl⟩ := ovr_next hb1
  clear hb1
  by_cases h0 : chk xs = 0
  case neg =>
    have hf := Lib.hid (foF_bad (J := cuF) h0)
    have h0b : (chk xs == 0) = false := by simpa using h0
    have h0c : (chk xs != 0) = true := by simpa using h0
    clear h0
    go_wp2_with (refine wpList_store_row rfl 23 _ _ rfl (w.heap.size) rfl _ _ (RrowW0.out _) _ rfl (one2 rfl rfl) rfl (by kernel_rfl) ?_)
    refine bodyPost_ret (results_cell_tmp rfl _ _ (w.heap.size) 23 _ (0, 0) _ rfl (setRow_same (RrowW0.out _)) Try.underlying23 rfl (by kernel_rfl)) rfl ?_
    exact ⟨by rw [hf.out]; rfl, below_setRow (HUW.out _) (by omega) _⟩
  have hl := (chk_ok h0).1
  by_cases h1 : xs.length = 0
  · have hf := Lib.hid (foF_none (J := cuF) h0 h1)
    have h1b : ((xs.length : Int) == 0) = true := by rw [h1]; rfl
    rw [h0]
    have H1 := Lib.hid h1
    clear h1 h0
    go_wp2_with (refine wpList_store_row rfl 23 _ _ rfl (w.heap.size) rfl _ _ (RrowW0.out _) _ rfl (one2 rfl rfl) rfl (by kernel_rfl) ?_)
    refine bodyPost_ret (results_cell_tmp rfl _ _ (w.heap.size) 23 _ (0, 0) _ rfl (setRow_same (RrowW0.out _)) Try.underlying23 rfl (by kernel_rfl)) rfl ?_
    exact ⟨by rw [hf.out]; rfl, below_setRow (HUW.out _) (by omega) _⟩
  · have hf : Hid (foF cuF xs = if (foK cuF xs (xs.length - 1)).hi < (foK cuF xs (xs.length - 1)).lo then (⟨0, 0⟩, 7) else (foK cuF xs (xs.length - 1), 0)) := by show _ = _; unfold foF; rw [if_pos h0, if_neg h1]
    have h1b : ((xs.length : Int) == 0) = false := by rw [beq_eq_false_iff_ne]; omega
    have h1c : 0 < xs.length := by omega
    rw [h0]
    clear h1 h0
    obtain ⟨b, o, rfl, _, e0, e1⟩ := (HX.out _ (HUW.out u1)).1.rng h1c
    rw [Nat.zero_mul, Nat.add_zero] at e0 e1
    go_upto_region 7 with (fail)
    obtain ⟨V, hV⟩ : ∃ V, V = (ovr W u1).alloc (.cells #[I (at0 xs 0).lo, I (at0 xs 0).hi] 23) := ⟨_, rfl⟩
    have rV : V.heap[(ovr W u1).heap.size]? = some (.cells #[I (at0 xs 0).lo, I (at0 xs 0).hi] 23 (0, 0)) := by rw [hV]; exact heap_last _ _ _ rfl
    have bV : Below W.heap.size W V := by rw [hV]; exact (ovr_below W u1).alloc (ovr_below W u1).size _
    have sk := (ovr_below W u1).size
    rw [← hV]
    obtain ⟨kx, hkx⟩ : ∃ kx, (ovr W u1).heap.size = kx := ⟨_, rfl⟩
    rw [hkx] at rV sk
    rw [hkx]
    have RV := Lib.hid rV
    have BV := Lib.hid bV
    have SK := Lib.hid sk
    have H1c := Lib.hid h1c
    clear e0 e1 hV hkx rV bV sk h1c
    go_wp2_with fail
    go_loopw [6] (fun i wr => ∃ k : Nat, k + 1 ≤ xs.length ∧ i = .int .i64 ((k + 1 : Nat) : Int) ∧ wr.heap[kx]? = some (.cells #[I (foK cuF xs k).lo, I (foK cuF xs k).hi] 23 (0, 0)) ∧ Below W.heap.size W wr) (fun i _ => xs.length - (intOf i).toNat)
    case atStart => exact ⟨0, H1c.out, rfl, RV.out, BV.out⟩
    case round =>
      obtain ⟨k, hk, rfl, hr, hb⟩ := hrel
      rename World => X
      by_cases hlt : k + 1 < xs.length
      · have hltb : decide (((k + 1 : Nat) : Int) < (xs.length : Int)) = true := decide_eq_true (by omega)
        have HXW : Hid (∀ u, Below W.heap.size W (ovr X u)) := fun u => hb.trans ((ovr_below X u).mono hb.size)
        have hk1 : Hid (foK cuF xs (k + 1) = cuF (foK cuF xs k) (at0 xs (k + 1))) := rfl
        obtain ⟨p, hp⟩ : ∃ p, foK cuF xs k = p := ⟨_, rfl⟩
        rw [hp] at hr hk1
        clear hp
        have hr' := Lib.hid hr
        have reX : ∀ v, ∃ x, ovr X v = ovr W x := fun v => ovr_reB hb v
        replace yW00 := tr_cell reX yW00
        replace yW01 := tr_cell reX yW01
        replace RrowW0 := Lib.hid (tr_row reX RrowW0.out)
        have yX00 := ovr_cell (W := X) (b := kx) (o := 0) (v := I p.lo) (by rw [cell_of_row _ _ _ _ _ _ hr]; rfl)
        have yX01 := ovr_cell (W := X) (b := kx) (o := 1) (v := I p.hi) (by rw [cell_of_row _ _ _ _ _ _ hr]; rfl)
        have RrowX0 := Lib.hid (ovr_row hr)
        clear hr
        have HUX : Hid (∀ u, Below w.heap.size w (ovr X u)) := fun u => by obtain ⟨x, hx⟩ := reX u; rw [hx]; exact HUW.out x
        clear reX hb
        obtain ⟨u, hu⟩ := ovr_self X
        obtain ⟨b', o', hA, _, e0, e1⟩ := (HX.out _ (HUX.out u)).1.rng hlt
        (injection hA with ea; injection ea with ea1 ea2; subst ea1 ea2)
        rw [hu]
        clear hu
        have e01 := ovr_cell e0
        have e11 := ovr_cell e1
        obtain ⟨q, hq⟩ : ∃ q, at0 xs (k + 1) = q := ⟨_, rfl⟩
        rw [hq] at e0 e1 e01 e11 hk1
        clear hq
        have e02 : ∀ v, (ovr (ovr X u) v).cell? ⟨b, o + (k + 1) * 2, none⟩ = some (I q.lo) := fun v => ovr_cell e0 v
        have e12 : ∀ v, (ovr (ovr X u) v).cell? ⟨b, o + (k + 1) * 2 + 1, none⟩ = some (I q.hi) := fun v => ovr_cell e1 v
        have y02 := ovr_cell (yX00 u)
        have y12 := ovr_cell (yX01 u)
        go_upto_region 10 with (fail)
        refine wp_region_below_tail (by kernel_rfl) (by kernel_rfl) (by kernel_rfl) ?_
        simp only [skipLast_two, skipLast_one]
        repeat (go_big_quiet_step (fail))
        refine wpQuiet_nil ?_
        intro w3 hb3 o3 ho3
        obtain rfl := Option.some.inj ho3
        obtain ⟨u3, rfl⟩ := ovr_next hb3
        clear hb3 e01 e11 e02 e12 y02 y12 e0 e1
        refine wp_store_row 23 _ _ rfl kx rfl _ _ (RrowX0.out u3) #[I (max p.lo q.lo), I (min p.hi q.hi)] rfl (one2 rfl rfl) rfl (by kernel_rfl) ?_
        go_wp2_with fail
        go_roundw
        case rel => exact ⟨k + 1, by omega, by go_num, by rw [hk1.out]; exact setRow_same (RrowX0.out u3), below_setRow (HXW.out u3) SK.out _⟩
        case measure => simp [intOf]; omega
      · have e : k = xs.length - 1 := by omega
        subst e
        have hltb : decide (((xs.length - 1 + 1 : Nat) : Int) < (xs.length : Int)) = false := decide_eq_false (by omega)
        obtain ⟨z, hz⟩ : ∃ z, foK cuF xs (xs.length - 1) = z := ⟨_, rfl⟩
        rw [hz] at hf
        rw [hz] at hr
        clear hz
        have reX : ∀ v, ∃ x, ovr X v = ovr W x := fun v => ovr_reB hb v
        replace yW00 := tr_cell reX yW00
        replace yW01 := tr_cell reX yW01
        replace RrowW0 := Lib.hid (tr_row reX RrowW0.out)
        have yX00 := ovr_cell (W := X) (b := kx) (o := 0) (v := I z.lo) (by rw [cell_of_row _ _ _ _ _ _ hr]; rfl)
        have yX01 := ovr_cell (W := X) (b := kx) (o := 1) (v := I z.hi) (by rw [cell_of_row _ _ _ _ _ _ hr]; rfl)
        have RrowX0 := Lib.hid (ovr_row hr)
        clear hr
        have HUX : Hid (∀ u, Below w.heap.size w (ovr X u)) := fun u => by obtain ⟨x, hx⟩ := reX u; rw [hx]; exact HUW.out x
        clear reX hb
        obtain ⟨u, hu⟩ := ovr_self X
        rw [hu]
        clear hu
        by_cases h2 : z.hi < z.lo
        · rw [if_pos h2] at hf
          have h2b : decide (z.hi < z.lo) = true := decide_eq_true h2
          clear h2
          go_wp2_with (refine wpList_store_row rfl 23 _ _ rfl (w.heap.size) rfl _ _ (RrowW0.out _) _ rfl (one2 rfl rfl) rfl (by kernel_rfl) ?_)
          refine bodyPost_ret (results_cell_tmp rfl _ _ (w.heap.size) 23 _ (0, 0) _ rfl (setRow_same (RrowW0.out _)) Try.underlying23 rfl (by kernel_rfl)) rfl ?_
          exact ⟨by rw [hf.out]; rfl, below_setRow (HUX.out _) (by omega) _⟩
        · rw [if_neg h2] at hf
          have h2b : decide (z.hi < z.lo) = false := decide_eq_false h2
          clear h2
          go_wp2_with (refine wpList_store_row rfl 23 _ _ rfl (w.heap.size) rfl _ _ (RrowW0.out _) _ rfl (one2 rfl rfl) rfl (by kernel_rfl) ?_)
          refine bodyPost_ret (results_cell_tmp rfl _ _ (w.heap.size) 23 _ (0, 0) _ rfl (setRow_same (RrowW0.out _)) Try.underlying23 rfl (by kernel_rfl)) rfl ?_
          exact ⟨by rw [hf.out]; rfl, below_setRow (HUX.out _) (by omega) _⟩
end Go.Proofs.Ytbojgcaehlapiaa.Un
