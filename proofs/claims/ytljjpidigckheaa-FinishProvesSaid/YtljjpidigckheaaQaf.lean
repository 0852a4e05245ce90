/- Contracts of bouleref09: Sheet, ends, Thickness. -/
import Derived.Test.YtljjpidigckheaaSpn
namespace Go.Proofs.Ytljjpidigckheaa.Un
open Go.RowKit
theorem okSh_not {x : Sht} (h : ¬ (2 ≤ x.w ∧ x.w ≤ 6 ∧ 2 ≤ x.h ∧ x.h ≤ 6 ∧ (x.s.length : Int) = x.w * x.h)) : okSh x = false := by
  rcases ho : okSh x with _ | _
  · rfl
  · obtain ⟨⟨a, b⟩, ⟨c, d⟩, e, _, _⟩ := okSh_iff.1 ho
    exact absurd ⟨a, b, c, d, e⟩ h
theorem okSh_bad {x : Sht} {k : Nat} (hk : k < x.s.length) (h : spn9 (at0 x.s k) (-1000000) 1000000 = false) : okSh x = false := by
  rcases ho : okSh x with _ | _
  · rfl
  · have := all9_at (okSh_iff.1 ho).2.2.2.1 hk
    have h2 := spn9_iff.2 this
    rw [h] at h2
    cases h2
theorem okSh_yes {x : Sht} (h : 2 ≤ x.w ∧ x.w ≤ 6 ∧ 2 ≤ x.h ∧ x.h ≤ 6 ∧ (x.s.length : Int) = x.w * x.h) (hs : ∀ k, k < x.s.length → spn9 (at0 x.s k) (-1000000) 1000000 = true) : okSh x = spn9 x.c 0 10000000 := by
  have ha : all9 (-1000000) 1000000 x.s = true := all9_iff.2 fun r hr => by
    obtain ⟨k, hk, rfl⟩ := List.getElem_of_mem hr
    have := hs k hk
    rwa [at0_get hk] at this
  unfold okSh
  rw [ha]
  simp only [h, decide_true, Bool.true_and]
set_option maxHeartbeats 2000000 in
theorem refSheet_any (x : Sht) (A : Option Addr) (n : Nat) (w : World) (B : Nat) (hB : B ≤ w.heap.size) (hx : Rd w B 2 A x.s.length (rR x.s)) (hm : x.s.length ≤ maxLen) :
    Calls Try.prog 25 #[.agg (shA x A n)] w fun e w' => e = .returned (.bool (okSh x)) ∧ Below w.heap.size w w' := by
  have HX : Hid (∀ V, Below w.heap.size w V → Rd V B 2 A x.s.length (rR x.s)) := fun V hV => hx.below (hV.mono hB)
  have hf := Lib.hid (okSh_not (x := x))
  have HM := Lib.hid hm
  clear hx hB hm
  obtain ⟨W, hW⟩ : ∃ W, W = (w.alloc (.cells #[I x.w, I x.h, I x.c.lo, I x.c.hi, .slice A x.s.length n] 37)) := ⟨_, rfl⟩
  have rowW0 : W.heap[w.heap.size]? = some (.cells #[I x.w, I x.h, I x.c.lo, I x.c.hi, .slice A x.s.length n] 37 (0, 0)) := by rw [hW]; exact heap_last _ _ _ rfl
  have yW00 := ovr_cell (W := W) (b := w.heap.size) (o := 0) (v := I x.w) (by rw [cell_of_row _ _ _ _ _ _ rowW0]; rfl)
  have yW01 := ovr_cell (W := W) (b := w.heap.size) (o := 1) (v := I x.h) (by rw [cell_of_row _ _ _ _ _ _ rowW0]; rfl)
  have yW02 := ovr_cell (W := W) (b := w.heap.size) (o := 2) (v := I x.c.lo) (by rw [cell_of_row _ _ _ _ _ _ rowW0]; rfl)
  have yW03 := ovr_cell (W := W) (b := w.heap.size) (o := 3) (v := I x.c.hi) (by rw [cell_of_row _ _ _ _ _ _ rowW0]; rfl)
  have yW04 := ovr_cell (W := W) (b := w.heap.size) (o := 4) (v := .slice A x.s.length n) (by rw [cell_of_row _ _ _ _ _ _ rowW0]; rfl)
  have RrowW0 := Lib.hid (ovr_row rowW0)
  clear rowW0
  have HUW : Hid (∀ u, Below w.heap.size w (ovr W u)) := U1 hW
  have HW := Lib.hid hW
  clear hW
  go_enter Try.func25, Try.ntmps25
  go_upto_region 1 with (fail)
  rw [← HW.out]
  obtain ⟨u0, hu0⟩ := ovr_self W
  rw [hu0]
  clear hu0
  by_cases h1 : 2 ≤ x.w
  case neg =>
    have hcon : ¬ (2 ≤ x.w ∧ x.w ≤ 6 ∧ 2 ≤ x.h ∧ x.h ≤ 6 ∧ (x.s.length : Int) = x.w * x.h) := fun h => h1 h.1
    have d1 : decide (x.w < 2) = true := decide_eq_true (by omega)
    replace hf := Lib.hid (hf.out hcon)
    go_wp2_with fail
    go_ret
    exact ⟨by rw [hf.out]; rfl, HUW.out _⟩
  have d1 : decide (x.w < 2) = false := decide_eq_false (by omega)
  by_cases h2 : x.w ≤ 6
  case neg =>
    have hcon : ¬ (2 ≤ x.w ∧ x.w ≤ 6 ∧ 2 ≤ x.h ∧ x.h ≤ 6 ∧ (x.s.length : Int) = x.w * x.h) := fun h => h2 h.2.1
    have d2 : decide (6 < x.w) = true := decide_eq_true (by omega)
    replace hf := Lib.hid (hf.out hcon)
    go_wp2_with fail
    go_ret
    exact ⟨by rw [hf.out]; rfl, HUW.out _⟩
  have d2 : decide (6 < x.w) = false := decide_eq_false (by omega)
  by_cases h3 : 2 ≤ x.h
  case neg =>
    have hcon : ¬ (2 ≤ x.w ∧ x.w ≤ 6 ∧ 2 ≤ x.h ∧ x.h ≤ 6 ∧ (x.s.length : Int) = x.w * x.h) := fun h => h3 h.2.2.1
    have d3 : decide (x.h < 2) = true := decide_eq_true (by omega)
    replace hf := Lib.hid (hf.out hcon)
    go_wp2_with fail
    go_ret
    exact ⟨by rw [hf.out]; rfl, HUW.out _⟩
  have d3 : decide (x.h < 2) = false := decide_eq_false (by omega)
  by_cases h4 : x.h ≤ 6
  case neg =>
    have hcon : ¬ (2 ≤ x.w ∧ x.w ≤ 6 ∧ 2 ≤ x.h ∧ x.h ≤ 6 ∧ (x.s.length : Int) = x.w * x.h) := fun h => h4 h.2.2.2.1
    have d4 : decide (6 < x.h) = true := decide_eq_true (by omega)
    replace hf := Lib.hid (hf.out hcon)
    go_wp2_with fail
    go_ret
    exact ⟨by rw [hf.out]; rfl, HUW.out _⟩
  have d4 : decide (6 < x.h) = false := decide_eq_false (by omega)
  have hmul : 0 ≤ x.w * x.h ∧ x.w * x.h ≤ 36 := by
    have a1 := Int.mul_le_mul_of_nonneg_left h4 (show 0 ≤ x.w by omega)
    have a2 := Int.mul_nonneg (show 0 ≤ x.w by omega) (show 0 ≤ x.h by omega)
    omega
  have k1 : IntKind.i64.wrap (x.w * x.h) = x.w * x.h := IntWalk.i64_in _ (by omega)
  by_cases h5 : (x.s.length : Int) = x.w * x.h
  case neg =>
    have hcon : ¬ (2 ≤ x.w ∧ x.w ≤ 6 ∧ 2 ≤ x.h ∧ x.h ≤ 6 ∧ (x.s.length : Int) = x.w * x.h) := fun h => h5 h.2.2.2.2
    replace hf := Lib.hid (hf.out hcon)
    go_wp2_with fail
    go_ret
    exact ⟨by rw [hf.out]; rfl, HUW.out _⟩
  have HOK := Lib.hid (And.intro h1 (And.intro h2 (And.intro h3 (And.intro h4 h5))))
  have h36 : x.s.length ≤ 36 := by omega
  have H36 := Lib.hid h36
  go_wp2_with fail
  clear h1 h2 h3 h4 h5 d1 d2 d3 d4 hmul k1 hf
  go_loopw [3] (fun iv wr => ∃ (k : Nat) (u : World), k ≤ x.s.length ∧ iv = .int .i64 k ∧ wr = ovr W u ∧ ∀ j, j < k → spn9 (at0 x.s j) (-1000000) 1000000 = true) (fun iv _ => x.s.length - (intOf iv).toNat)
  case atStart => exact ⟨0, u0, by omega, rfl, rfl, fun j hj => absurd hj (by omega)⟩
  case round =>
    obtain ⟨k, u, hk, rfl, rfl, hall⟩ := hrel
    have HALL := Lib.hid hall
    clear hall
    by_cases hlt : k < x.s.length
    case neg =>
      obtain rfl : k = x.s.length := by omega
      have hf := Lib.hid (okSh_yes HOK.out HALL.out)
      have ki : decide ((x.s.length : Int) < (x.s.length : Int)) = false := decide_eq_false (by omega)
      go_wp2_with fail
      refine (span_any x.c 0 10000000 _).mono ?_
      rintro e w1 ⟨rfl, hb1⟩
      obtain ⟨u2, rfl⟩ := ovr_next hb1
      clear hb1
      go_wp2_with fail
      go_ret
      exact ⟨by rw [hf.out]; rfl, HUW.out _⟩
    have HLT := Lib.hid hlt
    have hk36 : k ≤ 36 := by omega
    have ki : decide ((k : Int) < (x.s.length : Int)) = true := decide_eq_true (by omega)
    obtain ⟨b, o, rfl, _, e0, e1⟩ := (HX.out _ (HUW.out u)).rng hlt
    have HS : Hid (spn9 (at0 x.s k) (-1000000) 1000000 = false → okSh x = false) := okSh_bad hlt
    have HT : Hid (spn9 (at0 x.s k) (-1000000) 1000000 = true → ∀ j, j < k + 1 → spn9 (at0 x.s j) (-1000000) 1000000 = true) := fun h j hj => by
      rcases Nat.lt_or_ge j k with h1 | h1
      · exact HALL.out j h1
      · obtain rfl : j = k := by omega
        exact h
    obtain ⟨p, hp⟩ : ∃ p, at0 x.s k = p := ⟨_, rfl⟩
    rw [hp] at e0 e1 HS HT
    have CS := Lib.hid fun V => span_any p (-1000000) 1000000 V
    clear hp
    rcases hsp : spn9 p (-1000000) 1000000 with _ | _ <;> rw [hsp] at CS
    · have hf := Lib.hid (HS.out hsp)
      clear hsp
      go_wp2_with fail
      refine (CS.out _).mono ?_
      rintro e w1 ⟨rfl, hb1⟩
      obtain ⟨u1, rfl⟩ := ovr_next hb1
      clear hb1
      go_wp2_with fail
      go_ret
      exact ⟨by rw [hf.out]; rfl, HUW.out _⟩
    · have HN := Lib.hid (HT.out hsp)
      clear hsp
      go_wp2_with fail
      refine (CS.out _).mono ?_
      rintro e w1 ⟨rfl, hb1⟩
      obtain ⟨u1, rfl⟩ := ovr_next hb1
      clear hb1
      go_wp2_with fail
      go_roundw
      case rel => exact ⟨k + 1, u1, HLT.out, by go_num, rfl, HN.out⟩
      case measure => have := HLT.out; simp [intOf]; omega
/-! ends. -/
def enK (xs : List Rng) : Nat → Rng
  | 0 => at0 xs 0 | k + 1 => ⟨min (enK xs k).lo (at0 xs (k + 1)).lo, max (enK xs k).hi (at0 xs (k + 1)).hi⟩
theorem enK_spec (xs : List Rng) : ∀ k, (∀ j, j ≤ k → (enK xs k).lo ≤ (at0 xs j).lo ∧ (at0 xs j).hi ≤ (enK xs k).hi) ∧ (∃ j, j ≤ k ∧ (enK xs k).lo = (at0 xs j).lo) ∧ ∃ j, j ≤ k ∧ (enK xs k).hi = (at0 xs j).hi
  | 0 => ⟨fun j hj => by obtain rfl : j = 0 := by omega
                         exact ⟨Int.le_refl _, Int.le_refl _⟩, ⟨0, Nat.le_refl _, rfl⟩, ⟨0, Nat.le_refl _, rfl⟩⟩
  | k + 1 => by
    obtain ⟨h1, ⟨a, ha, ea⟩, ⟨b, hb, eb⟩⟩ := enK_spec xs k
    refine ⟨fun j hj => ?_, ?_, ?_⟩
    · show min _ _ ≤ _ ∧ _ ≤ max _ _
      rcases Nat.lt_or_ge k j with h2 | h2
      · obtain rfl : j = k + 1 := by omega
        omega
      · have := h1 j h2
        omega
    · show ∃ j, j ≤ k + 1 ∧ min _ _ = _
      rcases Int.le_total (enK xs k).lo (at0 xs (k + 1)).lo with h2 | h2
      · exact ⟨a, by omega, by omega⟩
      · exact ⟨k + 1, by omega, by omega⟩
    · show ∃ j, j ≤ k + 1 ∧ max _ _ = _
      rcases Int.le_total (enK xs k).hi (at0 xs (k + 1)).hi with h2 | h2
      · exact ⟨k + 1, by omega, by omega⟩
      · exact ⟨b, by omega, by omega⟩
theorem en_hu {xs : List Rng} (h : 0 < xs.length) : enK xs (xs.length - 1) = hu9 xs := by
  obtain ⟨h1, ⟨a, ha, ea⟩, ⟨b, hb, eb⟩⟩ := enK_spec xs (xs.length - 1)
  obtain ⟨g1, ⟨c, hc, ec⟩, ⟨d, hd, ed⟩⟩ := hu9_spec h
  have a1 := g1 a (by omega)
  have a2 := g1 b (by omega)
  have a3 := h1 c (by omega)
  have a4 := h1 d (by omega)
  have e1 : (enK xs (xs.length - 1)).lo = (hu9 xs).lo := by omega
  have e2 : (enK xs (xs.length - 1)).hi = (hu9 xs).hi := by omega
  cases hq : enK xs (xs.length - 1)
  cases hr : hu9 xs
  rw [hq, hr] at e1 e2
  simp only at e1 e2
  rw [e1, e2]
set_option maxHeartbeats 2000000 in
theorem ends_any (x : Sht) (A : Option Addr) (n : Nat) (w : World) (B : Nat) (hB : B ≤ w.heap.size) (hx : Rd w B 2 A x.s.length (rR x.s)) (h0 : 0 < x.s.length) (hm : x.s.length ≤ 36) :
    Calls Try.prog 61 #[.agg (shA x A n)] w fun e w' => e = .returned (.tuple #[I (hu9 x.s).lo, I (hu9 x.s).hi]) ∧ Below w.heap.size w w' := by
  have HX : Hid (∀ V, Below w.heap.size w V → Rd V B 2 A x.s.length (rR x.s)) := fun V hV => hx.below (hV.mono hB)
  have HM := Lib.hid (And.intro h0 hm)
  clear hx hB
  obtain ⟨W, hW⟩ : ∃ W, W = (w.alloc (.cells #[I x.w, I x.h, I x.c.lo, I x.c.hi, .slice A x.s.length n] 37)) := ⟨_, rfl⟩
  have rowW0 : W.heap[w.heap.size]? = some (.cells #[I x.w, I x.h, I x.c.lo, I x.c.hi, .slice A x.s.length n] 37 (0, 0)) := by rw [hW]; exact heap_last _ _ _ rfl
  have yW00 := ovr_cell (W := W) (b := w.heap.size) (o := 0) (v := I x.w) (by rw [cell_of_row _ _ _ _ _ _ rowW0]; rfl)
  have yW01 := ovr_cell (W := W) (b := w.heap.size) (o := 1) (v := I x.h) (by rw [cell_of_row _ _ _ _ _ _ rowW0]; rfl)
  have yW02 := ovr_cell (W := W) (b := w.heap.size) (o := 2) (v := I x.c.lo) (by rw [cell_of_row _ _ _ _ _ _ rowW0]; rfl)
  have yW03 := ovr_cell (W := W) (b := w.heap.size) (o := 3) (v := I x.c.hi) (by rw [cell_of_row _ _ _ _ _ _ rowW0]; rfl)
  have yW04 := ovr_cell (W := W) (b := w.heap.size) (o := 4) (v := .slice A x.s.length n) (by rw [cell_of_row _ _ _ _ _ _ rowW0]; rfl)
  have RrowW0 := Lib.hid (ovr_row rowW0)
  clear rowW0
  have HUW : Hid (∀ u, Below w.heap.size w (ovr W u)) := U1 hW
  have HW := Lib.hid hW
  clear hW
  go_enter Try.func61, Try.ntmps61
  go_upto_region 1 with (fail)
  rw [← HW.out]
  obtain ⟨u0, hu0⟩ := ovr_self W
  rw [hu0]
  clear hu0
  have c1 : decide (0 < x.s.length) = true := decide_eq_true HM.out.1
  have c2 : decide ((0 : Int) < (x.s.length : Int)) = true := decide_eq_true (by have := HM.out.1; omega)
  have hbX := ovr_below W u0
  obtain ⟨X, hX⟩ : ∃ X, X = ovr W u0 := ⟨_, rfl⟩
  rw [← hX] at hbX
  rw [← hX]
  have hX' := Lib.hid hX
  clear hX
  have hbX' := Lib.hid hbX
  have reX : ∀ v, ∃ x, ovr X v = ovr W x := fun v => ovr_reB hbX v
  replace yW00 := tr_cell reX yW00
  replace yW01 := tr_cell reX yW01
  replace yW02 := tr_cell reX yW02
  replace yW03 := tr_cell reX yW03
  replace yW04 := tr_cell reX yW04
  replace RrowW0 := Lib.hid (tr_row reX RrowW0.out)
  have HUX : Hid (∀ u, Below w.heap.size w (ovr X u)) := fun u => by obtain ⟨x, hx⟩ := reX u; rw [hx]; exact HUW.out x
  clear reX hbX
  obtain ⟨b, o, rfl, _, e0, e1⟩ := (HX.out X (below_self HUX.out)).rng HM.out.1
  rw [Nat.zero_mul, Nat.add_zero] at e0 e1
  have z0 := ovr_cell e0
  have z1 := ovr_cell e1
  refine Dl.wp_region_late 10 [5, 6, 7, 8, 9] (fun _ => none) (by kernel_rfl) (by kernel_rfl) (by kernel_rfl) (by kernel_rfl) [] (E := 24) ⟨by kernel_rfl, alloc_rng9, fun j hj => by cases hj⟩ (by kernel_rfl) (fun i hi => by simp only [List.mem_cons, List.not_mem_nil, or_false] at hi; rcases hi with rfl | rfl | rfl | rfl | rfl <;> rfl) (fun c a d v w h => by cases d <;> exact h) ?_
  simp only [List.take_succ_cons, List.take_zero, List.drop_succ_cons, List.drop_zero]
  repeat (refine Dk.wpG_one rfl rfl rfl ?_; intro K hK; go_big_quiet_op; go_big_quiet_on)
  refine Dk.wpG_nil (fun w5 hw5 hG => ?_)
  clear hG z0 z1 e0 e1 c1 c2
  refine Dl.wpTailH_cons ?_
  refine wp_assign _ (I (at0 x.s 0).lo) rfl rfl ?_
  refine ⟨hw5, ?_⟩
  refine Dl.wpTailH_cons ?_
  refine wp_assign _ (I (at0 x.s 0).hi) rfl rfl ?_
  refine ⟨hw5, ?_⟩
  refine Dl.wpTailH_nil ?_
  simp only [Act.put]
  obtain ⟨x5, rfl⟩ : ∃ z, w5 = ovr X z := ⟨w5, ovr_of hw5.le⟩
  clear hw5
  go_wp2_with fail
  go_loopw [6, 4, 5] (fun iv lv hv wr => ∃ (k : Nat) (u : World), (1 ≤ k ∧ k ≤ x.s.length) ∧ iv = .int .i64 k ∧ lv = I (enK x.s (k - 1)).lo ∧ hv = I (enK x.s (k - 1)).hi ∧ wr = ovr X u) (fun iv _ _ _ => x.s.length - (intOf iv).toNat)
  case atStart => exact ⟨1, x5, ⟨by omega, HM.out.1⟩, rfl, rfl, rfl, rfl⟩
  case round =>
    obtain ⟨k, u, hk, rfl, rfl, rfl, rfl⟩ := hrel
    have HK := Lib.hid hk
    have h36 : k ≤ 36 := by have := HM.out.2; omega
    by_cases hlt : k < x.s.length
    case neg =>
      obtain rfl : k = x.s.length := by omega
      have d0 : decide ((x.s.length : Int) < (x.s.length : Int)) = false := decide_eq_false (by omega)
      have he : Hid (enK x.s (x.s.length - 1) = hu9 x.s) := en_hu HM.out.1
      clear hk hlt
      go_wp2_with fail
      go_ret2
      exact ⟨by rw [he.out]; rfl, HUX.out u⟩
    have HLT := Lib.hid hlt
    have d0 : decide ((k : Int) < (x.s.length : Int)) = true := decide_eq_true (by omega)
    have d1 : decide (k < x.s.length) = true := decide_eq_true (by omega)
    have HE : Hid (enK x.s k = ⟨min (enK x.s (k - 1)).lo (at0 x.s k).lo, max (enK x.s (k - 1)).hi (at0 x.s k).hi⟩) := by
      obtain ⟨m, rfl⟩ : ∃ m, k = m + 1 := ⟨k - 1, by omega⟩
      rfl
    obtain ⟨b2, o2, hbo, _, e0, e1⟩ := (HX.out _ (HUX.out u)).rng hlt
    (first | (injection hbo with hbo; injection hbo with hb1 hb2 _; subst hb1 hb2) | subst hbo)
    obtain ⟨p, hp⟩ : ∃ p, at0 x.s k = p := ⟨_, rfl⟩
    obtain ⟨s, hs⟩ : ∃ s, enK x.s (k - 1) = s := ⟨_, rfl⟩
    rw [hp] at e0 e1 HE
    rw [hs] at HE ⊢
    clear hk hp hs
    go_upto_region 5 with fail
    have hbY := ovr_below X u
    obtain ⟨Y, hY⟩ : ∃ Y, Y = ovr X u := ⟨_, rfl⟩
    rw [← hY] at hbY
    rw [← hY]
    have hY' := Lib.hid hY
    clear hY
    have hbY' := Lib.hid hbY
    have reY : ∀ v, ∃ x, ovr Y v = ovr X x := fun v => ovr_reB hbY v
    replace yW00 := tr_cell reY yW00
    replace yW01 := tr_cell reY yW01
    replace yW02 := tr_cell reY yW02
    replace yW03 := tr_cell reY yW03
    replace yW04 := tr_cell reY yW04
    replace RrowW0 := Lib.hid (tr_row reY RrowW0.out)
    have HBY : Hid (∀ u, Below X.heap.size X (ovr Y u)) := fun u => by obtain ⟨x, hx⟩ := reY u; rw [hx]; exact ovr_below _ _
    clear reY hbY
    rw [← hY'.out] at e0 e1
    have z0 := ovr_cell e0
    have z1 := ovr_cell e1
    refine Dl.wp_region_late 16 [8, 9, 10, 11, 12, 13, 14, 15] (fun _ => none) (by kernel_rfl) (by kernel_rfl) (by kernel_rfl) (by kernel_rfl) [] (E := 24) ⟨by kernel_rfl, alloc_rng9, fun j hj => by cases hj⟩ (by kernel_rfl) (fun i hi => by simp only [List.mem_cons, List.not_mem_nil, or_false] at hi; rcases hi with rfl | rfl | rfl | rfl | rfl | rfl | rfl | rfl <;> rfl) (fun c a d v w h => by cases d <;> exact h) ?_
    simp only [List.take_succ_cons, List.take_zero, List.drop_succ_cons, List.drop_zero]
    repeat (refine Dk.wpG_one rfl rfl rfl ?_; intro K hK; go_big_quiet_op; go_big_quiet_on)
    refine Dk.wpG_nil (fun w5 hw5 hG => ?_)
    clear hG z0 z1 e0 e1
    refine Dl.wpTailH_cons ?_
    refine wp_assign _ (I (min s.lo p.lo)) rfl rfl ?_
    refine ⟨hw5, ?_⟩
    refine Dl.wpTailH_cons ?_
    refine wp_assign _ (I (max s.hi p.hi)) rfl rfl ?_
    refine ⟨hw5, ?_⟩
    refine Dl.wpTailH_nil ?_
    simp only [Act.put]
    obtain ⟨x5, rfl⟩ : ∃ z, w5 = ovr Y z := ⟨w5, ovr_of hw5.le⟩
    clear hw5
    go_wp2_with fail
    go_roundw
    case rel => exact ⟨k + 1, _, ⟨by omega, HLT.out⟩, by go_num, by rw [Nat.add_sub_cancel, HE.out], by rw [Nat.add_sub_cancel, HE.out], ovr_of (HBY.out x5)⟩
    case measure => have := HLT.out; simp [intOf]; omega
/-! Thickness. -/
set_option maxHeartbeats 2000000 in
theorem refThickness_any (x : Sht) (A : Option Addr) (n : Nat) (w : World) (B : Nat) (hB : B ≤ w.heap.size) (hx : Rd w B 2 A x.s.length (rR x.s)) (ho : okSh x = true) :
    Calls Try.prog 27 #[.agg (shA x A n)] w fun e w' => e = .returned (th9 x).val ∧ Below w.heap.size w w' := by
  have CE := Lib.hid fun V (hV : Below w.heap.size w V) => ends_any x A n V B (Nat.le_trans hB hV.size) (hx.below (hV.mono hB)) (sh_pos ho) (sh_small ho)
  have hbd := hu9_bd (sh_pos ho) (okSh_iff.1 ho).2.2.2.1
  have hc := spn9_iff.1 (okSh_iff.1 ho).2.2.2.2
  have hf : Hid (th9 x = ⟨x.c.lo + (hu9 x.s).lo, x.c.hi + (hu9 x.s).hi⟩) := rfl
  obtain ⟨h, hh⟩ : ∃ h, hu9 x.s = h := ⟨_, rfl⟩
  rw [hh] at CE hbd hf
  have k1 : IntKind.i64.wrap (x.c.lo + h.lo) = x.c.lo + h.lo := IntWalk.i64_in _ (by omega)
  have k2 : IntKind.i64.wrap (x.c.hi + h.hi) = x.c.hi + h.hi := IntWalk.i64_in _ (by omega)
  clear hbd hc hx hB hh ho
  obtain ⟨W, hW⟩ : ∃ W, W = ((w.alloc (.cells #[I x.w, I x.h, I x.c.lo, I x.c.hi, .slice A x.s.length n] 37)).alloc (.cells #[I 0, I 0] 24)) := ⟨_, rfl⟩
  have rowW0 : W.heap[w.heap.size]? = some (.cells #[I x.w, I x.h, I x.c.lo, I x.c.hi, .slice A x.s.length n] 37 (0, 0)) := by rw [hW]; exact heap_before (heap_last _ _ _ rfl)
  have yW00 := ovr_cell (W := W) (b := w.heap.size) (o := 0) (v := I x.w) (by rw [cell_of_row _ _ _ _ _ _ rowW0]; rfl)
  have yW01 := ovr_cell (W := W) (b := w.heap.size) (o := 1) (v := I x.h) (by rw [cell_of_row _ _ _ _ _ _ rowW0]; rfl)
  have yW02 := ovr_cell (W := W) (b := w.heap.size) (o := 2) (v := I x.c.lo) (by rw [cell_of_row _ _ _ _ _ _ rowW0]; rfl)
  have yW03 := ovr_cell (W := W) (b := w.heap.size) (o := 3) (v := I x.c.hi) (by rw [cell_of_row _ _ _ _ _ _ rowW0]; rfl)
  have yW04 := ovr_cell (W := W) (b := w.heap.size) (o := 4) (v := .slice A x.s.length n) (by rw [cell_of_row _ _ _ _ _ _ rowW0]; rfl)
  have RrowW0 := Lib.hid (ovr_row rowW0)
  clear rowW0
  have rowW1 : W.heap[w.heap.size + 1]? = some (.cells #[I 0, I 0] 24 (0, 0)) := by rw [hW]; exact heap_last _ _ _ (by simp)
  have yW10 := ovr_cell (W := W) (b := w.heap.size + 1) (o := 0) (v := I 0) (by rw [cell_of_row _ _ _ _ _ _ rowW1]; rfl)
  have yW11 := ovr_cell (W := W) (b := w.heap.size + 1) (o := 1) (v := I 0) (by rw [cell_of_row _ _ _ _ _ _ rowW1]; rfl)
  have RrowW1 := Lib.hid (ovr_row rowW1)
  clear rowW1
  have HUW : Hid (∀ u, Below w.heap.size w (ovr W u)) := U2 hW
  have HW := Lib.hid hW
  clear hW
  go_enter Try.func27, Try.ntmps27
  go_upto_region 1 with (fail)
  rw [← HW.out]
  obtain ⟨u0, hu0⟩ := ovr_self W
  rw [hu0]
  clear hu0
  go_wp2_with fail
  refine (CE.out _ (HUW.out u0)).mono ?_
  rintro e w1 ⟨rfl, hb1⟩
  obtain ⟨u1, rfl⟩ := ovr_next hb1
  clear hb1
  go_wp2_with (refine wpList_store_row rfl 24 _ _ rfl (w.heap.size + 1) rfl _ _ (RrowW1.out _) _ rfl (one2 rfl rfl) rfl (by kernel_rfl) ?_)
  refine bodyPost_ret (results_cell_only rfl _ _ (w.heap.size + 1) 24 _ (0, 0) _ rfl (setRow_same (RrowW1.out _)) Try.underlying24 rfl (by kernel_rfl)) rfl ?_
  exact ⟨by rw [hf.out], below_setRow (HUW.out _) (by omega) _⟩
end Go.Proofs.Ytljjpidigckheaa.Un
