/- Contract of bouleref09: span. Contracts of bouleref09: Sheet, ends, Thickness. -/
import Derived.Test.YtljjpidigckheaaFf
namespace Go.Proofs.Ytljjpidigckheaa.Un
open Go.RowKit
set_option maxHeartbeats 1000000 in
theorem span_any (r : Rng) (l h : Int) (w : World) :
 Calls Try.prog 58 #[.agg #[I r.lo, I r.hi], I l, I h] w fun e w' => e = .returned (.bool (spn9 r l h)) ∧ Below w.heap.size w w' := by
 have hf : Hid (spn9 r l h = (decide (l ≤ r.lo) && (decide (r.lo ≤ r.hi) && decide (r.hi ≤ h)))) := rfl
 obtain ⟨W, hW⟩ : ∃ W, W = (w.alloc (.cells #[I r.lo, I r.hi] 24)) := ⟨_, rfl⟩
 have rowW0 : W.heap[w.heap.size]? = some (.cells #[I r.lo, I r.hi] 24 (0, 0)) := by rw [hW]; exact heap_last _ _ _ rfl
 have yW00 := ovr_cell (W := W) (b := w.heap.size) (o := 0) (v := I r.lo) (by rw [cell_of_row _ _ _ _ _ _ rowW0]; rfl)
 have yW01 := ovr_cell (W := W) (b := w.heap.size) (o := 1) (v := I r.hi) (by rw [cell_of_row _ _ _ _ _ _ rowW0]; rfl)
 have RrowW0 := Lib.hid (ovr_row rowW0)
 clear rowW0
 have HUW : Hid (∀ u, Below w.heap.size w (ovr W u)) := U1 hW
 have HW := Lib.hid hW
 clear hW
 go_enter Try.func58, Try.ntmps58
 go_upto_region 1 with (fail)
 rw [← HW.out]
 obtain ⟨u0, hu0⟩ := ovr_self W
 rw [hu0]
 clear hu0
 rcases h1 : decide (l ≤ r.lo) with _ | _ <;> rw [h1] at hf
 · go_wp2_with fail
   go_ret
   exact ⟨by rw [hf.out]; rfl, HUW.out _⟩
 rcases h2 : decide (r.lo ≤ r.hi) with _ | _ <;> rw [h2] at hf
 · go_wp2_with fail
   go_ret
   exact ⟨by rw [hf.out]; rfl, HUW.out _⟩
 rcases h3 : decide (r.hi ≤ h) with _ | _ <;> rw [h3] at hf
 all_goals
  go_wp2_with fail
  go_ret
  exact ⟨by rw [hf.out]; rfl, HUW.out _⟩
end Go.Proofs.Ytljjpidigckheaa.Un
namespace Go.Proofs.Ytljjpidigckheaa.Un
open Go.RowKit
theorem okSh_not {x : Sht} (h : ¬ (2 ≤ x.w ∧ x.w ≤ 6 ∧ 2 ≤ x.h ∧ x.h ≤ 6 ∧ (x.s.length : Int) = x.w * x.h)) : okSh x = false := by
 rcases ho : okSh x with _ | _
 · rfl
 · obtain ⟨⟨a, b⟩, ⟨c, d⟩, e, _, _⟩ := okSh_iff.1 ho
   exact absurd ⟨a, b, c, d, e⟩ h
theorem okSh_bad {x : Sht} {k : Nat} (hk : k < x.s.length) (h : spn9 (at0 x.s k) (-1000000) 1000000 = false) : okSh x = false := by
 rcases ho : okSh x with _ | _
 · rfl
 · have := all9_at (okSh_iff.1 ho).2.2.2.1 hk
   have h2 := spn9_iff.2 this
   rw [h] at h2
   cases h2
theorem okSh_yes {x : Sht} (h : 2 ≤ x.w ∧ x.w ≤ 6 ∧ 2 ≤ x.h ∧ x.h ≤ 6 ∧ (x.s.length : Int) = x.w * x.h) (hs : ∀ k, k < x.s.length → spn9 (at0 x.s k) (-1000000) 1000000 = true) : okSh x = spn9 x.c 0 10000000 := by
 have ha : all9 (-1000000) 1000000 x.s = true := all9_iff.2 fun r hr => by
  obtain ⟨k, hk, rfl⟩ := List.getElem_of_mem hr
  have := hs k hk
  rwa [at0_get hk] at this
 unfold okSh
 rw [ha]
 simp only [h, decide_true, Bool.true_and]
set_option maxHeartbeats 2000000 in
theorem refSheet_any (x : Sht) (A : Option Addr) (n : Nat) (w : World) (B : Nat) (hB : B ≤ w.heap.size) (hx : Rd w B 2 A x.s.length (rR x.s)) (hm : x.s.length ≤ maxLen) :
 Calls Try.prog 25 #[.agg (shA x A n)] w fun e w' => e = .returned (.bool (okSh x)) ∧ Below w.heap.size w w' := by
 have HX : Hid (∀ V, Below w.heap.size w V → Rd V B 2 A x.s.length (rR x.s)) := fun V hV => hx.below (hV.mono hB)
 have hf := Lib.hid (okSh_not (x := x))
 have HM := Lib.hid hm
 clear hx hB hm
 obtain ⟨W, hW⟩ : ∃ W, W = (w.alloc (.cells #[I x.w, I x.h, I x.c.lo, I x.c.hi, .slice A x.s.length n] 37)) := ⟨_, rfl⟩
 have rowW0 : W.heap[w.heap.size]? = some (.cells #[I x.w, I x.h, I x.c.lo, I x.c.hi, .slice A x.s.length n] 37 (0, 0)) := by rw [hW]; exact heap_last _ _ _ rfl
 have yW00 := ovr_cell (W := W) (b := w.heap.size) (o := 0) (v := I x.w) (by rw [cell_of_row _ _ _ _ _ _ rowW0]; rfl)
 have yW01 := ovr_cell (W := W) (b := w.heap.size) (o := 1) (v := I x.h) (by rw [cell_of_row _ _ _ _ _ _ rowW0]; rfl)
 have yW02 := ovr_cell (W := W) (b := w.heap.size) (o := 2) (v := I x.c.lo) (by rw [cell_of_row _ _ _ _ _ _ rowW0]; rfl)
 have yW03 := ovr_cell (W := W) (b := w.heap.size) (o := 3) (v := I x.c.hi) (by rw [cell_of_row _ _ _ _ _ _ rowW0]; rfl)
 have yW04 := ovr_cell (W := W) (b := w.heap.size) (o := 4) (v := .slice A x.s.length n) (by rw [cell_of_row _ _ _ _ _ _ rowW0]; rfl)
 have RrowW0 := Lib.hid (ovr_row rowW0)
 clear rowW0
 have HUW : Hid (∀ u, Below w.heap.size w (ovr W u)) := U1 hW
 have HW := Lib.hid hW
 clear hW
 go_enter Try.func25, Try.ntmps25
 go_upto_region 1 with (fail)
 rw [← HW.out]
 obtain ⟨u0, hu0⟩ := ovr_self W
 rw [hu0]
 clear hu0
 by_cases h1 : 2 ≤ x.w
 case neg =>
  have hcon : ¬ (2 ≤ x.w ∧ x.w ≤ 6 ∧ 2 ≤ x.h ∧ x.h ≤ 6 ∧ (x.s.length : Int) = x.w * x.h) := fun h => h1 h.1
  have d1 : decide (x.w < 2) = true := decide_eq_true (by omega)
  replace hf := Lib.hid (hf.out hcon)
  go_wp2_with fail
  go_ret
  exact ⟨by rw [hf.out]; rfl, HUW.out _⟩
 have d1 : decide (x.w < 2) = false := decide_eq_false (by omega)
 by_cases h2 : x.w ≤ 6
 case neg =>
  have hcon : ¬ (2 ≤ x.w ∧ x.w ≤ 6 ∧ 2 ≤ x.h ∧ x.h ≤ 6 ∧ (x.s.length : Int) = x.w * x.h) := fun h => h2 h.2.1
  have d2 : decide (6 < x.w) = true := decide_eq_true (by omega)
  replace hf := Lib.hid (hf.out hcon)
  go_wp2_with fail
  go_ret
  exact ⟨by rw [hf.out]; rfl, HUW.out _⟩
 have d2 : decide (6 < x.w) = false := decide_eq_false (by omega)
 by_cases h3 : 2 ≤ x.h
 case neg =>
  have hcon : ¬ (2 ≤ x.w ∧ x.w ≤ 6 ∧ 2 ≤ x.h ∧ x.h ≤ 6 ∧ (x.s.length : Int) = x.w * x.h) := fun h => h3 h.2.2.1
  have d3 : decide (x.h < 2) = true := decide_eq_true (by omega)
  replace hf := Lib.hid (hf.out hcon)
  go_wp2_with fail
  go_ret
  exact ⟨by rw [hf.out]; rfl, HUW.out _⟩
 have d3 : decide (x.h < 2) = false := decide_eq_false (by omega)
 by_cases h4 : x.h ≤ 6
 case neg =>
  have hcon : ¬ (2 ≤ x.w ∧ x.w ≤ 6 ∧ 2 ≤ x.h ∧ x.h ≤ 6 ∧ (x.s.length : Int) = x.w * x.h) := fun h => h4 h.2.2.2.1
  have d4 : decide (6 < x.h) = true := decide_eq_true (by omega)
  replace hf := Lib.hid (hf.out hcon)
  go_wp2_with fail
  go_ret
  exact ⟨by rw [hf.out]; rfl, HUW.out _⟩
 have d4 : decide (6 < x.h) = false := decide_eq_false (by omega)
 have hmul : 0 ≤ x.w * x.h ∧ x.w * x.h ≤ 36 := by
  have a1 := Int.mul_le_mul_of_nonneg_left h4 (show 0 ≤ x.w by omega)
  have a2 := Int.mul_nonneg (show 0 ≤ x.w by omega) (show 0 ≤ x.h by omega)
  omega
 have k1 : IntKind.i64.wrap (x.w * x.h) = x.w * x.h := IntWalk.i64_in _ (by omega)
 by_cases h5 : (x.s.length : Int) = x.w * x.h
 case neg =>
  have hcon : ¬ (2 ≤ x.w ∧ x.w ≤ 6 ∧ 2 ≤ x.h ∧ x.h ≤ 6 ∧ (x.s.length : Int) = x.w * x.h) := fun h => h5 h.2.2.2.2
  replace hf := Lib.hid (hf.out hcon)
  go_wp2_with fail
  go_ret
  exact ⟨by rw [hf.out]; rfl, HUW.out _⟩
 have HOK := Lib.hid (And.intro h1 (And.intro h2 (And.intro h3 (And.intro h4 h5))))
 have h36 : x.s.length ≤ 36 := by omega
 have H36 := Lib.hid h36
 go_wp2_with fail
 clear h1 h2 h3 h4 h5 d1 d2 d3 d4 hmul k1 hf
 go_loopw [3] (fun iv wr => ∃ (k : Nat) (u : World), k ≤ x.s.length ∧ iv = .int .i64 k ∧ wr = ovr W u ∧ ∀ j, j < k → spn9 (at0 x.s j) (-1000000) 1000000 = true) (fun iv _ => x.s.length - (intOf iv).toNat)
 case atStart => exact ⟨0, u0, by omega, rfl, rfl, fun j hj => absurd hj (by omega)⟩
 case round =>
  obtain ⟨k, u, hk, rfl, rfl, hall⟩ := hrel
  have HALL := Lib.hid hall
  clear hall
  by_cases hlt : k < x.s.length
  case neg =>
   obtain rfl : k = x.s.length := by omega
   have hf := Lib.hid (okSh_yes HOK.out HALL.out)
   have ki : decide ((x.s.length : Int) < (x.s.length : Int)) = false := decide_eq_false (by omega)
   go_wp2_with fail
   refine (span_any x.c 0 10000000 _).mono ?_
   rintro e w1 ⟨rfl, hb1⟩
   obtain ⟨u2, rfl⟩ := ovr_next hb1
   clear hb1
   go_wp2_with fail
   go_ret
   exact ⟨by rw [hf.out]; rfl, HUW.out _⟩
  have HLT := Lib.hid hlt
  have hk36 : k ≤ 36 := by omega
  have ki : decide ((k : Int) < (x.s.length : Int)) = true := decide_eq_true (by omega)
  obtain ⟨b, o, rfl, _, e0, e1⟩ := (HX.out _ (HUW.out u)).rng hlt
  have HS : Hid (spn9 (at0 x.s k) (-1000000) 1000000 = false → okSh x = false) := okSh_bad hlt
  have HT : Hid (spn9 (at0 x.s k) (-1000000) 1000000 = true → ∀ j, j < k + 1 → spn9 (at0 x.s j) (-1000000) 1000000 = true) := fun h j hj => by
   rcases Nat.lt_or_ge j k with h1 | h1
   · exact HALL.out j h1
   · obtain rfl : j = k := by omega
     exact h
  obtain ⟨p, hp⟩ : ∃ p, at0 x.s k = p := ⟨_, rfl⟩
  rw [hp] at e0 e1 HS HT
  have CS := Lib.hid fun V => span_any p (-1000000) 1000000 V
  clear hp
  rcases hsp : spn9 p (-1000000) 1000000 with _ | _ <;> rw [hsp] at CS
  · have hf := Lib.hid (HS.out hsp)
    clear hsp
    go_wp2_with fail
    refine (CS.out _).mono ?_
    rintro e w1 ⟨rfl, hb1⟩
    obtain ⟨u1, rfl⟩ := ovr_next hb1
    clear hb1
    go_wp2_with fail
    go_ret
    exact ⟨by rw [hf.out]; rfl, HUW.out _⟩
  · have HN := Lib.hid (HT.out hsp)
    clear hsp
    go_wp2_with fail
    refine (CS.out _).mono ?_
    rintro e w1 ⟨rfl, hb1⟩
    obtain ⟨u1, rfl⟩ := ovr_next hb1
    clear hb1
    go_wp2_with fail
    go_roundw
    case rel => exact ⟨k + 1, u1, HLT.out, by go_num, rfl, HN.out⟩
    case measure => have := HLT.out; simp [intOf]; omega
/-! ends. -/
/-! Thickness. -/
end Go.Proofs.Ytljjpidigckheaa.Un
