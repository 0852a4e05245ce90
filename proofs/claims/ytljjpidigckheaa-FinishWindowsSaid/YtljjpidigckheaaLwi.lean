/- The law FinishWindows: its walk. -/
import Derived.Test.YtljjpidigckheaaWn9
namespace Go.Proofs.Ytljjpidigckheaa.Un
open Go.RowKit
theorem rFr_c (l : List Frc) (k : Nat) : rFr l k 0 = I (fr0 l k).n ∧ rFr l k 1 = I (fr0 l k).d := ⟨rfl, rfl⟩
theorem rd_frc {w : World} {B n k : Nat} {A : Option Addr} {l : List Frc} (h : Rd w B 2 A n (rFr l)) (hk : k < n) : ∃ b o, A = some ⟨b, o, none⟩ ∧ b < B ∧ w.cell? ⟨b, o + k * 2, none⟩ = some (I (fr0 l k).n) ∧ w.cell? ⟨b, o + k * 2 + 1, none⟩ = some (I (fr0 l k).d) := by
 obtain ⟨b, o, e, hb, hc⟩ := h (by omega)
 exact ⟨b, o, e, hb, hc k hk 0 (by omega), hc k hk 1 (by omega)⟩
set_option maxRecDepth 100000 in
set_option maxHeartbeats 8000000 in
theorem finishWindows_any (x : Sht) (A : Option Addr) (n : Nat) (WI HI : Int) (w : World) (hm : x.s.length ≤ n ∧ n ≤ maxLen) (hx : Rd w w.heap.size 2 A x.s.length (rR x.s)) (hW : -9223372036854775808 ≤ WI ∧ WI ≤ 9223372036854775807) (hH : -9223372036854775808 ≤ HI ∧ HI ≤ 9223372036854775807) :
 Calls Try.prog 8 #[.agg (shA x A n), I WI, I HI] w fun e w' => e = .returned (.bool true) ∧ Below w.heap.size w w' := by
 have KN := Lib.hid known_any
 have HRD : Hid (∀ V, Below w.heap.size w V → Rd V w.heap.size 2 A x.s.length (rR x.s) ∧ w.heap.size ≤ V.heap.size) := fun V hV => ⟨hx.below hV, hV.size⟩
 have HM1 : Hid (x.s.length ≤ maxLen) := Nat.le_trans hm.1 hm.2
 have HWH := Lib.hid (And.intro hW hH)
 clear hx hm hW hH
 obtain ⟨W, hW⟩ : ∃ W, W = (w.alloc (.cells #[I x.w, I x.h, I x.c.lo, I x.c.hi, .slice A x.s.length n] 37)) := ⟨_, rfl⟩
 have rowW0 : W.heap[w.heap.size]? = some (.cells #[I x.w, I x.h, I x.c.lo, I x.c.hi, .slice A x.s.length n] 37 (0, 0)) := by rw [hW]; exact heap_last _ _ _ rfl
 have yW00 := ovr_cell (W := W) (b := w.heap.size) (o := 0) (v := I x.w) (by rw [cell_of_row _ _ _ _ _ _ rowW0]; rfl)
 have yW01 := ovr_cell (W := W) (b := w.heap.size) (o := 1) (v := I x.h) (by rw [cell_of_row _ _ _ _ _ _ rowW0]; rfl)
 have yW02 := ovr_cell (W := W) (b := w.heap.size) (o := 2) (v := I x.c.lo) (by rw [cell_of_row _ _ _ _ _ _ rowW0]; rfl)
 have yW03 := ovr_cell (W := W) (b := w.heap.size) (o := 3) (v := I x.c.hi) (by rw [cell_of_row _ _ _ _ _ _ rowW0]; rfl)
 have yW04 := ovr_cell (W := W) (b := w.heap.size) (o := 4) (v := .slice A x.s.length n) (by rw [cell_of_row _ _ _ _ _ _ rowW0]; rfl)
 have RrowW0 := Lib.hid (ovr_row rowW0)
 clear rowW0
 have HUW : Hid (∀ u, Below w.heap.size w (ovr W u)) := U1 hW
 have HW := Lib.hid hW
 clear hW
 go_enter Try.func8, Try.ntmps8
 go_upto_region 1 with (fail)
 rw [← HW.out]
 obtain ⟨u0, hu0⟩ := ovr_self W
 rw [hu0]
 clear hu0
 by_cases c1 : x.s.length ≤ 20
 case neg =>
  have d0 : decide ((20 : Int) < (x.s.length : Int)) = true := decide_eq_true (by omega)
  clear c1
  go_wp2_with fail
  refine (KN.out _).mono ?_
  rintro e w1 ⟨rfl, hb1⟩
  obtain ⟨uk, rfl⟩ := ovr_next hb1
  clear hb1
  go_wp2_with fail
  go_ret
  exact ⟨rfl, HUW.out _⟩
 have d0 : decide ((20 : Int) < (x.s.length : Int)) = false := decide_eq_false (by omega)
 have HC := Lib.hid c1
 clear c1
 go_upto_region 3 with fail
 have S0 : Hid (StL w [(w.heap.size, shA x A n, 37)] (ovr W u0)) := ⟨HUW.out u0, fun y hy => by
  rcases List.mem_cons.1 hy with rfl | hy
  · exact RrowW0.out u0
  cases hy⟩
 refine name_w fun V hV => ?_
 rw [← hV] at S0
 clear hV HUW RrowW0 d0
 have CO := Lib.hid (ownSheet_any x A n V w.heap.size (by have := HC.out; omega) S0.out.1.size (HRD.out _ S0.out.1).1)
 go_wp2_with (with_reducible show wpList _ _ _ _ _ _; refine wpList_load_row9 rfl 37 _ rfl w.heap.size rfl (shA x A n) _ _ _ S0.out.hd Try.underlying37 rfl (by kernel_rfl) ?_)
 refine CO.out.mono ?_
 rintro e w1 ⟨A2, c2, rfl, h1, hr, hb1⟩
 have S1 := Lib.hid (S0.out.below hb1)
 have CF := Lib.hid (windows_any x WI HI A2 c2 w1 w1.heap.size h1 (Nat.le_refl _) hr)
 obtain ⟨l, hl⟩ : ∃ l, wnX x WI HI = l := ⟨_, rfl⟩
 obtain ⟨er, her⟩ : ∃ l, wnE x WI HI = l := ⟨_, rfl⟩
 have CR : Hid (∀ V, Below w.heap.size w V → Calls Try.prog 37 #[.agg (shA x A n), I WI, I HI] V (RetWn V l er)) := fun V hV => by
  rw [← hl, ← her]
  exact refWindows_any x WI HI A n V w.heap.size HM1.out (HRD.out V hV).2 (HRD.out V hV).1 HWH.out
 rw [hl, her] at CF
 have hll : l.length ≤ 36 := by
  rw [← hl]
  unfold wnX
  by_cases h0 : wnE x WI HI = 0
  · rw [if_pos h0, wnL_len]
    unfold wnE at h0
    by_cases ho : okSh x = true
    · rw [if_pos ho] at h0
      by_cases hc : 2 ≤ WI ∧ WI ≤ x.w ∧ 2 ≤ HI ∧ HI ≤ x.h
      · obtain ⟨WW, HH, eW, eH, bW, bH, eL⟩ := sh_nat ho
        exact Nat.le_trans (Nat.mul_le_mul (show x.h.toNat - HI.toNat + 1 ≤ 6 by omega) (show x.w.toNat - WI.toNat + 1 ≤ 6 by omega)) (by omega)
      · rw [if_neg hc] at h0
        exact absurd h0 (by decide)
    · rw [if_neg ho] at h0
      exact absurd h0 (by decide)
  · rw [if_neg h0]
    exact Nat.zero_le _
 have HLL := Lib.hid hll
 clear h1 hr hb1 CO S0 hl her hll
 go_wp2_with fail
 refine CF.out.mono ?_
 rintro e w2 ⟨v1, rfl, ho1, hb2⟩
 have S2 := Lib.hid (S1.out.below hb2)
 obtain ⟨A3, c3, rfl, _, _, hr3⟩ := Rd.of_own_max ho1
 have HR3 := Lib.hid hr3
 clear ho1 hr3 hb2 CF S1
 go_upto_region 4 with fail
 have CR2 := Lib.hid (CR.out w2 S2.out.1)
 clear CR
 go_wp2_with (with_reducible show wpList _ _ _ _ _ _; refine wpList_load_row9 rfl 37 _ rfl w.heap.size rfl (shA x A n) _ _ _ S2.out.hd Try.underlying37 rfl (by kernel_rfl) ?_)
 refine CR2.out.mono ?_
 rintro e w3 ⟨v2, rfl, ho2, hb3⟩
 have S3 := Lib.hid (S2.out.below hb3)
 obtain ⟨A4, c4, rfl, _, _, hr4⟩ := Rd.of_own_max ho2
 have HR4 : Hid (Rd w3 w3.heap.size 2 A3 l.length (rFr l) ∧ Rd w3 w3.heap.size 2 A4 l.length (rFr l)) := ⟨(HR3.out.below hb3).more hb3.size, hr4⟩
 clear ho2 hr4 hb3 CR2 S2 HR3
 have q0 : (er != er) = false := bne_self_eq_false er
 have q1 : ((l.length : Int) != (l.length : Int)) = false := bne_self_eq_false _
 go_upto_region 7 with fail
 clear q0 q1
 go_wp2_with fail
 go_loopw [11] (fun iv wr => ∃ k : Nat, k ≤ l.length ∧ iv = .int .i64 k ∧ Below w3.heap.size w3 wr) (fun iv _ => l.length - (intOf iv).toNat)
 case atStart => exact ⟨0, Nat.zero_le _, rfl, Below.refl _ _⟩
 case round =>
  obtain ⟨k, hk, rfl, hb⟩ := hrel
  rename World => Y
  have HB := Lib.hid hb
  clear hb
  by_cases hlt : k < l.length
  case neg =>
   obtain rfl : k = l.length := by omega
   have ki : decide ((l.length : Int) < (l.length : Int)) = false := decide_eq_false (by omega)
   have SY := Lib.hid (S3.out.below HB.out)
   clear hk hlt
   go_wp2_with fail
   refine (KN.out _).mono ?_
   rintro e wk ⟨rfl, hb⟩
   have SK := Lib.hid (SY.out.below hb)
   clear hb
   go_wp2_with fail
   go_ret
   exact ⟨rfl, SK.out.1⟩
  have HLT := Lib.hid hlt
  have ki : decide ((k : Int) < (l.length : Int)) = true := decide_eq_true (by omega)
  have k36 : k ≤ 36 := by have := HLL.out; omega
  obtain ⟨b1, o1, rfl, _, e0, e1⟩ := rd_frc (HR4.out.1.below HB.out) hlt
  obtain ⟨b2, o2, rfl, _, g0, g1⟩ := rd_frc (HR4.out.2.below HB.out) hlt
  obtain ⟨f, hf⟩ : ∃ f, fr0 l k = f := ⟨_, rfl⟩
  rw [hf] at e0 e1 g0 g1
  clear hf hk
  go_upto_region 10 with fail
  have v0 := ovr_cell e0
  have v1 := ovr_cell e1
  have v2 := ovr_cell g0
  have v3 := ovr_cell g1
  clear e0 e1 g0 g1
  refine Gg.wp_region_make (fun _ => none) (by kernel_rfl) (by kernel_rfl) (by kernel_rfl) ?_
  repeat (first | (refine Gg.wpG_one rfl rfl rfl ?_; intro K hK; go_big_quiet_op; go_big_quiet_on) | (refine Gg.wpG_skip rfl ?_; simp only [Act.put, List.setIfInBounds_toArray, List.set_cons_zero, List.set_cons_succ]))
  refine Gg.wpG_nil (fun w5 hw5 hG => ?_)
  have HB5 := Lib.hid (HB.out.trans (hw5.le.mono HB.out.size))
  clear hG hw5 HB v0 v1 v2 v3
  go_wp2_with fail
  go_roundw
  case rel => exact ⟨k + 1, HLT.out, by go_num, HB5.out⟩
  case measure => have := HLT.out; simp [intOf]; omega
end Go.Proofs.Ytljjpidigckheaa.Un
