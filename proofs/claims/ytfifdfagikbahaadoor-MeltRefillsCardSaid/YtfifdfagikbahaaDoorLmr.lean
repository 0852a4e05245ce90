/- The walk of the law MeltRefills. -/
import Derived.Test.YtfifdfagikbahaaDoorNy
import Derived.Deep.RegionHeld3
namespace Go.Proofs.YtfifdfagikbahaaDoor
open Go.RowKit
attribute [local go_sem] Oper.semAt_some
theorem row_cell {W : World} {q : Nat} {t : TypeId} {cs : Array Value} (h : W.heap[q]? = some (.cells cs t (0, 0))) (k : Nat) (v : Value) (hv : cs[k]? = some v) : W.cell? ⟨q, k, none⟩ = some v := by
  rw [cell_of_row _ _ _ _ _ _ h]; exact hv
theorem bool_eq_false {p : Bool} {q : Prop} (h : p = true ↔ q) (hn : ¬ q) : p = false := by
  rcases p with _ | _
  · rfl
  · exact absurd (h.1 rfl) hn
set_option maxRecDepth 100000 in
set_option maxHeartbeats 4000000 in
theorem meltRefills_any (m : Mlt) (feed coef tgt : Rng) (s o : Int) (w : World) (hG : Glob w) (ho : -9223372036854775808 ≤ o ∧ o ≤ 9223372036854775807) :
    Calls Tryd.prog 4 #[.agg (mltArr m), .agg (rflArr feed coef tgt s o)] w fun e w' => e = .returned (.bool true) ∧ Below w.heap.size w w' := by
  obtain ⟨W, hW⟩ : ∃ W, W = (w.alloc (.cells (mltArr m) 27)).alloc (.cells (rflArr feed coef tgt s o) 44) := ⟨_, rfl⟩
  have hb0 : Below w.heap.size w W := by rw [hW]; exact ((Below.refl _ _).alloc (Nat.le_refl _) _).alloc (by simp) _
  have r0 : W.heap[w.heap.size]? = some (.cells (mltArr m) 27 (0, 0)) := by rw [hW]; exact heap_before (heap_last _ _ _ rfl)
  have r1 : W.heap[w.heap.size + 1]? = some (.cells (rflArr feed coef tgt s o) 44 (0, 0)) := by rw [hW]; exact heap_last _ _ _ (by simp)
  have sW : w.heap.size + 2 = W.heap.size := by rw [hW]; simp
  have HW := Lib.hid hW
  have HY : Hid (∀ W', Below W.heap.size W W' → W'.heap[w.heap.size]? = some (.cells (mltArr m) 27 (0, 0)) ∧ W'.heap[w.heap.size + 1]? = some (.cells (rflArr feed coef tgt s o) 44 (0, 0)) ∧ Glob W' ∧ Below w.heap.size w W') := fun W' h => by
    have h' := hb0.trans (h.mono hb0.size)
    exact ⟨(h.block _ (by omega)).trans r0, (h.block _ (by omega)).trans r1, hG.below h', h'⟩
  clear hW hb0 r0 r1 hG
  have HO := Lib.hid ho
  clear ho
  go_enter Tryd.func4, Tryd.ntmps4
  go_upto_region 1 with (fail)
  rw [← HW.out]
  have y := fun k v h => row_cell (HY.out W (Below.refl _ _)).1 k v h
  have x := fun k v h => row_cell (HY.out W (Below.refl _ _)).2.1 k v h
  have y0 := y 0 _ rfl
  have y1 := y 1 _ rfl
  have y2 := y 2 _ rfl
  have y3 := y 3 _ rfl
  have y4 := y 4 _ rfl
  have y5 := y 5 _ rfl
  have y6 := y 6 _ rfl
  have x0 := x 0 _ rfl
  have x1 := x 1 _ rfl
  have x2 := x 2 _ rfl
  have x3 := x 3 _ rfl
  have x4 := x 4 _ rfl
  have x5 := x 5 _ rfl
  have x6 := x 6 _ rfl
  have x7 := x 7 _ rfl
  clear y x
  go_wp2_with fail
  refine (refill_any m feed coef tgt s W).mono ?_
  rintro e w1 ⟨hb1, h1⟩
  have H1 : Hid (Below W.heap.size W w1) := hb1
  have hres : ∃ (n : Nat) (er : Int), e = .returned (.tuple #[I n, I er]) ∧ ((rfOk m feed coef tgt s ≠ 0 ∧ n = 0 ∧ er = rfOk m feed coef tgt s) ∨ (rfOk m feed coef tgt s = 0 ∧ ((er = 8 ∧ n = 0 ∧ ∀ x, lo0 m ≤ x → x ≤ hi0 m → ¬ Both m feed coef tgt s.toNat x) ∨ (er = 0 ∧ lo0 m ≤ n ∧ n ≤ hi0 m ∧ Both m feed coef tgt s.toNat n ∧ ∀ x, lo0 m ≤ x → x < n → ¬ Both m feed coef tgt s.toNat x)))) := by
    rcases h1 with ⟨h0, rfl⟩ | ⟨h0, n, er, rfl, h⟩
    · exact ⟨0, _, rfl, .inl ⟨h0, rfl, rfl⟩⟩
    · exact ⟨n, er, rfl, .inr ⟨h0, h⟩⟩
  obtain ⟨n, er, rfl, hres⟩ := hres
  have HR := Lib.hid hres
  clear h1 hb1 hres
  clear y0 y1 y2 y3 y4 y5 y6 x0 x1 x2 x3 x4 x5 x6 x7
  have y := fun k v h => row_cell (HY.out w1 H1.out).1 k v h
  have x := fun k v h => row_cell (HY.out w1 H1.out).2.1 k v h
  have y0 := y 0 _ rfl
  have y1 := y 1 _ rfl
  have y2 := y 2 _ rfl
  have y3 := y 3 _ rfl
  have y4 := y 4 _ rfl
  have y5 := y 5 _ rfl
  have y6 := y 6 _ rfl
  have x0 := x 0 _ rfl
  have x1 := x 1 _ rfl
  have x2 := x 2 _ rfl
  have x3 := x 3 _ rfl
  have x4 := x 4 _ rfl
  have x5 := x 5 _ rfl
  have x6 := x 6 _ rfl
  have x7 := x 7 _ rfl
  clear y x
  go_wp2_with fail
  refine (refMelt_any m w1).mono ?_
  rintro e w2 ⟨rfl, hb2⟩
  have H2 : Hid (Below W.heap.size W w2) := H1.out.trans (hb2.mono H1.out.size)
  clear hb2
  clear y0 y1 y2 y3 y4 y5 y6 x0 x1 x2 x3 x4 x5 x6 x7
  have y := fun k v h => row_cell (HY.out w2 H2.out).1 k v h
  have x := fun k v h => row_cell (HY.out w2 H2.out).2.1 k v h
  have y0 := y 0 _ rfl
  have y1 := y 1 _ rfl
  have y2 := y 2 _ rfl
  have y3 := y 3 _ rfl
  have y4 := y 4 _ rfl
  have y5 := y 5 _ rfl
  have y6 := y 6 _ rfl
  have x0 := x 0 _ rfl
  have x1 := x 1 _ rfl
  have x2 := x 2 _ rfl
  have x3 := x 3 _ rfl
  have x4 := x 4 _ rfl
  have x5 := x 5 _ rfl
  have x6 := x 6 _ rfl
  have x7 := x 7 _ rfl
  clear y x
  by_cases hM : isM m = true
  case neg =>
    as_aux_lemma =>
      have hM : isM m = false := by simpa using hM
      have hok : rfOk m feed coef tgt s = 2 := if_pos hM
      have hr := HR.out
      rw [hok] at hr
      obtain ⟨rfl, rfl⟩ : n = 0 ∧ er = 2 := by
        rcases hr with ⟨_, h⟩ | ⟨h, _⟩
        · exact h
        · exact absurd h (by decide)
      rw [hM]
      clear hr hok HR
      go_wp2_with fail
      refine (known_any w2 (HY.out w2 H2.out).2.2.1).mono ?_
      rintro e wk ⟨rfl, hbk⟩
      have HK : Hid (Below W.heap.size W wk) := H2.out.trans (hbk.mono H2.out.size)
      clear hbk
      go_wp2_with fail
      go_ret
      exact ⟨rfl, (HY.out wk HK.out).2.2.2⟩
  rw [hM]
  have HM := Lib.hid hM
  clear hM
  by_cases hS : spB s = true
  case neg =>
    as_aux_lemma =>
      have hS : spB s = false := by simpa using hS
      have hok : rfOk m feed coef tgt s = 7 := by unfold rfOk; rw [if_neg (by rw [HM.out]; decide), if_pos hS]
      have hr := HR.out
      rw [hok] at hr
      obtain ⟨rfl, rfl⟩ : n = 0 ∧ er = 7 := by
        rcases hr with ⟨_, h⟩ | ⟨h, _⟩
        · exact h
        · exact absurd h (by decide)
      unfold spB at hS
      by_cases hs0 : s < 0
      · have e1 : decide (s < 0) = true := decide_eq_true hs0
        clear hr hok HR hS hs0
        go_wp2_with fail
        refine (known_any w2 (HY.out w2 H2.out).2.2.1).mono ?_
        rintro e wk ⟨rfl, hbk⟩
        have HK : Hid (Below W.heap.size W wk) := H2.out.trans (hbk.mono H2.out.size)
        clear hbk
        go_wp2_with fail
        go_ret
        exact ⟨rfl, (HY.out wk HK.out).2.2.2⟩
      · have e1 : decide (s < 0) = false := decide_eq_false hs0
        have e2 : decide (2 < s) = true := decide_eq_true (by simp at hS; omega)
        clear hr hok HR hS hs0
        go_wp2_with fail
        refine (known_any w2 (HY.out w2 H2.out).2.2.1).mono ?_
        rintro e wk ⟨rfl, hbk⟩
        have HK : Hid (Below W.heap.size W wk) := H2.out.trans (hbk.mono H2.out.size)
        clear hbk
        go_wp2_with fail
        go_ret
        exact ⟨rfl, (HY.out wk HK.out).2.2.2⟩
  have HS := Lib.hid hS
  obtain ⟨s', rfl⟩ : ∃ n : Nat, s = n := ⟨s.toNat, by unfold spB at hS; simp at hS; omega⟩
  have hs : s' < 3 := by unfold spB at hS; simp at hS; omega
  have e1 : decide ((s' : Int) < 0) = false := decide_eq_false (by omega)
  have e2 : decide (2 < (s' : Int)) = false := decide_eq_false (by omega)
  clear hS
  go_wp2_with fail
  refine (refRange_any feed 1000000000 w2).mono ?_
  rintro e w3 ⟨rfl, hb3⟩
  have H3 : Hid (Below W.heap.size W w3) := H2.out.trans (hb3.mono H2.out.size)
  clear hb3
  clear y0 y1 y2 y3 y4 y5 y6 x0 x1 x2 x3 x4 x5 x6 x7
  have y := fun k v h => row_cell (HY.out w3 H3.out).1 k v h
  have x := fun k v h => row_cell (HY.out w3 H3.out).2.1 k v h
  have y0 := y 0 _ rfl
  have y1 := y 1 _ rfl
  have y2 := y 2 _ rfl
  have y3 := y 3 _ rfl
  have y4 := y 4 _ rfl
  have y5 := y 5 _ rfl
  have y6 := y 6 _ rfl
  have x0 := x 0 _ rfl
  have x1 := x 1 _ rfl
  have x2 := x 2 _ rfl
  have x3 := x 3 _ rfl
  have x4 := x 4 _ rfl
  have x5 := x 5 _ rfl
  have x6 := x 6 _ rfl
  have x7 := x 7 _ rfl
  clear y x
  have Hz : Hid (rfOk m feed coef tgt (s' : Int) = if rgB feed 1000000000 = false ∨ rgB tgt 1000000000 = false ∨ rgB coef 20000 = false then 2 else 0) := by show _ = _; unfold rfOk; rw [if_neg (by rw [HM.out]; decide), if_neg (by rw [HS.out]; decide)]
  have Hbad : Hid ((rgB feed 1000000000 = false ∨ rgB tgt 1000000000 = false ∨ rgB coef 20000 = false) → n = 0 ∧ er = 2) := fun h => by
    have hr := HR.out
    rw [Hz.out, if_pos h] at hr
    rcases hr with ⟨_, h⟩ | ⟨h, _⟩
    · exact h
    · exact absurd h (by decide)
  by_cases hF : rgB feed 1000000000 = true
  case neg =>
    as_aux_lemma =>
      have hF : rgB feed 1000000000 = false := by simpa using hF
      obtain ⟨rfl, rfl⟩ := Hbad.out (.inl hF)
      rw [hF]
      clear HR hF
      go_wp2_with fail
      refine (known_any w3 (HY.out w3 H3.out).2.2.1).mono ?_
      rintro e wk ⟨rfl, hbk⟩
      have HK : Hid (Below W.heap.size W wk) := H3.out.trans (hbk.mono H3.out.size)
      clear hbk
      go_wp2_with fail
      go_ret
      exact ⟨rfl, (HY.out wk HK.out).2.2.2⟩
  rw [hF]
  have HF := Lib.hid hF
  clear hF
  go_wp2_with fail
  refine (refRange_any tgt 1000000000 w3).mono ?_
  rintro e w4 ⟨rfl, hb4⟩
  have H4 : Hid (Below W.heap.size W w4) := H3.out.trans (hb4.mono H3.out.size)
  clear hb4
  clear y0 y1 y2 y3 y4 y5 y6 x0 x1 x2 x3 x4 x5 x6 x7
  have y := fun k v h => row_cell (HY.out w4 H4.out).1 k v h
  have x := fun k v h => row_cell (HY.out w4 H4.out).2.1 k v h
  have y0 := y 0 _ rfl
  have y1 := y 1 _ rfl
  have y2 := y 2 _ rfl
  have y3 := y 3 _ rfl
  have y4 := y 4 _ rfl
  have y5 := y 5 _ rfl
  have y6 := y 6 _ rfl
  have x0 := x 0 _ rfl
  have x1 := x 1 _ rfl
  have x2 := x 2 _ rfl
  have x3 := x 3 _ rfl
  have x4 := x 4 _ rfl
  have x5 := x 5 _ rfl
  have x6 := x 6 _ rfl
  have x7 := x 7 _ rfl
  clear y x
  by_cases hT : rgB tgt 1000000000 = true
  case neg =>
    as_aux_lemma =>
      have hT : rgB tgt 1000000000 = false := by simpa using hT
      obtain ⟨rfl, rfl⟩ := Hbad.out (.inr (.inl hT))
      rw [hT]
      clear HR hT
      go_wp2_with fail
      refine (known_any w4 (HY.out w4 H4.out).2.2.1).mono ?_
      rintro e wk ⟨rfl, hbk⟩
      have HK : Hid (Below W.heap.size W wk) := H4.out.trans (hbk.mono H4.out.size)
      clear hbk
      go_wp2_with fail
      go_ret
      exact ⟨rfl, (HY.out wk HK.out).2.2.2⟩
  rw [hT]
  have HT := Lib.hid hT
  clear hT
  go_wp2_with fail
  refine (refRange_any coef 20000 w4).mono ?_
  rintro e w5 ⟨rfl, hb5⟩
  have H5 : Hid (Below W.heap.size W w5) := H4.out.trans (hb5.mono H4.out.size)
  clear hb5
  clear y0 y1 y2 y3 y4 y5 y6 x0 x1 x2 x3 x4 x5 x6 x7
  by_cases hC : rgB coef 20000 = true
  case neg =>
    as_aux_lemma =>
      have hC : rgB coef 20000 = false := by simpa using hC
      obtain ⟨rfl, rfl⟩ := Hbad.out (.inr (.inr hC))
      rw [hC]
      clear HR hC
      go_wp2_with fail
      refine (known_any w5 (HY.out w5 H5.out).2.2.1).mono ?_
      rintro e wk ⟨rfl, hbk⟩
      have HK : Hid (Below W.heap.size W wk) := H5.out.trans (hbk.mono H5.out.size)
      clear hbk
      go_wp2_with fail
      go_ret
      exact ⟨rfl, (HY.out wk HK.out).2.2.2⟩
  rw [hC]
  have HC := Lib.hid hC
  have hok : rfOk m feed coef tgt (s' : Int) = 0 := by rw [Hz.out, if_neg (by rw [HF.out, HT.out, HC.out]; decide)]
  have hR := HR.out
  rw [hok] at hR
  have hR : (er = 8 ∧ n = 0 ∧ ∀ x, lo0 m ≤ x → x ≤ hi0 m → ¬ Both m feed coef tgt s' x) ∨ (er = 0 ∧ lo0 m ≤ n ∧ n ≤ hi0 m ∧ Both m feed coef tgt s' n ∧ ∀ x, lo0 m ≤ x → x < n → ¬ Both m feed coef tgt s' x) := by
    rcases hR with ⟨h, _⟩ | ⟨_, h⟩
    · exact absurd rfl h
    · exact h
  have HR := Lib.hid hR
  have hms := isM_ms HM.out
  clear hC hR hok Hz Hbad
  go_upto_region 8 with (fail)
  obtain ⟨z0, z1⟩ := ml_lo (W := w5) hs (HY.out w5 H5.out).1
  have zx : w5.cell? ⟨w.heap.size + 1, 6, none⟩ = some (I (s' : Int)) := by rw [cell_of_row _ _ _ _ _ _ (HY.out w5 H5.out).2.1]; rfl
  have zm : w5.cell? ⟨w.heap.size, 0, none⟩ = some (I m.ms) := by rw [cell_of_row _ _ _ _ _ _ (HY.out w5 H5.out).1]; rfl
  have d1 : decide ((s' : Int) < 3) = true := decide_eq_true (by omega)
  have d2 : decide (s' < 3) = true := decide_eq_true hs
  have d3 : decide (0 ≤ (s' : Int)) = true := decide_eq_true (by omega)
  have i1 : (0 : Int) ≤ (s' : Int) := by omega
  have i2 : (s' : Int) < 3 := by omega
  have wr : IntKind.i64.wrap (1000000000 - m.ms) = ((hi0 m : Nat) : Int) := by rw [IntWalk.i64_in _ (by omega)]; unfold hi0; omega
  have hlh : lo0 m ≤ hi0 m := by unfold lo0 hi0; split <;> omega
  have hh9 : hi0 m ≤ 1000000000 := by unfold hi0; omega
  have hbz : ∀ b, (m.ms == 0) = b → lo0 m = if b then 1 else 0 := fun b hb => by unfold lo0; rw [← hb]; simp
  obtain ⟨lo, hlo⟩ : ∃ q, lo0 m = q := ⟨_, rfl⟩
  obtain ⟨hi, hhi⟩ : ∃ q, hi0 m = q := ⟨_, rfl⟩
  rw [hhi] at wr hlh hh9
  rw [hlo] at hlh hbz
  have HR2 := HR.out
  rw [hlo, hhi] at HR2
  have HR2 := Lib.hid HR2
  have Hbz := Lib.hid hbz
  clear hlo hhi hbz HR
  go_cut [7, 8, 9] (fun s7 s8 s9 wx => ∃ qd : Nat, s7 = .pointer (some ⟨qd, 0, none⟩) ∧ s8 = I 0 ∧ s9 = I (hi : Int) ∧ wx.heap[qd]? = some (.cells #[I (m.ct (s' * 2)), I (m.ct (s' * 2 + 1))] 23 (0, 0)) ∧ Below w5.heap.size w5 wx)
  case first =>
    go_region_held3 (fun w' => w'.cell? ⟨w.heap.size + 1, 6, none⟩ = some (I (s' : Int)) ∧ w'.cell? ⟨w.heap.size, 0, none⟩ = some (I m.ms) ∧ w'.cell? ⟨w.heap.size, 1 + s' * 2, none⟩ = some (I (m.ct (s' * 2))) ∧ w'.cell? ⟨w.heap.size, 1 + s' * 2 + 1, none⟩ = some (I (m.ct (s' * 2 + 1)))) (go_keep) (fail)
    all_goals
      go_wp2_with fail
      go_meet
      case rel => exact ⟨_, rfl, rfl, rfl, by rw [heap_drew]; exact heap_last _ _ _ rfl, ((Below.refl _ _).alloc (Nat.le_refl _) _).drew⟩
  obtain ⟨qd, rfl, rfl, rfl, hq, hbx⟩ := hcut
  rename World => V
  have H8 : Hid (Below W.heap.size W V) := H5.out.trans (hbx.mono H5.out.size)
  have HI : Hid (FitIn V m feed coef tgt (s' : Int) o w.heap.size qd (w.heap.size + 1)) := ⟨(HY.out V H8.out).1, hq, (HY.out V H8.out).2.1⟩
  have cf : Hid (∀ (W' : World) (x : Nat), Below V.heap.size V W' → x ≤ 1000000000 → Calls Tryd.prog 23 #[I (x : Int), .pointer (some ⟨w.heap.size, 0, none⟩), .pointer (some ⟨qd, 0, none⟩), .pointer (some ⟨w.heap.size + 1, 0, none⟩)] W' fun e w' => e = .returned (.bool (fitB m feed coef tgt s' x)) ∧ Below W'.heap.size W' w') := fun W' x hb hx => fit1_any m feed coef tgt (s' : Int) o _ _ _ x W' (HI.out.keep hb) HM.out HS.out HF.out HT.out HC.out hx
  have y0 := row_cell (HY.out V H8.out).1 0 _ rfl
  have x7 := row_cell (HY.out V H8.out).2.1 7 _ rfl
  obtain ⟨bz, hbz⟩ : ∃ b, (m.ms == 0) = b := ⟨_, rfl⟩
  have hlo := Hbz.out bz hbz
  clear z0 z1 zx zm d1 d2 d3 i1 i2 wr hq hbx hms
  go_upto_if 92 with (fail)
  go_cut [8] (fun s8 wx => s8 = I (lo : Int) ∧ wx = V)
  case first =>
    rcases bz with _ | _
    · have Hl : Hid (lo = 0) := hlo
      clear hlo
      go_wp2_with fail
      go_meet
      case rel => exact ⟨by rw [Hl.out]; rfl, rfl⟩
    · have Hl : Hid (lo = 1) := hlo
      clear hlo
      go_wp2_with fail
      go_meet
      case rel => exact ⟨by rw [Hl.out]; rfl, rfl⟩
  obtain ⟨rfl, hwc⟩ := hcut
  rw [hwc]
  clear hwc hlo hbz y0
  have Hlh := Lib.hid hlh
  obtain ⟨b1, hb1⟩ : ∃ b, decide (lo < hi) = b := ⟨_, rfl⟩
  have hb1' : decide ((lo : Int) < (hi : Int)) = b1 := by rw [← hb1]; exact decide_eq_decide.2 (by omega)
  obtain ⟨b2, hb2⟩ : ∃ b, decide (0 < o) = b := ⟨_, rfl⟩
  obtain ⟨bb, hbb⟩ : ∃ b, (b1 && b2) = b := ⟨_, rfl⟩
  have Hbb := Lib.hid hbb
  have Hb12 : Hid (decide (lo < hi) = b1 ∧ decide (0 < o) = b2) := ⟨hb1, hb2⟩
  clear hbb hlh
  go_upto_region 13 with (fail)
  go_cut [102] (fun c wx => c = .bool bb ∧ wx = V)
  case first =>
    rcases b1 with _ | _
    · have Hf : Hid (bb = false) := Hbb.out.symm
      go_wp2_with fail
      go_meet
      case rel => exact ⟨by rw [Hf.out], rfl⟩
    · have Hf : Hid (bb = b2) := Hbb.out.symm
      go_wp2_with fail
      go_meet
      case rel => exact ⟨by rw [Hf.out], rfl⟩
  obtain ⟨rfl, hwc⟩ := hcut
  rw [hwc]
  clear hwc hb1 hb1' hb2
  go_upto_if 102 with (fail)
  go_cut [11] (fun s11 wx => (∃ t : Nat, s11 = I (t : Int) ∧ lo ≤ t ∧ t ≤ hi) ∧ wx = V)
  case first =>
    rcases bb with _ | _
    · go_wp2_with fail
      go_meet
      case rel => exact ⟨⟨lo, rfl, Nat.le_refl _, Hlh.out⟩, rfl⟩
    · have hx : lo < hi ∧ 0 < o := by
        have h1 := Hbb.out
        have h2 := Hb12.out
        rw [← h2.1, ← h2.2] at h1
        simpa using h1
      obtain ⟨on, rfl⟩ : ∃ n : Nat, o = n := ⟨o.toNat, by omega⟩
      obtain ⟨d, hd⟩ : ∃ q, hi - lo = q := ⟨_, rfl⟩
      obtain ⟨r, hr⟩ : ∃ q, on % (d + 1) = q := ⟨_, rfl⟩
      have hrd : r < d + 1 := by rw [← hr]; exact Nat.mod_lt _ (by omega)
      have w1 : IntKind.i64.wrap ((hi : Int) - (lo : Int)) = (d : Int) := by rw [IntWalk.i64_in _ (by omega)]; omega
      have w2 : IntKind.i64.wrap ((d : Int) + 1) = ((d + 1 : Nat) : Int) := by rw [IntWalk.i64_in _ (by omega)]; omega
      obtain ⟨d1, hd1⟩ : ∃ q, d + 1 = q := ⟨_, rfl⟩
      rw [hd1] at w2 hr hrd
      have hne : ¬ d1 = 0 := by omega
      have hne1 : ¬ (d1 : Int) = 0 := by omega
      have hne2 : ((d1 : Int) == 0) = false := by simpa using hne
      have t1 : Int.tmod (on : Int) (d1 : Int) = (r : Int) := by rw [← Int.ofNat_tmod, hr]
      have t2 : ((on : Int) % (d1 : Int)) = (r : Int) := by rw [← hr]; rfl
      have w0 : IntKind.i64.wrap (r : Int) = (r : Int) := IntWalk.i64_in _ (by omega)
      have w3 : IntKind.i64.wrap ((lo : Int) + (r : Int)) = ((lo + r : Nat) : Int) := by rw [IntWalk.i64_in _ (by omega)]; omega
      obtain ⟨t, ht⟩ : ∃ q, lo + r = q := ⟨_, rfl⟩
      rw [ht] at w3
      have Ht : Hid (lo ≤ t ∧ t ≤ hi) := ⟨by omega, by omega⟩
      clear hx hd hr hrd hd1 ht
      go_wp2_with fail
      go_meet
      case rel => exact ⟨⟨t, rfl, Ht.out.1, Ht.out.2⟩, rfl⟩
  obtain ⟨⟨t, rfl, ht1, ht2⟩, hwc⟩ := hcut
  rw [hwc]
  clear hwc x7 Hbb Hb12
  have hlh := Hlh.out
  have cb1 : decide (hi < lo) = false := decide_eq_false (by omega)
  have cb2 : decide ((hi : Int) < (lo : Int)) = false := decide_eq_false (by omega)
  have r0 : Below V.heap.size V V := Below.refl _ _
  rcases HR2.out with ⟨rfl, rfl, hno⟩ | ⟨rfl, h1, h2, h3, h4⟩
  · as_aux_lemma =>
      have hf : ∀ x, lo ≤ x → x ≤ hi → fitB m feed coef tgt s' x = false := fun x ha hb => bool_eq_false fitB_iff (hno x ha hb)
      clear hno HR2
      go_wp2_with fail
      refine (cf.out V lo r0 (by omega)).mono ?_
      rintro e v1 ⟨rfl, hbn⟩
      have K1 : Hid (Below V.heap.size V v1) := Below.trans r0 (hbn.mono (Below.size r0))
      rw [(hf lo (Nat.le_refl _) hlh)]
      clear hbn
      go_wp2_with fail
      refine (cf.out v1 hi K1.out (by omega)).mono ?_
      rintro e v2 ⟨rfl, hbn⟩
      have K2 : Hid (Below V.heap.size V v2) := Below.trans K1.out (hbn.mono (Below.size K1.out))
      rw [(hf hi hlh (Nat.le_refl _))]
      clear hbn
      go_wp2_with fail
      refine (cf.out v2 t K2.out (by omega)).mono ?_
      rintro e v3 ⟨rfl, hbn⟩
      have K3 : Hid (Below V.heap.size V v3) := Below.trans K2.out (hbn.mono (Below.size K2.out))
      rw [(hf t ht1 ht2)]
      clear hbn
      go_wp2_with fail
      refine (known_any v3 (HY.out v3 (H8.out.trans (Below.mono K3.out H8.out.size))).2.2.1).mono ?_
      rintro e wk ⟨rfl, hbk⟩
      have HK : Hid (Below W.heap.size W wk) := (H8.out.trans (Below.mono K3.out H8.out.size)).trans (hbk.mono (by have := H8.out.size; have := Below.size K3.out; omega))
      clear hbk
      go_wp2_with fail
      go_ret
      exact ⟨rfl, (HY.out wk HK.out).2.2.2⟩
  · as_aux_lemma =>
      have hft : fitB m feed coef tgt s' n = true := fitB_iff.2 h3
      have hf : ∀ x, lo ≤ x → x < n → fitB m feed coef tgt s' x = false := fun x ha hb => bool_eq_false fitB_iff (h4 x ha hb)
      clear HR2 h3 h4
      have g1 : decide (lo ≤ n) = true := decide_eq_true h1
      have g2 : decide ((lo : Int) ≤ (n : Int)) = true := decide_eq_true (by omega)
      have g3 : decide (n ≤ hi) = true := decide_eq_true h2
      have g4 : decide ((n : Int) ≤ (hi : Int)) = true := decide_eq_true (by omega)
      by_cases hn : n = lo
      · subst hn
        have e1 : (n == n) = true := by simp
        have e2 : ((n : Int) == (n : Int)) = true := by simp
        have e3 : decide (n ≤ t) = true := decide_eq_true ht1
        have e4 : decide ((n : Int) ≤ (t : Int)) = true := decide_eq_true (by omega)
        clear hf
        go_wp2_with fail
        refine (cf.out V n r0 (by omega)).mono ?_
        rintro e v1 ⟨rfl, hbn⟩
        have K1 : Hid (Below V.heap.size V v1) := Below.trans r0 (hbn.mono (Below.size r0))
        rw [hft]
        clear hbn
        go_wp2_with fail
        refine (known_any v1 (HY.out v1 (H8.out.trans (Below.mono K1.out H8.out.size))).2.2.1).mono ?_
        rintro e wk ⟨rfl, hbk⟩
        have HK : Hid (Below W.heap.size W wk) := (H8.out.trans (Below.mono K1.out H8.out.size)).trans (hbk.mono (by have := H8.out.size; have := Below.size K1.out; omega))
        clear hbk
        go_wp2_with fail
        go_ret
        exact ⟨rfl, (HY.out wk HK.out).2.2.2⟩
      · have e1 : (n == lo) = false := by simpa using hn
        have e2 : ((n : Int) == (lo : Int)) = false := by simp; omega
        obtain ⟨p, hp⟩ : ∃ q, n - 1 = q := ⟨_, rfl⟩
        have wr : IntKind.i64.wrap ((n : Int) - 1) = (p : Int) := by rw [IntWalk.i64_in _ (by omega)]; omega
        have hp1 : lo ≤ p := by omega
        have hp2 : p < n := by omega
        clear hp
        by_cases hnt : n ≤ t
        · have e3 : decide (n ≤ t) = true := decide_eq_true hnt
          have e4 : decide ((n : Int) ≤ (t : Int)) = true := decide_eq_true (by omega)
          go_wp2_with fail
          refine (cf.out V n r0 (by omega)).mono ?_
          rintro e v1 ⟨rfl, hbn⟩
          have K1 : Hid (Below V.heap.size V v1) := Below.trans r0 (hbn.mono (Below.size r0))
          rw [hft]
          clear hbn
          go_wp2_with fail
          refine (cf.out v1 p K1.out (by omega)).mono ?_
          rintro e v2 ⟨rfl, hbn⟩
          have K2 : Hid (Below V.heap.size V v2) := Below.trans K1.out (hbn.mono (Below.size K1.out))
          rw [(hf p hp1 hp2)]
          clear hbn
          go_wp2_with fail
          refine (cf.out v2 lo K2.out (by omega)).mono ?_
          rintro e v3 ⟨rfl, hbn⟩
          have K3 : Hid (Below V.heap.size V v3) := Below.trans K2.out (hbn.mono (Below.size K2.out))
          rw [(hf lo (Nat.le_refl _) (by omega))]
          clear hbn
          go_wp2_with fail
          refine (known_any v3 (HY.out v3 (H8.out.trans (Below.mono K3.out H8.out.size))).2.2.1).mono ?_
          rintro e wk ⟨rfl, hbk⟩
          have HK : Hid (Below W.heap.size W wk) := (H8.out.trans (Below.mono K3.out H8.out.size)).trans (hbk.mono (by have := H8.out.size; have := Below.size K3.out; omega))
          clear hbk
          go_wp2_with fail
          go_ret
          exact ⟨rfl, (HY.out wk HK.out).2.2.2⟩
        · have e3 : decide (n ≤ t) = false := decide_eq_false hnt
          have e4 : decide ((n : Int) ≤ (t : Int)) = false := decide_eq_false (by omega)
          go_wp2_with fail
          refine (cf.out V n r0 (by omega)).mono ?_
          rintro e v1 ⟨rfl, hbn⟩
          have K1 : Hid (Below V.heap.size V v1) := Below.trans r0 (hbn.mono (Below.size r0))
          rw [hft]
          clear hbn
          go_wp2_with fail
          refine (cf.out v1 p K1.out (by omega)).mono ?_
          rintro e v2 ⟨rfl, hbn⟩
          have K2 : Hid (Below V.heap.size V v2) := Below.trans K1.out (hbn.mono (Below.size K1.out))
          rw [(hf p hp1 hp2)]
          clear hbn
          go_wp2_with fail
          refine (cf.out v2 lo K2.out (by omega)).mono ?_
          rintro e v3 ⟨rfl, hbn⟩
          have K3 : Hid (Below V.heap.size V v3) := Below.trans K2.out (hbn.mono (Below.size K2.out))
          rw [(hf lo (Nat.le_refl _) (by omega))]
          clear hbn
          go_wp2_with fail
          refine (cf.out v3 t K3.out (by omega)).mono ?_
          rintro e v4 ⟨rfl, hbn⟩
          have K4 : Hid (Below V.heap.size V v4) := Below.trans K3.out (hbn.mono (Below.size K3.out))
          rw [(hf t ht1 (by omega))]
          clear hbn
          go_wp2_with fail
          refine (known_any v4 (HY.out v4 (H8.out.trans (Below.mono K4.out H8.out.size))).2.2.1).mono ?_
          rintro e wk ⟨rfl, hbk⟩
          have HK : Hid (Below W.heap.size W wk) := (H8.out.trans (Below.mono K4.out H8.out.size)).trans (hbk.mono (by have := H8.out.size; have := Below.size K4.out; omega))
          clear hbk
          go_wp2_with fail
          go_ret
          exact ⟨rfl, (HY.out wk HK.out).2.2.2⟩
end Go.Proofs.YtfifdfagikbahaaDoor
