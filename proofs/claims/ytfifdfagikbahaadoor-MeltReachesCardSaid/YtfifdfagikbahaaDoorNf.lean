/- The contract of Refill of package melt. -/
import Derived.Test.YtfifdfagikbahaaDoorNe
namespace Go.Proofs.YtfifdfagikbahaaDoor
open Go.RowKit
attribute [local go_sem] Oper.semAt_some
theorem mxL_add (a : Mix) (x d : Nat) : mxL a (x + d) = mxL a x + a.fd * a.sh * d := by
  unfold mxL
  rw [Nat.mul_add, ← Nat.add_assoc, Nat.add_mul, Nat.mul_assoc a.fd d a.sh, Nat.mul_comm d a.sh, ← Nat.mul_assoc]
theorem mxR_add (a : Mix) (x d : Nat) : mxR a (x + d) = mxR a x + 10000 * a.bd * d := by
  unfold mxR
  rw [← Nat.add_assoc, Nat.mul_add]
theorem hld_cvx (a : Mix) {x y z : Nat} (h1 : x ≤ y) (h2 : y ≤ z) : (hld a x = true → hld a z = true → hld a y = true) ∧ (hld a x = false → hld a z = false → hld a y = false) := by
  obtain ⟨d, rfl⟩ : ∃ d, y = x + d := ⟨y - x, by omega⟩
  obtain ⟨d', rfl⟩ : ∃ d', z = x + d + d' := ⟨z - (x + d), by omega⟩
  have l1 := mxL_add a x d
  have l2 := mxL_add a (x + d) d'
  have r1 := mxR_add a x d
  have r2 := mxR_add a (x + d) d'
  have key : (a.fd * a.sh * d ≤ 10000 * a.bd * d ∧ a.fd * a.sh * d' ≤ 10000 * a.bd * d') ∨ (10000 * a.bd * d ≤ a.fd * a.sh * d ∧ 10000 * a.bd * d' ≤ a.fd * a.sh * d') := by
    rcases Nat.le_total (a.fd * a.sh) (10000 * a.bd) with h | h
    · exact .inl ⟨Nat.mul_le_mul_right _ h, Nat.mul_le_mul_right _ h⟩
    · exact .inr ⟨Nat.mul_le_mul_right _ h, Nat.mul_le_mul_right _ h⟩
  unfold hld
  generalize mxL a x = L0 at *
  generalize mxL a (x + d) = L1 at *
  generalize mxL a (x + d + d') = L2 at *
  generalize mxR a x = R0 at *
  generalize mxR a (x + d) = R1 at *
  generalize mxR a (x + d + d') = R2 at *
  generalize a.fd * a.sh * d = p1 at *
  generalize a.fd * a.sh * d' = p2 at *
  generalize 10000 * a.bd * d = q1 at *
  generalize 10000 * a.bd * d' = q2 at *
  rcases a.ls with _ | _
  · simp only [Bool.false_eq_true, if_false, decide_eq_true_eq, decide_eq_false_iff_not]
    omega
  · simp only [if_true, decide_eq_true_eq, decide_eq_false_iff_not]
    omega
theorem step_first {a : Mix} {low high r : Nat} (h : low ≤ high) (hl : hld a high = true) (hT : Turn (fun i => hld a (low + i)) (high - low) r) : low + r ≤ high ∧ ∀ x, low ≤ x → x ≤ high → (hld a x = true ↔ low + r ≤ x) := by
  obtain ⟨h1, h2, h3⟩ := hT
  have ht : hld a (low + r) = true := by
    rcases Nat.lt_or_ge r (high - low) with h4 | h4
    · exact h3 h4
    · rw [show low + r = high by omega]; exact hl
  refine ⟨by omega, fun x hx hx2 => ⟨fun hx3 => ?_, fun hx3 => (hld_cvx a hx3 hx2).1 ht hl⟩⟩
  rcases Nat.lt_or_ge x (low + r) with h4 | h4
  · have h5 : hld a (low + (r - 1)) = false := h2 (by omega)
    have h6 := (hld_cvx a (show x ≤ low + (r - 1) by omega) (show low + (r - 1) ≤ low + r by omega)).1 hx3 ht
    rw [h5] at h6; cases h6
  · exact h4
theorem step_last {a : Mix} {low high r : Nat} (h : low ≤ high) (hf : hld a low = true) (hl : hld a high = false) (hT : Turn (fun i => !hld a (low + i)) (high - low) r) : 1 ≤ r ∧ low + r ≤ high ∧ ∀ x, low ≤ x → x ≤ high → (hld a x = true ↔ x ≤ low + r - 1) := by
  obtain ⟨h1, h2, h3⟩ := hT
  have hlt : low < high := by
    rcases Nat.lt_or_ge low high with h4 | h4
    · exact h4
    · obtain rfl : low = high := by omega
      rw [hf] at hl; cases hl
  have hr : 1 ≤ r := by
    rcases Nat.eq_zero_or_pos r with h4 | h4
    · subst h4
      have := h3 (by omega)
      simp [hf] at this
    · exact h4
  have ht : hld a (low + r) = false := by
    rcases Nat.lt_or_ge r (high - low) with h4 | h4
    · have := h3 h4
      simpa using this
    · rw [show low + r = high by omega]; exact hl
  have h5 : hld a (low + r - 1) = true := by
    have := h2 (by omega)
    rw [show low + r - 1 = low + (r - 1) by omega]
    simpa using this
  refine ⟨hr, by omega, fun x hx hx2 => ⟨fun hx3 => ?_, fun hx3 => (hld_cvx a hx hx3).1 hf h5⟩⟩
  rcases Nat.lt_or_ge x (low + r) with h4 | h4
  · omega
  · have h6 := (hld_cvx a h4 hx2).2 ht hl
    rw [h6] at hx3; cases hx3
/-- The melt with what is added, towards the upper bounds and towards the lower ones. -/
def mxs (m : Mlt) (feed coef tgt : Rng) (s : Nat) (k : Nat) : Mix := if k = 0 then ⟨m.ms.toNat, (m.ct (s * 2 + 1)).toNat, feed.hi.toNat, coef.hi.toNat, tgt.hi.toNat, false⟩ else ⟨m.ms.toNat, (m.ct (s * 2)).toNat, feed.lo.toNat, coef.lo.toNat, tgt.lo.toNat, true⟩
def lo0 (m : Mlt) : Nat := if m.ms = 0 then 1 else 0
def hi0 (m : Mlt) : Nat := (1000000000 - m.ms).toNat
def spB (s : Int) : Bool := decide (0 ≤ s) && decide (s ≤ 2)
theorem isSpecies_any (s : Int) (w : World) : Calls Tryd.prog 48 #[I s] w fun e w' => e = .returned (.bool (spB s)) ∧ Below w.heap.size w w' := by
  unfold spB
  rcases h1 : decide (0 ≤ s) with _ | _
  · go_enter Tryd.func48, Tryd.ntmps48
    go_wp2_with fail
    go_ret
    exact ⟨rfl, Below.refl _ _⟩
  · rcases h2 : decide (s ≤ 2) with _ | _
    · go_enter Tryd.func48, Tryd.ntmps48
      go_wp2_with fail
      go_ret
      exact ⟨rfl, Below.refl _ _⟩
    · go_enter Tryd.func48, Tryd.ntmps48
      go_wp2_with fail
      go_ret
      exact ⟨rfl, Below.refl _ _⟩
def rfOk (m : Mlt) (feed coef tgt : Rng) (s : Int) : Int := if isM m = false then 2 else if spB s = false then 7 else if rgB feed 1000000000 = false ∨ rgB tgt 1000000000 = false ∨ rgB coef 20000 = false then 2 else 0
/-- The cells of both mixes, as they are read. -/
structure MixV (m : Mlt) (feed coef tgt : Rng) (s : Int) : Prop where
  a0 : mixArr (mxs m feed coef tgt s.toNat 0) = #[I m.ms, I (m.ct (s.toNat * 2 + 1)), I feed.hi, I coef.hi, I tgt.hi, .bool false]
  a1 : mixArr (mxs m feed coef tgt s.toNat 1) = #[I m.ms, I (m.ct (s.toNat * 2)), I feed.lo, I coef.lo, I tgt.lo, .bool true]
  ok : ∀ k, MixOk (mxs m feed coef tgt s.toNat k)
theorem rgB_bd {r : Rng} {b : Int} (h : rgB r b = true) : 0 ≤ r.lo ∧ r.lo ≤ r.hi ∧ r.hi ≤ b := by
  unfold rgB at h
  simp only [Bool.and_eq_true, decide_eq_true_eq] at h
  exact ⟨h.1.1, h.1.2, h.2⟩
theorem mix_vals {m : Mlt} {feed coef tgt : Rng} {s : Int} (hm : isM m = true) (hs : spB s = true) (hf : rgB feed 1000000000 = true) (ht : rgB tgt 1000000000 = true) (hc : rgB coef 20000 = true) : MixV m feed coef tgt s := by
  have h1 := isM_ms hm
  have h2 : bdB m.ct 1000000000000 = true := by unfold isM at hm; rw [Bool.and_eq_true] at hm; exact hm.2
  unfold spB at hs
  simp only [Bool.and_eq_true, decide_eq_true_eq] at hs
  have h3 := bdB_at h2 (show s.toNat < 3 by omega)
  have h4 := rgB_bd hf
  have h5 := rgB_bd ht
  have h6 := rgB_bd hc
  refine ⟨?_, ?_, fun k => ?_⟩
  · show #[I (m.ms.toNat : Int), I ((m.ct (s.toNat * 2 + 1)).toNat : Int), I (feed.hi.toNat : Int), I (coef.hi.toNat : Int), I (tgt.hi.toNat : Int), .bool false] = _
    rw [Int.toNat_of_nonneg h1.1, Int.toNat_of_nonneg (by omega), Int.toNat_of_nonneg (by omega), Int.toNat_of_nonneg (by omega), Int.toNat_of_nonneg (by omega)]
  · show #[I (m.ms.toNat : Int), I ((m.ct (s.toNat * 2)).toNat : Int), I (feed.lo.toNat : Int), I (coef.lo.toNat : Int), I (tgt.lo.toNat : Int), .bool true] = _
    rw [Int.toNat_of_nonneg h1.1, Int.toNat_of_nonneg (by omega), Int.toNat_of_nonneg (by omega), Int.toNat_of_nonneg (by omega), Int.toNat_of_nonneg (by omega)]
  · unfold mxs
    split
    · exact ⟨by show m.ms.toNat ≤ _; omega, by show (m.ct (s.toNat * 2 + 1)).toNat ≤ _; omega, by show feed.hi.toNat ≤ _; omega, by show coef.hi.toNat ≤ _; omega, by show tgt.hi.toNat ≤ _; omega⟩
    · exact ⟨by show m.ms.toNat ≤ _; omega, by show (m.ct (s.toNat * 2)).toNat ≤ _; omega, by show feed.lo.toNat ≤ _; omega, by show coef.lo.toNat ≤ _; omega, by show tgt.lo.toNat ≤ _; omega⟩
theorem ml_lo {W : World} {q : Nat} {m : Mlt} {s : Nat} {t : TypeId} (hs : s < 3) (h : W.heap[q]? = some (.cells (mltArr m) t (0, 0))) : W.cell? ⟨q, 1 + s * 2, none⟩ = some (I (m.ct (s * 2))) ∧ W.cell? ⟨q, 1 + s * 2 + 1, none⟩ = some (I (m.ct (s * 2 + 1))) := by
  refine ⟨?_, ?_⟩ <;> rw [cell_of_row _ _ _ _ _ _ h]
  · rcases s with _ | _ | _ | s
    · rfl
    · rfl
    · rfl
    · omega
  · rcases s with _ | _ | _ | s
    · rfl
    · rfl
    · rfl
    · omega
theorem mix_cells {W : World} {q : Nat} {A : Nat → Mix} {t : TypeId} (h : W.heap[q]? = some (.cells (mixArr (A 0) ++ mixArr (A 1)) t (0, 0))) {k : Nat} (hk : k < 2) : ∀ j, j < 6 → W.cell? ⟨q, k * 6 + j, none⟩ = (mixArr (A k))[j]? := by
  intro j hj
  rw [cell_of_row _ _ _ _ _ _ h]
  match k, hk with
  | 0, _ => match j, hj with | 0, _ => rfl | 1, _ => rfl | 2, _ => rfl | 3, _ => rfl | 4, _ => rfl | 5, _ => rfl
  | 1, _ => match j, hj with | 0, _ => rfl | 1, _ => rfl | 2, _ => rfl | 3, _ => rfl | 4, _ => rfl | 5, _ => rfl
def Both (m : Mlt) (feed coef tgt : Rng) (s x : Nat) : Prop := hld (mxs m feed coef tgt s 0) x = true ∧ hld (mxs m feed coef tgt s 1) x = true
theorem Both.all {m : Mlt} {feed coef tgt : Rng} {s x : Nat} (h : Both m feed coef tgt s x) : ∀ j, j < 2 → hld (mxs m feed coef tgt s j) x = true := by
  intro j hj
  match j, hj with
  | 0, _ => exact h.1
  | 1, _ => exact h.2
set_option maxRecDepth 100000 in
set_option maxHeartbeats 4000000 in
theorem refill_any (m : Mlt) (feed coef tgt : Rng) (s : Int) (w : World) :
    Calls Tryd.prog 20 #[.agg (mltArr m), .agg #[I feed.lo, I feed.hi], .agg #[I coef.lo, I coef.hi], .agg #[I tgt.lo, I tgt.hi], I s] w fun e w' => Below w.heap.size w w' ∧ ((rfOk m feed coef tgt s ≠ 0 ∧ e = .returned (.tuple #[I 0, I (rfOk m feed coef tgt s)])) ∨
      (rfOk m feed coef tgt s = 0 ∧ ∃ (n : Nat) (er : Int), e = .returned (.tuple #[I n, I er]) ∧ ((er = 8 ∧ n = 0 ∧ ∀ x, lo0 m ≤ x → x ≤ hi0 m → ¬ Both m feed coef tgt s.toNat x) ∨ (er = 0 ∧ lo0 m ≤ n ∧ n ≤ hi0 m ∧ Both m feed coef tgt s.toNat n ∧ ∀ x, lo0 m ≤ x → x < n → ¬ Both m feed coef tgt s.toNat x)))) := by
  obtain ⟨W, hW⟩ : ∃ W, W = (((w.alloc (.cells (mltArr m) 27)).alloc (.cells #[I feed.lo, I feed.hi] 23)).alloc (.cells #[I coef.lo, I coef.hi] 23)).alloc (.cells #[I tgt.lo, I tgt.hi] 23) := ⟨_, rfl⟩
  have hb0 : Below w.heap.size w W := by rw [hW]; exact ((((Below.refl _ _).alloc (Nat.le_refl _) _).alloc (by simp) _).alloc (by simp; omega) _).alloc (by simp; omega) _
  have r0 : W.heap[w.heap.size]? = some (.cells (mltArr m) 27 (0, 0)) := by rw [hW]; exact heap_before (heap_before (heap_before (heap_last _ _ _ rfl)))
  have r1 : W.heap[w.heap.size + 1]? = some (.cells #[I feed.lo, I feed.hi] 23 (0, 0)) := by rw [hW]; exact heap_before (heap_before (heap_last _ _ _ (by simp)))
  have r2 : W.heap[w.heap.size + 1 + 1]? = some (.cells #[I coef.lo, I coef.hi] 23 (0, 0)) := by rw [hW]; exact heap_before (heap_last _ _ _ (by simp))
  have r3 : W.heap[w.heap.size + 1 + 1 + 1]? = some (.cells #[I tgt.lo, I tgt.hi] 23 (0, 0)) := by rw [hW]; exact heap_last _ _ _ (by simp)
  have sW : w.heap.size + 4 = W.heap.size := by rw [hW]; simp
  have HW := Lib.hid hW
  have Hb0 := Lib.hid hb0
  have HY : Hid (∀ u, ((ovr W u).heap[w.heap.size]? = some (.cells (mltArr m) 27 (0, 0)) ∧ (ovr W u).heap[w.heap.size + 1]? = some (.cells #[I feed.lo, I feed.hi] 23 (0, 0))) ∧ (ovr W u).heap[w.heap.size + 1 + 1]? = some (.cells #[I coef.lo, I coef.hi] 23 (0, 0)) ∧ (ovr W u).heap[w.heap.size + 1 + 1 + 1]? = some (.cells #[I tgt.lo, I tgt.hi] 23 (0, 0))) :=
    fun u => ⟨⟨ovr_row r0 u, ovr_row r1 u⟩, ovr_row r2 u, ovr_row r3 u⟩
  have HU : Hid (∀ u, Below w.heap.size w (ovr W u)) := fun u => hb0.trans ((ovr_below W u).mono hb0.size)
  have y := fun k (v : Value) (h : (mltArr m)[k]? = some v) => ovr_cell (show W.cell? ⟨w.heap.size, k, none⟩ = some v by rw [cell_of_row _ _ _ _ _ _ r0]; exact h)
  have y0 := y 0 _ rfl
  have y1 := y 1 _ rfl
  have y2 := y 2 _ rfl
  have y3 := y 3 _ rfl
  have y4 := y 4 _ rfl
  have y5 := y 5 _ rfl
  have y6 := y 6 _ rfl
  have f0 := ovr_cell (show W.cell? ⟨w.heap.size + 1, 0, none⟩ = some (I feed.lo) by rw [cell_of_row _ _ _ _ _ _ r1]; rfl)
  have f1 := ovr_cell (show W.cell? ⟨w.heap.size + 1, 1, none⟩ = some (I feed.hi) by rw [cell_of_row _ _ _ _ _ _ r1]; rfl)
  have c0 := ovr_cell (show W.cell? ⟨w.heap.size + 1 + 1, 0, none⟩ = some (I coef.lo) by rw [cell_of_row _ _ _ _ _ _ r2]; rfl)
  have c1 := ovr_cell (show W.cell? ⟨w.heap.size + 1 + 1, 1, none⟩ = some (I coef.hi) by rw [cell_of_row _ _ _ _ _ _ r2]; rfl)
  have t0 := ovr_cell (show W.cell? ⟨w.heap.size + 1 + 1 + 1, 0, none⟩ = some (I tgt.lo) by rw [cell_of_row _ _ _ _ _ _ r3]; rfl)
  have t1 := ovr_cell (show W.cell? ⟨w.heap.size + 1 + 1 + 1, 1, none⟩ = some (I tgt.hi) by rw [cell_of_row _ _ _ _ _ _ r3]; rfl)
  clear y hW hb0 r0 r1 r2 r3
  go_enter Tryd.func20, Tryd.ntmps20
  go_upto_region 1 with (fail)
  rw [← HW.out]
  obtain ⟨u0, hu0⟩ := ovr_self W
  rw [hu0]
  have Hu0 := Lib.hid hu0
  clear hu0
  go_wp2_with fail
  refine (isMelt_any m (ovr W u0)).mono ?_
  rintro e w1 ⟨rfl, hb⟩
  obtain ⟨u1, rfl⟩ := ovr_next hb
  clear hb
  rcases hm : isM m with _ | _
  · have Hf : Hid (rfOk m feed coef tgt s = 2) := if_pos hm
    clear hm
    go_wp2_with fail
    go_ret2
    exact ⟨HU.out u1, .inl ⟨by rw [Hf.out]; decide, by rw [Hf.out]; rfl⟩⟩
  have HM := Lib.hid hm
  clear hm
  go_wp2_with fail
  refine (isSpecies_any s (ovr W u1)).mono ?_
  rintro e w1 ⟨rfl, hb⟩
  obtain ⟨u2, rfl⟩ := ovr_next hb
  clear hb
  rcases hsp : spB s with _ | _
  · have Hf : Hid (rfOk m feed coef tgt s = 7) := by show _ = _; unfold rfOk; rw [if_neg (by rw [HM.out]; decide), if_pos hsp]
    clear hsp
    go_wp2_with fail
    go_ret2
    exact ⟨HU.out u2, .inl ⟨by rw [Hf.out]; decide, by rw [Hf.out]; rfl⟩⟩
  have HS := Lib.hid hsp
  clear hsp
  go_wp2_with fail
  refine (isRange_any feed 1000000000 (ovr W u2)).mono ?_
  rintro e w1 ⟨rfl, hb⟩
  obtain ⟨u3, rfl⟩ := ovr_next hb
  clear hb
  have Hz : Hid (rfOk m feed coef tgt s = if rgB feed 1000000000 = false ∨ rgB tgt 1000000000 = false ∨ rgB coef 20000 = false then 2 else 0) := by show _ = _; unfold rfOk; rw [if_neg (by rw [HM.out]; decide), if_neg (by rw [HS.out]; decide)]
  rcases hf : rgB feed 1000000000 with _ | _
  · have Hf : Hid (rfOk m feed coef tgt s = 2) := by show _ = _; rw [Hz.out, if_pos (.inl hf)]
    clear hf
    go_wp2_with fail
    go_ret2
    exact ⟨HU.out u3, .inl ⟨by rw [Hf.out]; decide, by rw [Hf.out]; rfl⟩⟩
  have HFd := Lib.hid hf
  clear hf
  go_wp2_with fail
  refine (isRange_any tgt 1000000000 (ovr W u3)).mono ?_
  rintro e w1 ⟨rfl, hb⟩
  obtain ⟨u4, rfl⟩ := ovr_next hb
  clear hb
  rcases ht : rgB tgt 1000000000 with _ | _
  · have Hf : Hid (rfOk m feed coef tgt s = 2) := by show _ = _; rw [Hz.out, if_pos (.inr (.inl ht))]
    clear ht
    go_wp2_with fail
    go_ret2
    exact ⟨HU.out u4, .inl ⟨by rw [Hf.out]; decide, by rw [Hf.out]; rfl⟩⟩
  have HTg := Lib.hid ht
  clear ht
  go_wp2_with fail
  refine (isRange_any coef 20000 (ovr W u4)).mono ?_
  rintro e w1 ⟨rfl, hb⟩
  obtain ⟨u5, rfl⟩ := ovr_next hb
  clear hb
  rcases hc : rgB coef 20000 with _ | _
  · have Hf : Hid (rfOk m feed coef tgt s = 2) := by show _ = _; rw [Hz.out, if_pos (.inr (.inr hc))]
    clear hc
    go_wp2_with fail
    go_ret2
    exact ⟨HU.out u5, .inl ⟨by rw [Hf.out]; decide, by rw [Hf.out]; rfl⟩⟩
  have HCf := Lib.hid hc
  have Hz0 : Hid (rfOk m feed coef tgt s = 0) := by show _ = _; rw [Hz.out, if_neg (by rw [HFd.out, HTg.out, HCf.out]; decide)]
  have hmb := isM_ms HM.out
  have HMx : Hid (MixV m feed coef tgt s) := mix_vals HM.out HS.out HFd.out HTg.out HCf.out
  have w1 : IntKind.i64.wrap (1000000000 - m.ms) = 1000000000 - m.ms := IntWalk.i64_in _ (by omega)
  clear hc
  go_upto_region 7 with (fail)
  obtain ⟨s', rfl⟩ : ∃ n : Nat, s = n := ⟨s.toNat, by have := HS.out; unfold spB at this; simp at this; omega⟩
  have hs : s' < 3 := by have := HS.out; unfold spB at this; simp at this; omega
  obtain ⟨Y, hY⟩ : ∃ Y, Y = ovr W u5 := ⟨_, rfl⟩
  have bWY : Below W.heap.size W Y := by rw [hY]; exact ovr_below W u5
  have bY : Below w.heap.size w Y := by rw [hY]; exact HU.out u5
  have rows := HY.out u5
  rw [← hY] at rows ⊢
  have Hrows := Lib.hid rows
  have HbY := Lib.hid bY
  have sY := bWY.size
  clear HM HS HFd HTg HCf hY y0 y1 y2 y3 y4 y5 y6 f0 f1 c0 c1 t0 t1 HY HU rows bWY bY HW Hb0 Hu0 Hz
  have y0 := ovr_cell (show Y.cell? ⟨w.heap.size, 0, none⟩ = some (I m.ms) by rw [cell_of_row _ _ _ _ _ _ Hrows.out.1.1]; rfl)
  refine wp_region_seq2 6 (fun j => if j = 3 then some (NewAt Y #[I 0] 3) else if j = 4 then some (fun _ _ => True) else none) (by kernel_rfl) (by kernel_rfl) (by kernel_rfl) (by kernel_rfl) (by kernel_rfl) ?_
  simp only [List.take_succ_cons, List.take_zero, List.drop_succ_cons, List.drop_zero]
  repeat (refine wpG_one rfl rfl rfl ?_; intro K hK; go_big_quiet_op; go_big_quiet_on)
  refine wpG_make (NewAt Y #[I 0] 3) rfl rfl (fun w' hw' _ => ?_) (fun u hu => ?_)
  · go_simp
    exact new_grow hw'
  obtain ⟨_, _, lb, rfl, _, _⟩ := hu
  simp only [Act.put, List.setIfInBounds_toArray, List.set_cons_zero, List.set_cons_succ]
  refine wpG_make (fun _ _ => True) rfl rfl (fun w' hw' hkn => ?_) (fun u hu => ?_)
  · have hk := (Box.now (hkn ⟨3, .data⟩ (by simp) rfl _ _ _ rfl rfl rfl (by simp) rfl)).at
    have z0 : w'.cell? ⟨lb, 0, none⟩ = some (I 0) := by rw [cell_of_row _ _ _ _ _ _ hk.1]; rfl
    have z1 := frozen_of_row _ _ 0 _ _ hk.1
    clear hkn
    unfold Oper.grows
    go_simp
    rw [setCell_id hk.1 rfl]
    exact ⟨Le.refl _, fun _ _ => trivial⟩
  clear hu
  simp only [Act.put]
  repeat (refine wpG_one rfl rfl rfl ?_; intro K hK; go_big_quiet_op; go_big_quiet_on)
  refine wpG_nil (fun w5 hw5 hG => ?_)
  have hn1 := (Box.now hG.1.2).at
  clear hG
  refine wpTailIn_nil ?_
  have b5 := hw5.le
  have hlb := hn1.2
  have hl5 := (Array.getElem?_eq_some_iff.1 hn1.1).1
  have q0 := (b5.block w.heap.size (by omega)).trans Hrows.out.1.1
  have q1 := (b5.block (w.heap.size + 1) (by omega)).trans Hrows.out.1.2
  have q2 := (b5.block (w.heap.size + 1 + 1) (by omega)).trans Hrows.out.2.1
  have q3 := (b5.block (w.heap.size + 1 + 1 + 1) (by omega)).trans Hrows.out.2.2
  have Hb5 : Hid (Below w.heap.size w w5) := HbY.out.trans (b5.mono HbY.out.size)
  have Hn1 := Lib.hid hn1.1
  have hs5 := b5.size
  have HMl := Lib.hid q0
  have yf : w5.cell? ⟨w.heap.size, 0, none⟩ = some (I m.ms) := by rw [cell_of_row _ _ _ _ _ _ q0]; rfl
  clear b5 hw5 hn1 y0 Hrows w1
  have ehi : 1000000000 - m.ms = ((hi0 m : Nat) : Int) := by unfold hi0; omega
  have hhi : hi0 m ≤ 1000000000 := by unfold hi0; omega
  rw [ehi]
  have Hlh : Hid (lo0 m ≤ hi0 m ∧ lo0 m ≤ 1) := by
    show _ ∧ _
    unfold lo0 hi0
    split <;> omega
  obtain ⟨hi, hhi0⟩ : ∃ q, hi0 m = q := ⟨_, rfl⟩
  have Hhi := Lib.hid hhi0
  rw [hhi0] at hhi ⊢
  clear ehi hhi0
  rcases Classical.em (m.ms = 0) with h0 | h0
  · have e0 : (m.ms == 0) = true := by simpa using h0
    have z0 : w5.cell? ⟨lb, 0, none⟩ = some (I 0) := by rw [cell_of_row _ _ _ _ _ _ Hn1.out]; rfl
    have z1 := frozen_of_row _ _ 0 _ _ Hn1.out
    have HL : Hid (lo0 m = 1) := by show _ = _; unfold lo0; rw [if_pos h0]
    clear h0
    go_upto_region 10 with (fail)
    refine name_w fun V hV => ?_
    have bV : Below w.heap.size w V := by rw [hV]; exact Hb5.out.setCell (p := ⟨lb, 0, none⟩) (by show w.heap.size ≤ lb; omega) _
    have rV : V.heap[lb]? = some (.cells #[I (lo0 m)] 3 (0, 0)) := by rw [hV, HL.out]; exact rs Hn1.out 0 _
    have oV : ∀ k, k ≠ lb → V.heap[k]? = w5.heap[k]? := fun k hk => by rw [hV]; exact heap_setCell_other _ _ _ _ hk
    have sV : V.heap.size = w5.heap.size := by rw [hV]; simp
    clear hV z0 z1 yf HL
    have p0 := (oV _ (by omega)).trans q0
    have p1 := (oV _ (by omega)).trans q1
    have p2 := (oV _ (by omega)).trans q2
    have p3 := (oV _ (by omega)).trans q3
    obtain ⟨y1, y2⟩ := ml_lo hs p0
    have d1 : decide ((s' : Int) < 3) = true := decide_eq_true (by omega)
    have d2 : decide (s' < 3) = true := decide_eq_true hs
    have d3 : decide (0 ≤ (s' : Int)) = true := decide_eq_true (by omega)
    have hlV := (Array.getElem?_eq_some_iff.1 rV).1
    have hwV : w.heap.size + 4 ≤ V.heap.size := by omega
    have Hp := Lib.hid (And.intro p0 (And.intro p1 (And.intro p2 p3)))
    have HbV := Lib.hid bV
    have HrV := Lib.hid rV
    clear p0 p1 p2 p3 bV rV oV q0 q1 q2 q3 sV
    obtain ⟨e1, ex⟩ : ∃ x : Int, m.ct (s' * 2) = x := ⟨_, rfl⟩
    obtain ⟨e2, ey⟩ : ∃ x : Int, m.ct (s' * 2 + 1) = x := ⟨_, rfl⟩
    rw [ex] at y1
    rw [ey] at y2
    have Hxy := Lib.hid (And.intro ex ey)
    clear ex ey
    go_upto_region 11 with (fail)
    obtain ⟨V2, hV2⟩ : ∃ V2, V2 = V.alloc (.cells #[I e1, I e2] 23) := ⟨_, rfl⟩
    have b2 : Below V.heap.size V V2 := by rw [hV2]; exact (Below.refl _ _).alloc (Nat.le_refl _) _
    have s2 : V.heap.size < V2.heap.size := by rw [hV2]; simp
    have r4 : V2.heap[V.heap.size]? = some (.cells #[I e1, I e2] 23 (0, 0)) := by rw [hV2]; exact heap_last _ _ _ rfl
    have p0 := (b2.block _ (by omega)).trans Hp.out.1
    have p1 := (b2.block _ (by omega)).trans Hp.out.2.1
    have p2 := (b2.block _ (by omega)).trans Hp.out.2.2.1
    have p3 := (b2.block _ (by omega)).trans Hp.out.2.2.2
    have pl := (b2.block _ hlV).trans HrV.out
    obtain ⟨vb, hvb⟩ : ∃ q, V.heap.size = q := ⟨_, rfl⟩
    rw [← hV2, hvb]
    rw [hvb] at r4 s2 hlV hwV
    have y0 : V2.cell? ⟨w.heap.size, 0, none⟩ = some (I m.ms) := by rw [cell_of_row _ _ _ _ _ _ p0]; rfl
    have g0 : V2.cell? ⟨vb, 0, none⟩ = some (I e1) := by rw [cell_of_row _ _ _ _ _ _ r4]; rfl
    have g1 : V2.cell? ⟨vb, 1, none⟩ = some (I e2) := by rw [cell_of_row _ _ _ _ _ _ r4]; rfl
    have f0 : V2.cell? ⟨w.heap.size + 1, 0, none⟩ = some (I feed.lo) := by rw [cell_of_row _ _ _ _ _ _ p1]; rfl
    have f1 : V2.cell? ⟨w.heap.size + 1, 1, none⟩ = some (I feed.hi) := by rw [cell_of_row _ _ _ _ _ _ p1]; rfl
    have c0 : V2.cell? ⟨w.heap.size + 1 + 1, 0, none⟩ = some (I coef.lo) := by rw [cell_of_row _ _ _ _ _ _ p2]; rfl
    have c1 : V2.cell? ⟨w.heap.size + 1 + 1, 1, none⟩ = some (I coef.hi) := by rw [cell_of_row _ _ _ _ _ _ p2]; rfl
    have t0 : V2.cell? ⟨w.heap.size + 1 + 1 + 1, 0, none⟩ = some (I tgt.lo) := by rw [cell_of_row _ _ _ _ _ _ p3]; rfl
    have t1 : V2.cell? ⟨w.heap.size + 1 + 1 + 1, 1, none⟩ = some (I tgt.hi) := by rw [cell_of_row _ _ _ _ _ _ p3]; rfl
    have HbV2 : Hid (Below w.heap.size w V2) := HbV.out.trans (b2.mono (by omega))
    have HrV2 := Lib.hid pl
    clear hV2 b2 r4 p0 p1 p2 p3 pl hvb y1 y2 HbV HrV Hp
    have HA : Hid (mixArr (mxs m feed coef tgt (s' : Int).toNat 0) = #[I m.ms, I e2, I feed.hi, I coef.hi, I tgt.hi, .bool false] ∧ mixArr (mxs m feed coef tgt (s' : Int).toNat 1) = #[I m.ms, I e1, I feed.lo, I coef.lo, I tgt.lo, .bool true]) := by
      refine ⟨?_, ?_⟩
      · rw [HMx.out.a0, ← Hxy.out.2]; rfl
      · rw [HMx.out.a1, ← Hxy.out.1]; rfl
    go_wp2_with fail
    refine name_w fun X0 hX0 => ?_
    obtain ⟨mk, hmk⟩ : ∃ q, V2.heap.size = q := ⟨_, rfl⟩
    have rX : X0.heap[mk]? = some (.cells (mixArr (mxs m feed coef tgt (s' : Int).toNat 0) ++ mixArr (mxs m feed coef tgt (s' : Int).toNat 1)) 112 (0, 0)) := by
      rw [HA.out.1, HA.out.2, hX0, ← hmk]; exact heap_last _ _ _ rfl
    have bX : Below V2.heap.size V2 X0 := by rw [hX0]; exact (Below.refl _ _).alloc (Nat.le_refl _) _
    have HrX := Lib.hid rX
    have HbX : Hid (Below w.heap.size w X0) := HbV2.out.trans (bX.mono (by omega))
    have HlX := Lib.hid ((bX.block lb (by omega)).trans HrV2.out)
    rw [hmk]
    have hlm : lb < mk := by omega
    clear hX0 rX bX hmk y0 g0 g1 f0 f1 c0 c1 t0 t1 HrV2 HbV2 HA s2
    go_loopw [13, 75] (fun hi' i wr => ∃ (k low high : Nat), k ≤ 2 ∧ i = .int .i64 k ∧ hi' = I high ∧ wr.heap[lb]? = some (.cells #[I low] 3 (0, 0)) ∧ low ≤ high ∧ high ≤ hi ∧ lo0 m ≤ low ∧ (∀ x, lo0 m ≤ x → x ≤ hi → ((∀ j, j < k → hld (mxs m feed coef tgt (s' : Int).toNat j) x = true) ↔ low ≤ x ∧ x ≤ high)) ∧
      wr.heap[mk]? = some (.cells (mixArr (mxs m feed coef tgt (s' : Int).toNat 0) ++ mixArr (mxs m feed coef tgt (s' : Int).toNat 1)) 112 (0, 0)) ∧ Below w.heap.size w wr) (fun _ i _ => 2 - (intOf i).toNat)
    case atStart => exact ⟨0, lo0 m, hi, by omega, rfl, rfl, HlX.out, by have := Hlh.out; have := Hhi.out; omega, Nat.le_refl _, Nat.le_refl _, fun x h1 h2 => ⟨fun _ => ⟨h1, h2⟩, fun _ j hj => absurd hj (by omega)⟩, HrX.out, HbX.out⟩
    case round =>
      rename World => X
      obtain ⟨k, low, high, hk2, rfl, rfl, hrl, hlh, hhi', hlo', hiff, hrm, hbw⟩ := hrel
      have Hiff := Lib.hid hiff
      have Hrl := Lib.hid hrl
      have Hrm := Lib.hid hrm
      have Hbw := Lib.hid hbw
      clear hiff hrm hbw
      by_cases hk : k < 2
      · have kb : decide (k < 2) = true := decide_eq_true hk
        have ki : decide ((k : Int) < 2) = true := decide_eq_true (by omega)
        have kz : decide (0 ≤ (k : Int)) = true := decide_eq_true (by omega)
        have hok := HMx.out.ok k
        have hc := mix_cells (A := mxs m feed coef tgt (s' : Int).toNat) Hrm.out hk
        obtain ⟨a, ha⟩ : ∃ a, mxs m feed coef tgt (s' : Int).toNat k = a := ⟨_, rfl⟩
        rw [ha] at hok hc
        have Ha := Lib.hid ha
        have Hok := Lib.hid hok
        have y0 : X.cell? ⟨mk, k * 6, none⟩ = some (I a.ms) := hc 0 (by omega)
        have y1 : X.cell? ⟨mk, k * 6 + 1, none⟩ = some (I a.ct) := hc 1 (by omega)
        have y2 : X.cell? ⟨mk, k * 6 + 2, none⟩ = some (I a.fd) := hc 2 (by omega)
        have y3 : X.cell? ⟨mk, k * 6 + 3, none⟩ = some (I a.sh) := hc 3 (by omega)
        have y4 : X.cell? ⟨mk, k * 6 + 4, none⟩ = some (I a.bd) := hc 4 (by omega)
        have y5 : X.cell? ⟨mk, k * 6 + 5, none⟩ = some (.bool a.ls) := hc 5 (by omega)
        have hbk : lb < X.heap.size := (Array.getElem?_eq_some_iff.1 hrl).1
        clear hc ha hok hrl
        go_upto_region 14 with (fail)
        obtain ⟨X1, hX1⟩ : ∃ X1, X1 = X.alloc (.cells (mixArr a) 112) := ⟨_, rfl⟩
        have b1 : Below X.heap.size X X1 := by rw [hX1]; exact (Below.refl _ _).alloc (Nat.le_refl _) _
        have r1 : X1.heap[X.heap.size]? = some (.cells (mixArr a) 112 (0, 0)) := by rw [hX1]; exact heap_last _ _ _ rfl
        have rl1 := (b1.block lb hbk).trans Hrl.out
        have rm1 := (b1.block mk (Array.getElem?_eq_some_iff.1 Hrm.out).1).trans Hrm.out
        have sm1 := (Array.getElem?_eq_some_iff.1 rm1).1
        have hmX := (Array.getElem?_eq_some_iff.1 Hrm.out).1
        obtain ⟨q, hq⟩ : ∃ q, X.heap.size = q := ⟨_, rfl⟩
        rw [← hX1, hq]
        rw [hq] at r1 hbk hmX
        have hq1 := (Array.getElem?_eq_some_iff.1 r1).1
        have HRf : Hid (RfIn X1 a low q lb) := ⟨r1, rl1⟩
        have Hbw1 : Hid (Below w.heap.size w X1) := Hbw.out.trans (b1.mono Hbw.out.size)
        have Hrm1 := Lib.hid rm1
        have y := fun k (v : Value) (hv : (mixArr a)[k]? = some v) => ovr_cell (show X1.cell? ⟨q, k, none⟩ = some v by rw [cell_of_row _ _ _ _ _ _ r1]; exact hv)
        have z0 := y 0 _ rfl
        have z1 := y 1 _ rfl
        have z2 := y 2 _ rfl
        have z3 := y 3 _ rfl
        have z4 := y 4 _ rfl
        have z5 := y 5 _ rfl
        have z6 := ovr_cell (show X1.cell? ⟨lb, 0, none⟩ = some (I low) by rw [cell_of_row _ _ _ _ _ _ rl1]; rfl)
        clear y hX1 b1 r1 rl1 rm1 hq y0 y1 y2 y3 y4 y5 Hrl Hrm Hbw
        obtain ⟨bf, hbf⟩ : ∃ b, hld a low = b := ⟨_, rfl⟩
        obtain ⟨bl, hbl⟩ : ∃ b, hld a high = b := ⟨_, rfl⟩
        have hc1 : Hid (∀ w', Calls Tryd.prog 50 #[.agg (mixArr a), I low] w' fun e w'' => e = .returned (.bool bf) ∧ Below w'.heap.size w' w'') := fun w' => by
          have := holds_any a low w' Hok.out (by omega); rwa [hbf] at this
        have hc2 : Hid (∀ w', Calls Tryd.prog 50 #[.agg (mixArr a), I high] w' fun e w'' => e = .returned (.bool bl) ∧ Below w'.heap.size w' w'') := fun w' => by
          have := holds_any a high w' Hok.out (by omega); rwa [hbl] at this
        have Hbf := Lib.hid hbf
        have Hbl := Lib.hid hbl
        clear hbf hbl
        refine wp_region_seq2 8 (fun j => if j = 2 then some (fun u _ => u = .bool bf) else if j = 5 then some (fun u _ => u = .bool bl) else none) (by kernel_rfl) (by kernel_rfl) (by kernel_rfl) (by kernel_rfl) (by kernel_rfl) ?_
        simp only [List.take_succ_cons, List.take_zero, List.drop_succ_cons, List.drop_zero]
        repeat (refine wpG_one rfl rfl rfl ?_; intro K hK; go_big_quiet_op; go_big_quiet_on)
        refine wpG_make (fun u _ => u = .bool bf) rfl rfl (fun w' hw' _ => ?_) (fun u hu => ?_)
        · go_simp
          exact call_grow (hc1.out w')
        obtain ⟨_, _, rfl⟩ := hu
        simp only [Act.put, List.setIfInBounds_toArray, List.set_cons_zero, List.set_cons_succ]
        repeat (refine wpG_one rfl rfl rfl ?_; intro K hK; go_big_quiet_op; go_big_quiet_on)
        refine wpG_make (fun u _ => u = .bool bl) rfl rfl (fun w' hw' _ => ?_) (fun u hu => ?_)
        · go_simp
          exact call_grow (hc2.out w')
        obtain ⟨_, _, rfl⟩ := hu
        simp only [Act.put, List.setIfInBounds_toArray, List.set_cons_zero, List.set_cons_succ]
        repeat (refine wpG_one rfl rfl rfl ?_; intro K hK; go_big_quiet_op; go_big_quiet_on)
        refine wpG_nil (fun w6 hw6 hG => ?_)
        clear hG z0 z1 z2 z3 z4 z5 z6
        refine wpTailIn_nil ?_
        have b6 := hw6.le
        have HR6 : Hid (RfIn w6 a low q lb) := HRf.out.below b6
        have Hbw6 : Hid (Below w.heap.size w w6) := Hbw1.out.trans (b6.mono Hbw1.out.size)
        have Hrm6 := Lib.hid ((b6.block mk sm1).trans Hrm1.out)
        have hs6 := b6.size
        clear b6 hw6 HRf Hbw1 Hrm1 hc1 hc2
        have x0 : w6.cell? ⟨lb, 0, none⟩ = some (I low) := by rw [cell_of_row _ _ _ _ _ _ HR6.out.l]; rfl
        have dl : decide ((high : Int) < (low : Int)) = false := decide_eq_false (by omega)
        have dln : decide (high < low) = false := decide_eq_false (by omega)
        rcases bf with _ | _ <;> rcases bl with _ | _
        · -- neither
          go_wp2_with fail
          go_ret2
          refine ⟨Hbw6.out, .inr ⟨Hz0.out, 0, 8, rfl, .inl ⟨rfl, rfl, fun x h1 h2 hB => ?_⟩⟩⟩
          have h3 := (Hiff.out x h1 (by rw [← Hhi.out]; exact h2)).1 (fun j hj => Both.all hB j (by omega))
          have h4 := (hld_cvx a h3.1 h3.2).2 Hbf.out Hbl.out
          have h5 := Both.all hB k hk
          rw [Ha.out, h4] at h5
          cases h5
        · -- from some mass on
          have x1 := ovr_cell x0
          have w1 : IntKind.i64.wrap ((high : Int) - (low : Int)) = ((high - low : Nat) : Int) := by rw [show (high : Int) - (low : Int) = ((high - low : Nat) : Int) by omega]; exact IntWalk.i64_in _ (by omega)
          obtain ⟨dz, hdz⟩ : ∃ z : Int, ((high - low : Nat) : Int) = z := ⟨_, rfl⟩
          have Hdz := Lib.hid hdz
          rw [hdz] at w1
          clear hdz
          go_upto_region 18 with (fail)
          refine wp_region_seq2 7 (fun j => if j = 5 then some (fun u _ => ∃ r : Nat, u = I r ∧ Turn (fun i => hld a (low + i)) (high - low) r) else none) (by kernel_rfl) (by kernel_rfl) (by kernel_rfl) (by kernel_rfl) (by kernel_rfl) ?_
          simp only [List.take_succ_cons, List.take_zero, List.drop_succ_cons, List.drop_zero]
          repeat (refine wpG_one rfl rfl rfl ?_; intro K hK; go_big_quiet_op; go_big_quiet_on)
          refine wpG_make (fun u _ => ∃ r : Nat, u = I r ∧ Turn (fun i => hld a (low + i)) (high - low) r) rfl rfl (fun w' hw' _ => ?_) (fun u hu => ?_)
          · go_simp
            have hc := search1_any a low q lb (high - low) w' Hok.out (by omega) (HR6.out.below hw'.le)
            rw [Hdz.out] at hc
            exact hc.mono fun e w'' ⟨⟨r, he, hT⟩, hb⟩ => ⟨_, he, hb, fun _ _ => ⟨r, rfl, hT⟩⟩
          obtain ⟨_, _, r, rfl, hT⟩ := hu
          simp only [Act.put, List.setIfInBounds_toArray, List.set_cons_zero, List.set_cons_succ]
          have hst := step_first hlh Hbl.out hT
          have w2 : IntKind.i64.wrap ((low : Int) + (r : Int)) = ((low + r : Nat) : Int) := by rw [addN]; exact IntWalk.i64_in _ (by omega)
          obtain ⟨z2, hz2⟩ : ∃ z : Int, ((low + r : Nat) : Int) = z := ⟨_, rfl⟩
          have Hz2 := Lib.hid hz2
          have Hst := Lib.hid hst
          rw [hz2] at w2
          clear hz2 hT hst
          repeat (refine wpG_one rfl rfl rfl ?_; intro K hK; go_big_quiet_op; go_big_quiet_on)
          refine wpG_nil (fun w7 hw7 hG => ?_)
          clear hG x1
          have b7 := hw7.le
          have R7 := HR6.out.below b7
          have z0 : w7.cell? ⟨lb, 0, none⟩ = some (I low) := by rw [cell_of_row _ _ _ _ _ _ R7.l]; rfl
          have z1 := frozen_of_row _ _ 0 _ _ R7.l
          refine wpTailIn_cons Wd.wide (by intro c h; cases h) ?_
          unfold Oper.wp
          go_simp
          refine wpTailIn_nil ?_
          obtain ⟨Z, hZ⟩ : ∃ Z, Z = w7.setCell ⟨lb, 0, none⟩ (I z2) := ⟨_, rfl⟩
          have lZ : Z.heap[lb]? = some (.cells #[I ((low + r : Nat) : Int)] 3 (0, 0)) := by rw [hZ, Hz2.out]; exact rs R7.l 0 _
          have mZ : Z.heap[mk]? = some (.cells (mixArr (mxs m feed coef tgt (s' : Int).toNat 0) ++ mixArr (mxs m feed coef tgt (s' : Int).toNat 1)) 112 (0, 0)) := by rw [hZ]; exact ro ((b7.block mk (by omega)).trans Hrm6.out) (by omega)
          have bZ : Below w.heap.size w Z := by rw [hZ]; exact (Hbw6.out.trans (b7.mono Hbw6.out.size)).setCell (p := ⟨lb, 0, none⟩) (by show w.heap.size ≤ lb; omega) _
          have HZ := Lib.hid (And.intro lZ (And.intro mZ bZ))
          rw [← hZ]
          clear hZ lZ mZ bZ z0 z1 R7 b7 hw7
          go_wp2_with fail
          go_roundw
          case rel => exact ⟨k + 1, low + r, high, by omega, by go_num, rfl, HZ.out.1, Hst.out.1, hhi', by omega, fun x h1 h2 => by
            refine ⟨fun h => ?_, fun h j hj => ?_⟩
            · have h3 := (Hiff.out x h1 h2).1 fun j hj => h j (by omega)
              have h4 := h k (by omega)
              rw [Ha.out] at h4
              exact ⟨(Hst.out.2 x h3.1 h3.2).1 h4, h3.2⟩
            · rcases Nat.lt_or_ge j k with hjk | hjk
              · exact (Hiff.out x h1 h2).2 ⟨by omega, h.2⟩ j hjk
              · obtain rfl : j = k := by omega
                rw [Ha.out]
                exact (Hst.out.2 x (by omega) h.2).2 h.1, HZ.out.2.1, HZ.out.2.2⟩
          case measure => simp [intOf]; omega
        · -- up to some mass
          have x1 := ovr_cell x0
          have w1 : IntKind.i64.wrap ((high : Int) - (low : Int)) = ((high - low : Nat) : Int) := by rw [show (high : Int) - (low : Int) = ((high - low : Nat) : Int) by omega]; exact IntWalk.i64_in _ (by omega)
          obtain ⟨dz, hdz⟩ : ∃ z : Int, ((high - low : Nat) : Int) = z := ⟨_, rfl⟩
          have Hdz := Lib.hid hdz
          rw [hdz] at w1
          clear hdz
          go_upto_region 20 with (fail)
          refine wp_region_seq2 9 (fun j => if j = 5 then some (fun u _ => ∃ r : Nat, u = I r ∧ Turn (fun i => !hld a (low + i)) (high - low) r) else none) (by kernel_rfl) (by kernel_rfl) (by kernel_rfl) (by kernel_rfl) (by kernel_rfl) ?_
          simp only [List.take_succ_cons, List.take_zero, List.drop_succ_cons, List.drop_zero]
          repeat (refine wpG_one rfl rfl rfl ?_; intro K hK; go_big_quiet_op; go_big_quiet_on)
          refine wpG_make (fun u _ => ∃ r : Nat, u = I r ∧ Turn (fun i => !hld a (low + i)) (high - low) r) rfl rfl (fun w' hw' _ => ?_) (fun u hu => ?_)
          · go_simp
            have hc := search2_any a low q lb (high - low) w' Hok.out (by omega) (HR6.out.below hw'.le)
            rw [Hdz.out] at hc
            exact hc.mono fun e w'' ⟨⟨r, he, hT⟩, hb⟩ => ⟨_, he, hb, fun _ _ => ⟨r, rfl, hT⟩⟩
          obtain ⟨_, _, r, rfl, hT⟩ := hu
          simp only [Act.put, List.setIfInBounds_toArray, List.set_cons_zero, List.set_cons_succ]
          have hst := step_last hlh Hbf.out Hbl.out hT
          have w2 : IntKind.i64.wrap ((low : Int) + (r : Int)) = ((low + r : Nat) : Int) := by rw [addN]; exact IntWalk.i64_in _ (by omega)
          have w3 : IntKind.i64.wrap (((low + r : Nat) : Int) - 1) = ((low + r - 1 : Nat) : Int) := by rw [show ((low + r : Nat) : Int) - 1 = ((low + r - 1 : Nat) : Int) by omega]; exact IntWalk.i64_in _ (by omega)
          obtain ⟨z2, hz2⟩ : ∃ z : Int, ((low + r : Nat) : Int) = z := ⟨_, rfl⟩
          obtain ⟨z3, hz3⟩ : ∃ z : Int, ((low + r - 1 : Nat) : Int) = z := ⟨_, rfl⟩
          have Hz3 := Lib.hid hz3
          have Hst := Lib.hid hst
          rw [hz2] at w2 w3
          rw [hz3] at w3
          clear hz2 hz3 hT hst
          repeat (refine wpG_one rfl rfl rfl ?_; intro K hK; go_big_quiet_op; go_big_quiet_on)
          refine wpG_nil (fun w7 hw7 hG => ?_)
          clear hG x1
          have b7 := hw7.le
          have R7 := Lib.hid (HR6.out.below b7)
          refine wpTailIn_nil ?_
          have HZ : Hid (w7.heap[mk]? = some (.cells (mixArr (mxs m feed coef tgt (s' : Int).toNat 0) ++ mixArr (mxs m feed coef tgt (s' : Int).toNat 1)) 112 (0, 0)) ∧ Below w.heap.size w w7) := ⟨(b7.block mk (by omega)).trans Hrm6.out, Hbw6.out.trans (b7.mono Hbw6.out.size)⟩
          clear b7 hw7
          go_wp2_with fail
          go_roundw
          case rel => exact ⟨k + 1, low, low + r - 1, by omega, by go_num, by rw [← Hz3.out], R7.out.l, by have := Hst.out.1; omega, by have := Hst.out.2.1; omega, hlo', fun x h1 h2 => by
            refine ⟨fun h => ?_, fun h j hj => ?_⟩
            · have h3 := (Hiff.out x h1 h2).1 fun j hj => h j (by omega)
              have h4 := h k (by omega)
              rw [Ha.out] at h4
              exact ⟨h3.1, (Hst.out.2.2 x h3.1 h3.2).1 h4⟩
            · rcases Nat.lt_or_ge j k with hjk | hjk
              · exact (Hiff.out x h1 h2).2 ⟨h.1, by have := Hst.out.2.1; omega⟩ j hjk
              · obtain rfl : j = k := by omega
                rw [Ha.out]
                exact (Hst.out.2.2 x h.1 (by have := Hst.out.2.1; omega)).2 h.2, HZ.out.1, HZ.out.2⟩
          case measure => simp [intOf]; omega
        · -- always
          go_wp2_with fail
          go_roundw
          case rel => exact ⟨k + 1, low, high, by omega, by go_num, rfl, HR6.out.l, hlh, hhi', hlo', fun x h1 h2 => by
            refine ⟨fun h => (Hiff.out x h1 h2).1 fun j hj => h j (by omega), fun h j hj => ?_⟩
            rcases Nat.lt_or_ge j k with hjk | hjk
            · exact (Hiff.out x h1 h2).2 h j hjk
            · obtain rfl : j = k := by omega
              rw [Ha.out]
              exact (hld_cvx a h.1 h.2).1 Hbf.out Hbl.out, Hrm6.out, Hbw6.out⟩
          case measure => simp [intOf]; omega
      · obtain rfl : k = 2 := by omega
        have x0 : X.cell? ⟨lb, 0, none⟩ = some (I low) := by rw [cell_of_row _ _ _ _ _ _ Hrl.out]; rfl
        clear hrl
        go_wp2_with fail
        go_ret2
        refine ⟨Hbw.out, .inr ⟨Hz0.out, low, 0, rfl, .inr ⟨rfl, hlo', by rw [Hhi.out]; omega, ?_, fun x h1 h2 hB => ?_⟩⟩⟩
        · have h := (Hiff.out low hlo' (by omega)).2 ⟨Nat.le_refl _, hlh⟩
          exact ⟨h 0 (by omega), h 1 (by omega)⟩
        · have h3 := (Hiff.out x h1 (by omega)).1 (fun j hj => Both.all hB j hj)
          omega
  · have e0 : (m.ms == 0) = false := by simpa using h0
    have HL : Hid (lo0 m = 0) := by show _ = _; unfold lo0; rw [if_neg h0]
    clear h0
    go_upto_region 10 with (fail)
    refine name_w fun V hV => ?_
    have bV : Below w.heap.size w V := by rw [hV]; exact Hb5.out
    have rV : V.heap[lb]? = some (.cells #[I (lo0 m)] 3 (0, 0)) := by rw [hV, HL.out]; exact Hn1.out
    have oV : ∀ k, k ≠ lb → V.heap[k]? = w5.heap[k]? := fun k hk => by rw [hV]
    have sV : V.heap.size = w5.heap.size := by rw [hV]
    clear hV yf HL
    have p0 := (oV _ (by omega)).trans q0
    have p1 := (oV _ (by omega)).trans q1
    have p2 := (oV _ (by omega)).trans q2
    have p3 := (oV _ (by omega)).trans q3
    obtain ⟨y1, y2⟩ := ml_lo hs p0
    have d1 : decide ((s' : Int) < 3) = true := decide_eq_true (by omega)
    have d2 : decide (s' < 3) = true := decide_eq_true hs
    have d3 : decide (0 ≤ (s' : Int)) = true := decide_eq_true (by omega)
    have hlV := (Array.getElem?_eq_some_iff.1 rV).1
    have hwV : w.heap.size + 4 ≤ V.heap.size := by omega
    have Hp := Lib.hid (And.intro p0 (And.intro p1 (And.intro p2 p3)))
    have HbV := Lib.hid bV
    have HrV := Lib.hid rV
    clear p0 p1 p2 p3 bV rV oV q0 q1 q2 q3 sV
    obtain ⟨e1, ex⟩ : ∃ x : Int, m.ct (s' * 2) = x := ⟨_, rfl⟩
    obtain ⟨e2, ey⟩ : ∃ x : Int, m.ct (s' * 2 + 1) = x := ⟨_, rfl⟩
    rw [ex] at y1
    rw [ey] at y2
    have Hxy := Lib.hid (And.intro ex ey)
    clear ex ey
    go_upto_region 11 with (fail)
    obtain ⟨V2, hV2⟩ : ∃ V2, V2 = V.alloc (.cells #[I e1, I e2] 23) := ⟨_, rfl⟩
    have b2 : Below V.heap.size V V2 := by rw [hV2]; exact (Below.refl _ _).alloc (Nat.le_refl _) _
    have s2 : V.heap.size < V2.heap.size := by rw [hV2]; simp
    have r4 : V2.heap[V.heap.size]? = some (.cells #[I e1, I e2] 23 (0, 0)) := by rw [hV2]; exact heap_last _ _ _ rfl
    have p0 := (b2.block _ (by omega)).trans Hp.out.1
    have p1 := (b2.block _ (by omega)).trans Hp.out.2.1
    have p2 := (b2.block _ (by omega)).trans Hp.out.2.2.1
    have p3 := (b2.block _ (by omega)).trans Hp.out.2.2.2
    have pl := (b2.block _ hlV).trans HrV.out
    obtain ⟨vb, hvb⟩ : ∃ q, V.heap.size = q := ⟨_, rfl⟩
    rw [← hV2, hvb]
    rw [hvb] at r4 s2 hlV hwV
    have y0 : V2.cell? ⟨w.heap.size, 0, none⟩ = some (I m.ms) := by rw [cell_of_row _ _ _ _ _ _ p0]; rfl
    have g0 : V2.cell? ⟨vb, 0, none⟩ = some (I e1) := by rw [cell_of_row _ _ _ _ _ _ r4]; rfl
    have g1 : V2.cell? ⟨vb, 1, none⟩ = some (I e2) := by rw [cell_of_row _ _ _ _ _ _ r4]; rfl
    have f0 : V2.cell? ⟨w.heap.size + 1, 0, none⟩ = some (I feed.lo) := by rw [cell_of_row _ _ _ _ _ _ p1]; rfl
    have f1 : V2.cell? ⟨w.heap.size + 1, 1, none⟩ = some (I feed.hi) := by rw [cell_of_row _ _ _ _ _ _ p1]; rfl
    have c0 : V2.cell? ⟨w.heap.size + 1 + 1, 0, none⟩ = some (I coef.lo) := by rw [cell_of_row _ _ _ _ _ _ p2]; rfl
    have c1 : V2.cell? ⟨w.heap.size + 1 + 1, 1, none⟩ = some (I coef.hi) := by rw [cell_of_row _ _ _ _ _ _ p2]; rfl
    have t0 : V2.cell? ⟨w.heap.size + 1 + 1 + 1, 0, none⟩ = some (I tgt.lo) := by rw [cell_of_row _ _ _ _ _ _ p3]; rfl
    have t1 : V2.cell? ⟨w.heap.size + 1 + 1 + 1, 1, none⟩ = some (I tgt.hi) := by rw [cell_of_row _ _ _ _ _ _ p3]; rfl
    have HbV2 : Hid (Below w.heap.size w V2) := HbV.out.trans (b2.mono (by omega))
    have HrV2 := Lib.hid pl
    clear hV2 b2 r4 p0 p1 p2 p3 pl hvb y1 y2 HbV HrV Hp
    have HA : Hid (mixArr (mxs m feed coef tgt (s' : Int).toNat 0) = #[I m.ms, I e2, I feed.hi, I coef.hi, I tgt.hi, .bool false] ∧ mixArr (mxs m feed coef tgt (s' : Int).toNat 1) = #[I m.ms, I e1, I feed.lo, I coef.lo, I tgt.lo, .bool true]) := by
      refine ⟨?_, ?_⟩
      · rw [HMx.out.a0, ← Hxy.out.2]; rfl
      · rw [HMx.out.a1, ← Hxy.out.1]; rfl
    go_wp2_with fail
    refine name_w fun X0 hX0 => ?_
    obtain ⟨mk, hmk⟩ : ∃ q, V2.heap.size = q := ⟨_, rfl⟩
    have rX : X0.heap[mk]? = some (.cells (mixArr (mxs m feed coef tgt (s' : Int).toNat 0) ++ mixArr (mxs m feed coef tgt (s' : Int).toNat 1)) 112 (0, 0)) := by
      rw [HA.out.1, HA.out.2, hX0, ← hmk]; exact heap_last _ _ _ rfl
    have bX : Below V2.heap.size V2 X0 := by rw [hX0]; exact (Below.refl _ _).alloc (Nat.le_refl _) _
    have HrX := Lib.hid rX
    have HbX : Hid (Below w.heap.size w X0) := HbV2.out.trans (bX.mono (by omega))
    have HlX := Lib.hid ((bX.block lb (by omega)).trans HrV2.out)
    rw [hmk]
    have hlm : lb < mk := by omega
    clear hX0 rX bX hmk y0 g0 g1 f0 f1 c0 c1 t0 t1 HrV2 HbV2 HA s2
    go_loopw [13, 75] (fun hi' i wr => ∃ (k low high : Nat), k ≤ 2 ∧ i = .int .i64 k ∧ hi' = I high ∧ wr.heap[lb]? = some (.cells #[I low] 3 (0, 0)) ∧ low ≤ high ∧ high ≤ hi ∧ lo0 m ≤ low ∧ (∀ x, lo0 m ≤ x → x ≤ hi → ((∀ j, j < k → hld (mxs m feed coef tgt (s' : Int).toNat j) x = true) ↔ low ≤ x ∧ x ≤ high)) ∧
      wr.heap[mk]? = some (.cells (mixArr (mxs m feed coef tgt (s' : Int).toNat 0) ++ mixArr (mxs m feed coef tgt (s' : Int).toNat 1)) 112 (0, 0)) ∧ Below w.heap.size w wr) (fun _ i _ => 2 - (intOf i).toNat)
    case atStart => exact ⟨0, lo0 m, hi, by omega, rfl, rfl, HlX.out, by have := Hlh.out; have := Hhi.out; omega, Nat.le_refl _, Nat.le_refl _, fun x h1 h2 => ⟨fun _ => ⟨h1, h2⟩, fun _ j hj => absurd hj (by omega)⟩, HrX.out, HbX.out⟩
    case round =>
      rename World => X
      obtain ⟨k, low, high, hk2, rfl, rfl, hrl, hlh, hhi', hlo', hiff, hrm, hbw⟩ := hrel
      have Hiff := Lib.hid hiff
      have Hrl := Lib.hid hrl
      have Hrm := Lib.hid hrm
      have Hbw := Lib.hid hbw
      clear hiff hrm hbw
      by_cases hk : k < 2
      · have kb : decide (k < 2) = true := decide_eq_true hk
        have ki : decide ((k : Int) < 2) = true := decide_eq_true (by omega)
        have kz : decide (0 ≤ (k : Int)) = true := decide_eq_true (by omega)
        have hok := HMx.out.ok k
        have hc := mix_cells (A := mxs m feed coef tgt (s' : Int).toNat) Hrm.out hk
        obtain ⟨a, ha⟩ : ∃ a, mxs m feed coef tgt (s' : Int).toNat k = a := ⟨_, rfl⟩
        rw [ha] at hok hc
        have Ha := Lib.hid ha
        have Hok := Lib.hid hok
        have y0 : X.cell? ⟨mk, k * 6, none⟩ = some (I a.ms) := hc 0 (by omega)
        have y1 : X.cell? ⟨mk, k * 6 + 1, none⟩ = some (I a.ct) := hc 1 (by omega)
        have y2 : X.cell? ⟨mk, k * 6 + 2, none⟩ = some (I a.fd) := hc 2 (by omega)
        have y3 : X.cell? ⟨mk, k * 6 + 3, none⟩ = some (I a.sh) := hc 3 (by omega)
        have y4 : X.cell? ⟨mk, k * 6 + 4, none⟩ = some (I a.bd) := hc 4 (by omega)
        have y5 : X.cell? ⟨mk, k * 6 + 5, none⟩ = some (.bool a.ls) := hc 5 (by omega)
        have hbk : lb < X.heap.size := (Array.getElem?_eq_some_iff.1 hrl).1
        clear hc ha hok hrl
        go_upto_region 14 with (fail)
        obtain ⟨X1, hX1⟩ : ∃ X1, X1 = X.alloc (.cells (mixArr a) 112) := ⟨_, rfl⟩
        have b1 : Below X.heap.size X X1 := by rw [hX1]; exact (Below.refl _ _).alloc (Nat.le_refl _) _
        have r1 : X1.heap[X.heap.size]? = some (.cells (mixArr a) 112 (0, 0)) := by rw [hX1]; exact heap_last _ _ _ rfl
        have rl1 := (b1.block lb hbk).trans Hrl.out
        have rm1 := (b1.block mk (Array.getElem?_eq_some_iff.1 Hrm.out).1).trans Hrm.out
        have sm1 := (Array.getElem?_eq_some_iff.1 rm1).1
        have hmX := (Array.getElem?_eq_some_iff.1 Hrm.out).1
        obtain ⟨q, hq⟩ : ∃ q, X.heap.size = q := ⟨_, rfl⟩
        rw [← hX1, hq]
        rw [hq] at r1 hbk hmX
        have hq1 := (Array.getElem?_eq_some_iff.1 r1).1
        have HRf : Hid (RfIn X1 a low q lb) := ⟨r1, rl1⟩
        have Hbw1 : Hid (Below w.heap.size w X1) := Hbw.out.trans (b1.mono Hbw.out.size)
        have Hrm1 := Lib.hid rm1
        have y := fun k (v : Value) (hv : (mixArr a)[k]? = some v) => ovr_cell (show X1.cell? ⟨q, k, none⟩ = some v by rw [cell_of_row _ _ _ _ _ _ r1]; exact hv)
        have z0 := y 0 _ rfl
        have z1 := y 1 _ rfl
        have z2 := y 2 _ rfl
        have z3 := y 3 _ rfl
        have z4 := y 4 _ rfl
        have z5 := y 5 _ rfl
        have z6 := ovr_cell (show X1.cell? ⟨lb, 0, none⟩ = some (I low) by rw [cell_of_row _ _ _ _ _ _ rl1]; rfl)
        clear y hX1 b1 r1 rl1 rm1 hq y0 y1 y2 y3 y4 y5 Hrl Hrm Hbw
        obtain ⟨bf, hbf⟩ : ∃ b, hld a low = b := ⟨_, rfl⟩
        obtain ⟨bl, hbl⟩ : ∃ b, hld a high = b := ⟨_, rfl⟩
        have hc1 : Hid (∀ w', Calls Tryd.prog 50 #[.agg (mixArr a), I low] w' fun e w'' => e = .returned (.bool bf) ∧ Below w'.heap.size w' w'') := fun w' => by
          have := holds_any a low w' Hok.out (by omega); rwa [hbf] at this
        have hc2 : Hid (∀ w', Calls Tryd.prog 50 #[.agg (mixArr a), I high] w' fun e w'' => e = .returned (.bool bl) ∧ Below w'.heap.size w' w'') := fun w' => by
          have := holds_any a high w' Hok.out (by omega); rwa [hbl] at this
        have Hbf := Lib.hid hbf
        have Hbl := Lib.hid hbl
        clear hbf hbl
        refine wp_region_seq2 8 (fun j => if j = 2 then some (fun u _ => u = .bool bf) else if j = 5 then some (fun u _ => u = .bool bl) else none) (by kernel_rfl) (by kernel_rfl) (by kernel_rfl) (by kernel_rfl) (by kernel_rfl) ?_
        simp only [List.take_succ_cons, List.take_zero, List.drop_succ_cons, List.drop_zero]
        repeat (refine wpG_one rfl rfl rfl ?_; intro K hK; go_big_quiet_op; go_big_quiet_on)
        refine wpG_make (fun u _ => u = .bool bf) rfl rfl (fun w' hw' _ => ?_) (fun u hu => ?_)
        · go_simp
          exact call_grow (hc1.out w')
        obtain ⟨_, _, rfl⟩ := hu
        simp only [Act.put, List.setIfInBounds_toArray, List.set_cons_zero, List.set_cons_succ]
        repeat (refine wpG_one rfl rfl rfl ?_; intro K hK; go_big_quiet_op; go_big_quiet_on)
        refine wpG_make (fun u _ => u = .bool bl) rfl rfl (fun w' hw' _ => ?_) (fun u hu => ?_)
        · go_simp
          exact call_grow (hc2.out w')
        obtain ⟨_, _, rfl⟩ := hu
        simp only [Act.put, List.setIfInBounds_toArray, List.set_cons_zero, List.set_cons_succ]
        repeat (refine wpG_one rfl rfl rfl ?_; intro K hK; go_big_quiet_op; go_big_quiet_on)
        refine wpG_nil (fun w6 hw6 hG => ?_)
        clear hG z0 z1 z2 z3 z4 z5 z6
        refine wpTailIn_nil ?_
        have b6 := hw6.le
        have HR6 : Hid (RfIn w6 a low q lb) := HRf.out.below b6
        have Hbw6 : Hid (Below w.heap.size w w6) := Hbw1.out.trans (b6.mono Hbw1.out.size)
        have Hrm6 := Lib.hid ((b6.block mk sm1).trans Hrm1.out)
        have hs6 := b6.size
        clear b6 hw6 HRf Hbw1 Hrm1 hc1 hc2
        have x0 : w6.cell? ⟨lb, 0, none⟩ = some (I low) := by rw [cell_of_row _ _ _ _ _ _ HR6.out.l]; rfl
        have dl : decide ((high : Int) < (low : Int)) = false := decide_eq_false (by omega)
        have dln : decide (high < low) = false := decide_eq_false (by omega)
        rcases bf with _ | _ <;> rcases bl with _ | _
        · -- neither
          go_wp2_with fail
          go_ret2
          refine ⟨Hbw6.out, .inr ⟨Hz0.out, 0, 8, rfl, .inl ⟨rfl, rfl, fun x h1 h2 hB => ?_⟩⟩⟩
          have h3 := (Hiff.out x h1 (by rw [← Hhi.out]; exact h2)).1 (fun j hj => Both.all hB j (by omega))
          have h4 := (hld_cvx a h3.1 h3.2).2 Hbf.out Hbl.out
          have h5 := Both.all hB k hk
          rw [Ha.out, h4] at h5
          cases h5
        · -- from some mass on
          have x1 := ovr_cell x0
          have w1 : IntKind.i64.wrap ((high : Int) - (low : Int)) = ((high - low : Nat) : Int) := by rw [show (high : Int) - (low : Int) = ((high - low : Nat) : Int) by omega]; exact IntWalk.i64_in _ (by omega)
          obtain ⟨dz, hdz⟩ : ∃ z : Int, ((high - low : Nat) : Int) = z := ⟨_, rfl⟩
          have Hdz := Lib.hid hdz
          rw [hdz] at w1
          clear hdz
          go_upto_region 18 with (fail)
          refine wp_region_seq2 7 (fun j => if j = 5 then some (fun u _ => ∃ r : Nat, u = I r ∧ Turn (fun i => hld a (low + i)) (high - low) r) else none) (by kernel_rfl) (by kernel_rfl) (by kernel_rfl) (by kernel_rfl) (by kernel_rfl) ?_
          simp only [List.take_succ_cons, List.take_zero, List.drop_succ_cons, List.drop_zero]
          repeat (refine wpG_one rfl rfl rfl ?_; intro K hK; go_big_quiet_op; go_big_quiet_on)
          refine wpG_make (fun u _ => ∃ r : Nat, u = I r ∧ Turn (fun i => hld a (low + i)) (high - low) r) rfl rfl (fun w' hw' _ => ?_) (fun u hu => ?_)
          · go_simp
            have hc := search1_any a low q lb (high - low) w' Hok.out (by omega) (HR6.out.below hw'.le)
            rw [Hdz.out] at hc
            exact hc.mono fun e w'' ⟨⟨r, he, hT⟩, hb⟩ => ⟨_, he, hb, fun _ _ => ⟨r, rfl, hT⟩⟩
          obtain ⟨_, _, r, rfl, hT⟩ := hu
          simp only [Act.put, List.setIfInBounds_toArray, List.set_cons_zero, List.set_cons_succ]
          have hst := step_first hlh Hbl.out hT
          have w2 : IntKind.i64.wrap ((low : Int) + (r : Int)) = ((low + r : Nat) : Int) := by rw [addN]; exact IntWalk.i64_in _ (by omega)
          obtain ⟨z2, hz2⟩ : ∃ z : Int, ((low + r : Nat) : Int) = z := ⟨_, rfl⟩
          have Hz2 := Lib.hid hz2
          have Hst := Lib.hid hst
          rw [hz2] at w2
          clear hz2 hT hst
          repeat (refine wpG_one rfl rfl rfl ?_; intro K hK; go_big_quiet_op; go_big_quiet_on)
          refine wpG_nil (fun w7 hw7 hG => ?_)
          clear hG x1
          have b7 := hw7.le
          have R7 := HR6.out.below b7
          have z0 : w7.cell? ⟨lb, 0, none⟩ = some (I low) := by rw [cell_of_row _ _ _ _ _ _ R7.l]; rfl
          have z1 := frozen_of_row _ _ 0 _ _ R7.l
          refine wpTailIn_cons Wd.wide (by intro c h; cases h) ?_
          unfold Oper.wp
          go_simp
          refine wpTailIn_nil ?_
          obtain ⟨Z, hZ⟩ : ∃ Z, Z = w7.setCell ⟨lb, 0, none⟩ (I z2) := ⟨_, rfl⟩
          have lZ : Z.heap[lb]? = some (.cells #[I ((low + r : Nat) : Int)] 3 (0, 0)) := by rw [hZ, Hz2.out]; exact rs R7.l 0 _
          have mZ : Z.heap[mk]? = some (.cells (mixArr (mxs m feed coef tgt (s' : Int).toNat 0) ++ mixArr (mxs m feed coef tgt (s' : Int).toNat 1)) 112 (0, 0)) := by rw [hZ]; exact ro ((b7.block mk (by omega)).trans Hrm6.out) (by omega)
          have bZ : Below w.heap.size w Z := by rw [hZ]; exact (Hbw6.out.trans (b7.mono Hbw6.out.size)).setCell (p := ⟨lb, 0, none⟩) (by show w.heap.size ≤ lb; omega) _
          have HZ := Lib.hid (And.intro lZ (And.intro mZ bZ))
          rw [← hZ]
          clear hZ lZ mZ bZ z0 z1 R7 b7 hw7
          go_wp2_with fail
          go_roundw
          case rel => exact ⟨k + 1, low + r, high, by omega, by go_num, rfl, HZ.out.1, Hst.out.1, hhi', by omega, fun x h1 h2 => by
            refine ⟨fun h => ?_, fun h j hj => ?_⟩
            · have h3 := (Hiff.out x h1 h2).1 fun j hj => h j (by omega)
              have h4 := h k (by omega)
              rw [Ha.out] at h4
              exact ⟨(Hst.out.2 x h3.1 h3.2).1 h4, h3.2⟩
            · rcases Nat.lt_or_ge j k with hjk | hjk
              · exact (Hiff.out x h1 h2).2 ⟨by omega, h.2⟩ j hjk
              · obtain rfl : j = k := by omega
                rw [Ha.out]
                exact (Hst.out.2 x (by omega) h.2).2 h.1, HZ.out.2.1, HZ.out.2.2⟩
          case measure => simp [intOf]; omega
        · -- up to some mass
          have x1 := ovr_cell x0
          have w1 : IntKind.i64.wrap ((high : Int) - (low : Int)) = ((high - low : Nat) : Int) := by rw [show (high : Int) - (low : Int) = ((high - low : Nat) : Int) by omega]; exact IntWalk.i64_in _ (by omega)
          obtain ⟨dz, hdz⟩ : ∃ z : Int, ((high - low : Nat) : Int) = z := ⟨_, rfl⟩
          have Hdz := Lib.hid hdz
          rw [hdz] at w1
          clear hdz
          go_upto_region 20 with (fail)
          refine wp_region_seq2 9 (fun j => if j = 5 then some (fun u _ => ∃ r : Nat, u = I r ∧ Turn (fun i => !hld a (low + i)) (high - low) r) else none) (by kernel_rfl) (by kernel_rfl) (by kernel_rfl) (by kernel_rfl) (by kernel_rfl) ?_
          simp only [List.take_succ_cons, List.take_zero, List.drop_succ_cons, List.drop_zero]
          repeat (refine wpG_one rfl rfl rfl ?_; intro K hK; go_big_quiet_op; go_big_quiet_on)
          refine wpG_make (fun u _ => ∃ r : Nat, u = I r ∧ Turn (fun i => !hld a (low + i)) (high - low) r) rfl rfl (fun w' hw' _ => ?_) (fun u hu => ?_)
          · go_simp
            have hc := search2_any a low q lb (high - low) w' Hok.out (by omega) (HR6.out.below hw'.le)
            rw [Hdz.out] at hc
            exact hc.mono fun e w'' ⟨⟨r, he, hT⟩, hb⟩ => ⟨_, he, hb, fun _ _ => ⟨r, rfl, hT⟩⟩
          obtain ⟨_, _, r, rfl, hT⟩ := hu
          simp only [Act.put, List.setIfInBounds_toArray, List.set_cons_zero, List.set_cons_succ]
          have hst := step_last hlh Hbf.out Hbl.out hT
          have w2 : IntKind.i64.wrap ((low : Int) + (r : Int)) = ((low + r : Nat) : Int) := by rw [addN]; exact IntWalk.i64_in _ (by omega)
          have w3 : IntKind.i64.wrap (((low + r : Nat) : Int) - 1) = ((low + r - 1 : Nat) : Int) := by rw [show ((low + r : Nat) : Int) - 1 = ((low + r - 1 : Nat) : Int) by omega]; exact IntWalk.i64_in _ (by omega)
          obtain ⟨z2, hz2⟩ : ∃ z : Int, ((low + r : Nat) : Int) = z := ⟨_, rfl⟩
          obtain ⟨z3, hz3⟩ : ∃ z : Int, ((low + r - 1 : Nat) : Int) = z := ⟨_, rfl⟩
          have Hz3 := Lib.hid hz3
          have Hst := Lib.hid hst
          rw [hz2] at w2 w3
          rw [hz3] at w3
          clear hz2 hz3 hT hst
          repeat (refine wpG_one rfl rfl rfl ?_; intro K hK; go_big_quiet_op; go_big_quiet_on)
          refine wpG_nil (fun w7 hw7 hG => ?_)
          clear hG x1
          have b7 := hw7.le
          have R7 := Lib.hid (HR6.out.below b7)
          refine wpTailIn_nil ?_
          have HZ : Hid (w7.heap[mk]? = some (.cells (mixArr (mxs m feed coef tgt (s' : Int).toNat 0) ++ mixArr (mxs m feed coef tgt (s' : Int).toNat 1)) 112 (0, 0)) ∧ Below w.heap.size w w7) := ⟨(b7.block mk (by omega)).trans Hrm6.out, Hbw6.out.trans (b7.mono Hbw6.out.size)⟩
          clear b7 hw7
          go_wp2_with fail
          go_roundw
          case rel => exact ⟨k + 1, low, low + r - 1, by omega, by go_num, by rw [← Hz3.out], R7.out.l, by have := Hst.out.1; omega, by have := Hst.out.2.1; omega, hlo', fun x h1 h2 => by
            refine ⟨fun h => ?_, fun h j hj => ?_⟩
            · have h3 := (Hiff.out x h1 h2).1 fun j hj => h j (by omega)
              have h4 := h k (by omega)
              rw [Ha.out] at h4
              exact ⟨h3.1, (Hst.out.2.2 x h3.1 h3.2).1 h4⟩
            · rcases Nat.lt_or_ge j k with hjk | hjk
              · exact (Hiff.out x h1 h2).2 ⟨h.1, by have := Hst.out.2.1; omega⟩ j hjk
              · obtain rfl : j = k := by omega
                rw [Ha.out]
                exact (Hst.out.2.2 x h.1 (by have := Hst.out.2.1; omega)).2 h.2, HZ.out.1, HZ.out.2⟩
          case measure => simp [intOf]; omega
        · -- always
          go_wp2_with fail
          go_roundw
          case rel => exact ⟨k + 1, low, high, by omega, by go_num, rfl, HR6.out.l, hlh, hhi', hlo', fun x h1 h2 => by
            refine ⟨fun h => (Hiff.out x h1 h2).1 fun j hj => h j (by omega), fun h j hj => ?_⟩
            rcases Nat.lt_or_ge j k with hjk | hjk
            · exact (Hiff.out x h1 h2).2 h j hjk
            · obtain rfl : j = k := by omega
              rw [Ha.out]
              exact (hld_cvx a h.1 h.2).1 Hbf.out Hbl.out, Hrm6.out, Hbw6.out⟩
          case measure => simp [intOf]; omega
      · obtain rfl : k = 2 := by omega
        have x0 : X.cell? ⟨lb, 0, none⟩ = some (I low) := by rw [cell_of_row _ _ _ _ _ _ Hrl.out]; rfl
        clear hrl
        go_wp2_with fail
        go_ret2
        refine ⟨Hbw.out, .inr ⟨Hz0.out, low, 0, rfl, .inr ⟨rfl, hlo', by rw [Hhi.out]; omega, ?_, fun x h1 h2 hB => ?_⟩⟩⟩
        · have h := (Hiff.out low hlo' (by omega)).2 ⟨Nat.le_refl _, hlh⟩
          exact ⟨h 0 (by omega), h 1 (by omega)⟩
        · have h3 := (Hiff.out x h1 (by omega)).1 (fun j hj => Both.all hB j hj)
          omega
end Go.Proofs.YtfifdfagikbahaaDoor
