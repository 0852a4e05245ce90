/- The contract of Check of package melt. -/
import Derived.Test.YtfifdfagikbahaaDoorMb
namespace Go.Proofs.YtfifdfagikbahaaDoor
open Go.RowKit
def rT (xs : List Stp) (k j : Nat) : Value := if j = 0 then .int .u8 (at0 xs k).kd else if j = 1 then I (at0 xs k).ms else I ((at0 xs k).b (j - 2))
theorem Rd.stp {w : World} {B n k : Nat} {A : Option Addr} {xs : List Stp} (h : Rd w B 8 A n (rT xs)) (hk : k < n) : ∃ b o, A = some ⟨b, o, none⟩ ∧ b < B ∧
    w.cell? ⟨b, o + k * 8, none⟩ = some (.int .u8 (at0 xs k).kd) ∧ w.cell? ⟨b, o + k * 8 + 1, none⟩ = some (I (at0 xs k).ms) ∧ w.cell? ⟨b, o + k * 8 + 2, none⟩ = some (I ((at0 xs k).b 0)) ∧ w.cell? ⟨b, o + k * 8 + 3, none⟩ = some (I ((at0 xs k).b 1)) ∧
    w.cell? ⟨b, o + k * 8 + 4, none⟩ = some (I ((at0 xs k).b 2)) ∧ w.cell? ⟨b, o + k * 8 + 5, none⟩ = some (I ((at0 xs k).b 3)) ∧ w.cell? ⟨b, o + k * 8 + 6, none⟩ = some (I ((at0 xs k).b 4)) ∧ w.cell? ⟨b, o + k * 8 + 7, none⟩ = some (I ((at0 xs k).b 5)) := by
  obtain ⟨b, o, e, hb, hc⟩ := h (by omega)
  exact ⟨b, o, e, hb, hc k hk 0 (by omega), hc k hk 1 (by omega), hc k hk 2 (by omega), hc k hk 3 (by omega), hc k hk 4 (by omega), hc k hk 5 (by omega), hc k hk 6 (by omega), hc k hk 7 (by omega)⟩
theorem stp_cells {W : World} {q : Nat} {x : Stp} {t : TypeId} (h : W.heap[q]? = some (.cells (stpArr x) t (0, 0))) : W.cell? ⟨q, 0, none⟩ = some (.int .u8 x.kd) ∧ W.cell? ⟨q, 1, none⟩ = some (I x.ms) ∧ W.cell? ⟨q, 2, none⟩ = some (I (x.b 0)) ∧
    W.cell? ⟨q, 3, none⟩ = some (I (x.b 1)) ∧ W.cell? ⟨q, 4, none⟩ = some (I (x.b 2)) ∧ W.cell? ⟨q, 5, none⟩ = some (I (x.b 3)) ∧ W.cell? ⟨q, 6, none⟩ = some (I (x.b 4)) ∧ W.cell? ⟨q, 7, none⟩ = some (I (x.b 5)) := by
  refine ⟨?_, ?_, ?_, ?_, ?_, ?_, ?_, ?_⟩ <;> (rw [cell_of_row _ _ _ _ _ _ h]; rfl)
/-- The mass after the first k steps. -/
def msK (m : Mlt) (l : List Stp) : Nat → Int
  | 0 => m.ms
  | k + 1 => grF (msK m l k) (at0 l k)
/-- What is wrong with step k. -/
def stE (m : Mlt) (l : List Stp) (k : Nat) : Int := if isS (at0 l k) = false then 2 else if msK m l (k + 1) < 0 then 31 else if 1000000000 < msK m l (k + 1) then 8 else 0
def ckK (m : Mlt) (l : List Stp) : Nat → Int
  | 0 => 0
  | k + 1 => if ckK m l k = 0 then stE m l k else ckK m l k
def ckF (m : Mlt) (l : List Stp) : Int := if isM m = false then 2 else if 200 < l.length then 5 else ckK m l l.length
theorem ckK_at {m : Mlt} {l : List Stp} {k : Nat} (h0 : ∀ j, j < k → stE m l j = 0) : ckK m l k = 0 := by
  induction k with
  | zero => rfl
  | succ k ih => rw [ckK, ih (fun j hj => h0 j (by omega)), if_pos rfl]; exact h0 k (by omega)
theorem ckK_err {m : Mlt} {l : List Stp} {k : Nat} (h0 : ∀ j, j < k → stE m l j = 0) (h1 : stE m l k ≠ 0) : ∀ d, ckK m l (k + 1 + d) = stE m l k
  | 0 => by rw [Nat.add_zero, ckK, ckK_at h0, if_pos rfl]
  | d + 1 => by
    have := ckK_err h0 h1 d
    rw [← Nat.add_assoc, ckK, this, if_neg h1]
theorem isS_ms {x : Stp} (h : isS x = true) : x.kd = 1 ∨ x.kd = 2 → 1 ≤ x.ms ∧ x.ms ≤ 1000000000 := by
  unfold isS at h
  intro hk
  have key : wiB x.ms 1 1000000000 = true := by
    rcases hk with hk | hk
    · rw [if_pos hk, Bool.and_eq_true] at h; exact h.1
    · rw [if_neg (by omega), if_pos hk, Bool.and_eq_true] at h; exact h.1
  unfold wiB at key
  rw [Bool.and_eq_true, decide_eq_true_eq, decide_eq_true_eq] at key
  exact key
theorem isM_ms {m : Mlt} (h : isM m = true) : 0 ≤ m.ms ∧ m.ms ≤ 1000000000 := by
  unfold isM wiB at h
  rw [Bool.and_eq_true, Bool.and_eq_true, decide_eq_true_eq, decide_eq_true_eq] at h
  exact h.1
theorem msK_bd {m : Mlt} {l : List Stp} (hm : isM m = true) : ∀ k, (∀ j, j < k → stE m l j = 0) → 0 ≤ msK m l k ∧ msK m l k ≤ 1000000000
  | 0, _ => isM_ms hm
  | k + 1, h => by
    have := h k (by omega)
    unfold stE at this
    split at this
    · exact absurd this (by decide)
    · split at this
      · exact absurd this (by decide)
      · split at this
        · exact absurd this (by decide)
        · omega
set_option maxRecDepth 100000 in
set_option maxHeartbeats 1000000 in
theorem check_any (m : Mlt) (A : Option Addr) (c : Nat) (l : List Stp) (w : World) (B : Nat) (hG : Glob w) (hB : B ≤ w.heap.size) (hx : Rd w B 8 A l.length (rT l)) (hk : ∀ j, j < l.length → 0 ≤ (at0 l j).kd ∧ (at0 l j).kd ≤ 255) (hn : l.length ≤ maxLen) :
    Calls Tryd.prog 14 #[.agg (mltArr m), .slice A l.length c] w fun e w' => e = .returned (I (ckF m l)) ∧ Below w.heap.size w w' := by
  obtain ⟨W, hW⟩ : ∃ W, W = w.alloc (.cells (mltArr m) 27) := ⟨_, rfl⟩
  have hb0 : Below w.heap.size w W := by rw [hW]; exact (Below.refl _ _).alloc (Nat.le_refl _) _
  have HB : Hid (Below w.heap.size w W ∧ w.heap.size ≤ W.heap.size) := ⟨hb0, hb0.size⟩
  have r0 : W.heap[w.heap.size]? = some (.cells (mltArr m) 27 (0, 0)) := by rw [hW]; exact heap_last _ _ _ rfl
  have y0 : W.cell? ⟨w.heap.size, 0, none⟩ = some (I m.ms) := by rw [cell_of_row _ _ _ _ _ _ r0]; rfl
  have y1 : W.cell? ⟨w.heap.size, 1, none⟩ = some (I (m.ct 0)) := by rw [cell_of_row _ _ _ _ _ _ r0]; rfl
  have y2 : W.cell? ⟨w.heap.size, 2, none⟩ = some (I (m.ct 1)) := by rw [cell_of_row _ _ _ _ _ _ r0]; rfl
  have y3 : W.cell? ⟨w.heap.size, 3, none⟩ = some (I (m.ct 2)) := by rw [cell_of_row _ _ _ _ _ _ r0]; rfl
  have y4 : W.cell? ⟨w.heap.size, 4, none⟩ = some (I (m.ct 3)) := by rw [cell_of_row _ _ _ _ _ _ r0]; rfl
  have y5 : W.cell? ⟨w.heap.size, 5, none⟩ = some (I (m.ct 4)) := by rw [cell_of_row _ _ _ _ _ _ r0]; rfl
  have y6 : W.cell? ⟨w.heap.size, 6, none⟩ = some (I (m.ct 5)) := by rw [cell_of_row _ _ _ _ _ _ r0]; rfl
  have HU : Hid (∀ W', Below W.heap.size W W' → Below w.heap.size w W') := fun W' h => HB.out.1.trans (h.mono HB.out.2)
  have HX : Hid (∀ W', Below W.heap.size W W' → Rd W' B 8 A l.length (rT l) ∧ Glob W') := fun W' h => ⟨hx.below ((HU.out W' h).mono hB), hG.below (HU.out W' h)⟩
  have Hr0 := Lib.hid r0
  have HW := Lib.hid hW
  have Hk := Lib.hid hk
  have Hn := Lib.hid hn
  clear hW hb0 r0 hx hG hk hn
  go_enter Tryd.func14, Tryd.ntmps14
  go_upto_region 1 with (fail)
  rw [← HW.out]
  go_wp2_with fail
  refine (isMelt_any m W).mono ?_
  rintro e w1 ⟨rfl, hb1⟩
  have HB1 := Lib.hid hb1
  clear hb1 y0 y1 y2 y3 y4 y5 y6
  rcases hm : isM m with _ | _
  · have Hf : Hid (ckF m l = 2) := if_pos hm
    clear hm
    go_wp2_with fail
    go_ret
    exact ⟨by rw [Hf.out]; rfl, HU.out _ HB1.out⟩
  have Hm := Lib.hid hm
  by_cases h200 : 200 < l.length
  · have d1 : decide (200 < (l.length : Int)) = true := decide_eq_true (by omega)
    have Hf : Hid (ckF m l = 5) := by show ckF m l = 5; unfold ckF; rw [if_neg (by rw [hm]; decide), if_pos h200]
    clear hm h200
    go_wp2_with fail
    go_ret
    exact ⟨by rw [Hf.out]; rfl, HU.out _ HB1.out⟩
  have d1 : decide (200 < (l.length : Int)) = false := decide_eq_false (by omega)
  have Hf : Hid (ckF m l = ckK m l l.length) := by show ckF m l = _; unfold ckF; rw [if_neg (by rw [hm]; decide), if_neg h200]
  have H200 : Hid (l.length ≤ 200) := by show _ ≤ _; omega
  have y0 : w1.cell? ⟨w.heap.size, 0, none⟩ = some (I m.ms) := by rw [cell_of_row _ _ _ _ _ _ ((HB1.out.block _ (Array.getElem?_eq_some_iff.1 Hr0.out).1).trans Hr0.out)]; rfl
  clear hm h200
  go_wp2_with fail
  clear y0 d1
  go_loopw [5, 20] (fun ms i wr => ∃ k : Nat, k ≤ l.length ∧ i = .int .i64 k ∧ ms = I (msK m l k) ∧ (∀ j, j < k → stE m l j = 0) ∧ Below w1.heap.size w1 wr) (fun _ i _ => l.length - (intOf i).toNat)
  case atStart => exact ⟨0, by omega, rfl, rfl, fun j hj => by omega, Below.refl _ _⟩
  case round =>
    rename World => X0
    obtain ⟨k, hk, rfl, rfl, h0, hbw⟩ := hrel
    have H0 := Lib.hid h0
    have hb := msK_bd Hm.out k h0
    have LX : Hid (Below W.heap.size W X0) := HB1.out.trans (hbw.mono HB1.out.size)
    have LX1 := Lib.hid hbw
    clear h0 hbw
    have h200 := H200.out
    by_cases hlt : k < l.length
    · have hki : decide ((k : Int) < (l.length : Int)) = true := decide_eq_true (by omega)
      have hkn : decide (k < l.length) = true := decide_eq_true hlt
      obtain ⟨b, o, rfl, _, x0, x1, x2, x3, x4, x5, x6, x7⟩ := (HX.out X0 LX.out).1.stp hlt
      have hkk := Hk.out k hlt
      have hE : Hid (stE m l k = if isS (at0 l k) = false then 2 else if grF (msK m l k) (at0 l k) < 0 then 31 else if 1000000000 < grF (msK m l k) (at0 l k) then 8 else 0) := rfl
      have hS : Hid (msK m l (k + 1) = grF (msK m l k) (at0 l k)) := rfl
      have Hne : Hid (stE m l k ≠ 0 → ckF m l = stE m l k) := fun h => by
        rw [Hf.out]
        have := ckK_err H0.out h (l.length - (k + 1))
        rwa [show k + 1 + (l.length - (k + 1)) = l.length by omega] at this
      have Hok : Hid (stE m l k = 0 → ∀ j, j < k + 1 → stE m l j = 0) := fun h j hj => by
        rcases Nat.lt_or_ge j k with hjk | hjk
        · exact H0.out j hjk
        · obtain rfl : j = k := by omega
          exact h
      obtain ⟨x, hx⟩ : ∃ x, at0 l k = x := ⟨_, rfl⟩
      obtain ⟨mk, hmk⟩ : ∃ mk, msK m l k = mk := ⟨_, rfl⟩
      rw [hx] at x0 x1 x2 x3 x4 x5 x6 x7 hkk hE hS
      rw [hmk] at hb hE hS ⊢
      clear hx hmk
      go_upto_region 9 with (fail)
      obtain ⟨V, hV⟩ : ∃ V, V = X0.alloc (.cells (stpArr x) 58) := ⟨_, rfl⟩
      have hXV : Below X0.heap.size X0 V := by rw [hV]; exact (Below.refl _ _).alloc (Nat.le_refl _) _
      have rV : V.heap[X0.heap.size]? = some (.cells (stpArr x) 58 (0, 0)) := by rw [hV]; exact heap_last _ _ _ rfl
      have HRV : Hid (∀ W', Below V.heap.size V W' → W'.heap[X0.heap.size]? = some (.cells (stpArr x) 58 (0, 0))) := fun W' h => (h.block _ (Array.getElem?_eq_some_iff.1 rV).1).trans rV
      have LV : Hid (Below W.heap.size W V) := LX.out.trans (hXV.mono LX.out.size)
      have LV1 : Hid (Below w1.heap.size w1 V) := LX1.out.trans (hXV.mono LX1.out.size)
      rw [← hV]
      obtain ⟨z0, z1, z2, z3, z4, z5, z6, z7⟩ := stp_cells rV
      clear hV hXV rV x0 x1 x2 x3 x4 x5 x6 x7
      go_wp2_with fail
      refine (isStep_any x V (HX.out V LV.out).2 hkk).mono ?_
      rintro e w3 ⟨rfl, hb3⟩
      have L3 : Hid (Below V.heap.size V w3) := hb3
      clear hb3 z0 z1 z2 z3 z4 z5 z6 z7
      rcases hsx : isS x with _ | _
      · have he2 : stE m l k = 2 := by rw [hE.out, hsx]; rfl
        have Hz : Hid (ckF m l = 2) := by show ckF m l = 2; rw [Hne.out (by omega), he2]
        clear hsx he2
        go_wp2_with fail
        go_ret
        exact ⟨by rw [Hz.out]; rfl, HU.out _ (LV.out.trans (L3.out.mono LV.out.size))⟩
      have hxm := isS_ms hsx
      have hE3 : Hid (stE m l k = if grF mk x < 0 then 31 else if 1000000000 < grF mk x then 8 else 0) := by show _ = _; rw [hE.out, hsx]; rfl
      obtain ⟨z0, z1, z2, z3, z4, z5, z6, z7⟩ := stp_cells (HRV.out w3 L3.out)
      clear hsx
      go_wp2_with fail
      refine (grown_any mk x w3 (by omega) (fun h => by have := hxm h; omega)).mono ?_
      rintro e w4 ⟨rfl, hb4⟩
      have L4 : Hid (Below V.heap.size V w4) := L3.out.trans (hb4.mono L3.out.size)
      clear hb4 z0 z1 z2 z3 z4 z5 z6 z7 hxm
      have hg := hE3.out
      generalize grF mk x = gm at *
      by_cases c1 : gm < 0
      · have d1 : decide (gm < 0) = true := decide_eq_true c1
        have Hz : Hid (ckF m l = 31) := by show ckF m l = 31; rw [if_pos c1] at hg; rw [Hne.out (by omega), hg]
        clear c1 hg
        go_wp2_with fail
        go_ret
        exact ⟨by rw [Hz.out]; rfl, HU.out _ (LV.out.trans (L4.out.mono LV.out.size))⟩
      have d1 : decide (gm < 0) = false := decide_eq_false c1
      rw [if_neg c1] at hg
      by_cases c2 : 1000000000 < gm
      · have d2 : decide (1000000000 < gm) = true := decide_eq_true c2
        have Hz : Hid (ckF m l = 8) := by show ckF m l = 8; rw [if_pos c2] at hg; rw [Hne.out (by omega), hg]
        clear c1 c2 hg
        go_wp2_with fail
        go_ret
        exact ⟨by rw [Hz.out]; rfl, HU.out _ (LV.out.trans (L4.out.mono LV.out.size))⟩
      have d2 : decide (1000000000 < gm) = false := decide_eq_false c2
      rw [if_neg c2] at hg
      have Hall := Lib.hid (Hok.out hg)
      clear c1 c2 hg
      go_wp2_with fail
      go_roundw
      case rel => exact ⟨k + 1, by omega, by go_num, by rw [hS.out], Hall.out, LV1.out.trans (L4.out.mono LV1.out.size)⟩
      case measure => simp [intOf]; omega
    · obtain rfl : k = l.length := by omega
      have hki : decide ((l.length : Int) < (l.length : Int)) = false := decide_eq_false (by omega)
      have Hz : Hid (ckF m l = 0) := by show ckF m l = 0; rw [Hf.out]; exact ckK_at H0.out
      go_wp2_with fail
      go_ret
      exact ⟨by rw [Hz.out]; rfl, HU.out _ LX.out⟩
end Go.Proofs.YtfifdfagikbahaaDoor
