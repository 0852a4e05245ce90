/- The contract of lost of the reference. -/
import Derived.Test.YtfifdfagikbahaaDoorNi
namespace Go.Proofs.YtfifdfagikbahaaDoor
open Go.RowKit
attribute [local go_sem] Oper.semAt_some
/-- What is lost in the first k steps of a kind. -/
def lsK (l : List Stp) (U : Nat → Int) (kd : Int) : Nat → Int
  | 0 => 0
  | k + 1 => if (at0 l k).kd = kd then lsK l U kd k + (U k - U (k + 1)) else lsK l U kd k
theorem lsK_bd {l : List Stp} {U : Nat → Int} {kd : Int} : ∀ k, (∀ j, j ≤ k → 0 ≤ U j ∧ U j ≤ 300000000000000) → -(k * 300000000000000) ≤ lsK l U kd k ∧ lsK l U kd k ≤ k * 300000000000000
  | 0, _ => by show _ ≤ (0 : Int) ∧ (0 : Int) ≤ _; omega
  | k + 1, h => by
    have ih := lsK_bd k (l := l) (kd := kd) fun j hj => h j (by omega)
    have h1 := h k (by omega)
    have h2 := h (k + 1) (Nat.le_refl _)
    rw [lsK]
    split <;> omega
theorem ls_tl (m : Mlt) (c : Crs) (s : Nat) (st : Int) (l : List Stp) : ∀ k, lsK l (wkD m c s st l) 1 k = (tlK m c s st l k).1 ∧ lsK l (wkD m c s st l) 4 k = (tlK m c s st l k).2
  | 0 => ⟨rfl, rfl⟩
  | k + 1 => by
    have ih := ls_tl m c s st l k
    rw [lsK, lsK, tlK]
    by_cases h1 : (at0 l k).kd = 1
    · rw [if_pos h1, if_pos h1, if_neg (by omega), ih.1, ih.2]; exact ⟨rfl, rfl⟩
    · rw [if_neg h1, if_neg h1]
      by_cases h4 : (at0 l k).kd = 4
      · rw [if_pos h4, if_pos h4, ih.1, ih.2]; exact ⟨rfl, rfl⟩
      · rw [if_neg h4, if_neg h4]; exact ih
theorem Rd.one {w : World} {B n k : Nat} {A : Option Addr} {U : Nat → Int} (h : Rd w B 1 A n (fun k _ => I (U k))) (hk : k < n) : ∃ b o, A = some ⟨b, o, none⟩ ∧ w.cell? ⟨b, o + k, none⟩ = some (I (U k)) := by
  obtain ⟨b, o, e, hb, hc⟩ := h (by omega)
  exact ⟨b, o, e, by have := hc k hk 0 (by omega); simpa using this⟩
set_option maxHeartbeats 1000000 in
theorem lost_any (l : List Stp) (U : Nat → Int) (kd : Int) (A A2 : Option Addr) (d d2 B : Nat) (w : World) (hl : l.length ≤ 200) (hU : ∀ j, j ≤ l.length → 0 ≤ U j ∧ U j ≤ 300000000000000) (hB : B ≤ w.heap.size) (hx : Rd w B 8 A l.length (rT l)) (hx2 : Rd w B 1 A2 (l.length + 1) (fun k _ => I (U k))) :
    Calls Tryd.prog 47 #[.slice A l.length d, .slice A2 (l.length + 1) d2, .int .u8 kd] w fun e w' => e = .returned (I (lsK l U kd l.length)) ∧ Below w.heap.size w w' := by
  have HX := Lib.hid hx
  have HX2 := Lib.hid hx2
  have HU := Lib.hid hU
  clear hx hx2 hU
  go_enter Tryd.func47, Tryd.ntmps47
  go_wp2_with fail
  go_loopw [7, 8] (fun v i wr => ∃ k : Nat, k ≤ l.length ∧ i = .int .i64 k ∧ v = I (lsK l U kd k) ∧ Below w.heap.size w wr) (fun _ i _ => l.length - (intOf i).toNat)
  case atStart => exact ⟨0, by omega, rfl, rfl, Below.refl _ _⟩
  case round =>
    rename World => X0
    obtain ⟨k, hk, rfl, rfl, hbw⟩ := hrel
    have Hbw := Lib.hid hbw
    clear hbw
    by_cases hlt : k < l.length
    · have hki : decide ((k : Int) < (l.length : Int)) = true := decide_eq_true (by omega)
      have hkn : decide (k < l.length) = true := decide_eq_true hlt
      have hk0 : decide (0 ≤ (k : Int)) = true := decide_eq_true (by omega)
      obtain ⟨b, o, rfl, hbB, x0, _⟩ := (HX.out.below (Hbw.out.mono hB)).stp hlt
      have hb := lsK_bd (l := l) (kd := kd) k fun j hj => HU.out j (by omega)
      have h1 := HU.out k (by omega)
      have h2 := HU.out (k + 1) (by omega)
      have hS : Hid (lsK l U kd (k + 1) = if (at0 l k).kd = kd then lsK l U kd k + (U k - U (k + 1)) else lsK l U kd k) := rfl
      obtain ⟨b2, o2, rfl, z0⟩ := (HX2.out.below (Hbw.out.mono hB)).one (show k < l.length + 1 by omega)
      obtain ⟨b3, o3, he, z1⟩ := (HX2.out.below (Hbw.out.mono hB)).one (show k + 1 < l.length + 1 by omega)
      obtain ⟨rfl, rfl⟩ : b2 = b3 ∧ o2 = o3 := by simp at he; exact he
      obtain ⟨v, hv⟩ : ∃ v, lsK l U kd k = v := ⟨_, rfl⟩
      obtain ⟨u0, hu0⟩ : ∃ v, U k = v := ⟨_, rfl⟩
      obtain ⟨u1, hu1⟩ : ∃ v, U (k + 1) = v := ⟨_, rfl⟩
      obtain ⟨kx, hkx⟩ : ∃ v, (at0 l k).kd = v := ⟨_, rfl⟩
      rw [hv, hu0, hu1, hkx] at hS
      rw [hv] at hb ⊢
      rw [hu0] at z0 h1
      rw [hu1] at z1 h2
      rw [hkx] at x0
      have w1 : IntKind.i64.wrap (u0 - u1) = u0 - u1 := IntWalk.i64_in _ (by omega)
      have w2 : IntKind.i64.wrap (v + (u0 - u1)) = v + (u0 - u1) := IntWalk.i64_in _ (by omega)
      have w3 : IntKind.i64.wrap ((k : Int) + 1) = ((k + 1 : Nat) : Int) := by rw [show (k : Int) + 1 = ((k + 1 : Nat) : Int) by omega]; exact IntWalk.i64_in _ (by omega)
      have k1 : decide (((k + 1 : Nat) : Int) < ((l.length + 1 : Nat) : Int)) = true := decide_eq_true (by omega)
      have k2 : decide (k + 1 < l.length + 1) = true := decide_eq_true (by omega)
      have k3 : decide (0 ≤ ((k + 1 : Nat) : Int)) = true := decide_eq_true (by omega)
      have k4 : decide ((k : Int) < ((l.length + 1 : Nat) : Int)) = true := decide_eq_true (by omega)
      have k5 : decide (k < l.length + 1) = true := decide_eq_true (by omega)
      clear hv hu0 hu1 hkx he hb h1 h2
      by_cases hkd : kx = kd
      · have e1 : (kx == kd) = true := by simpa using hkd
        have y0 := ovr_cell z0
        have y1 := ovr_cell z1
        rw [if_pos hkd] at hS
        clear hkd z0 z1
        go_upto_region 6 with (fail)
        refine wp_region_seq2 13 (fun _ => none) (by kernel_rfl) (by kernel_rfl) (by kernel_rfl) (by kernel_rfl) (by kernel_rfl) ?_
        simp only [List.take_succ_cons, List.take_zero, List.drop_succ_cons, List.drop_zero]
        repeat (refine wpG_one rfl rfl rfl ?_; intro K hK; go_big_quiet_op; go_big_quiet_on)
        refine wpG_nil (fun w5 hw5 hG => ?_)
        clear hG y0 y1 w3
        refine wpTailIn_nil ?_
        have L5 : Hid (Below w.heap.size w w5) := Hbw.out.trans (hw5.le.mono Hbw.out.size)
        clear hw5
        go_wp2_with fail
        go_roundw
        case rel => exact ⟨k + 1, by omega, by go_num, by rw [hS.out], L5.out⟩
        case measure => simp [intOf]; omega
      · have e1 : (kx == kd) = false := by simpa using hkd
        rw [if_neg hkd] at hS
        clear hkd z0 z1 w3
        go_wp2_with fail
        go_roundw
        case rel => exact ⟨k + 1, by omega, by go_num, by rw [hS.out], Hbw.out⟩
        case measure => simp [intOf]; omega
    · obtain rfl : k = l.length := by omega
      have hki : decide ((l.length : Int) < (l.length : Int)) = false := decide_eq_false (by omega)
      go_wp2_with fail
      go_ret
      exact ⟨rfl, Hbw.out⟩
end Go.Proofs.YtfifdfagikbahaaDoor
