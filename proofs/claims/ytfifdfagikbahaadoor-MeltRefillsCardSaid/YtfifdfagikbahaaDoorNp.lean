/- Compare of the reference. -/
import Derived.Test.YtfifdfagikbahaaDoorNo
import Derived.Test.YtfifdfagikbahaaDoorNm
namespace Go.Proofs.YtfifdfagikbahaaDoor
open Go.RowKit
attribute [local go_sem] Oper.semAt_some
abbrev rN (l : List Nat) (k _ : Nat) : Value := I ((at0 l k : Nat) : Int)
theorem Rd.num {w : World} {B k : Nat} {A : Option Addr} {l : List Nat} (h : Rd w B 1 A l.length (rN l)) (hk : k < l.length) : ∃ b o, A = some ⟨b, o, none⟩ ∧ w.cell? ⟨b, o + k, none⟩ = some (I ((at0 l k : Nat) : Int)) := by
  obtain ⟨b, o, e, hb, hc⟩ := h (by omega)
  exact ⟨b, o, e, by have := hc k hk 0 (by omega); simpa using this⟩
set_option maxHeartbeats 1000000 in
theorem compareD_any (a b : List Nat) (A A' : Option Addr) (c c' B : Nat) (w : World) (ha : Dig a) (hb : Dig b) (hla : a.length ≤ 1000) (hlb : b.length ≤ 1000) (hB : B ≤ w.heap.size) (hx : Rd w B 1 A a.length (rN a)) (hy : Rd w B 1 A' b.length (rN b)) :
    Calls Tryd.prog 81 #[.slice A a.length c, .slice A' b.length c'] w fun e w' => e = .returned (I (cm2 (val a) (val b))) ∧ Below w.heap.size w w' := by
  have HX := Lib.hid hx
  have HY := Lib.hid hy
  have HA := Lib.hid ha
  have HB := Lib.hid hb
  clear hx hy ha hb
  obtain ⟨M, hM⟩ : ∃ M, max a.length b.length = M := ⟨_, rfl⟩
  have hMa : a.length ≤ M := by omega
  have hMb : b.length ≤ M := by omega
  have hM2 : M ≤ 1000 := by omega
  have hMo : M ≤ a.length ∨ M ≤ b.length := by omega
  have w0 : IntKind.i64.wrap ((M : Int) - 1) = (M : Int) - 1 := IntWalk.i64_in _ (by omega)
  have hmx : max (a.length : Int) (b.length : Int) = (M : Int) := by omega
  clear hM
  go_enter Tryd.func81, Tryd.ntmps81
  go_wp2_with fail
  clear w0 hmx
  go_loopw [5] (fun i wr => ∃ j : Nat, j ≤ M ∧ i = .int .i64 ((j : Int) - 1) ∧ val (a.drop j) = val (b.drop j) ∧ Below w.heap.size w wr) (fun i _ => (intOf i + 1).toNat)
  case atStart => exact ⟨M, Nat.le_refl _, rfl, by rw [drop_end hMa, drop_end hMb], Below.refl _ _⟩
  case round =>
    rename World => X
    obtain ⟨j, hj, rfl, he, hw⟩ := hrel
    have Hw := Lib.hid hw
    clear hw
    rcases j with _ | k
    · have hz : cm2 (val a) (val b) = 0 := by
        rw [List.drop_zero, List.drop_zero] at he
        unfold cm2
        rw [if_neg (by omega), if_pos he]
      have Hz := Lib.hid hz
      clear he hz
      go_wp2_with fail
      go_ret
      exact ⟨by rw [Hz.out]; rfl, Hw.out⟩
    · have He := Lib.hid he
      rw [show ((k + 1 : Nat) : Int) - 1 = (k : Int) by omega]
      clear he
      have k0 : decide (0 ≤ (k : Int)) = true := decide_eq_true (by omega)
      by_cases h1 : k < a.length
      · have k1 : decide ((k : Int) < (a.length : Int)) = true := decide_eq_true (by omega)
        have k2 : decide (k < a.length) = true := decide_eq_true h1
        obtain ⟨b1, o1, rfl, ya⟩ := (HX.out.below (Hw.out.mono hB)).num h1
        have hda : dAt a k = at0 a k := if_pos h1
        rw [← hda] at ya
        clear hda
        by_cases h2 : k < b.length
        · have k3 : decide ((k : Int) < (b.length : Int)) = true := decide_eq_true (by omega)
          have k4 : decide (k < b.length) = true := decide_eq_true h2
          obtain ⟨b2, o2, rfl, yb⟩ := (HY.out.below (Hw.out.mono hB)).num h2
          have hdb : dAt b k = at0 b k := if_pos h2
          rw [← hdb] at yb
          clear hdb
          obtain ⟨x, hx⟩ : ∃ x, dAt a k = x := ⟨_, rfl⟩
          rw [hx] at ya
          obtain ⟨y, hy⟩ : ∃ y, dAt b k = y := ⟨_, rfl⟩
          rw [hy] at yb
          have HZ : Hid (dAt a k = x ∧ dAt b k = y) := ⟨hx, hy⟩
          clear hx hy
          by_cases hxy : x = y
          · have d1 : ((x : Int) == (y : Int)) = true := by rw [beq_iff_eq]; omega
            have d2 : ((x : Int) != (y : Int)) = false := by rw [bne_eq_false_iff_eq]; omega
            have Hxy := Lib.hid hxy
            have w1 : IntKind.i64.wrap ((k : Int) - 1) = (k : Int) - 1 := IntWalk.i64_in _ (by omega)
            clear hxy
            go_wp2_with fail
            go_roundw
            case rel => exact ⟨k, by omega, rfl, by rw [drop_dAt a k, drop_dAt b k, HZ.out.1, HZ.out.2, Hxy.out, He.out], Hw.out⟩
            case measure => simp only [intOf]; show (_ : Int).toNat < (_ : Int).toNat; simp
          · have d2 : ((x : Int) != (y : Int)) = true := by rw [bne_iff_ne]; omega
            have hf : cm2 (val a) (val b) = if x < y then -1 else 1 := by
              have h1 := cmp_at He.out (show dAt a k ≠ dAt b k by rw [HZ.out.1, HZ.out.2]; exact hxy)
              rw [HZ.out.1, HZ.out.2] at h1
              rw [← h1]
              refine cmp_down HA.out HB.out k fun h => hxy ?_
              rw [drop_dAt a k, drop_dAt b k, HZ.out.1, HZ.out.2, He.out] at h
              omega
            by_cases hlt : x < y
            · have d3 : decide ((x : Int) < (y : Int)) = true := decide_eq_true (by omega)
              rw [if_pos hlt] at hf
              have Hf := Lib.hid hf
              clear hf hxy
              go_wp2_with fail
              go_ret
              exact ⟨by rw [Hf.out]; rfl, Hw.out⟩
            · have d3 : decide ((x : Int) < (y : Int)) = false := decide_eq_false (by omega)
              rw [if_neg hlt] at hf
              have Hf := Lib.hid hf
              clear hf hxy
              go_wp2_with fail
              go_ret
              exact ⟨by rw [Hf.out]; rfl, Hw.out⟩
        · have k3 : decide ((k : Int) < (b.length : Int)) = false := decide_eq_false (by omega)
          have k4 : decide (k < b.length) = false := decide_eq_false h2
          have hdb : dAt b k = 0 := if_neg h2
          have hdb' := hdb.symm
          clear hdb
          obtain ⟨x, hx⟩ : ∃ x, dAt a k = x := ⟨_, rfl⟩
          rw [hx] at ya
          have hy : dAt b k = 0 := hdb'.symm
          have HZ : Hid (dAt a k = x ∧ dAt b k = 0) := ⟨hx, hy⟩
          clear hx hy
          by_cases hxy : x = 0
          · have d1 : ((x : Int) == (0 : Int)) = true := by rw [beq_iff_eq]; omega
            have d2 : ((x : Int) != (0 : Int)) = false := by rw [bne_eq_false_iff_eq]; omega
            have Hxy := Lib.hid hxy
            have w1 : IntKind.i64.wrap ((k : Int) - 1) = (k : Int) - 1 := IntWalk.i64_in _ (by omega)
            clear hxy
            go_wp2_with fail
            go_roundw
            case rel => exact ⟨k, by omega, rfl, by rw [drop_dAt a k, drop_dAt b k, HZ.out.1, HZ.out.2, Hxy.out, He.out], Hw.out⟩
            case measure => simp only [intOf]; show (_ : Int).toNat < (_ : Int).toNat; simp
          · have d2 : ((x : Int) != (0 : Int)) = true := by rw [bne_iff_ne]; omega
            have hf : cm2 (val a) (val b) = if x < 0 then -1 else 1 := by
              have h1 := cmp_at He.out (show dAt a k ≠ dAt b k by rw [HZ.out.1, HZ.out.2]; exact hxy)
              rw [HZ.out.1, HZ.out.2] at h1
              rw [← h1]
              refine cmp_down HA.out HB.out k fun h => hxy ?_
              rw [drop_dAt a k, drop_dAt b k, HZ.out.1, HZ.out.2, He.out] at h
              omega
            by_cases hlt : x < 0
            · have d3 : decide ((x : Int) < (0 : Int)) = true := decide_eq_true (by omega)
              rw [if_pos hlt] at hf
              have Hf := Lib.hid hf
              clear hf hxy
              go_wp2_with fail
              go_ret
              exact ⟨by rw [Hf.out]; rfl, Hw.out⟩
            · have d3 : decide ((x : Int) < (0 : Int)) = false := decide_eq_false (by omega)
              rw [if_neg hlt] at hf
              have Hf := Lib.hid hf
              clear hf hxy
              go_wp2_with fail
              go_ret
              exact ⟨by rw [Hf.out]; rfl, Hw.out⟩
      · have k1 : decide ((k : Int) < (a.length : Int)) = false := decide_eq_false (by omega)
        have k2 : decide (k < a.length) = false := decide_eq_false h1
        have hda : dAt a k = 0 := if_neg h1
        have hda' := hda.symm
        clear hda
        by_cases h2 : k < b.length
        · have k3 : decide ((k : Int) < (b.length : Int)) = true := decide_eq_true (by omega)
          have k4 : decide (k < b.length) = true := decide_eq_true h2
          obtain ⟨b2, o2, rfl, yb⟩ := (HY.out.below (Hw.out.mono hB)).num h2
          have hdb : dAt b k = at0 b k := if_pos h2
          rw [← hdb] at yb
          clear hdb
          have hx : dAt a k = 0 := hda'.symm
          obtain ⟨y, hy⟩ : ∃ y, dAt b k = y := ⟨_, rfl⟩
          rw [hy] at yb
          have HZ : Hid (dAt a k = 0 ∧ dAt b k = y) := ⟨hx, hy⟩
          clear hx hy
          by_cases hxy : 0 = y
          · have d1 : ((0 : Int) == (y : Int)) = true := by rw [beq_iff_eq]; omega
            have d2 : ((0 : Int) != (y : Int)) = false := by rw [bne_eq_false_iff_eq]; omega
            have Hxy := Lib.hid hxy
            have w1 : IntKind.i64.wrap ((k : Int) - 1) = (k : Int) - 1 := IntWalk.i64_in _ (by omega)
            clear hxy
            go_wp2_with fail
            go_roundw
            case rel => exact ⟨k, by omega, rfl, by rw [drop_dAt a k, drop_dAt b k, HZ.out.1, HZ.out.2, Hxy.out, He.out], Hw.out⟩
            case measure => simp only [intOf]; show (_ : Int).toNat < (_ : Int).toNat; simp
          · have d2 : ((0 : Int) != (y : Int)) = true := by rw [bne_iff_ne]; omega
            have hf : cm2 (val a) (val b) = if 0 < y then -1 else 1 := by
              have h1 := cmp_at He.out (show dAt a k ≠ dAt b k by rw [HZ.out.1, HZ.out.2]; exact hxy)
              rw [HZ.out.1, HZ.out.2] at h1
              rw [← h1]
              refine cmp_down HA.out HB.out k fun h => hxy ?_
              rw [drop_dAt a k, drop_dAt b k, HZ.out.1, HZ.out.2, He.out] at h
              omega
            by_cases hlt : 0 < y
            · have d3 : decide ((0 : Int) < (y : Int)) = true := decide_eq_true (by omega)
              rw [if_pos hlt] at hf
              have Hf := Lib.hid hf
              clear hf hxy
              go_wp2_with fail
              go_ret
              exact ⟨by rw [Hf.out]; rfl, Hw.out⟩
            · have d3 : decide ((0 : Int) < (y : Int)) = false := decide_eq_false (by omega)
              rw [if_neg hlt] at hf
              have Hf := Lib.hid hf
              clear hf hxy
              go_wp2_with fail
              go_ret
              exact ⟨by rw [Hf.out]; rfl, Hw.out⟩
        · omega
end Go.Proofs.YtfifdfagikbahaaDoor
