/- Contracts of Number, Floor and MulDiv of the reference of chapter 1. -/
import Derived.Test.YtmadlmmfbpmebaaRa
namespace Go.Proofs.Ytmadlmmfbpmebaa
open Go.RowKit
set_option maxRecDepth 100000 in
set_option maxHeartbeats 4000000 in
theorem refNumber_any (n : Int) (w : World) :
    Calls Try.prog 70 #[I n] w fun e w' => e = .returned (.bool (numB n)) ∧ w' = w := by
  unfold numB
  go_enter Try.func70, Try.ntmps70
  go_wp2_with fail
  all_goals
    go_ret
    exact ⟨by first | (simp_all; done) | (simp_all; intros; omega), rfl⟩
/-- What Floor of the reference returns for a product. -/
def flR (v c : Int) : Int × Int × Bool := if v.natAbs / c.toNat ≤ 2000000000000000 then (v / c, v % c, true) else (0, 0, false)
theorem same_sign {a b : Int} (h : decide (a < 0) = decide (b < 0)) : a * b = ((a.natAbs * b.natAbs : Nat) : Int) := by
  have h1 : 0 ≤ a * b := by
    rcases Int.lt_or_le a 0 with h2 | h2
    · rw [decide_eq_true h2] at h
      have h3 : b < 0 := of_decide_eq_true h.symm
      exact Int.le_of_lt (Int.mul_pos_of_neg_of_neg h2 h3)
    · rw [decide_eq_false (by omega)] at h
      have h3 : ¬ b < 0 := of_decide_eq_false h.symm
      exact Int.mul_nonneg h2 (by omega)
  rw [← Int.natAbs_mul]
  omega
theorem other_sign {a b : Int} (h : decide (a < 0) = !decide (b < 0)) : a * b = -((a.natAbs * b.natAbs : Nat) : Int) := by
  have h1 : a * b ≤ 0 := by
    rcases Int.lt_or_le a 0 with h2 | h2
    · rw [decide_eq_true h2] at h
      have h3 : ¬ b < 0 := by intro h3; rw [decide_eq_true h3] at h; cases h
      exact Int.mul_nonpos_of_nonpos_of_nonneg (by omega) (by omega)
    · rw [decide_eq_false (by omega)] at h
      have h3 : b < 0 := by apply Classical.byContradiction; intro h3; rw [decide_eq_false h3] at h; cases h
      exact Int.mul_nonpos_of_nonneg_of_nonpos h2 (by omega)
  rw [← Int.natAbs_mul]
  omega
set_option maxRecDepth 100000 in
set_option maxHeartbeats 4000000 in
theorem floor_any (a b c : Int) (w : World) (ha : a.natAbs < 1125899906842624) (hb : b.natAbs < 1125899906842624) (hc : 1 ≤ c ∧ c < 1125899906842624) :
    Calls Try.prog 71 #[I a, I b, I c] w fun e w' => e = .returned (.tuple #[I (flR (a * b) c).1, I (flR (a * b) c).2.1, .bool (flR (a * b) c).2.2]) ∧ Below w.heap.size w w' := by
  have e1 : max a (-a) = ((a.natAbs : Nat) : Int) := by omega
  have e2 : max b (-b) = ((b.natAbs : Nat) : Int) := by omega
  obtain ⟨C, rfl⟩ : ∃ C : Nat, c = (C : Int) := ⟨c.toNat, by omega⟩
  have hC : 0 < C := by omega
  have Q := fun w => quotient_any a.natAbs b.natAbs C w ha hb (by omega)
  have hab : (a * b).natAbs = a.natAbs * b.natAbs := Int.natAbs_mul a b
  by_cases hbig : a.natAbs * b.natAbs / C ≤ 2000000000000000
  · have hq : quF a.natAbs b.natAbs C = (((a.natAbs * b.natAbs / C : Nat) : Int), ((a.natAbs * b.natAbs % C : Nat) : Int), true) := if_pos hbig
    have hf : flR (a * b) C = (a * b / C, a * b % C, true) := if_pos (by rw [hab]; exact hbig)
    rw [hq] at Q
    have hR : a.natAbs * b.natAbs % C < C := Nat.mod_lt _ hC
    obtain ⟨M, hM⟩ : ∃ M, a.natAbs * b.natAbs = M := ⟨_, rfl⟩
    rw [hM] at Q hR hbig
    have Q := Lib.hid Q
    by_cases hs : decide (a < 0) = decide (b < 0)
    · have hv := same_sign hs
      rw [hM] at hv
      have hf : Hid (flR (a * b) C = (((M / C : Nat) : Int), ((M % C : Nat) : Int), true)) := by
        show _ = _; rw [hf, hv]; rfl
      have k1 : (!decide (a < 0) == decide (b < 0)) = false := by rw [hs]; simp
      obtain ⟨H, hH⟩ : ∃ H, M / C = H := ⟨_, rfl⟩
      obtain ⟨R, hRR⟩ : ∃ R, M % C = R := ⟨_, rfl⟩
      rw [hH] at Q hf hbig
      rw [hRR] at Q hf hR
      clear hq hab hs hv hM hH hRR
      go_enter Try.func71, Try.ntmps71
      go_wp2_with fail
      refine (Q.out _).mono ?_
      rintro e w1 ⟨rfl, hb1⟩
      go_wp2_with fail
      go_ret3
      exact ⟨by rw [hf.out]; rfl, hb1⟩
    · have hs2 : decide (a < 0) = !decide (b < 0) := by
        revert hs; cases decide (a < 0) <;> cases decide (b < 0) <;> simp
      have hv := other_sign hs2
      rw [hM] at hv
      have k1 : (!decide (a < 0) == decide (b < 0)) = true := by rw [hs2]; simp
      have hd := floor_neg (m := M) hC
      have hm := mod_neg (m := M) hC
      by_cases hz : M % C = 0
      · rw [if_pos hz] at hd hm
        have hf : Hid (flR (a * b) C = (-((M / C : Nat) : Int), 0, true)) := by
          show _ = _; rw [hf, hv, hd, hm]
        obtain ⟨H, hH⟩ : ∃ H, M / C = H := ⟨_, rfl⟩
        rw [hH] at Q hf hbig
        rw [hz] at Q
        clear hq hab hs hv hM hH hd hm hz hs2 hR
        go_enter Try.func71, Try.ntmps71
        go_wp2_with fail
        refine (Q.out _).mono ?_
        rintro e w1 ⟨rfl, hb1⟩
        go_wp2_with fail
        go_ret3
        exact ⟨by rw [hf.out]; rfl, hb1⟩
      · rw [if_neg hz] at hd hm
        have hf : Hid (flR (a * b) C = (-((M / C : Nat) : Int) - 1, (C : Int) - ((M % C : Nat) : Int), true)) := by
          show _ = _; rw [hf, hv, hd, hm]
        obtain ⟨H, hH⟩ : ∃ H, M / C = H := ⟨_, rfl⟩
        obtain ⟨R, hRR⟩ : ∃ R, M % C = R := ⟨_, rfl⟩
        rw [hH] at Q hf hbig
        rw [hRR] at Q hf hR hz
        have k2 : decide (0 < R) = true := decide_eq_true (by omega)
        have k3 : decide ((0 : Int) < (R : Int)) = true := decide_eq_true (by omega)
        clear hq hab hs hv hM hH hd hm hs2 hRR
        go_enter Try.func71, Try.ntmps71
        go_wp2_with fail
        refine (Q.out _).mono ?_
        rintro e w1 ⟨rfl, hb1⟩
        go_wp2_with fail
        go_ret3
        exact ⟨by rw [hf.out]; rfl, hb1⟩
  · have hq : quF a.natAbs b.natAbs C = (0, 0, false) := if_neg hbig
    have hf : Hid (flR (a * b) C = (0, 0, false)) := if_neg (by rw [hab]; exact hbig)
    rw [hq] at Q
    have Q := Lib.hid Q
    clear hq hab hbig
    go_enter Try.func71, Try.ntmps71
    go_wp2_with fail
    refine (Q.out _).mono ?_
    rintro e w1 ⟨rfl, hb1⟩
    go_wp2_with fail
    go_ret3
    exact ⟨by rw [hf.out]; rfl, hb1⟩
end Go.Proofs.Ytmadlmmfbpmebaa
