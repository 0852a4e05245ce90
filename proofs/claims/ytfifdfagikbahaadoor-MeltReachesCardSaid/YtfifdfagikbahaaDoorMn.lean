/- The contracts of up, After and Mass of package bouleref03. -/
import Derived.Test.YtfifdfagikbahaaDoorMj
namespace Go.Proofs.YtfifdfagikbahaaDoor
open Go.RowKit
/-- A quotient rounded up. -/
def upF (a b c : Int) : Int := if a * b % c = 0 then a * b / c else a * b / c + 1
theorem up_any (a c : Int) (b : Nat) (w : World) (ha : 0 ≤ a ∧ a ≤ 1000000000000000) (hb : b ≤ 1000000000000000) (hc : 1 ≤ c ∧ c ≤ 100000000000000) (hq : a * b / c ≤ 1000000000000000000) :
    Calls Tryd.prog 67 #[I a, I b, I c] w fun e w' => e = .returned (I (upF a b c)) ∧ Below w.heap.size w w' := by
  have hr := Lib.hid (ratio_any a c b w ha hb hc hq)
  have hq0 : 0 ≤ a * b / c := Int.ediv_nonneg (Int.mul_nonneg ha.1 (by omega)) (by omega)
  have w1 : IntKind.i64.wrap (a * b / c + 1) = a * b / c + 1 := IntWalk.i64_in _ (by omega)
  have Hf : Hid (upF a b c = if a * b % c = 0 then a * b / c else a * b / c + 1) := rfl
  clear hq0 hq
  go_enter Tryd.func67, Tryd.ntmps67
  go_wp2_with fail
  refine hr.out.mono ?_
  rintro e w2 ⟨rfl, hb2⟩
  have Hb2 := Lib.hid hb2
  clear hb2
  by_cases h : a * b % c = 0
  · have hd : decide (a * (b : Int) % c = 0) = true := decide_eq_true h
    have Hz : Hid (upF a b c = a * b / c) := by show _ = _; rw [Hf.out, if_pos h]
    rw [hd]
    clear h hd
    go_wp2_with fail
    go_ret
    exact ⟨by rw [Hz.out]; rfl, Hb2.out⟩
  · have hd : decide (a * (b : Int) % c = 0) = false := decide_eq_false h
    have Hz : Hid (upF a b c = a * b / c + 1) := by show _ = _; rw [Hf.out, if_neg h]
    rw [hd]
    clear h hd
    go_wp2_with fail
    go_ret
    exact ⟨by rw [Hz.out]; rfl, Hb2.out⟩
/-- What is there after a step that moves so much. -/
def afF (kd d n : Int) : Int := if kd = 2 ∨ kd = 3 then d + n else d - n
theorem after_any (x : Stp) (d n : Int) (w : World) (hd : -100000000000000000 ≤ d ∧ d ≤ 100000000000000000) (hn : -100000000000000000 ≤ n ∧ n ≤ 100000000000000000) :
    Calls Tryd.prog 61 #[.agg (stpArr x), I d, I n] w fun e w' => e = .returned (I (afF x.kd d n)) ∧ Below w.heap.size w w' := by
  have hB : Hid (Below w.heap.size w (w.alloc (.cells (stpArr x) 58))) := (Below.refl _ _).alloc (Nat.le_refl _) _
  have Hf : Hid (afF x.kd d n = if x.kd = 2 ∨ x.kd = 3 then d + n else d - n) := rfl
  have w1 : IntKind.i64.wrap (d + n) = d + n := IntWalk.i64_in _ (by omega)
  have w2 : IntKind.i64.wrap (d - n) = d - n := IntWalk.i64_in _ (by omega)
  by_cases h2 : x.kd = 2
  · have e2 : (x.kd == 2) = true := by simpa using h2
    have Hz : Hid (afF x.kd d n = d + n) := by show _ = _; rw [Hf.out, if_pos (.inl h2)]
    clear h2
    go_enter Tryd.func61, Tryd.ntmps61
    go_wp2_with fail
    go_ret
    exact ⟨by rw [Hz.out]; first | rfl | simp, hB.out⟩
  · have e2 : (x.kd == 2) = false := by simpa using h2
    by_cases h3 : x.kd = 3
    · have e3 : (x.kd == 3) = true := by simpa using h3
      have Hz : Hid (afF x.kd d n = d + n) := by show _ = _; rw [Hf.out, if_pos (.inr h3)]
      clear h2 h3
      go_enter Tryd.func61, Tryd.ntmps61
      go_wp2_with fail
      go_ret
      exact ⟨by rw [Hz.out]; first | rfl | simp, hB.out⟩
    · have e3 : (x.kd == 3) = false := by simpa using h3
      have Hz : Hid (afF x.kd d n = d - n) := by show _ = _; rw [Hf.out, if_neg (by omega)]
      clear h2 h3
      go_enter Tryd.func61, Tryd.ntmps61
      go_wp2_with fail
      go_ret
      exact ⟨by rw [Hz.out]; first | rfl | simp, hB.out⟩
theorem mass_any (mass : Int) (x : Stp) (w : World) (hm : -9000000000000 ≤ mass ∧ mass ≤ 9000000000000) (hx : x.kd = 1 ∨ x.kd = 2 → -9000000000000 ≤ x.ms ∧ x.ms ≤ 9000000000000) :
    Calls Tryd.prog 45 #[I mass, .agg (stpArr x)] w fun e w' => e = .returned (I (grF mass x)) ∧ Below w.heap.size w w' := by
  have hB : Hid (Below w.heap.size w (w.alloc (.cells (stpArr x) 58))) := (Below.refl _ _).alloc (Nat.le_refl _) _
  by_cases h1 : x.kd = 1
  · have e1 : (x.kd == 1) = true := by simpa using h1
    have hb := hx (.inl h1)
    have hw : IntKind.i64.wrap (mass - x.ms) = mass - x.ms := IntWalk.i64_in _ (by omega)
    have Hf : Hid (grF mass x = mass - x.ms) := if_pos h1
    clear h1 hx hb
    go_enter Tryd.func45, Tryd.ntmps45
    go_wp2_with fail
    go_ret
    exact ⟨by rw [Hf.out]; rfl, hB.out⟩
  · have e1 : (x.kd == 1) = false := by simpa using h1
    by_cases h2 : x.kd = 2
    · have e2 : (x.kd == 2) = true := by simpa using h2
      have hb := hx (.inr h2)
      have hw : IntKind.i64.wrap (mass + x.ms) = mass + x.ms := IntWalk.i64_in _ (by omega)
      have Hf : Hid (grF mass x = mass + x.ms) := by show grF mass x = _; unfold grF; rw [if_neg h1, if_pos h2]
      clear h1 h2 hx hb
      go_enter Tryd.func45, Tryd.ntmps45
      go_wp2_with fail
      go_ret
      exact ⟨by rw [Hf.out]; rfl, hB.out⟩
    · have e2 : (x.kd == 2) = false := by simpa using h2
      have Hf : Hid (grF mass x = mass) := by show grF mass x = _; unfold grF; rw [if_neg h1, if_neg h2]
      clear h1 h2 hx
      go_enter Tryd.func45, Tryd.ntmps45
      go_wp2_with fail
      go_ret
      exact ⟨by rw [Hf.out]; rfl, hB.out⟩
end Go.Proofs.YtfifdfagikbahaaDoor
