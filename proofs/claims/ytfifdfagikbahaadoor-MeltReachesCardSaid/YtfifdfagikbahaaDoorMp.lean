/- The contract of choose of package bouleref03. -/
import Derived.Test.YtfifdfagikbahaaDoorMn
namespace Go.Proofs.YtfifdfagikbahaaDoor
open Go.RowKit
set_option maxHeartbeats 1000000 in
theorem choose_any (c : Crs) (x : Stp) (lo hi : Int) (w : World) : Calls Tryd.prog 74 #[.agg (crsArr c), .agg (stpArr x), I lo, I hi] w fun e w' => e = .returned (I (pkF c x.kd lo hi)) ∧ Below w.heap.size w w' := by
  obtain ⟨a, f, g⟩ := c
  have hB : Hid (Below w.heap.size w ((w.alloc (.cells (crsArr ⟨a, f, g⟩) 107)).alloc (.cells (stpArr x) 58))) := ((Below.refl _ _).alloc (Nat.le_refl _) _).alloc (by simp) _
  obtain ⟨r, hr⟩ : ∃ r, pkF ⟨a, f, g⟩ x.kd lo hi = r := ⟨_, rfl⟩
  rw [hr]
  have Hf : Hid (r = if (if x.kd = 1 then f else if x.kd = 4 then g else a) then hi else lo) := hr.symm
  clear hr
  by_cases h1 : x.kd = 1
  · have e1 : (x.kd == 1) = true := by simpa using h1
    have n1 : (x.kd != 1) = false := by rw [bne, e1]; rfl
    have e4 : (x.kd == 4) = false := by rw [h1]; rfl
    have n4 : (x.kd != 4) = true := by rw [bne, e4]; rfl
    have Hz : Hid (r = if f = true then hi else lo) := by show _ = _; rw [Hf.out, if_pos h1]
    clear h1 Hf
    rcases a with _ | _ <;> rcases f with _ | _ <;> rcases g with _ | _
    all_goals
      go_enter Tryd.func74, Tryd.ntmps74
      go_wp2_with fail
      go_ret
      exact ⟨by rw [Hz.out]; rfl, hB.out⟩
  · have e1 : (x.kd == 1) = false := by simpa using h1
    have n1 : (x.kd != 1) = true := by rw [bne, e1]; rfl
    by_cases h4 : x.kd = 4
    · have e4 : (x.kd == 4) = true := by simpa using h4
      have n4 : (x.kd != 4) = false := by rw [bne, e4]; rfl
      have Hz : Hid (r = if g = true then hi else lo) := by show _ = _; rw [Hf.out, if_neg h1, if_pos h4]
      clear h1 h4 Hf
      rcases a with _ | _ <;> rcases f with _ | _ <;> rcases g with _ | _
      all_goals
        go_enter Tryd.func74, Tryd.ntmps74
        go_wp2_with fail
        go_ret
        exact ⟨by rw [Hz.out]; rfl, hB.out⟩
    · have e4 : (x.kd == 4) = false := by simpa using h4
      have n4 : (x.kd != 4) = true := by rw [bne, e4]; rfl
      have Hz : Hid (r = if a = true then hi else lo) := by show _ = _; rw [Hf.out, if_neg h1, if_neg h4]
      clear h1 h4 Hf
      rcases a with _ | _ <;> rcases f with _ | _ <;> rcases g with _ | _
      all_goals
        go_enter Tryd.func74, Tryd.ntmps74
        go_wp2_with fail
        go_ret
        exact ⟨by rw [Hz.out]; rfl, hB.out⟩
end Go.Proofs.YtfifdfagikbahaaDoor
