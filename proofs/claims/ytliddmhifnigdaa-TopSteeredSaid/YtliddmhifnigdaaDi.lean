/- The contract of CheckGrowth of package defect. -/
import Derived.Test.YtliddmhifnigdaaDg
import Derived.Test.YtliddmhifnigdaaDh
namespace Go.Proofs.Ytliddmhifnigdaa.Un
open Go.RowKit
/-- A growth: rates, how far off, zones, factors. -/
structure Gro where
  r : List Rng
  o : Int
  z : List Rng
  f : List Rng
abbrev grA (g : Gro) (A Z F : Option Addr) (a c d : Nat) : Array Value := #[.slice A g.r.length a, I g.o, .slice Z g.z.length c, .slice F g.f.length d]
/-- What lies in memory of a growth. -/
structure GroIn (w : World) (B : Nat) (g : Gro) (A Z F : Option Addr) : Prop where
  r : Rd w B 2 A g.r.length (rR g.r)
  z : Rd w B 2 Z g.z.length (rR g.z)
  f : Rd w B 2 F g.f.length (rR g.f)
  lr : g.r.length ≤ 1000000
  lz : g.z.length ≤ 1000000
  lf : g.f.length ≤ 1000000
theorem GroIn.below {w V : World} {B : Nat} {g : Gro} {A Z F : Option Addr} (h : GroIn w B g A Z F) (hB : B ≤ w.heap.size) (hb : Below w.heap.size w V) : GroIn V B g A Z F := ⟨h.r.below (hb.mono hB), h.z.below (hb.mono hB), h.f.below (hb.mono hB), h.lr, h.lz, h.lf⟩
def lastX (t : List Rng) : Int := (at0 t (t.length - 1)).lo
def okGro (g : Gro) : Bool := tabB g.r && (tabB g.f && (!g.r.any (outB 0 1000000) && (!g.f.any (outB 1 20000) && (decide (0 ≤ g.o ∧ g.o ≤ 1000000 ∧ 1 ≤ g.z.length ∧ g.z.length ≤ 20) && (!g.z.any notGr && decide ((at0 g.f 0).lo = (at0 g.r 0).lo ∧ lastX g.f = lastX g.r ∧ 0 ≤ (at0 g.r 0).lo ∧ lastX g.r ≤ 3000))))))
theorem tabB_len {t : List Rng} (h : tabB t = true) : 2 ≤ t.length ∧ t.length ≤ 60 := by
  unfold tabB at h
  rw [Bool.and_eq_true, Bool.and_eq_true, decide_eq_true_eq, decide_eq_true_eq] at h
  exact h.2
set_option maxRecDepth 100000 in
set_option maxHeartbeats 4000000 in
theorem checkGrowth_any (g : Gro) (A Z F : Option Addr) (a c d : Nat) (w : World) (B : Nat) (hB : B ≤ w.heap.size) (hg : GroIn w B g A Z F) :
    Calls Try.prog 34 #[.agg (grA g A Z F a c d)] w fun e w' => e = .returned (I (erA (okGro g))) ∧ Below w.heap.size w w' := by
  have HG : Hid (∀ V, Below w.heap.size w V → GroIn V B g A Z F ∧ B ≤ V.heap.size) := fun V hV => ⟨hg.below hB hV, Nat.le_trans hB hV.size⟩
  have T1 : Hid (∀ V, Below w.heap.size w V → Calls Try.prog 37 #[.slice A g.r.length a] V fun e w' => e = .returned (I (ctF g.r)) ∧ Below V.heap.size V w') := fun V hV => table_any A g.r.length a g.r V B rfl (by have := hg.lr; unfold maxLen; omega) (HG.out V hV).2 (HG.out V hV).1.r
  have T2 : Hid (∀ V, Below w.heap.size w V → Calls Try.prog 37 #[.slice F g.f.length d] V fun e w' => e = .returned (I (ctF g.f)) ∧ Below V.heap.size V w') := fun V hV => table_any F g.f.length d g.f V B rfl (by have := hg.lf; unfold maxLen; omega) (HG.out V hV).2 (HG.out V hV).1.f
  have O1 : Hid (∀ V, Below w.heap.size w V → Calls Try.prog 58 #[.slice A g.r.length a, I 0, I 1000000] V fun e w' => e = .returned (.bool (g.r.any (outB 0 1000000))) ∧ Below V.heap.size V w') := fun V hV => growth1_any A a g.r 0 1000000 V B (by have := hg.lr; unfold maxLen; omega) (HG.out V hV).2 (HG.out V hV).1.r
  have O2 : Hid (∀ V, Below w.heap.size w V → Calls Try.prog 58 #[.slice F g.f.length d, I 1, I 20000] V fun e w' => e = .returned (.bool (g.f.any (outB 1 20000))) ∧ Below V.heap.size V w') := fun V hV => growth1_any F d g.f 1 20000 V B (by have := hg.lf; unfold maxLen; omega) (HG.out V hV).2 (HG.out V hV).1.f
  have Z1 : Hid (∀ V, Below w.heap.size w V → Calls Try.prog 42 #[.slice Z g.z.length c, .func (Fn.func 61) #[] #[]] V fun e w' => e = .returned (.bool (g.z.any notGr)) ∧ Below V.heap.size V w') := fun V hV => gr2_has Z c g.z V B (by have := hg.lz; unfold maxLen; omega) (HG.out V hV).2 (HG.out V hV).1.z
  have hf : Hid (okGro g = (tabB g.r && (tabB g.f && (!g.r.any (outB 0 1000000) && (!g.f.any (outB 1 20000) && (decide (0 ≤ g.o ∧ g.o ≤ 1000000 ∧ 1 ≤ g.z.length ∧ g.z.length ≤ 20) && (!g.z.any notGr && decide ((at0 g.f 0).lo = (at0 g.r 0).lo ∧ lastX g.f = lastX g.r ∧ 0 ≤ (at0 g.r 0).lo ∧ lastX g.r ≤ 3000)))))))) := rfl
  have E1 : Hid (∀ V, Below w.heap.size w V → 0 < g.r.length → g.r.length ≤ 1000000 → Calls Try.prog 35 #[.slice A g.r.length a] V fun e w' => e = .returned (.tuple #[I (at0 g.r 0).lo, I (lastX g.r)]) ∧ Below V.heap.size V w') := fun V hV h0 hl => ends_any A a g.r V B h0 hl (HG.out V hV).1.r
  have E2 : Hid (∀ V, Below w.heap.size w V → 0 < g.f.length → g.f.length ≤ 1000000 → Calls Try.prog 35 #[.slice F g.f.length d] V fun e w' => e = .returned (.tuple #[I (at0 g.f 0).lo, I (lastX g.f)]) ∧ Below V.heap.size V w') := fun V hV h0 hl => ends_any F d g.f V B h0 hl (HG.out V hV).1.f
  have HLZ := Lib.hid hg.lz
  clear hg hB
  obtain ⟨W, hW⟩ : ∃ W, W = (w.alloc (.cells #[.slice A g.r.length a, I g.o, .slice Z g.z.length c, .slice F g.f.length d] 68)) := ⟨_, rfl⟩
  have rowW0 : W.heap[w.heap.size]? = some (.cells #[.slice A g.r.length a, I g.o, .slice Z g.z.length c, .slice F g.f.length d] 68 (0, 0)) := by rw [hW]; exact heap_last _ _ _ rfl
  have yW00 := ovr_cell (W := W) (b := w.heap.size) (o := 0) (v := .slice A g.r.length a) (by rw [cell_of_row _ _ _ _ _ _ rowW0]; rfl)
  have yW01 := ovr_cell (W := W) (b := w.heap.size) (o := 1) (v := I g.o) (by rw [cell_of_row _ _ _ _ _ _ rowW0]; rfl)
  have yW02 := ovr_cell (W := W) (b := w.heap.size) (o := 2) (v := .slice Z g.z.length c) (by rw [cell_of_row _ _ _ _ _ _ rowW0]; rfl)
  have yW03 := ovr_cell (W := W) (b := w.heap.size) (o := 3) (v := .slice F g.f.length d) (by rw [cell_of_row _ _ _ _ _ _ rowW0]; rfl)
  have RrowW0 := Lib.hid (ovr_row rowW0)
  clear rowW0
  have HUW : Hid (∀ u, Below w.heap.size w (ovr W u)) := U1 hW
  have HW := Lib.hid hW
  clear hW
  go_enter Try.func34, Try.ntmps34
  go_upto_region 1 with (fail)
  rw [← HW.out]
  obtain ⟨u0, hu0⟩ := ovr_self W
  rw [hu0]
  clear hu0
  go_wp2_with fail
  refine (T1.out _ (HUW.out u0)).mono ?_
  unfold ctF
  rcases h1 : tabB g.r with _ | _ <;> rw [h1] at hf
  · skip
    rintro e w1 ⟨rfl, hb1⟩
    obtain ⟨u1, rfl⟩ := ovr_next hb1
    clear hb1
    go_wp2_with fail
    go_ret
    exact ⟨by rw [hf.out]; rfl, HUW.out _⟩
  rintro e w1 ⟨rfl, hb1⟩
  obtain ⟨u1, rfl⟩ := ovr_next hb1
  clear hb1
  go_wp2_with fail
  refine (T2.out _ (HUW.out u1)).mono ?_
  unfold ctF
  rcases h2 : tabB g.f with _ | _ <;> rw [h2] at hf
  · skip
    rintro e w1 ⟨rfl, hb1⟩
    obtain ⟨u2, rfl⟩ := ovr_next hb1
    clear hb1
    go_wp2_with fail
    go_ret
    exact ⟨by rw [hf.out]; rfl, HUW.out _⟩
  rintro e w1 ⟨rfl, hb1⟩
  obtain ⟨u2, rfl⟩ := ovr_next hb1
  clear hb1
  go_wp2_with fail
  refine (O1.out _ (HUW.out u2)).mono ?_
  rcases h3 : g.r.any (outB 0 1000000) with _ | _ <;> rw [h3] at hf
  case true =>
    rintro e w1 ⟨rfl, hb1⟩
    obtain ⟨u3, rfl⟩ := ovr_next hb1
    clear hb1
    go_wp2_with fail
    go_ret
    exact ⟨by rw [hf.out]; rfl, HUW.out _⟩
  rintro e w1 ⟨rfl, hb1⟩
  obtain ⟨u3, rfl⟩ := ovr_next hb1
  clear hb1
  go_wp2_with fail
  refine (O2.out _ (HUW.out u3)).mono ?_
  rcases h4 : g.f.any (outB 1 20000) with _ | _ <;> rw [h4] at hf
  case true =>
    rintro e w1 ⟨rfl, hb1⟩
    obtain ⟨u4, rfl⟩ := ovr_next hb1
    clear hb1
    go_wp2_with fail
    go_ret
    exact ⟨by rw [hf.out]; rfl, HUW.out _⟩
  rintro e w1 ⟨rfl, hb1⟩
  obtain ⟨u4, rfl⟩ := ovr_next hb1
  clear hb1
  have HL1 := Lib.hid (tabB_len h1)
  have HL2 := Lib.hid (tabB_len h2)
  replace hf : Hid (okGro g = (decide (0 ≤ g.o ∧ g.o ≤ 1000000 ∧ 1 ≤ g.z.length ∧ g.z.length ≤ 20) && (!g.z.any notGr && decide ((at0 g.f 0).lo = (at0 g.r 0).lo ∧ lastX g.f = lastX g.r ∧ 0 ≤ (at0 g.r 0).lo ∧ lastX g.r ≤ 3000)))) := by show _ = _; rw [hf.out]; rfl
  clear h1 h2 h3 h4 T1 T2 O1 O2
  by_cases h5 : 0 ≤ g.o ∧ g.o ≤ 1000000 ∧ 1 ≤ g.z.length ∧ g.z.length ≤ 20
  case neg =>
    rw [decide_eq_false h5] at hf
    have hf2 : Hid (okGro g = false) := hf
    by_cases g1 : g.o < 0
    · go_wp2_with fail
      go_ret
      exact ⟨by rw [hf2.out]; rfl, HUW.out _⟩
    by_cases g2 : 1000000 < g.o
    · go_wp2_with fail
      go_ret
      exact ⟨by rw [hf2.out]; rfl, HUW.out _⟩
    by_cases g3 : g.z.length < 1
    · have d3 : decide ((g.z.length : Int) < 1) = true := decide_eq_true (by omega)
      have d3' : (g.z.length : Int) < 1 := by omega
      go_wp2_with fail
      go_ret
      exact ⟨by rw [hf2.out]; rfl, HUW.out _⟩
    have g4 : 20 < g.z.length := by omega
    have d3 : decide ((g.z.length : Int) < 1) = false := decide_eq_false (by omega)
    have d4 : decide ((20 : Int) < (g.z.length : Int)) = true := decide_eq_true (by omega)
    have d3' : ¬ (g.z.length : Int) < 1 := by omega
    have d4' : (20 : Int) < (g.z.length : Int) := by omega
    go_wp2_with fail
    go_ret
    exact ⟨by rw [hf2.out]; rfl, HUW.out _⟩
  rw [decide_eq_true h5] at hf
  have g1 : decide (g.o < 0) = false := decide_eq_false (by omega)
  have g2 : decide (1000000 < g.o) = false := decide_eq_false (by omega)
  have d3 : decide ((g.z.length : Int) < 1) = false := decide_eq_false (by omega)
  have d4 : decide ((20 : Int) < (g.z.length : Int)) = false := decide_eq_false (by omega)
  go_wp2_with fail
  refine (Z1.out _ (HUW.out u4)).mono ?_
  rcases h6 : g.z.any notGr with _ | _ <;> rw [h6] at hf
  case true =>
    rintro e w1 ⟨rfl, hb1⟩
    obtain ⟨u5, rfl⟩ := ovr_next hb1
    clear hb1
    go_wp2_with fail
    go_ret
    exact ⟨by rw [hf.out]; rfl, HUW.out _⟩
  rintro e w1 ⟨rfl, hb1⟩
  obtain ⟨u5, rfl⟩ := ovr_next hb1
  clear hb1
  go_wp2_with fail
  refine (E1.out _ (HUW.out u5) (by have := HL1.out; omega) (by have := HL1.out; omega)).mono ?_
  rintro e w1 ⟨rfl, hb1⟩
  obtain ⟨u6, rfl⟩ := ovr_next hb1
  clear hb1
  go_wp2_with fail
  refine (E2.out _ (HUW.out u6) (by have := HL2.out; omega) (by have := HL2.out; omega)).mono ?_
  rintro e w1 ⟨rfl, hb1⟩
  obtain ⟨u7, rfl⟩ := ovr_next hb1
  clear hb1
  replace hf : Hid (okGro g = decide ((at0 g.f 0).lo = (at0 g.r 0).lo ∧ lastX g.f = lastX g.r ∧ 0 ≤ (at0 g.r 0).lo ∧ lastX g.r ≤ 3000)) := by show _ = _; rw [hf.out]; rfl
  clear g1 g2 d3 d4 h5 h6 Z1 E1 E2
  obtain ⟨x1, hx1⟩ : ∃ x, x = (at0 g.r 0).lo := ⟨_, rfl⟩
  obtain ⟨x2, hx2⟩ : ∃ x, x = lastX g.r := ⟨_, rfl⟩
  obtain ⟨y1, hy1⟩ : ∃ x, x = (at0 g.f 0).lo := ⟨_, rfl⟩
  obtain ⟨y2, hy2⟩ : ∃ x, x = lastX g.f := ⟨_, rfl⟩
  rw [← hx1, ← hx2, ← hy1, ← hy2] at hf
  rw [← hx1, ← hx2, ← hy1, ← hy2]
  clear hx1 hx2 hy1 hy2
  by_cases k1 : y1 = x1
  case neg =>
    have hf2 : Hid (okGro g = false) := by show _ = _; rw [hf.out]; exact decide_eq_false (by omega)
    have k1' : (y1 != x1) = true := by simp [k1]
    go_wp2_with fail
    go_ret
    exact ⟨by rw [hf2.out]; rfl, HUW.out _⟩
  by_cases k2 : y2 = x2
  case neg =>
    have hf2 : Hid (okGro g = false) := by show _ = _; rw [hf.out]; exact decide_eq_false (by omega)
    have k2' : (y2 != x2) = true := by simp [k2]
    go_wp2_with fail
    go_ret
    exact ⟨by rw [hf2.out]; rfl, HUW.out _⟩
  subst k1 k2
  by_cases k3 : y1 < 0
  · have hf2 : Hid (okGro g = false) := by show _ = _; rw [hf.out]; exact decide_eq_false (by omega)
    go_wp2_with fail
    go_ret
    exact ⟨by rw [hf2.out]; rfl, HUW.out _⟩
  by_cases k4 : 3000 < y2
  · have hf2 : Hid (okGro g = false) := by show _ = _; rw [hf.out]; exact decide_eq_false (by omega)
    go_wp2_with fail
    go_ret
    exact ⟨by rw [hf2.out]; rfl, HUW.out _⟩
  have hf2 : Hid (okGro g = true) := by show _ = _; rw [hf.out]; exact decide_eq_true (by omega)
  go_wp2_with fail
  go_ret
  exact ⟨by rw [hf2.out]; rfl, HUW.out _⟩
end Go.Proofs.Ytliddmhifnigdaa.Un
