/- The contract of Puller of the reference. -/
import Derived.Test.YtlebefopdnadaaaRf
import Derived.Test.YtlebefopdnadaaaSf
namespace Go.Proofs.Ytlebefopdnadaaa
open Go.RowKit
theorem okPuller_of {p : Vec} (h : VPul p) : okPuller p = true := by
  unfold okPuller
  rw [Bool.and_eq_true, List.all_eq_true]
  refine ⟨fun r hr => ?_, ?_⟩
  · have hr5 : r < 5 := by simpa using hr
    have hb := h.bd r hr5
    have hm := h.rm r hr5
    simp only [ruleB, Bool.and_eq_true, rangeB_iff, inB_iff]
    refine ⟨⟨⟨fun x hx => ?_, fun x hx => ?_⟩, fun x hx => ?_⟩, fun x hx => ?_⟩
    · simp only [bnds, List.mem_cons, List.mem_nil_iff, or_false] at hx
      rcases hx with rfl | rfl | rfl | rfl | rfl | rfl
      · exact hb 0 (by omega)
      · exact hb 1 (by omega)
      · exact hb 2 (by omega)
      · exact hb 3 (by omega)
      · exact hb 4 (by omega)
      · exact hb 5 (by omega)
    · simp only [rmps, List.mem_cons, List.mem_nil_iff, or_false] at hx
      rcases hx with rfl | rfl | rfl | rfl | rfl | rfl
      · exact hm 0 (by omega)
      · exact hm 1 (by omega)
      · exact hm 2 (by omega)
      · exact hm 3 (by omega)
      · exact hm 4 (by omega)
      · exact hm 5 (by omega)
    · simp at hx; subst hx; exact h.sc r hr5
    · simp at hx; subst hx; exact h.ln r hr5
  · simp only [restB, Bool.and_eq_true, rangeB_iff, inB_iff]
    refine ⟨⟨⟨fun x hx => ?_, fun x hx => ?_⟩, fun x hx => ?_⟩, fun x hx => ?_⟩
    · simp at hx; rcases hx with rfl | rfl
      · exact h.grow
      · exact h.shrink
    · simp at hx; subst hx; exact h.lim
    · simp at hx; subst hx; exact h.slip
    · simp at hx; rcases hx with rfl | rfl
      · exact h.hold
      · exact h.grace
theorem okPuller_no' {p : Vec} (h : VPul p → False) : okPuller p = false := by
  cases hq : okPuller p with
  | false => rfl
  | true => exact (h (vPul_of hq)).elim
/-- A rule is good. -/
def goodR (p : Vec) (r : Nat) : Prop := (∀ g, g < 6 → spnB (p (r * 22 + g * 2)) (p (r * 22 + g * 2 + 1)) 1000000 = true ∧ wiB (p (r * 22 + 12 + g)) 0 1000000 = true) ∧ spnB (p (r * 22 + 18)) (p (r * 22 + 19)) 100000 = true ∧ spnB (p (r * 22 + 20)) (p (r * 22 + 21)) 10000000000 = true
def restP (p : Vec) : Prop := wiB (p 110) 0 1000000 = true ∧ wiB (p 111) 0 1000000 = true ∧ spnB (p 112) (p 113) 1000000 = true ∧ wiB (p 114) 0 10000000000 = true ∧ wiB (p 115) 0 100000 = true ∧ wiB (p 116) 0 100000 = true
theorem vPul_good {p : Vec} (h : VPul p) {r : Nat} (hr : r < 5) : goodR p r := ⟨fun g hg => ⟨spnB_iff.2 (h.bd r hr g hg), wiB_iff.2 (h.rm r hr g hg)⟩, spnB_iff.2 (h.sc r hr), spnB_iff.2 (h.ln r hr)⟩
theorem vPul_rest {p : Vec} (h : VPul p) : restP p := ⟨wiB_iff.2 h.grow, wiB_iff.2 h.shrink, spnB_iff.2 h.lim, wiB_iff.2 h.slip, wiB_iff.2 h.hold, wiB_iff.2 h.grace⟩
theorem vPul_mk {p : Vec} (h : ∀ r, r < 5 → goodR p r) (h2 : restP p) : VPul p where
  bd := fun r hr g hg => spnB_iff.1 ((h r hr).1 g hg).1
  rm := fun r hr g hg => wiB_iff.1 ((h r hr).1 g hg).2
  sc := fun r hr => spnB_iff.1 (h r hr).2.1
  ln := fun r hr => spnB_iff.1 (h r hr).2.2
  grow := wiB_iff.1 h2.1
  shrink := wiB_iff.1 h2.2.1
  lim := spnB_iff.1 h2.2.2.1
  slip := wiB_iff.1 h2.2.2.2.1
  hold := wiB_iff.1 h2.2.2.2.2.1
  grace := wiB_iff.1 h2.2.2.2.2.2
theorem ff_tt {b : Bool} (h : b = false) (h' : b = true) : False := by rw [h] at h'; cases h'
set_option maxRecDepth 100000 in
set_option maxHeartbeats 2000000 in
theorem refPuller_any (p : Vec) (w : World) : Calls Try.prog 16 #[.agg (ia 117 p)] w fun e w' => e = .returned (.bool (okPuller p)) ∧ Below w.heap.size w w' := by
  obtain ⟨W1, hW1⟩ : ∃ W1, W1 = w.alloc (.cells (ia 117 p) 30) := ⟨_, rfl⟩
  have HP : Hid (∀ W, Le W1 W → ∀ j, j < 117 → W.cell? ⟨w.heap.size, j, none⟩ = some (I (p j))) := fun W hW j hj => by
    have h : W1.cell? ⟨w.heap.size, j, none⟩ = some (I (p j)) := by rw [hW1, cell_of_row _ _ _ _ _ _ (heap_last _ _ _ rfl)]; exact ia_get hj
    exact (Below.cell hW (p := ⟨_, _, none⟩) (block_lt_of_cell h)).trans h
  have hb : Hid (∀ W, Le W1 W → Below w.heap.size w W) := fun W hW => by rw [hW1] at hW; exact under2 hW
  have HW := Lib.hid hW1
  clear hW1
  go_enter Try.func16, Try.ntmps16
  go_wp2_with fail
  rw [← HW.out]
  go_loopw [3] (fun i wr => ∃ k : Nat, k ≤ 5 ∧ i = .int .i64 k ∧ (∀ r, r < k → goodR p r) ∧ Le W1 wr) (fun i _ => 5 - (intOf i).toNat)
  case atStart => exact ⟨0, by omega, rfl, fun j hj => absurd hj (by omega), Le.refl _⟩
  case round =>
    obtain ⟨k, hk, rfl, hs, hbw⟩ := hrel
    have Hs := Lib.hid hs
    have HB := Lib.hid hbw
    have hk5 : (k : Int) ≤ 5 := by omega
    clear hs hbw
    by_cases hlt : k < 5
    · have hki : (k : Int) < 5 := by omega
      go_wp2_with (first | (refine wpList_load_ia rfl 27 _ rfl w.heap.size (k * 22) rfl 22 (fun i => p (k * 22 + i)) _ (fun j hj => HP.out wr HB.out _ (by omega)) Try.underlying27 rfl (by kernel_rfl) ?_) | (refine wpList_store_new rfl 27 _ _ rfl _ _ wr.heap.size rfl rfl (ia 22 (fun i => p (k * 22 + i))) rfl ia_one (ia_size _ _) soft4 ?_))
      obtain ⟨wo, rfl⟩ : ∃ wo : World, wo = wr := ⟨_, rfl⟩
      obtain ⟨W3, hW3⟩ : ∃ W3, W3 = wo.alloc (.cells (ia 22 (fun i => p (k * 22 + i))) 27) := ⟨_, rfl⟩
      have HR : Hid (∀ W, Le W3 W → ∀ j, j < 22 → W.cell? ⟨wo.heap.size, j, none⟩ = some (I (p (k * 22 + j)))) := fun W hW j hj => by
        have h : W3.cell? ⟨wo.heap.size, j, none⟩ = some (I (p (k * 22 + j))) := by rw [hW3, cell_of_row _ _ _ _ _ _ (heap_last _ _ _ rfl)]; exact ia_get hj
        exact (Below.cell hW (p := ⟨_, _, none⟩) (block_lt_of_cell h)).trans h
      have hb3 : Hid (∀ W, Le W3 W → Le W1 W) := fun W hW => HB.out.trans (by rw [hW3] at hW; exact under2 hW)
      rw [← hW3]
      have HW3 := Lib.hid hW3
      clear hW3
      go_loopw [5] (fun i wq => ∃ g : Nat, g ≤ 6 ∧ i = .int .i64 g ∧ (∀ j, j < g → spnB (p (k * 22 + j * 2)) (p (k * 22 + j * 2 + 1)) 1000000 = true ∧ wiB (p (k * 22 + 12 + j)) 0 1000000 = true) ∧ Le W3 wq) (fun i _ => 6 - (intOf i).toNat)
      case atStart => exact ⟨0, by omega, rfl, fun j hj => absurd hj (by omega), Le.refl _⟩
      case round =>
        obtain ⟨g, hg, rfl, hq, hbq⟩ := hrel
        have Hq := Lib.hid hq
        have HQ := Lib.hid hbq
        have hg6 : (g : Int) ≤ 6 := by omega
        clear hq hbq
        by_cases hlg : g < 6
        · have hgi : (g : Int) < 6 := by omega
          have x0 : wr.cell? ⟨wo.heap.size, g * 2, none⟩ = some (I (p (k * 22 + g * 2))) := HR.out wr HQ.out _ (by omega)
          have x1 : wr.cell? ⟨wo.heap.size, g * 2 + 1, none⟩ = some (I (p (k * 22 + g * 2 + 1))) := HR.out wr HQ.out _ (by omega)
          go_wp2_with fail
          refine (span_any _ _ _ _).mono ?_
          rintro e w1 ⟨rfl, hb1⟩
          have HQ1 : Hid (Le W3 w1) := HQ.out.trans hb1
          clear hb1 x0 x1
          rcases hsp : spnB (p (k * 22 + g * 2)) (p (k * 22 + g * 2 + 1)) 1000000 with _ | _
          · have hf : Hid (okPuller p = false) := okPuller_no' fun hv => ff_tt hsp ((vPul_good hv hlt).1 g hlg).1
            clear hsp
            go_wp2_with fail
            go_ret
            exact ⟨by rw [hf.out]; rfl, hb.out _ (hb3.out _ HQ1.out)⟩
          · have Hsp := Lib.hid hsp
            have x2 : w1.cell? ⟨wo.heap.size, 12 + g, none⟩ = some (I (p (k * 22 + 12 + g))) := by rw [HR.out w1 HQ1.out _ (by omega), show k * 22 + (12 + g) = k * 22 + 12 + g by omega]
            clear hsp
            go_wp2_with fail
            refine (within_any _ _ _ _).mono ?_
            rintro e w2 ⟨rfl, hb2⟩
            have HQ2 : Hid (Le W3 w2) := HQ1.out.trans hb2
            clear hb2 x2
            rcases hwi : wiB (p (k * 22 + 12 + g)) 0 1000000 with _ | _
            · have hf : Hid (okPuller p = false) := okPuller_no' fun hv => ff_tt hwi ((vPul_good hv hlt).1 g hlg).2
              clear hwi
              go_wp2_with fail
              go_ret
              exact ⟨by rw [hf.out]; rfl, hb.out _ (hb3.out _ HQ2.out)⟩
            · have hcase : Hid (∀ j, j < g + 1 → spnB (p (k * 22 + j * 2)) (p (k * 22 + j * 2 + 1)) 1000000 = true ∧ wiB (p (k * 22 + 12 + j)) 0 1000000 = true) := succ_case Hq.out ⟨Hsp.out, hwi⟩
              clear hwi
              go_wp2_with fail
              go_roundw
              case rel => exact ⟨g + 1, by omega, by go_num, hcase.out, HQ2.out⟩
              case measure => simp [intOf]; omega
        · obtain rfl : g = 6 := by omega
          have x0 : wr.cell? ⟨wo.heap.size, 18, none⟩ = some (I (p (k * 22 + 18))) := HR.out wr HQ.out _ (by omega)
          have x1 : wr.cell? ⟨wo.heap.size, 19, none⟩ = some (I (p (k * 22 + 19))) := HR.out wr HQ.out _ (by omega)
          go_wp2_with fail
          refine (span_any _ _ _ _).mono ?_
          rintro e w1 ⟨rfl, hb1⟩
          have HQ1 : Hid (Le W3 w1) := HQ.out.trans hb1
          clear hb1 x0 x1
          rcases hsp : spnB (p (k * 22 + 18)) (p (k * 22 + 19)) 100000 with _ | _
          · have hf : Hid (okPuller p = false) := okPuller_no' fun hv => ff_tt hsp (vPul_good hv hlt).2.1
            clear hsp
            go_wp2_with fail
            go_ret
            exact ⟨by rw [hf.out]; rfl, hb.out _ (hb3.out _ HQ1.out)⟩
          · have Hsp := Lib.hid hsp
            have x2 : w1.cell? ⟨wo.heap.size, 20, none⟩ = some (I (p (k * 22 + 20))) := HR.out w1 HQ1.out _ (by omega)
            have x3 : w1.cell? ⟨wo.heap.size, 21, none⟩ = some (I (p (k * 22 + 21))) := HR.out w1 HQ1.out _ (by omega)
            clear hsp
            go_wp2_with fail
            refine (span_any _ _ _ _).mono ?_
            rintro e w2 ⟨rfl, hb2⟩
            have HQ2 : Hid (Le W3 w2) := HQ1.out.trans hb2
            clear hb2 x2 x3
            rcases hs2 : spnB (p (k * 22 + 20)) (p (k * 22 + 21)) 10000000000 with _ | _
            · have hf : Hid (okPuller p = false) := okPuller_no' fun hv => ff_tt hs2 (vPul_good hv hlt).2.2
              clear hs2
              go_wp2_with fail
              go_ret
              exact ⟨by rw [hf.out]; rfl, hb.out _ (hb3.out _ HQ2.out)⟩
            · have hcase : Hid (∀ r, r < k + 1 → goodR p r) := succ_case Hs.out ⟨Hq.out, Hsp.out, hs2⟩
              clear hs2
              go_wp2_with fail
              go_roundw
              case rel => exact ⟨k + 1, by omega, by go_num, hcase.out, hb3.out _ HQ2.out⟩
              case measure => simp [intOf]; omega
    · obtain rfl : k = 5 := by omega
      have x110 : wr.cell? ⟨w.heap.size, 110, none⟩ = some (I (p 110)) := HP.out wr HB.out _ (by omega)
      go_wp2_with fail
      refine (within_any _ _ _ _).mono ?_
      rintro e v0 ⟨rfl, hb1⟩
      have HV0 : Hid (Le W1 v0) := HB.out.trans hb1
      clear hb1 x110
      rcases hc0 : wiB (p 110) 0 1000000 with _ | _
      · have hf : Hid (okPuller p = false) := okPuller_no' fun hv => ff_tt hc0 (vPul_rest hv).1
        clear hc0
        go_wp2_with fail
        go_ret
        exact ⟨by rw [hf.out]; rfl, hb.out _ HV0.out⟩
      have Hc0 := Lib.hid hc0
      clear hc0
      have x111 : v0.cell? ⟨w.heap.size, 111, none⟩ = some (I (p 111)) := HP.out v0 HV0.out _ (by omega)
      go_wp2_with fail
      refine (within_any _ _ _ _).mono ?_
      rintro e v1 ⟨rfl, hb1⟩
      have HV1 : Hid (Le W1 v1) := HV0.out.trans hb1
      clear hb1 x111
      rcases hc1 : wiB (p 111) 0 1000000 with _ | _
      · have hf : Hid (okPuller p = false) := okPuller_no' fun hv => ff_tt hc1 (vPul_rest hv).2.1
        clear hc1
        go_wp2_with fail
        go_ret
        exact ⟨by rw [hf.out]; rfl, hb.out _ HV1.out⟩
      have Hc1 := Lib.hid hc1
      clear hc1
      have x112 : v1.cell? ⟨w.heap.size, 112, none⟩ = some (I (p 112)) := HP.out v1 HV1.out _ (by omega)
      have x113 : v1.cell? ⟨w.heap.size, 113, none⟩ = some (I (p 113)) := HP.out v1 HV1.out _ (by omega)
      go_wp2_with fail
      refine (span_any _ _ _ _).mono ?_
      rintro e v2 ⟨rfl, hb1⟩
      have HV2 : Hid (Le W1 v2) := HV1.out.trans hb1
      clear hb1 x112 x113
      rcases hc2 : spnB (p 112) (p 113) 1000000 with _ | _
      · have hf : Hid (okPuller p = false) := okPuller_no' fun hv => ff_tt hc2 (vPul_rest hv).2.2.1
        clear hc2
        go_wp2_with fail
        go_ret
        exact ⟨by rw [hf.out]; rfl, hb.out _ HV2.out⟩
      have Hc2 := Lib.hid hc2
      clear hc2
      have x114 : v2.cell? ⟨w.heap.size, 114, none⟩ = some (I (p 114)) := HP.out v2 HV2.out _ (by omega)
      go_wp2_with fail
      refine (within_any _ _ _ _).mono ?_
      rintro e v3 ⟨rfl, hb1⟩
      have HV3 : Hid (Le W1 v3) := HV2.out.trans hb1
      clear hb1 x114
      rcases hc3 : wiB (p 114) 0 10000000000 with _ | _
      · have hf : Hid (okPuller p = false) := okPuller_no' fun hv => ff_tt hc3 (vPul_rest hv).2.2.2.1
        clear hc3
        go_wp2_with fail
        go_ret
        exact ⟨by rw [hf.out]; rfl, hb.out _ HV3.out⟩
      have Hc3 := Lib.hid hc3
      clear hc3
      have x115 : v3.cell? ⟨w.heap.size, 115, none⟩ = some (I (p 115)) := HP.out v3 HV3.out _ (by omega)
      go_wp2_with fail
      refine (within_any _ _ _ _).mono ?_
      rintro e v4 ⟨rfl, hb1⟩
      have HV4 : Hid (Le W1 v4) := HV3.out.trans hb1
      clear hb1 x115
      rcases hc4 : wiB (p 115) 0 100000 with _ | _
      · have hf : Hid (okPuller p = false) := okPuller_no' fun hv => ff_tt hc4 (vPul_rest hv).2.2.2.2.1
        clear hc4
        go_wp2_with fail
        go_ret
        exact ⟨by rw [hf.out]; rfl, hb.out _ HV4.out⟩
      have Hc4 := Lib.hid hc4
      clear hc4
      have x116 : v4.cell? ⟨w.heap.size, 116, none⟩ = some (I (p 116)) := HP.out v4 HV4.out _ (by omega)
      go_wp2_with fail
      refine (within_any _ _ _ _).mono ?_
      rintro e v5 ⟨rfl, hb1⟩
      have HV5 : Hid (Le W1 v5) := HV4.out.trans hb1
      clear hb1 x116
      rcases hc5 : wiB (p 116) 0 100000 with _ | _
      · have hf : Hid (okPuller p = false) := okPuller_no' fun hv => ff_tt hc5 (vPul_rest hv).2.2.2.2.2
        clear hc5
        go_wp2_with fail
        go_ret
        exact ⟨by rw [hf.out]; rfl, hb.out _ HV5.out⟩
      have Hc5 := Lib.hid hc5
      clear hc5
      have hf : Hid (okPuller p = true) := okPuller_of (vPul_mk Hs.out ⟨Hc0.out, Hc1.out, Hc2.out, Hc3.out, Hc4.out, Hc5.out⟩)
      go_wp2_with fail
      go_ret
      exact ⟨by rw [hf.out]; rfl, hb.out _ HV5.out⟩
end Go.Proofs.Ytlebefopdnadaaa
