/- bouleref09: in, treated. -/
import Derived.Test.YtljjpidigckheaaQaf
import Derived.Test.YtljjpidigckheaaMs
import Derived.Test.YtljjpidigckheaaKe
namespace Go.Proofs.Ytljjpidigckheaa.Un
open Go.RowKit
theorem mem_at {l : List Int} {k : Int} {i : Nat} (h : i < l.length) (he : at0 l i = k) : k ∈ l := by
  rw [at0_get h] at he
  exact he ▸ List.getElem_mem h
theorem not_mem_at {l : List Int} {k : Int} (h : ∀ j, j < l.length → at0 l j ≠ k) : k ∉ l := fun hm => by
  obtain ⟨j, hj, he⟩ := List.getElem_of_mem hm
  exact h j hj (by rw [at0_get hj]; exact he)
set_option maxRecDepth 100000 in
set_option maxHeartbeats 4000000 in
theorem in_any (t : Trt) (v : Int) (A : Option Addr) (n : Nat) (w : World) (B : Nat) (hB : B ≤ w.heap.size) (hx : Rd w B 1 A t.b.length (rI t.b)) (hm : t.b.length ≤ 1000) :
    Calls Try.prog 76 #[.agg #[I t.s.lo, I t.s.hi, .slice A t.b.length n], I v] w fun e w' => e = .returned (.bool (decide (v ∈ t.b))) ∧ Below w.heap.size w w' := by
  have HRD : Hid (∀ V, Below w.heap.size w V → Rd V B 1 A t.b.length (rI t.b)) := fun V hV => hx.below (hV.mono hB)
  have HM := Lib.hid hm
  clear hx hB hm
  obtain ⟨W, hW⟩ : ∃ W, W = (w.alloc (.cells #[I t.s.lo, I t.s.hi, .slice A t.b.length n] 72)) := ⟨_, rfl⟩
  have rowW0 : W.heap[w.heap.size]? = some (.cells #[I t.s.lo, I t.s.hi, .slice A t.b.length n] 72 (0, 0)) := by rw [hW]; exact heap_last _ _ _ rfl
  have yW00 := ovr_cell (W := W) (b := w.heap.size) (o := 0) (v := I t.s.lo) (by rw [cell_of_row _ _ _ _ _ _ rowW0]; rfl)
  have yW01 := ovr_cell (W := W) (b := w.heap.size) (o := 1) (v := I t.s.hi) (by rw [cell_of_row _ _ _ _ _ _ rowW0]; rfl)
  have yW02 := ovr_cell (W := W) (b := w.heap.size) (o := 2) (v := .slice A t.b.length n) (by rw [cell_of_row _ _ _ _ _ _ rowW0]; rfl)
  have RrowW0 := Lib.hid (ovr_row rowW0)
  clear rowW0
  have HUW : Hid (∀ u, Below w.heap.size w (ovr W u)) := U1 hW
  have HW := Lib.hid hW
  clear hW
  go_enter Try.func76, Try.ntmps76
  go_upto_region 1 with (fail)
  rw [← HW.out]
  obtain ⟨u0, hu0⟩ := ovr_self W
  rw [hu0]
  clear hu0
  go_wp2_with fail
  go_loopw [5] (fun iv wr => ∃ (k : Nat) (u : World), k ≤ t.b.length ∧ iv = .int .i64 k ∧ wr = ovr W u ∧ ∀ j, j < k → at0 t.b j ≠ v) (fun iv _ => t.b.length - (intOf iv).toNat)
  case atStart => exact ⟨0, u0, Nat.zero_le _, rfl, rfl, fun j hj => absurd hj (by omega)⟩
  case round =>
    obtain ⟨k, u, hk, rfl, rfl, hok⟩ := hrel
    have HOK := Lib.hid hok
    clear hok
    by_cases hlt : k < t.b.length
    case neg =>
      obtain rfl : k = t.b.length := by omega
      have ki : decide ((t.b.length : Int) < (t.b.length : Int)) = false := decide_eq_false (by omega)
      have HF : Hid (decide (v ∈ t.b) = false) := decide_eq_false (not_mem_at HOK.out)
      clear hk hlt
      go_wp2_with fail
      go_ret
      exact ⟨by rw [HF.out]; rfl, HUW.out u⟩
    have HLT := Lib.hid hlt
    have hk1000 : k ≤ 1000 := by have := HM.out; omega
    have ki : decide ((k : Int) < (t.b.length : Int)) = true := decide_eq_true (by omega)
    have kin : decide (k < t.b.length) = true := decide_eq_true hlt
    obtain ⟨b, o, rfl, _, e0⟩ := rd_int9 (HRD.out _ (HUW.out u)) hlt
    by_cases he : at0 t.b k = v
    · have HF : Hid (decide (v ∈ t.b) = true) := decide_eq_true (mem_at hlt he)
      rw [he] at e0
      have d1 : ((v : Int) == v) = true := beq_self_eq_true v
      clear he hk
      go_wp2_with fail
      go_ret
      exact ⟨by rw [HF.out]; rfl, HUW.out u⟩
    have HNX : Hid (∀ j, j < k + 1 → at0 t.b j ≠ v) := fun j hj => by
      rcases Nat.lt_or_ge j k with h1 | h1
      · exact HOK.out j h1
      · obtain rfl : j = k := by omega
        exact he
    have d1 : (at0 t.b k == v) = false := by simpa using he
    obtain ⟨x, hx⟩ : ∃ x, at0 t.b k = x := ⟨_, rfl⟩
    rw [hx] at e0 d1
    clear he hk hx
    go_wp2_with fail
    go_roundw
    case rel => exact ⟨k + 1, u, HLT.out, by go_num, rfl, HNX.out⟩
    case measure => have := HLT.out; simp [intOf]; omega
set_option maxRecDepth 100000 in
set_option maxHeartbeats 4000000 in
theorem treated_any (t : Trt) (N : Nat) (A : Option Addr) (n : Nat) (w : World) (B : Nat) (hB : B ≤ w.heap.size) (hx : Rd w B 1 A t.b.length (rI t.b)) (hm : t.b.length ≤ 1000 ∧ N ≤ 1000) :
    Calls Try.prog 75 #[.agg #[I t.s.lo, I t.s.hi, .slice A t.b.length n], I (N : Int)] w fun e w' => e = .returned (.bool (trtOk N t)) ∧ Below w.heap.size w w' := by
  have HRD : Hid (∀ V, Below w.heap.size w V → Rd V B 1 A t.b.length (rI t.b)) := fun V hV => hx.below (hV.mono hB)
  have HM := Lib.hid hm
  have HT : Hid (trtOk N t = (trQ N t.b t.b.length && spn9 t.s 0 10000000)) := rfl
  clear hx hB hm
  obtain ⟨W, hW⟩ : ∃ W, W = (w.alloc (.cells #[I t.s.lo, I t.s.hi, .slice A t.b.length n] 72)) := ⟨_, rfl⟩
  have rowW0 : W.heap[w.heap.size]? = some (.cells #[I t.s.lo, I t.s.hi, .slice A t.b.length n] 72 (0, 0)) := by rw [hW]; exact heap_last _ _ _ rfl
  have yW00 := ovr_cell (W := W) (b := w.heap.size) (o := 0) (v := I t.s.lo) (by rw [cell_of_row _ _ _ _ _ _ rowW0]; rfl)
  have yW01 := ovr_cell (W := W) (b := w.heap.size) (o := 1) (v := I t.s.hi) (by rw [cell_of_row _ _ _ _ _ _ rowW0]; rfl)
  have yW02 := ovr_cell (W := W) (b := w.heap.size) (o := 2) (v := .slice A t.b.length n) (by rw [cell_of_row _ _ _ _ _ _ rowW0]; rfl)
  have RrowW0 := Lib.hid (ovr_row rowW0)
  clear rowW0
  have HUW : Hid (∀ u, Below w.heap.size w (ovr W u)) := U1 hW
  have HW := Lib.hid hW
  clear hW
  go_enter Try.func75, Try.ntmps75
  go_upto_region 1 with (fail)
  rw [← HW.out]
  obtain ⟨u0, hu0⟩ := ovr_self W
  rw [hu0]
  clear hu0
  go_wp2_with fail
  go_loopw [5] (fun iv wr => ∃ (k : Nat) (u : World), k ≤ t.b.length ∧ iv = .int .i64 k ∧ wr = ovr W u ∧ trQ N t.b k = true) (fun iv _ => t.b.length - (intOf iv).toNat)
  case atStart => exact ⟨0, u0, Nat.zero_le _, rfl, rfl, rfl⟩
  case round =>
    obtain ⟨k, u, hk, rfl, rfl, hok⟩ := hrel
    have HOK := Lib.hid hok
    clear hok
    by_cases hlt : k < t.b.length
    case neg =>
      obtain rfl : k = t.b.length := by omega
      have ki : decide ((t.b.length : Int) < (t.b.length : Int)) = false := decide_eq_false (by omega)
      have HF : Hid (trtOk N t = spn9 t.s 0 10000000) := by show _ = _; rw [HT.out, HOK.out]; rfl
      clear hk hlt
      go_wp2_with fail
      refine (span_any t.s 0 10000000 _).mono ?_
      rintro e w1 ⟨rfl, hb1⟩
      obtain ⟨u2, rfl⟩ := ovr_next hb1
      clear hb1
      go_wp2_with fail
      go_ret
      exact ⟨by rw [HF.out]; rfl, HUW.out _⟩
    have HLT := Lib.hid hlt
    have hk1000 : k ≤ 1000 := by have := HM.out; omega
    have hb1000 : N ≤ 1000 := HM.out.2
    have ki : decide ((k : Int) < (t.b.length : Int)) = true := decide_eq_true (by omega)
    have kin : decide (k < t.b.length) = true := decide_eq_true hlt
    obtain ⟨b, o, rfl, _, e0⟩ := rd_int9 (HRD.out _ (HUW.out u)) hlt
    have HBAD : Hid (¬ (0 ≤ at0 t.b k ∧ at0 t.b k < (N : Int) ∧ (k = 0 ∨ at0 t.b (k - 1) < at0 t.b k)) → trtOk N t = false) := fun h => by
      rw [HT.out]
      rcases hq : trQ N t.b t.b.length with _ | _
      · rfl
      · exact absurd (trB_iff.1 (trQ_iff.1 hq k HLT.out)) h
    have HGD : Hid (0 ≤ at0 t.b k ∧ at0 t.b k < (N : Int) ∧ (k = 0 ∨ at0 t.b (k - 1) < at0 t.b k) → trQ N t.b (k + 1) = true) := fun h => by
      show (trQ N t.b k && trB N t.b k) = true
      rw [HOK.out, trB_iff.2 h]
      rfl
    have HPV : Hid (0 < k → (ovr W u).cell? ⟨b, o + (k - 1), none⟩ = some (I (at0 t.b (k - 1)))) := fun h0 => by
      obtain ⟨_, _, eb, _, e1⟩ := rd_int9 (k := k - 1) (HRD.out _ (HUW.out u)) (by have := HLT.out; omega)
      injection eb with eb
      injection eb with eb1 eb2
      subst eb1 eb2
      exact e1
    obtain ⟨v, hv⟩ : ∃ v, at0 t.b k = v := ⟨_, rfl⟩
    obtain ⟨pv, hpv⟩ : ∃ v, at0 t.b (k - 1) = v := ⟨_, rfl⟩
    rw [hv] at e0 HBAD HGD
    rw [hpv] at HBAD HGD HPV
    clear hk hv hpv
    go_upto_region 4 with fail
    have hbX := ovr_below W u
    obtain ⟨X, hX⟩ : ∃ X, X = ovr W u := ⟨_, rfl⟩
    rw [← hX] at hbX
    rw [← hX]
    have hX' := Lib.hid hX
    clear hX
    have hbX' := Lib.hid hbX
    have reX : ∀ v, ∃ x, ovr X v = ovr W x := fun v => ovr_reB hbX v
    replace yW00 := tr_cell reX yW00
    replace yW01 := tr_cell reX yW01
    replace yW02 := tr_cell reX yW02
    replace RrowW0 := Lib.hid (tr_row reX RrowW0.out)
    have HBX : Hid (∀ u, Below W.heap.size W (ovr X u)) := fun u => by obtain ⟨x, hx⟩ := reX u; rw [hx]; exact ovr_below _ _
    clear reX hbX
    have hkl : k < t.b.length := HLT.out
    have z0 := ovr_cell (show X.cell? ⟨b, o + k, none⟩ = some (I v) by rw [hX'.out]; exact e0)
    by_cases c1 : 0 ≤ v
    case neg =>
      have HF := Lib.hid (HBAD.out fun h => c1 h.1)
      have d1 : decide (v < 0) = true := decide_eq_true (by omega)
      clear c1
      refine Gg.wp_region_make (fun _ => none) (by kernel_rfl) (by kernel_rfl) (by kernel_rfl) ?_
      repeat (first | (refine Gg.wpG_one rfl rfl rfl ?_; intro K hK; go_big_quiet_op; go_big_quiet_on) | (refine Gg.wpG_skip rfl ?_; simp only [Act.put, List.setIfInBounds_toArray, List.set_cons_zero, List.set_cons_succ]))
      refine Gg.wpG_nil (fun w5 hw5 hG => ?_)
      clear hG
      have hw : Below X.heap.size X w5 := hw5.le
      rw [hX'.out] at hw
      have HBW := Lib.hid ((HUW.out u).trans (hw.mono (HUW.out u).size))
      obtain ⟨x5, rfl⟩ := ovr_next hw
      clear hw hw5
      go_wp2_with fail
      go_ret
      exact ⟨by rw [HF.out]; rfl, HBW.out⟩
    have d1 : decide (v < 0) = false := decide_eq_false (by omega)
    by_cases c2 : v < (N : Int)
    case neg =>
      have HF := Lib.hid (HBAD.out fun h => c2 h.2.1)
      have d2 : decide ((N : Int) ≤ v) = true := decide_eq_true (by omega)
      clear c1 c2
      refine Gg.wp_region_make (fun _ => none) (by kernel_rfl) (by kernel_rfl) (by kernel_rfl) ?_
      repeat (first | (refine Gg.wpG_one rfl rfl rfl ?_; intro K hK; go_big_quiet_op; go_big_quiet_on) | (refine Gg.wpG_skip rfl ?_; simp only [Act.put, List.setIfInBounds_toArray, List.set_cons_zero, List.set_cons_succ]))
      refine Gg.wpG_nil (fun w5 hw5 hG => ?_)
      clear hG
      have hw : Below X.heap.size X w5 := hw5.le
      rw [hX'.out] at hw
      have HBW := Lib.hid ((HUW.out u).trans (hw.mono (HUW.out u).size))
      obtain ⟨x5, rfl⟩ := ovr_next hw
      clear hw hw5
      go_wp2_with fail
      go_ret
      exact ⟨by rw [HF.out]; rfl, HBW.out⟩
    have d2 : decide ((N : Int) ≤ v) = false := decide_eq_false (by omega)
    by_cases hk0 : k = 0
    · have HN := Lib.hid (HGD.out ⟨c1, c2, .inl hk0⟩)
      have d3 : decide (0 < (k : Int)) = false := decide_eq_false (by omega)
      have d3n : decide (0 < k) = false := decide_eq_false (by omega)
      clear c1 c2 hk0
      refine Gg.wp_region_make (fun _ => none) (by kernel_rfl) (by kernel_rfl) (by kernel_rfl) ?_
      repeat (first | (refine Gg.wpG_one rfl rfl rfl ?_; intro K hK; go_big_quiet_op; go_big_quiet_on) | (refine Gg.wpG_skip rfl ?_; simp only [Act.put, List.setIfInBounds_toArray, List.set_cons_zero, List.set_cons_succ]))
      refine Gg.wpG_nil (fun w5 hw5 hG => ?_)
      clear hG
      have hw : Below X.heap.size X w5 := hw5.le
      rw [hX'.out] at hw
      have HBW := Lib.hid ((HUW.out u).trans (hw.mono (HUW.out u).size))
      obtain ⟨x5, rfl⟩ := ovr_next hw
      clear hw hw5
      go_wp2_with fail
      go_roundw
      case rel => exact ⟨k + 1, x5, HLT.out, by go_num, rfl, HN.out⟩
      case measure => have := HLT.out; simp [intOf]; omega
    have d3 : decide (0 < (k : Int)) = true := decide_eq_true (by omega)
    have d3n : decide (0 < k) = true := decide_eq_true (by omega)
    obtain ⟨m, hm⟩ : ∃ m, m = k - 1 := ⟨_, rfl⟩
    have km : IntKind.i64.wrap ((k : Int) - 1) = (m : Int) := (IntWalk.i64_in _ (by omega)).trans (by omega)
    have hml : m < t.b.length := by omega
    have f0 := HPV.out (by omega)
    rw [← hm] at f0
    have z1 := ovr_cell (show X.cell? ⟨b, o + m, none⟩ = some (I pv) by rw [hX'.out]; exact f0)
    have HK0 := Lib.hid hk0
    clear hm hk0
    by_cases c3 : pv < v
    · have HN := Lib.hid (HGD.out ⟨c1, c2, .inr c3⟩)
      have d4 : decide (v ≤ pv) = false := decide_eq_false (by omega)
      clear c1 c2 c3
      refine Gg.wp_region_make (fun _ => none) (by kernel_rfl) (by kernel_rfl) (by kernel_rfl) ?_
      repeat (first | (refine Gg.wpG_one rfl rfl rfl ?_; intro K hK; go_big_quiet_op; go_big_quiet_on) | (refine Gg.wpG_skip rfl ?_; simp only [Act.put, List.setIfInBounds_toArray, List.set_cons_zero, List.set_cons_succ]))
      refine Gg.wpG_nil (fun w5 hw5 hG => ?_)
      clear hG
      have hw : Below X.heap.size X w5 := hw5.le
      rw [hX'.out] at hw
      have HBW := Lib.hid ((HUW.out u).trans (hw.mono (HUW.out u).size))
      obtain ⟨x5, rfl⟩ := ovr_next hw
      clear hw hw5
      go_wp2_with fail
      go_roundw
      case rel => exact ⟨k + 1, x5, HLT.out, by go_num, rfl, HN.out⟩
      case measure => have := HLT.out; simp [intOf]; omega
    · have HF := Lib.hid (HBAD.out fun h => h.2.2.elim HK0.out c3)
      have d4 : decide (v ≤ pv) = true := decide_eq_true (by omega)
      clear c1 c2 c3
      refine Gg.wp_region_make (fun _ => none) (by kernel_rfl) (by kernel_rfl) (by kernel_rfl) ?_
      repeat (first | (refine Gg.wpG_one rfl rfl rfl ?_; intro K hK; go_big_quiet_op; go_big_quiet_on) | (refine Gg.wpG_skip rfl ?_; simp only [Act.put, List.setIfInBounds_toArray, List.set_cons_zero, List.set_cons_succ]))
      refine Gg.wpG_nil (fun w5 hw5 hG => ?_)
      clear hG
      have hw : Below X.heap.size X w5 := hw5.le
      rw [hX'.out] at hw
      have HBW := Lib.hid ((HUW.out u).trans (hw.mono (HUW.out u).size))
      obtain ⟨x5, rfl⟩ := ovr_next hw
      clear hw hw5
      go_wp2_with fail
      go_ret
      exact ⟨by rw [HF.out]; rfl, HBW.out⟩
end Go.Proofs.Ytljjpidigckheaa.Un
