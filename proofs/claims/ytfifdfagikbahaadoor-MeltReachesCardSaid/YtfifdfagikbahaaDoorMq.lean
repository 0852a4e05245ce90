/- The contract of Choices of package bouleref03. -/
import Derived.Test.YtfifdfagikbahaaDoorMp
namespace Go.Proofs.YtfifdfagikbahaaDoor
open Go.RowKit
/-- The least and the greatest choice of a step, as the reference has it. -/
def crF (x : Stp) (s : Nat) (d mass : Int) : Int × Int :=
  if x.kd = 1 ∧ x.ms = mass then (d, d) else if x.kd = 1 then (min d (d * (x.b (s * 2) * x.ms) / (10000 * mass)), min d (upF d (x.b (s * 2 + 1) * x.ms) (10000 * mass)))
  else if x.kd = 4 then (d * x.b (s * 2) / 10000, upF d (x.b (s * 2 + 1)) 10000) else (x.b (s * 2), x.b (s * 2 + 1))
theorem q_bd {d p c : Int} (hd : 0 ≤ d ∧ d ≤ 300000000000000) (hp : 0 ≤ p ∧ p ≤ 2 * c) (hc : 0 < c) : d * p / c ≤ 1000000000000000000 := by
  have h1 : d * p ≤ 300000000000000 * (2 * c) := Int.mul_le_mul hd.2 hp.2 hp.1 (by omega)
  have h2 : d * p / c ≤ 600000000000000 := by
    refine Int.ediv_le_of_le_mul hc ?_
    omega
  omega
theorem share_bd {q ms mass : Int} (hq : 0 ≤ q ∧ q ≤ 20000) (hm : 0 ≤ ms ∧ ms ≤ mass) (hmm : mass ≤ 1000000000) : 0 ≤ q * ms ∧ q * ms ≤ 2 * (10000 * mass) ∧ q * ms ≤ 20000000000000 := by
  have h0 := Int.mul_nonneg hq.1 hm.1
  have h1 : q * ms ≤ 20000 * mass := Int.mul_le_mul hq.2 hm.2 hm.1 (by omega)
  omega
set_option maxRecDepth 100000 in
set_option maxHeartbeats 4000000 in
theorem refChoices_any (x : Stp) (s : Nat) (d mass : Int) (w : World) (hx : isS x = true) (hs : s < 3) (hd : 0 ≤ d ∧ d ≤ 300000000000000) (hm : 0 ≤ mass ∧ mass ≤ 1000000000) (hxm : x.kd = 1 → x.ms ≤ mass) :
    Calls Tryd.prog 60 #[.agg (stpArr x), I s, I d, I mass] w fun e w' => e = .returned (.tuple #[I (crF x s d mass).1, I (crF x s d mass).2]) ∧ Below w.heap.size w w' := by
  obtain ⟨W, hW⟩ : ∃ W, W = w.alloc (.cells (stpArr x) 58) := ⟨_, rfl⟩
  have hb0 : Below w.heap.size w W := by rw [hW]; exact (Below.refl _ _).alloc (Nat.le_refl _) _
  have HB : Hid (Below w.heap.size w W ∧ w.heap.size ≤ W.heap.size) := ⟨hb0, hb0.size⟩
  have r0 : W.heap[w.heap.size]? = some (.cells (stpArr x) 58 (0, 0)) := by rw [hW]; exact heap_last _ _ _ rfl
  have ylo : W.cell? ⟨w.heap.size, 2 + s * 2, none⟩ = some (I (x.b (s * 2))) := by
    rw [cell_of_row _ _ _ _ _ _ r0]
    rcases s with _ | _ | _ | s
    · rfl
    · rfl
    · rfl
    · omega
  have yhi : W.cell? ⟨w.heap.size, 2 + s * 2 + 1, none⟩ = some (I (x.b (s * 2 + 1))) := by
    rw [cell_of_row _ _ _ _ _ _ r0]
    rcases s with _ | _ | _ | s
    · rfl
    · rfl
    · rfl
    · omega
  have hby := isS_by hx hs
  have hb4 : x.kd = 4 → x.b (s * 2 + 1) ≤ 10000 := fun h => by
    unfold isS at hx
    rw [if_neg (by omega), if_neg (by omega), if_neg (by omega), if_pos h, Bool.and_eq_true] at hx
    exact (bdB_at hx.2 hs).2.2
  have hms := isS_ms hx
  have hss : decide ((s : Int) < 3) = true := decide_eq_true (by omega)
  have hsn : decide (s < 3) = true := decide_eq_true hs
  have hs0 : decide (0 ≤ (s : Int)) = true := decide_eq_true (by omega)
  have Hf : Hid (crF x s d mass = if x.kd = 1 ∧ x.ms = mass then (d, d) else if x.kd = 1 then (min d (d * (x.b (s * 2) * x.ms) / (10000 * mass)), min d (upF d (x.b (s * 2 + 1) * x.ms) (10000 * mass)))
    else if x.kd = 4 then (d * x.b (s * 2) / 10000, upF d (x.b (s * 2 + 1)) 10000) else (x.b (s * 2), x.b (s * 2 + 1))) := rfl
  have HW := Lib.hid hW
  have Hr0 := Lib.hid r0
  have Hby := Lib.hid hby
  have Hb4 := Lib.hid hb4
  have Hms := Lib.hid hms
  have Hxm := Lib.hid hxm
  clear hW hb0 r0 hx hby hb4 hms hxm
  generalize x.b (s * 2) = lo at *
  generalize x.b (s * 2 + 1) = hi at *
  go_enter Tryd.func60, Tryd.ntmps60
  go_upto_region 1 with (fail)
  rw [← HW.out]
  go_upto_region 2 with (fail)
  obtain ⟨V, hV⟩ : ∃ V, V = W.alloc (.cells #[I lo, I hi] 23) := ⟨_, rfl⟩
  have hWV : Below W.heap.size W V := by rw [hV]; exact (Below.refl _ _).alloc (Nat.le_refl _) _
  have rV : V.heap[W.heap.size]? = some (.cells #[I lo, I hi] 23 (0, 0)) := by rw [hV]; exact heap_last _ _ _ rfl
  have rX : V.heap[w.heap.size]? = some (.cells (stpArr x) 58 (0, 0)) := (hWV.block _ (Array.getElem?_eq_some_iff.1 Hr0.out).1).trans Hr0.out
  have HC : Hid (∀ W', Below V.heap.size V W' → W'.cell? ⟨W.heap.size, 0, none⟩ = some (I lo) ∧ W'.cell? ⟨W.heap.size, 1, none⟩ = some (I hi) ∧ W'.cell? ⟨w.heap.size, 0, none⟩ = some (.int .u8 x.kd) ∧ W'.cell? ⟨w.heap.size, 1, none⟩ = some (I x.ms)) := fun W' h => by
    have h1 := (h.block _ (Array.getElem?_eq_some_iff.1 rV).1).trans rV
    have h2 := (h.block _ (Array.getElem?_eq_some_iff.1 rX).1).trans rX
    exact ⟨by rw [cell_of_row _ _ _ _ _ _ h1]; rfl, by rw [cell_of_row _ _ _ _ _ _ h1]; rfl, by rw [cell_of_row _ _ _ _ _ _ h2]; rfl, by rw [cell_of_row _ _ _ _ _ _ h2]; rfl⟩
  obtain ⟨q0, q1, y0, y1⟩ := HC.out V (Below.refl _ _)
  have HU : Hid (∀ w', Below V.heap.size V w' → Below w.heap.size w w') := fun w' h => HB.out.1.trans ((hWV.trans (h.mono hWV.size)).mono HB.out.2)
  rw [← hV]
  clear hV hWV rV rX ylo yhi hss hsn hs0 hs Hr0 HB
  by_cases h1 : x.kd = 1
  · have e1 : (x.kd == 1) = true := by simpa using h1
    by_cases h2 : x.ms = mass
    · have e2 : (x.ms == mass) = true := by simpa using h2
      have Hz : Hid (crF x s d mass = (d, d)) := by show _ = _; rw [Hf.out, if_pos ⟨h1, h2⟩]
      clear h1 h2
      go_wp2_with fail
      go_ret2
      exact ⟨by rw [Hz.out]; rfl, HU.out _ (Below.refl _ _)⟩
    · have e2 : (x.ms == mass) = false := by simpa using h2
      have Hz : Hid (crF x s d mass = (min d (d * (lo * x.ms) / (10000 * mass)), min d (upF d (hi * x.ms) (10000 * mass)))) := by show _ = _; rw [Hf.out, if_neg (fun h => h2 h.2), if_pos h1]
      have hb := Hby.out.2.2.1 (.inl h1)
      have hb0 := Hby.out.1
      have hb1 := Hby.out.2.1
      have hmm := Hxm.out h1
      have hm1 := Hms.out (.inl h1)
      have s1 := share_bd (q := lo) (ms := x.ms) (mass := mass) ⟨hb0, by omega⟩ ⟨by omega, hmm⟩ hm.2
      have s2 := share_bd (q := hi) (ms := x.ms) (mass := mass) ⟨by omega, hb⟩ ⟨by omega, hmm⟩ hm.2
      obtain ⟨P, hP⟩ : ∃ P : Nat, lo * x.ms = P := ⟨(lo * x.ms).toNat, by omega⟩
      obtain ⟨Q, hQ⟩ : ∃ Q : Nat, hi * x.ms = Q := ⟨(hi * x.ms).toNat, by omega⟩
      rw [hP] at s1
      rw [hQ] at s2
      rw [hP, hQ] at Hz
      have c1 : Hid (∀ W', Calls Tryd.prog 66 #[I d, I P, I (10000 * mass)] W' fun e w' => e = .returned (.tuple #[I (d * P / (10000 * mass)), .bool (decide (d * P % (10000 * mass) = 0))]) ∧ Below W'.heap.size W' w') := fun W' => ratio_any d (10000 * mass) P W' ⟨hd.1, by omega⟩ (by omega) ⟨by omega, by omega⟩ (q_bd hd ⟨by omega, s1.2.1⟩ (by omega))
      have c2 : Hid (∀ W', Calls Tryd.prog 67 #[I d, I Q, I (10000 * mass)] W' fun e w' => e = .returned (I (upF d Q (10000 * mass))) ∧ Below W'.heap.size W' w') := fun W' => up_any d (10000 * mass) Q W' ⟨hd.1, by omega⟩ (by omega) ⟨by omega, by omega⟩ (q_bd hd ⟨by omega, s2.2.1⟩ (by omega))
      have w1 : IntKind.i64.wrap (lo * x.ms) = P := by rw [hP]; exact IntWalk.i64_in _ (by omega)
      have w2 : IntKind.i64.wrap (hi * x.ms) = Q := by rw [hQ]; exact IntWalk.i64_in _ (by omega)
      have w3 : IntKind.i64.wrap (10000 * mass) = 10000 * mass := IntWalk.i64_in _ (by omega)
      clear h1 h2 hb hb0 hb1 hmm hm1 s1 s2 hP hQ Hf
      go_wp2_with fail
      refine (c1.out _).mono ?_
      rintro e v1 ⟨rfl, hv1⟩
      have Hv1 := Lib.hid hv1
      obtain ⟨q0, q1, y0, y1⟩ := HC.out v1 hv1
      clear hv1
      go_wp2_with fail
      refine (c2.out _).mono ?_
      rintro e v2 ⟨rfl, hv2⟩
      have HF := Lib.hid (HU.out _ (Hv1.out.trans (hv2.mono Hv1.out.size)))
      generalize d * P / (10000 * mass) = n1 at *
      generalize upF d Q (10000 * mass) = n2 at *
      clear hv2 q0 q1 y0 y1
      go_wp2_with fail
      go_ret2
      exact ⟨by rw [Hz.out]; rfl, HF.out⟩
  · have e1 : (x.kd == 1) = false := by simpa using h1
    by_cases h4 : x.kd = 4
    · have e4 : (x.kd == 4) = true := by simpa using h4
      have Hz : Hid (crF x s d mass = (d * lo / 10000, upF d hi 10000)) := by show _ = _; rw [Hf.out, if_neg (fun h => h1 h.1), if_neg h1, if_pos h4]
      have hb := Hb4.out h4
      have hb0 := Hby.out.1
      have hb1 := Hby.out.2.1
      obtain ⟨P, rfl⟩ : ∃ P : Nat, lo = P := ⟨lo.toNat, by omega⟩
      obtain ⟨Q, rfl⟩ : ∃ Q : Nat, hi = Q := ⟨hi.toNat, by omega⟩
      have c1 : Hid (∀ W', Calls Tryd.prog 66 #[I d, I P, I 10000] W' fun e w' => e = .returned (.tuple #[I (d * P / 10000), .bool (decide (d * P % 10000 = 0))]) ∧ Below W'.heap.size W' w') := fun W' => ratio_any d 10000 P W' ⟨hd.1, by omega⟩ (by omega) ⟨by omega, by omega⟩ (q_bd hd ⟨by omega, by omega⟩ (by omega))
      have c2 : Hid (∀ W', Calls Tryd.prog 67 #[I d, I Q, I 10000] W' fun e w' => e = .returned (I (upF d Q 10000)) ∧ Below W'.heap.size W' w') := fun W' => up_any d 10000 Q W' ⟨hd.1, by omega⟩ (by omega) ⟨by omega, by omega⟩ (q_bd hd ⟨by omega, by omega⟩ (by omega))
      clear h1 h4 hb hb0 hb1 Hf
      go_wp2_with fail
      refine (c1.out _).mono ?_
      rintro e v1 ⟨rfl, hv1⟩
      have Hv1 := Lib.hid hv1
      obtain ⟨q0, q1, y0, y1⟩ := HC.out v1 hv1
      clear hv1
      go_wp2_with fail
      refine (c2.out _).mono ?_
      rintro e v2 ⟨rfl, hv2⟩
      have HF := Lib.hid (HU.out _ (Hv1.out.trans (hv2.mono Hv1.out.size)))
      clear hv2 q0 q1 y0 y1
      go_wp2_with fail
      go_ret2
      exact ⟨by rw [Hz.out]; rfl, HF.out⟩
    · have e4 : (x.kd == 4) = false := by simpa using h4
      have Hz : Hid (crF x s d mass = (lo, hi)) := by show _ = _; rw [Hf.out, if_neg (fun h => h1 h.1), if_neg h1, if_neg h4]
      have v2 := ovr_cell q0
      have v3 := ovr_cell q1
      clear h1 h4 Hf
      go_upto_region 11 with (fail)
      refine wp_region_below_lit (by kernel_rfl) (by kernel_rfl) ?_
      repeat (go_big_quiet_step (fail))
      refine wpQuiet_nil ?_
      intro w' hb
      have Hb := Lib.hid hb
      clear hb v2 v3 y0 y1 q0 q1
      go_wp2_with fail
      go_ret2
      exact ⟨by rw [Hz.out]; rfl, HU.out _ Hb.out⟩
end Go.Proofs.YtfifdfagikbahaaDoor
