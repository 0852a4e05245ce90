/- The contracts of Grown and Reached of the reference, and of long of the statements' package. -/
import Derived.Test.YtlebefopdnadaaaFp
namespace Go.Proofs.Ytlebefopdnadaaa
open Go.RowKit
set_option maxRecDepth 100000 in
set_option maxHeartbeats 1000000 in
theorem refGrown_any (A1 A2 A3 : Option Addr) (c1 c2 c3 : Nat) (R : Run) (a b : Int) (w : World) (h : RunIn w A1 A2 A3 R) :
    Calls Try.prog 21 #[runV A1 A2 A3 c1 c2 c3 R, I a, I b] w fun e w' => e = .returned (.tuple #[I (grownN R a b), I (grownE R a b)]) ∧ Below w.heap.size w w' := by
  obtain ⟨W1, hW1⟩ : ∃ W1, W1 = w.alloc (.cells #[.slice A1 R.ss.length c1, I R.e, .slice A2 R.ms.length c2, .slice A3 R.es.length c3] 35) := ⟨_, rfl⟩
  have HX : Hid (∀ W, Le W1 W → (W.cell? ⟨w.heap.size, 0, none⟩ = some (.slice A1 R.ss.length c1) ∧ W.cell? ⟨w.heap.size, 1, none⟩ = some (I R.e) ∧ W.cell? ⟨w.heap.size, 2, none⟩ = some (.slice A2 R.ms.length c2) ∧ W.cell? ⟨w.heap.size, 3, none⟩ = some (.slice A3 R.es.length c3)) ∧ RunIn W A1 A2 A3 R ∧ Below w.heap.size w W) := fun W hW => box_run h hW1 hW
  have HW := Lib.hid hW1
  clear h hW1
  go_enter Try.func21, Try.ntmps21
  go_wp2_with fail
  rw [← HW.out]
  refine (refRun_any A1 A2 A3 c1 c2 c3 R W1 (HX.out W1 (Le.refl _)).2.1).mono ?_
  rintro e w1 ⟨rfl, hb1⟩
  have L1 : Hid (Le W1 w1) := hb1
  clear hb1
  obtain ⟨⟨x0, x1, x2, x3⟩, hin, hbe⟩ := HX.out w1 L1.out
  have Hin := Lib.hid hin
  have Hb := Lib.hid hbe
  clear hin hbe
  rcases hok : okRun R with _ | _
  · have e1 : Hid (grownE R a b = 2) := by show grownE R a b = 2; simp [grownE, hok]
    have e2 : Hid (grownN R a b = 0) := by show grownN R a b = 0; simp [grownN, e1.out]
    clear hok
    go_wp2_with fail
    go_ret2
    exact ⟨by rw [e1.out, e2.out]; rfl, Hb.out⟩
  · have hv := Lib.hid ((vRun_iff R).1 hok)
    by_cases hr : a < 0 ∨ b < a ∨ R.e < b
    · have e1 : Hid (grownE R a b = 3) := by show grownE R a b = 3; simp [grownE, hok, hr]
      have e2 : Hid (grownN R a b = 0) := by show grownN R a b = 0; simp [grownN, e1.out]
      clear hok
      have hcs : Hid (∀ P : Prop, (a < 0 → P) → (0 ≤ a → b < a → P) → (0 ≤ a → a ≤ b → R.e < b → P) → P) := fun P k1 k2 k3 => by
        by_cases q1 : a < 0
        · exact k1 q1
        · by_cases q2 : b < a
          · exact k2 (by omega) q2
          · exact k3 (by omega) (by omega) (by omega)
      clear hr
      refine hcs.out _ (fun q1 => ?_) (fun q1 q2 => ?_) (fun q1 q2 q3 => ?_)
      all_goals
        clear hcs
        go_wp2_with fail
        go_ret2
        exact ⟨by rw [e1.out, e2.out]; rfl, Hb.out⟩
    · have e1 : Hid (grownE R a b = 0) := by show grownE R a b = 0; simp [grownE, hok]; omega
      have e2 : Hid (grownN R a b = placeR R b - placeR R a) := by show grownN R a b = _; simp [grownN, e1.out]
      have hr' : 0 ≤ a ∧ a ≤ b ∧ b ≤ R.e := by omega
      obtain ⟨r1, r2, r3⟩ := hr'
      clear hr hok
      have hl := hv.out.last
      have p1 := placeR_bd hv.out (t := a) r1
      have p2 := placeR_bd hv.out (t := b) (by omega)
      have y0 := ovr_cell x0
      have y1 := ovr_cell x1
      have y2 := ovr_cell x2
      have y3 := ovr_cell x3
      go_wp2_with fail
      refine wp_region_below_lit (by kernel_rfl) (by kernel_rfl) ?_
      repeat (go_big_quiet_step ((go_at_call 52; exact call_below (refPlace_any _ _ _ _ _ _ R _ _ (Hin.out.below (ovr_below _ _)) hv.out (by omega) (by omega)))))
      refine wpQuiet_nil ?_
      intro w2 hb2
      have H2 : Hid (Below w.heap.size w w2) := (HX.out w2 (L1.out.trans hb2)).2.2
      clear hb2 y0 y1 y2 y3 x0 x1 x2 x3
      go_wp2_with fail
      go_ret2
      exact ⟨by rw [e1.out, e2.out]; rfl, H2.out⟩
theorem reach_in {R : Run} (h : VRun R) {L : Int} (l1 : 0 ≤ L) (l2 : L ≤ 100000000000) : reachE R L = if L = 0 then 0 else if ixOf (hits L) (pcs R) < 0 then 7 else 0 := by
  have hok : okRun R = true := (vRun_iff R).2 h
  have hin : inB 100000000000 [L] = true := (inB_iff _ _).2 (by intro x hx; obtain rfl : x = L := by simpa using hx
                                                                exact ⟨l1, l2⟩)
  simp [reachE, hok, hin]
theorem reach_val {R : Run} (h : VRun R) {L : Int} (l1 : 0 ≤ L) (l2 : L ≤ 100000000000) {t : Int} (t0 : 0 ≤ t) (t1 : t ≤ R.e) (hp : L ≤ placeR R t) (hs : ∀ s, 0 ≤ s → s < t → placeR R s < L) : reachE R L = 0 ∧ reachN R L = t := by
  have he := reach_in h l1 l2
  by_cases hz : L = 0
  · rw [if_pos hz] at he
    refine ⟨he, ?_⟩
    rw [reachN, if_pos he, if_pos hz]
    rcases Int.lt_or_le 0 t with hq | hq
    · have := hs 0 (Int.le_refl _) hq
      rw [placeR_zero h] at this
      omega
    · omega
  · rw [if_neg hz] at he
    by_cases hx : ixOf (hits L) (pcs R) < 0
    · have := reach_none h (show 1 ≤ L by omega) hx t0 t1
      omega
    · rw [if_neg hx] at he
      obtain ⟨f1, f2, f3, f4⟩ := reach_first h (show 1 ≤ L by omega) hx
      refine ⟨he, ?_⟩
      rw [reachN, if_pos he, if_neg hz]
      generalize reachAt L (at0 (pcs R) (ixOf (hits L) (pcs R)).toNat) = q at *
      rcases Int.lt_or_le q t with hq | hq
      · have := hs q f1 hq
        omega
      · rcases Int.lt_or_le t q with hq2 | hq2
        · have := f4 t t0 hq2
          omega
        · omega
theorem reach_no {R : Run} (h : VRun R) {L : Int} (l1 : 0 ≤ L) (l2 : L ≤ 100000000000) (hs : ∀ s, 0 ≤ s → s ≤ R.e → placeR R s < L) : reachE R L = 7 ∧ reachN R L = 0 := by
  have he := reach_in h l1 l2
  have hn := h.n1
  have h0 := h.tlt 0 (by omega)
  rw [h.first] at h0
  have hp := hs 0 (Int.le_refl _) (by omega)
  rw [placeR_zero h] at hp
  rw [if_neg (by omega)] at he
  by_cases hx : ixOf (hits L) (pcs R) < 0
  · rw [if_pos hx] at he
    exact ⟨he, by rw [reachN, if_neg (by omega)]⟩
  · obtain ⟨f1, f2, f3, f4⟩ := reach_first h (show 1 ≤ L by omega) hx
    have := hs _ f1 f2
    omega
set_option maxRecDepth 100000 in
set_option maxHeartbeats 1000000 in
theorem refReached_any (A1 A2 A3 : Option Addr) (c1 c2 c3 : Nat) (R : Run) (L : Int) (w : World) (h : RunIn w A1 A2 A3 R) :
    Calls Try.prog 22 #[runV A1 A2 A3 c1 c2 c3 R, I L] w fun e w' => e = .returned (.tuple #[I (reachN R L), I (reachE R L)]) ∧ Below w.heap.size w w' := by
  obtain ⟨W1, hW1⟩ : ∃ W1, W1 = w.alloc (.cells #[.slice A1 R.ss.length c1, I R.e, .slice A2 R.ms.length c2, .slice A3 R.es.length c3] 35) := ⟨_, rfl⟩
  have HX : Hid (∀ W, Le W1 W → (W.cell? ⟨w.heap.size, 0, none⟩ = some (.slice A1 R.ss.length c1) ∧ W.cell? ⟨w.heap.size, 1, none⟩ = some (I R.e) ∧ W.cell? ⟨w.heap.size, 2, none⟩ = some (.slice A2 R.ms.length c2) ∧ W.cell? ⟨w.heap.size, 3, none⟩ = some (.slice A3 R.es.length c3)) ∧ RunIn W A1 A2 A3 R ∧ Below w.heap.size w W) := fun W hW => box_run h hW1 hW
  have HW := Lib.hid hW1
  clear h hW1
  go_enter Try.func22, Try.ntmps22
  go_wp2_with fail
  rw [← HW.out]
  refine (refRun_any A1 A2 A3 c1 c2 c3 R W1 (HX.out W1 (Le.refl _)).2.1).mono ?_
  rintro e w1 ⟨rfl, hb1⟩
  have L1 : Hid (Le W1 w1) := hb1
  clear hb1
  obtain ⟨_, _, hbe⟩ := HX.out w1 L1.out
  have Hb := Lib.hid hbe
  clear hbe
  rcases hok : okRun R with _ | _
  · have e1 : Hid (reachE R L = 2) := by show reachE R L = 2; simp [reachE, hok]
    have e2 : Hid (reachN R L = 0) := by show reachN R L = 0; simp [reachN, e1.out]
    clear hok
    go_wp2_with fail
    go_ret2
    exact ⟨by rw [e1.out, e2.out]; rfl, Hb.out⟩
  have Hok := Lib.hid hok
  have Hv := Lib.hid ((vRun_iff R).1 hok)
  clear hok
  go_wp2_with fail
  refine (within_any _ _ _ _).mono ?_
  rintro e w2 ⟨rfl, hb2⟩
  have L2 : Hid (Le W1 w2) := L1.out.trans hb2
  clear hb2
  rcases hin : wiB L 0 100000000000 with _ | _
  · have hq : inB 100000000000 [L] = false := by
      cases hz : inB 100000000000 [L] with
      | false => rfl
      | true => have := (inB_iff _ _).1 hz L (by simp); rw [wiB_iff.2 this] at hin; cases hin
    have e1 : Hid (reachE R L = 3) := by show reachE R L = 3; simp [reachE, Hok.out, hq]
    have e2 : Hid (reachN R L = 0) := by show reachN R L = 0; simp [reachN, e1.out]
    have H2 : Hid (Below w.heap.size w w2) := (HX.out w2 L2.out).2.2
    clear hin hq
    go_wp2_with fail
    go_ret2
    exact ⟨by rw [e1.out, e2.out]; rfl, H2.out⟩
  have HL := Lib.hid (wiB_iff.1 hin)
  have hl := Hv.out.last
  have hl0 : 0 < R.e := by have := Hv.out.tlt 0 (by have := Hv.out.n1; omega); rwa [Hv.out.first] at this
  clear hin
  go_wp2_with fail
  go_loopw [6] (fun i wr => ∃ t : Int, 0 ≤ t ∧ t ≤ R.e + 1 ∧ i = I t ∧ (∀ s, 0 ≤ s → s < t → placeR R s < L) ∧ Le W1 wr) (fun i _ => (R.e + 1 - intOf i).toNat)
  case atStart => exact ⟨0, by omega, by omega, rfl, fun s h1 h2 => absurd h2 (by omega), L2.out⟩
  case round =>
    obtain ⟨t, t0, t1, rfl, hs, hbw⟩ := hrel
    have Hs := Lib.hid hs
    have HB := Lib.hid hbw
    clear hs hbw
    obtain ⟨⟨x0, x1, x2, x3⟩, hin, hbe⟩ := HX.out wr HB.out
    have Hin := Lib.hid hin
    have Hb2 := Lib.hid hbe
    clear hin hbe
    by_cases hlt : t ≤ R.e
    · go_wp2_with fail
      refine (refPlace_any A1 A2 A3 c1 c2 c3 R t wr Hin.out Hv.out t0 hlt).mono ?_
      rintro e w3 ⟨rfl, hb3⟩
      have L3 : Hid (Le W1 w3) := HB.out.trans hb3
      have H3 : Hid (Below w.heap.size w w3) := (HX.out w3 L3.out).2.2
      clear hb3
      by_cases hp : L ≤ placeR R t
      · have hr := reach_val Hv.out HL.out.1 HL.out.2 t0 hlt hp Hs.out
        have Hr := Lib.hid hr
        clear hr
        go_wp2_with fail
        go_ret2
        exact ⟨by rw [Hr.out.1, Hr.out.2]; rfl, H3.out⟩
      · have hn : Hid (∀ s, 0 ≤ s → s < t + 1 → placeR R s < L) := fun s s0 s1 => by
          rcases Int.lt_or_le s t with hq | hq
          · exact Hs.out s s0 hq
          · obtain rfl : s = t := by omega
            omega
        go_wp2_with fail
        go_roundw
        case rel => exact ⟨t + 1, by omega, by omega, rfl, hn.out, L3.out⟩
        case measure => simp [intOf]; omega
    · have hr := reach_no Hv.out HL.out.1 HL.out.2 (fun s s0 s1 => Hs.out s s0 (by omega))
      have Hr := Lib.hid hr
      clear hr
      go_wp2_with fail
      go_ret2
      exact ⟨by rw [Hr.out.1, Hr.out.2]; rfl, Hb2.out⟩
end Go.Proofs.Ytlebefopdnadaaa
