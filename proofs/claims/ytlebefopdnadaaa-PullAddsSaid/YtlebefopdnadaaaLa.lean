/- The law PullAdds holds of every run and times: the walk of the statement's function. -/
import Derived.Test.YtlebefopdnadaaaAd
namespace Go.Proofs.Ytlebefopdnadaaa
open Go.RowKit
abbrev U (n : Int) : Value := .int .u16 n
set_option maxRecDepth 100000 in
set_option maxHeartbeats 1000000 in
theorem pullAdds_any (A1 A2 A3 : Option Addr) (c1 c2 c3 : Nat) (R : Run) (n0 n1 n2 : Int) (b0 : 0 ≤ n0 ∧ n0 ≤ 65535) (b1 : 0 ≤ n1 ∧ n1 ≤ 65535) (b2 : 0 ≤ n2 ∧ n2 ≤ 65535) (w : World) (h1 : Rd w w.heap.size 8 A1 R.ss.length (rS R.ss)) (h2 : Rd w w.heap.size 3 A2 R.ms.length (rM R.ms)) (h3 : Rd w w.heap.size 2 A3 R.es.length (rE R.es)) :
    Calls Try.prog 11 #[runV A1 A2 A3 c1 c2 c3 R, .agg #[U n0, U n1, U n2]] w fun e w' => e = .returned (.bool true) ∧ Below w.heap.size w w' := by
  obtain ⟨W0, hW0⟩ : ∃ W0, W0 = w.alloc (.cells #[.slice A1 R.ss.length c1, I R.e, .slice A2 R.ms.length c2, .slice A3 R.es.length c3] 35) := ⟨_, rfl⟩
  obtain ⟨W1, hW1⟩ : ∃ W1, W1 = W0.alloc (.cells #[U n0, U n1, U n2] 97) := ⟨_, rfl⟩
  have HL0 : Hid (Le W0 W1) := by show Below _ _ _; rw [hW1]; exact (Below.refl _ _).alloc (Nat.le_refl _) _
  have HU : Hid (∀ W, Le W1 W → Below w.heap.size w W) := fun W hW => by have := HL0.out.trans hW; rw [hW0] at this; exact under2 this
  have hz0 : W0.heap.size = w.heap.size + 1 := by rw [hW0]; simp
  have HT : Hid (∀ W, Le W1 W → W.cell? ⟨w.heap.size + 1, 0, none⟩ = some (U n0) ∧ W.cell? ⟨w.heap.size + 1, 1, none⟩ = some (U n1) ∧ W.cell? ⟨w.heap.size + 1, 2, none⟩ = some (U n2)) := fun W hW => by
    have hr : W.heap[w.heap.size + 1]? = some (.cells #[U n0, U n1, U n2] 97 (0, 0)) := (Below.block hW _ (by rw [hW1]; simp; omega)).trans (by rw [hW1, ← hz0]; exact heap_last _ _ _ rfl)
    exact ⟨by rw [cell_of_row _ _ _ _ _ _ hr]; rfl, by rw [cell_of_row _ _ _ _ _ _ hr]; rfl, by rw [cell_of_row _ _ _ _ _ _ hr]; rfl⟩
  have HR : Hid (∀ W, Le W1 W → Rd W W.heap.size 8 A1 R.ss.length (rS R.ss) ∧ Rd W W.heap.size 3 A2 R.ms.length (rM R.ms) ∧ Rd W W.heap.size 2 A3 R.es.length (rE R.es)) := fun W hW => by
    have hb := HU.out W hW
    exact ⟨(h1.below hb).more hb.size, (h2.below hb).more hb.size, (h3.below hb).more hb.size⟩
  have HX : Hid (∀ W, Le W1 W → W.cell? ⟨w.heap.size, 0, none⟩ = some (.slice A1 R.ss.length c1) ∧ W.cell? ⟨w.heap.size, 1, none⟩ = some (I R.e) ∧ W.cell? ⟨w.heap.size, 2, none⟩ = some (.slice A2 R.ms.length c2) ∧ W.cell? ⟨w.heap.size, 3, none⟩ = some (.slice A3 R.es.length c3)) := fun W hW => by
    have hr : W.heap[w.heap.size]? = some (.cells #[.slice A1 R.ss.length c1, I R.e, .slice A2 R.ms.length c2, .slice A3 R.es.length c3] 35 (0, 0)) := (Below.block (HL0.out.trans hW) _ (by rw [hW0]; simp)).trans (by rw [hW0]; exact heap_last _ _ _ rfl)
    exact ⟨by rw [cell_of_row _ _ _ _ _ _ hr]; rfl, by rw [cell_of_row _ _ _ _ _ _ hr]; rfl, by rw [cell_of_row _ _ _ _ _ _ hr]; rfl, by rw [cell_of_row _ _ _ _ _ _ hr]; rfl⟩
  have HW : Hid (W1 = (w.alloc (.cells #[.slice A1 R.ss.length c1, I R.e, .slice A2 R.ms.length c2, .slice A3 R.es.length c3] 35)).alloc (.cells #[U n0, U n1, U n2] 97)) := by show _ = _; rw [hW1, hW0]
  clear h1 h2 h3 hW0 hW1 hz0
  by_cases hlen : R.ss.length ≤ 60 ∧ R.ms.length ≤ 100 ∧ R.es.length ≤ 20
  case neg =>
    have HC : Hid (∀ P : Prop, (60 < R.ss.length → P) → (R.ss.length ≤ 60 → 100 < R.ms.length → P) → (R.ss.length ≤ 60 → R.ms.length ≤ 100 → 20 < R.es.length → P) → P) := fun P a b c => by
      by_cases q1 : 60 < R.ss.length
      · exact a q1
      · by_cases q2 : 100 < R.ms.length
        · exact b (by omega) q2
        · exact c (by omega) (by omega) (by omega)
    clear hlen b0 b1 b2
    refine HC.out _ (fun q1 => ?_) (fun q1 q2 => ?_) (fun q1 q2 q3 => ?_)
    all_goals
      clear HC
      go_enter Try.func11, Try.ntmps11
      go_wp2_with fail
      rw [← HW.out]
      refine (known_any W1).mono ?_
      rintro e W5 ⟨rfl, hb5⟩
      have L5 : Hid (Below w.heap.size w W5) := HU.out _ hb5
      clear hb5
      go_wp2_with fail
      go_ret
      exact ⟨rfl, L5.out⟩
  obtain ⟨l1, l2, l3⟩ := hlen
  have HI : Hid (∀ W, Le W1 W → RunIn W A1 A2 A3 R) := fun W hW => by
    obtain ⟨r1, r2, r3⟩ := HR.out W hW
    exact ⟨r1, r2, r3, by omega, by omega, by omega⟩
  have B0 := Lib.hid b0
  have B1 := Lib.hid b1
  have B2 := Lib.hid b2
  clear b0 b1 b2
  go_enter Try.func11, Try.ntmps11
  go_wp2_with fail
  rw [← HW.out]
  refine (own_any _ _ _ _ _ _ R W1 (HI.out _ (Le.refl _))).mono ?_
  rintro e W2 ⟨B1', B2', B3', d1, d2, d3, rfl, hr, _, hb⟩
  have L2 : Hid (Le W1 W2) := hb
  have Hr := Lib.hid hr
  clear hb hr
  go_wp2_with fail
  refine (checkRun_any _ _ _ _ _ _ R W2 Hr.out).mono ?_
  rintro e W3 ⟨rfl, hb⟩
  have L3 : Hid (Le W1 W3) := L2.out.trans hb
  clear hb Hr
  obtain ⟨x0, x1, x2, x3⟩ := HX.out W3 L3.out
  rcases hok : okRun R with _ | _
  · rw [show er false = 2 from rfl]
    clear hok
    go_wp2_with fail
    refine (known_any W3).mono ?_
    rintro e W5 ⟨rfl, hb5⟩
    have L5 : Hid (Below w.heap.size w W5) := HU.out _ (L3.out.trans hb5)
    clear hb5 x0 x1 x2 x3
    go_wp2_with fail
    go_ret
    exact ⟨rfl, L5.out⟩
  have Hv := Lib.hid ((vRun_iff R).1 hok)
  rw [show er true = 0 from rfl]
  clear hok
  have e1 : 1 ≤ R.e := by have := Hv.out.tlt 0 (by have := Hv.out.n1; omega); rw [Hv.out.first] at this; omega
  have e2 : R.e ≤ 100000 := Hv.out.last
  obtain ⟨t0, t1, t2⟩ := HT.out W3 L3.out
  have y1 := ovr_cell x1
  have z0 := ovr_cell t0
  have z1 := ovr_cell t1
  have z2 := ovr_cell t2
  have b0 := B0.out
  have b1 := B1.out
  have b2 := B2.out
  go_wp2_with fail
  refine wp_region_below_lit (by kernel_rfl) (by kernel_rfl) ?_
  repeat (go_big_quiet_step (fail))
  refine wpQuiet_nil ?_
  intro W4 hb4
  have L4 : Hid (Le W1 W4) := L3.out.trans hb4
  have g0 : 0 ≤ n0 % (R.e + 1) ∧ n0 % (R.e + 1) ≤ R.e := ⟨Int.emod_nonneg _ (by omega), by have := Int.emod_lt_of_pos n0 (show 0 < R.e + 1 by omega); omega⟩
  have g1 : 0 ≤ n1 % (R.e + 1) ∧ n1 % (R.e + 1) ≤ R.e := ⟨Int.emod_nonneg _ (by omega), by have := Int.emod_lt_of_pos n1 (show 0 < R.e + 1 by omega); omega⟩
  have g2 : 0 ≤ n2 % (R.e + 1) ∧ n2 % (R.e + 1) ≤ R.e := ⟨Int.emod_nonneg _ (by omega), by have := Int.emod_lt_of_pos n2 (show 0 < R.e + 1 by omega); omega⟩
  generalize n0 % (R.e + 1) = a at *
  generalize n1 % (R.e + 1) = b at *
  generalize n2 % (R.e + 1) = c at *
  clear hb4 x0 x1 x2 x3 t0 t1 t2 y1 z0 z1 z2 b0 b1 b2
  go_upto_region 6 with (fail)
  have e3 : (if c < a then c else a) = min a c := by split <;> omega
  have e4 : (if a < c then c else a) = max a c := by split <;> omega
  have e5 : (if max a c < b then max a c else b) = min b (max a c) := by split <;> omega
  have e6 : (if min a c < min b (max a c) then min b (max a c) else min a c) = max (min a c) (min b (max a c)) := by split <;> omega
  simp only [e3, e4, e5, e6]
  have m0 : 0 ≤ min a c := by omega
  have m1 : min a c ≤ max (min a c) (min b (max a c)) := by omega
  have m2 : max (min a c) (min b (max a c)) ≤ max a c := by omega
  have m3 : max a c ≤ R.e := by omega
  clear e3 e4 e5 e6 g0 g1 g2
  generalize max (min a c) (min b (max a c)) = q at *
  generalize min b (max a c) = q2 at *
  generalize min a c = p at *
  generalize max a c = r at *
  have G1 := Lib.hid (grown_at Hv.out m0 m1 (by omega))
  have G2 := Lib.hid (grown_at Hv.out (a := q) (b := r) (by omega) m2 (by omega))
  have G3 := Lib.hid (grown_at Hv.out (a := p) (b := r) (by omega) (by omega) (by omega))
  have G4 := Lib.hid (grown_at Hv.out (a := 0) (b := r) (by omega) (by omega) (by omega))
  have P1 := Lib.hid (placeR_mono Hv.out m0 m1 (by omega))
  have P2 := Lib.hid (placeR_mono Hv.out (s := q) (t := r) (by omega) m2 (by omega))
  have P3 := Lib.hid (placeR_bd Hv.out (t := p) (by omega))
  have P4 := Lib.hid (placeR_bd Hv.out (t := r) (by omega))
  have Hz := Lib.hid (placeR_zero Hv.out)
  have RH := Lib.hid (reach_here Hv.out (c := r) (by omega) m3)
  have RM := Lib.hid (reach_more Hv.out (c := r) (by omega) m3)
  obtain ⟨x0, x1, x2, x3⟩ := HX.out W4 L4.out
  go_wp2_with fail
  refine (own_any _ _ _ _ _ _ R W4 (HI.out _ L4.out)).mono ?_
  rintro e W5 ⟨D1, D2, D3, d1, d2, d3, rfl, hr, _, hb⟩
  have L5 : Hid (Le W1 W5) := L4.out.trans hb
  have Hr := Lib.hid hr
  clear hb hr x0 x1 x2 x3
  go_wp2_with fail
  refine (grown_any D1 D2 D3 d1 d2 d3 R _ _ W5 Hr.out).mono ?_
  rintro e W6 ⟨rfl, hb⟩
  have L6 : Hid (Le W1 W6) := L5.out.trans hb
  clear hb Hr
  rw [G1.out.1, G1.out.2]
  obtain ⟨x0, x1, x2, x3⟩ := HX.out W6 L6.out
  go_wp2_with fail
  refine (own_any _ _ _ _ _ _ R W6 (HI.out _ L6.out)).mono ?_
  rintro e W7 ⟨D1, D2, D3, d1, d2, d3, rfl, hr, _, hb⟩
  have L7 : Hid (Le W1 W7) := L6.out.trans hb
  have Hr := Lib.hid hr
  clear hb hr x0 x1 x2 x3
  go_wp2_with fail
  refine (grown_any D1 D2 D3 d1 d2 d3 R _ _ W7 Hr.out).mono ?_
  rintro e W8 ⟨rfl, hb⟩
  have L8 : Hid (Le W1 W8) := L7.out.trans hb
  clear hb Hr
  rw [G2.out.1, G2.out.2]
  obtain ⟨x0, x1, x2, x3⟩ := HX.out W8 L8.out
  go_wp2_with fail
  refine (own_any _ _ _ _ _ _ R W8 (HI.out _ L8.out)).mono ?_
  rintro e W9 ⟨D1, D2, D3, d1, d2, d3, rfl, hr, _, hb⟩
  have L9 : Hid (Le W1 W9) := L8.out.trans hb
  have Hr := Lib.hid hr
  clear hb hr x0 x1 x2 x3
  go_wp2_with fail
  refine (grown_any D1 D2 D3 d1 d2 d3 R _ _ W9 Hr.out).mono ?_
  rintro e W10 ⟨rfl, hb⟩
  have L10 : Hid (Le W1 W10) := L9.out.trans hb
  clear hb Hr
  rw [G3.out.1, G3.out.2]
  have q1 := P1.out
  have q2' := P2.out
  have q3 := P3.out.1
  have q4 := P4.out.2
  have HN : Hid (grownE R 0 r = 0 ∧ grownN R 0 r = placeR R r) := ⟨G4.out.1, by rw [G4.out.2, Hz.out, Int.sub_zero]⟩
  have T0 := RH.out.2.1
  have T1 := RH.out.2.2.1
  have HE := Lib.hid RH.out.1
  have HT1 : Hid (∀ t, t = reachN R (placeR R r) → (placeR R r ≤ placeR R t ∧ (0 < t → placeR R (t - 1) < placeR R r) ∧ (t = 0 → placeR R r = 0))) := fun t ht => by subst ht; exact ⟨RH.out.2.2.2.1, RH.out.2.2.2.2.1, RH.out.2.2.2.2.2⟩
  have HGt : Hid (∀ t, 0 ≤ t → t ≤ R.e → grownE R 0 t = 0 ∧ grownN R 0 t = placeR R t) := fun t h0 h1 => by
    have := grown_at Hv.out (a := 0) (b := t) (by omega) h0 h1
    exact ⟨this.1, by rw [this.2, Hz.out, Int.sub_zero]⟩
  clear P1 P2 P3 P4 G1 G2 G3 G4
  have HPr : Hid (∃ n, n = placeR R r) := ⟨_, rfl⟩
  generalize hn : placeR R r = n at *
  generalize placeR R q = nq at *
  generalize placeR R p = np at *
  have Hn := Lib.hid hn
  clear hn
  have hs : ((nq - np + (n - nq)) == (n - np)) = true := by simp; omega
  have hs' : ((nq - np + (n - nq)) != (n - np)) = false := by simp; omega
  generalize ht : reachN R n = t at *
  have Ht := Lib.hid ht
  clear ht
  obtain ⟨u1, u2, u3⟩ := HT1.out t rfl
  have U1 := Lib.hid u1
  have U2 := Lib.hid u2
  have U3 := Lib.hid u3
  clear u1 u2 u3
  obtain ⟨x0, x1, x2, x3⟩ := HX.out W10 L10.out
  go_wp2_with fail
  refine (own_any _ _ _ _ _ _ R W10 (HI.out _ L10.out)).mono ?_
  rintro e W11 ⟨D1, D2, D3, d1, d2, d3, rfl, hr, _, hb⟩
  have L11 : Hid (Le W1 W11) := L10.out.trans hb
  have Hr := Lib.hid hr
  clear hb hr x0 x1 x2 x3
  go_wp2_with fail
  refine (grown_any D1 D2 D3 d1 d2 d3 R _ _ W11 Hr.out).mono ?_
  rintro e W12 ⟨rfl, hb⟩
  have L12 : Hid (Le W1 W12) := L11.out.trans hb
  clear hb Hr
  rw [HN.out.1, HN.out.2]
  obtain ⟨x0, x1, x2, x3⟩ := HX.out W12 L12.out
  go_wp2_with fail
  refine (own_any _ _ _ _ _ _ R W12 (HI.out _ L12.out)).mono ?_
  rintro e W13 ⟨D1, D2, D3, d1, d2, d3, rfl, hr, _, hb⟩
  have L13 : Hid (Le W1 W13) := L12.out.trans hb
  have Hr := Lib.hid hr
  clear hb hr x0 x1 x2 x3
  go_wp2_with fail
  refine (reached_any D1 D2 D3 d1 d2 d3 R _ W13 Hr.out).mono ?_
  rintro e W14 ⟨rfl, hb⟩
  have L14 : Hid (Le W1 W14) := L13.out.trans hb
  clear hb Hr
  rw [HE.out, Ht.out]
  obtain ⟨x0, x1, x2, x3⟩ := HX.out W14 L14.out
  go_wp2_with fail
  refine (own_any _ _ _ _ _ _ R W14 (HI.out _ L14.out)).mono ?_
  rintro e W15 ⟨D1, D2, D3, d1, d2, d3, rfl, hr, _, hb⟩
  have L15 : Hid (Le W1 W15) := L14.out.trans hb
  have Hr := Lib.hid hr
  clear hb hr x0 x1 x2 x3
  go_wp2_with fail
  have Gt := Lib.hid (HGt.out t (by omega) (by omega))
  refine (grown_any D1 D2 D3 d1 d2 d3 R _ _ W15 Hr.out).mono ?_
  rintro e W16 ⟨rfl, hb⟩
  have L16 : Hid (Le W1 W16) := L15.out.trans hb
  clear hb Hr
  rw [Gt.out.1, Gt.out.2]
  have v1 := U1.out
  generalize hmt : placeR R t = mt at *
  have Hmt := Lib.hid hmt
  clear hmt
  have hlt0 : ¬ mt < n := by omega
  by_cases hbig : n < 100000000000
  · rcases RM.out (by omega) with hrm | hrm
    · have Hrm := Lib.hid hrm
      clear hrm
      obtain ⟨x0, x1, x2, x3⟩ := HX.out W16 L16.out
      go_wp2_with fail
      refine (own_any _ _ _ _ _ _ R W16 (HI.out _ L16.out)).mono ?_
      rintro e W17 ⟨D1, D2, D3, d1, d2, d3, rfl, hr, _, hb⟩
      have L17 : Hid (Le W1 W17) := L16.out.trans hb
      have Hr := Lib.hid hr
      clear hb hr x0 x1 x2 x3
      go_wp2_with fail
      refine (reached_any D1 D2 D3 d1 d2 d3 R _ W17 Hr.out).mono ?_
      rintro e W18 ⟨rfl, hb⟩
      have L18 : Hid (Le W1 W18) := L17.out.trans hb
      clear hb Hr
      rw [Hrm.out.1]
      have w1 := Hrm.out.2
      generalize reachN R (n + 1) = un at *
      by_cases t0 : t = 0
      · have n0' : n = 0 := U3.out t0
        have t0' : (t == 0) = true := by simp [t0]
        have n0'' : (n == 0) = true := by simp [n0']
        clear t0 n0'
        go_wp2_with fail
        refine (known_any W18).mono ?_
        rintro e WK ⟨rfl, hb⟩
        have LK : Hid (Below w.heap.size w WK) := HU.out _ (L18.out.trans hb)
        clear hb
        go_wp2_with fail
        go_ret
        exact ⟨rfl, LK.out⟩
      · have t0' : (t == 0) = false := by simp [t0]
        have t1' : 0 < t := by omega
        clear t0
        have v2 := U2.out t1'
        have Gu := Lib.hid (HGt.out (t - 1) (by omega) (by omega))
        obtain ⟨x0, x1, x2, x3⟩ := HX.out W18 L18.out
        go_wp2_with fail
        refine (own_any _ _ _ _ _ _ R W18 (HI.out _ L18.out)).mono ?_
        rintro e W19 ⟨D1, D2, D3, d1, d2, d3, rfl, hr, _, hb⟩
        have L19 : Hid (Le W1 W19) := L18.out.trans hb
        have Hr := Lib.hid hr
        clear hb hr x0 x1 x2 x3
        go_wp2_with fail
        refine (grown_any D1 D2 D3 d1 d2 d3 R _ _ W19 Hr.out).mono ?_
        rintro e W20 ⟨rfl, hb⟩
        have L20 : Hid (Le W1 W20) := L19.out.trans hb
        clear hb Hr
        rw [Gu.out.1, Gu.out.2]
        go_wp2_with fail
        refine (known_any W20).mono ?_
        rintro e WK ⟨rfl, hb⟩
        have LK : Hid (Below w.heap.size w WK) := HU.out _ (L20.out.trans hb)
        clear hb
        go_wp2_with fail
        go_ret
        exact ⟨rfl, LK.out⟩
    · have Hrm := Lib.hid hrm
      clear hrm
      obtain ⟨x0, x1, x2, x3⟩ := HX.out W16 L16.out
      go_wp2_with fail
      refine (own_any _ _ _ _ _ _ R W16 (HI.out _ L16.out)).mono ?_
      rintro e W17 ⟨D1, D2, D3, d1, d2, d3, rfl, hr, _, hb⟩
      have L17 : Hid (Le W1 W17) := L16.out.trans hb
      have Hr := Lib.hid hr
      clear hb hr x0 x1 x2 x3
      go_wp2_with fail
      refine (reached_any D1 D2 D3 d1 d2 d3 R _ W17 Hr.out).mono ?_
      rintro e W18 ⟨rfl, hb⟩
      have L18 : Hid (Le W1 W18) := L17.out.trans hb
      clear hb Hr
      rw [Hrm.out]
      generalize reachN R (n + 1) = un at *
      by_cases t0 : t = 0
      · have n0' : n = 0 := U3.out t0
        have t0' : (t == 0) = true := by simp [t0]
        have n0'' : (n == 0) = true := by simp [n0']
        clear t0 n0'
        go_wp2_with fail
        refine (known_any W18).mono ?_
        rintro e WK ⟨rfl, hb⟩
        have LK : Hid (Below w.heap.size w WK) := HU.out _ (L18.out.trans hb)
        clear hb
        go_wp2_with fail
        go_ret
        exact ⟨rfl, LK.out⟩
      · have t0' : (t == 0) = false := by simp [t0]
        have t1' : 0 < t := by omega
        clear t0
        have v2 := U2.out t1'
        have Gu := Lib.hid (HGt.out (t - 1) (by omega) (by omega))
        obtain ⟨x0, x1, x2, x3⟩ := HX.out W18 L18.out
        go_wp2_with fail
        refine (own_any _ _ _ _ _ _ R W18 (HI.out _ L18.out)).mono ?_
        rintro e W19 ⟨D1, D2, D3, d1, d2, d3, rfl, hr, _, hb⟩
        have L19 : Hid (Le W1 W19) := L18.out.trans hb
        have Hr := Lib.hid hr
        clear hb hr x0 x1 x2 x3
        go_wp2_with fail
        refine (grown_any D1 D2 D3 d1 d2 d3 R _ _ W19 Hr.out).mono ?_
        rintro e W20 ⟨rfl, hb⟩
        have L20 : Hid (Le W1 W20) := L19.out.trans hb
        clear hb Hr
        rw [Gu.out.1, Gu.out.2]
        go_wp2_with fail
        refine (known_any W20).mono ?_
        rintro e WK ⟨rfl, hb⟩
        have LK : Hid (Below w.heap.size w WK) := HU.out _ (L20.out.trans hb)
        clear hb
        go_wp2_with fail
        go_ret
        exact ⟨rfl, LK.out⟩
  · have hbig' : 100000000000 ≤ n := by omega
    clear hbig
    by_cases t0 : t = 0
    · have n0' : n = 0 := U3.out t0
      have t0' : (t == 0) = true := by simp [t0]
      have n0'' : (n == 0) = true := by simp [n0']
      clear t0 n0'
      go_wp2_with fail
      refine (known_any W16).mono ?_
      rintro e WK ⟨rfl, hb⟩
      have LK : Hid (Below w.heap.size w WK) := HU.out _ (L16.out.trans hb)
      clear hb
      go_wp2_with fail
      go_ret
      exact ⟨rfl, LK.out⟩
    · have t0' : (t == 0) = false := by simp [t0]
      have t1' : 0 < t := by omega
      clear t0
      have v2 := U2.out t1'
      have Gu := Lib.hid (HGt.out (t - 1) (by omega) (by omega))
      obtain ⟨x0, x1, x2, x3⟩ := HX.out W16 L16.out
      go_wp2_with fail
      refine (own_any _ _ _ _ _ _ R W16 (HI.out _ L16.out)).mono ?_
      rintro e W17 ⟨D1, D2, D3, d1, d2, d3, rfl, hr, _, hb⟩
      have L17 : Hid (Le W1 W17) := L16.out.trans hb
      have Hr := Lib.hid hr
      clear hb hr x0 x1 x2 x3
      go_wp2_with fail
      refine (grown_any D1 D2 D3 d1 d2 d3 R _ _ W17 Hr.out).mono ?_
      rintro e W18 ⟨rfl, hb⟩
      have L18 : Hid (Le W1 W18) := L17.out.trans hb
      clear hb Hr
      rw [Gu.out.1, Gu.out.2]
      go_wp2_with fail
      refine (known_any W18).mono ?_
      rintro e WK ⟨rfl, hb⟩
      have LK : Hid (Below w.heap.size w WK) := HU.out _ (L18.out.trans hb)
      clear hb
      go_wp2_with fail
      go_ret
      exact ⟨rfl, LK.out⟩
end Go.Proofs.Ytlebefopdnadaaa
