/- The contract of Stop of the reference. -/
import Derived.Test.YtlebefopdnadaaaSto
import Derived.Test.YtlebefopdnadaaaPla
import Derived.Test.YtlebefopdnadaaaOba
namespace Go.Proofs.Ytlebefopdnadaaa
open Go.RowKit
theorem stop_fold {p : Vec} {R : Run} (h : VRun R) (hh : 0 ≤ p 115) : stpK (strs R 4 5) (p 115) (stop0 R) (strs R 4 5).length = stopF p R := by
  have hs := sorted_at (strs_sorted h 4 5)
  have hb := strs_bd h 4 5
  have h0 : ∀ j, j < (strs R 4 5).length → 0 ≤ (at0 (strs R 4 5) j).lo := fun j hj => (hb _ (at0_in hj)).1
  unfold stopF
  simp only
  by_cases hx : 0 ≤ ixOf (longB (p 115)) (strs R 4 5)
  · rw [if_pos hx]
    have hlt := ixOf_lt (longB (p 115)) (strs R 4 5)
    have hsat := ixOf_sat (longB (p 115)) (strs R 4 5) hx
    have hbef := ixOf_before (longB (p 115)) (strs R 4 5) hx
    generalize hi : (ixOf (longB (p 115)) (strs R 4 5)).toNat = i at *
    have := stpK_some (q0 := stop0 R) hs h0 hh (i := i) (by omega) hsat (fun j hj => hbef j (by omega)) ((strs R 4 5).length - (i + 1)) (by omega)
    rw [show i + 1 + ((strs R 4 5).length - (i + 1)) = (strs R 4 5).length by omega] at this
    rw [this]
  · rw [if_neg hx]
    refine stpK_none _ (Nat.le_refl _) fun j hj => ?_
    cases hq : longB (p 115) (at0 (strs R 4 5) j) with
    | false => rfl
    | true =>
      have h1 : (strs R 4 5).any (longB (p 115)) = true := List.any_eq_true.2 ⟨_, at0_in hj, hq⟩
      rw [← ixOf_any] at h1
      exact absurd (of_decide_eq_true h1) hx
theorem stopF_bd0 {R : Run} (hv : VRun R) : -1 ≤ (stop0 R).1 ∧ (stop0 R).1 ≤ 100000 := by
  unfold stop0
  split
  · rename_i h
    have h2 := ixOf_lt lostB R.es
    have := hv.et (ixOf lostB R.es).toNat (by omega)
    have := hv.last
    simp; omega
  · simp
theorem Rd.rng_at {w : World} {B b o n k : Nat} {xs : List Rng} (h : Rd w B 2 (some ⟨b, o, none⟩) n (rR xs)) (hk : k < n) : w.cell? ⟨b, o + k * 2, none⟩ = some (I (at0 xs k).lo) ∧ w.cell? ⟨b, o + k * 2 + 1, none⟩ = some (I (at0 xs k).hi) := by
  obtain ⟨b', o', he, _, h1, h2⟩ := h.rng hk
  simp only [Option.some.injEq, Addr.mk.injEq, and_true] at he
  obtain ⟨rfl, rfl⟩ := he
  exact ⟨h1, h2⟩
theorem stpK_bd {l : List Rng} {hold : Int} {q0 : Int × Int} (hb : ∀ r ∈ l, 0 ≤ r.lo ∧ r.lo ≤ 100000) (hh : 0 ≤ hold ∧ hold ≤ 100000) (h0 : -1 ≤ q0.1 ∧ q0.1 ≤ 200000) : ∀ k, k ≤ l.length → -1 ≤ (stpK l hold q0 k).1 ∧ (stpK l hold q0 k).1 ≤ 200000
  | 0, _ => h0
  | k + 1, hk => by
    have ih := stpK_bd hb hh h0 k (by omega)
    have := hb _ (at0_in (l := l) (k := k) (by omega))
    rw [stpK]
    split
    · constructor
      · show -1 ≤ (at0 l k).lo + hold; omega
      · show (at0 l k).lo + hold ≤ 200000; omega
    · exact ih
set_option maxRecDepth 100000 in
set_option maxHeartbeats 1000000 in
theorem refStop_any (A1 A2 A3 : Option Addr) (c1 c2 c3 : Nat) (p : Vec) (R : Run) (w : World) (h : RunIn w A1 A2 A3 R) (hv : VRun R) (hp : VPul p) :
    Calls Try.prog 25 #[.agg (ia 117 p), runV A1 A2 A3 c1 c2 c3 R] w fun e w' => e = .returned (.tuple #[I (stopF p R).1, I (stopF p R).2]) ∧ Below w.heap.size w w' := by
  obtain ⟨W2, hW2⟩ : ∃ W2, W2 = ((w.alloc (.cells (ia 117 p) 30)).alloc (.cells #[.slice A1 R.ss.length c1, I R.e, .slice A2 R.ms.length c2, .slice A3 R.es.length c3] 35)) := ⟨_, rfl⟩
  have T : Hid (Two w A1 A2 A3 c1 c2 c3 p R W2) := hW2 ▸ two_mk h c1 c2 c3 p
  have HW := Lib.hid hW2
  clear hW2
  have Hv := Lib.hid hv
  clear h hv
  obtain ⟨hp1, hp2⟩ := hp.hold
  clear hp
  have le := Hv.out.e20
  have last := Hv.out.last
  have He := Lib.hid T.out.run.e
  have x0 := T.out.r0 _ (Below.refl _ _)
  have x1 := T.out.r1 _ (Below.refl _ _)
  have x2 := T.out.r2 _ (Below.refl _ _)
  have x3 := T.out.r3 _ (Below.refl _ _)
  go_enter Try.func25, Try.ntmps25
  go_wp2_with fail
  rw [← HW.out]
  go_loop [6, 7, 8] (fun a b i => ∃ m : Nat, m ≤ R.es.length ∧ i = I ((m : Int) - 1) ∧ a = I (stL (R.es.drop m)).1 ∧ b = I (stL (R.es.drop m)).2) (fun _ _ i => (intOf i + 1).toNat)
  case atStart => exact ⟨R.es.length, by omega, rfl, by rw [List.drop_length]; rfl, by rw [List.drop_length]; rfl⟩
  case round =>
    obtain ⟨m, hm, rfl, rfl, rfl⟩ := hrel
    rcases m with _ | j
    · have hs0 : Hid (stL (R.es.drop 0) = stop0 R) := stL_stop0 R
      rw [hs0.out]
      go_wp2_with fail
      refine (refStretches_any _ _ _ _ _ _ R 4 5 _ T.out.run (by omega) (fun k hk => (Hv.out.et k hk).1)).mono ?_
      rintro e w2 ⟨A, n, c, rfl, hn, hx, hb2⟩
      have Hn := Lib.hid hn
      have Hx := Lib.hid hx
      have hn21 : n ≤ 1000 := by rw [Hn.out]; have := strs_len R 4 5; omega
      have HT : Hid (Below W2.heap.size W2 w2) := hb2
      have hz2 : w.heap.size + 2 ≤ w2.heap.size := by have := hb2.size; rw [T.out.size] at this; exact this
      clear hn hx x0 x1 x2 x3 hb2
      go_wp2_with fail
      go_loopw [6, 7, 10] (fun a b i wr => ∃ k : Nat, k ≤ n ∧ i = .int .i64 k ∧ a = I (stpK (strs R 4 5) (p 115) (stop0 R) k).1 ∧ b = I (stpK (strs R 4 5) (p 115) (stop0 R) k).2 ∧ Below w2.heap.size w2 wr) (fun _ _ i _ => n - (intOf i).toNat)
      case atStart => exact ⟨0, by omega, rfl, rfl, rfl, Below.refl _ _⟩
      case round =>
        obtain ⟨k, hk, rfl, rfl, rfl, hbw⟩ := hrel
        have zr := hbw.size
        have HB : Hid (Below W2.heap.size W2 wr) := HT.out.trans (hbw.mono HT.out.size)
        by_cases hlt : k < n
        · obtain ⟨b, o, rfl, hB, y0, y1⟩ := (Hx.out.below hbw).rng hlt
          have ch : wr.cell? ⟨w.heap.size, 115, none⟩ = some (I (p 115)) := T.out.pul _ HB.out 115 (by omega)
          have hin := at0_in (l := strs R 4 5) (k := k) (by rw [← Hn.out]; exact hlt)
          have hbd := strs_bd Hv.out 4 5 _ hin
          have hlo := strs_lo Hv.out 4 5 _ hin
          have hsb := stopF_bd0 Hv.out
          have hkb := stpK_bd (l := strs R 4 5) (hold := p 115) (q0 := stop0 R) (fun r hr => by have h1 := strs_bd Hv.out 4 5 _ hr; have h2 := strs_lo Hv.out 4 5 _ hr; omega) ⟨hp1, hp2⟩ (by omega) k (by rw [← Hn.out]; omega)
          have hstep : Hid (stpK (strs R 4 5) (p 115) (stop0 R) (k + 1) = if (at0 (strs R 4 5) k).lo + p 115 < (at0 (strs R 4 5) k).hi ∧ ((stpK (strs R 4 5) (p 115) (stop0 R) k).1 < 0 ∨ (at0 (strs R 4 5) k).lo + p 115 < (stpK (strs R 4 5) (p 115) (stop0 R) k).1) then ((at0 (strs R 4 5) k).lo + p 115, 4) else stpK (strs R 4 5) (p 115) (stop0 R) k) := rfl
          clear hin hsb
          generalize hq : at0 (strs R 4 5) k = q at *
          have HQ := Lib.hid hq
          clear hq
          generalize stpK (strs R 4 5) (p 115) (stop0 R) k = s at *
          obtain ⟨b1, b2, b3⟩ := hbd
          obtain ⟨s1, s2⟩ := hkb
          have u0 := ovr_cell y0
          have u1 := ovr_cell ch
          have i0 : (0 : Int) ≤ (k : Int) := by omega
          have i1 : (k : Int) < (n : Int) := by omega
          go_wp2_with fail
          refine wp_region_below_lit (by kernel_rfl) (by kernel_rfl) ?_
          repeat (go_big_quiet_step (fail))
          refine wpQuiet_nil ?_
          intro w5 hb5
          have hb6 : Below w2.heap.size w2 w5 := hbw.trans (hb5.mono zr)
          have y2 : w5.cell? ⟨b, o + k * 2 + 1, none⟩ = some (I q.hi) := by rw [← HQ.out]; exact ((Hx.out.below hb6).rng_at hlt).2
          clear u0 u1 y0 y1 ch hb5 hbw
          by_cases t1 : q.lo + p 115 < q.hi
          · by_cases t2 : s.1 < 0
            · have hs1 : Hid (stpK (strs R 4 5) (p 115) (stop0 R) (k + 1) = (q.lo + p 115, 4)) := by show _ = _; rw [hstep.out, if_pos ⟨t1, Or.inl t2⟩]
              go_wp2_with fail
              go_roundw
              case rel => exact ⟨k + 1, by omega, by go_num, by rw [hs1.out], by rw [hs1.out], hb6⟩
              case measure => simp [intOf]; omega
            · by_cases t3 : q.lo + p 115 < s.1
              · have hs1 : Hid (stpK (strs R 4 5) (p 115) (stop0 R) (k + 1) = (q.lo + p 115, 4)) := by show _ = _; rw [hstep.out, if_pos ⟨t1, Or.inr t3⟩]
                go_wp2_with fail
                go_roundw
                case rel => exact ⟨k + 1, by omega, by go_num, by rw [hs1.out], by rw [hs1.out], hb6⟩
                case measure => simp [intOf]; omega
              · have hs1 : Hid (stpK (strs R 4 5) (p 115) (stop0 R) (k + 1) = s) := by show _ = _; rw [hstep.out, if_neg (by omega)]
                go_wp2_with fail
                go_roundw
                case rel => exact ⟨k + 1, by omega, by go_num, by rw [hs1.out], by rw [hs1.out], hb6⟩
                case measure => simp [intOf]; omega
          · have hs1 : Hid (stpK (strs R 4 5) (p 115) (stop0 R) (k + 1) = s) := by show _ = _; rw [hstep.out, if_neg (fun e => t1 e.1)]
            go_wp2_with fail
            go_roundw
            case rel => exact ⟨k + 1, by omega, by go_num, by rw [hs1.out], by rw [hs1.out], hb6⟩
            case measure => simp [intOf]; omega
        · have hfin : Hid (stpK (strs R 4 5) (p 115) (stop0 R) k = stopF p R) := by
            show _ = _
            rw [← stop_fold Hv.out hp1, show k = (strs R 4 5).length by rw [← Hn.out]; omega]
          have HB2 : Hid (Below w.heap.size w wr) := T.out.up _ HB.out
          rw [hfin.out]
          go_wp2_with fail
          go_ret2
          exact ⟨rfl, HB2.out⟩
    · have e1 : (((j + 1 : Nat) : Int) - 1) = (j : Int) := by omega
      rw [e1]
      obtain ⟨b, o, rfl, hB, y0, y1⟩ := He.out.evt (show j < R.es.length by omega)
      have hd : Hid (stL (R.es.drop j) = if lostB (at0 R.es j) then ((at0 R.es j).t, 1) else stL (R.es.drop (j + 1))) := stL_drop (by omega)
      have Hj : Hid ((j + 1) ≤ R.es.length) := hm
      have i1 : (j : Int) < (R.es.length : Int) := by omega
      clear e1 hm
      rcases hk : ((at0 R.es j).kd == 1) with _ | _
      · have hl : Hid (lostB (at0 R.es j) = false) := hk
        go_wp2_with fail
        go_round
        case rel => exact ⟨j, by have := Hj.out; omega, rfl, by rw [hd.out, hl.out]; rfl, by rw [hd.out, hl.out]; rfl⟩
        case measure => simp [intOf]
      · have hl : Hid (lostB (at0 R.es j) = true) := hk
        go_wp2_with fail
        go_round
        case rel => exact ⟨j, by have := Hj.out; omega, rfl, by rw [hd.out, hl.out]; rfl, by rw [hd.out, hl.out]; rfl⟩
        case measure => simp [intOf]
end Go.Proofs.Ytlebefopdnadaaa
