/- The contract of spread of the reference of chapter 1. -/
import Derived.Test.YteibgenkklpoaaaGreatR1
namespace Go.Proofs.YteibgenkklpoaaaGreat.Un
open Go.RowKit
/-- What spread has found: the least, the greatest, whether all were near. -/
structure Spr where
  lo : Int
  hi : Int
  ok : Bool
def spUp (q : Int × Int × Bool) : Int := if 0 < q.2.1 then q.1 + 1 else q.1
def spK (s : Spr) (x : Int) (f : Rng) (first : Bool) : Spr :=
  let q := flR (x * f.lo) f.hi
  if first then ⟨min q.1 q.1, max (spUp q) (spUp q), s.ok && q.2.2⟩ else ⟨min s.lo q.1, max s.hi (spUp q), s.ok && q.2.2⟩
def spI (s : Spr) (x : Int) (fs : List Rng) (i : Nat) : Nat → Spr
  | 0 => s | k + 1 => spK (spI s x fs i k) x (at0 fs k) (decide (i = 0) && decide (k = 0))
def spO (xs : List Int) (fs : List Rng) : Nat → Spr
  | 0 => ⟨0, 0, true⟩ | i + 1 => spI (spO xs fs i) (at0 xs i) fs i fs.length
theorem flR_bd {v c : Int} (hc : 1 ≤ c) : (-2000000000000001 ≤ (flR v c).1 ∧ (flR v c).1 ≤ 2000000000000000) := by
  unfold flR
  by_cases h : v.natAbs / c.toNat ≤ 2000000000000000
  · rw [if_pos h]; exact div_bd2 hc h
  · rw [if_neg h]; omega
set_option maxRecDepth 100000 in
set_option maxHeartbeats 2000000 in
theorem spread_any (A A' : Option Addr) (c c' : Nat) (xs : List Int) (fs : List Rng) (w : World) (B : Nat) (hm : xs.length ≤ 1000 ∧ fs.length ≤ 1000) (hB : B ≤ w.heap.size) (hx : Rd w B 1 A xs.length (rI xs)) (hy : Rd w B 2 A' fs.length (rR fs))
    (hx2 : ∀ k, k < xs.length → numB (at0 xs k) = true) (hf2 : ∀ k, k < fs.length → numB (at0 fs k).lo = true ∧ 1 ≤ (at0 fs k).hi ∧ (at0 fs k).hi ≤ 1000000000000000) :
    Calls Tryz.prog 98 #[.slice A xs.length c, .slice A' fs.length c'] w (RetRn w (fiR (spO xs fs xs.length).lo (spO xs fs xs.length).hi (spO xs fs xs.length).ok)) := by
  have HX : Hid (∀ W', Below w.heap.size w W' → Rd W' B 1 A xs.length (rI xs) ∧ Rd W' B 2 A' fs.length (rR fs)) := fun W' h => ⟨hx.below (h.mono hB), hy.below (h.mono hB)⟩
  have H2 := Lib.hid hx2
  have F2 := Lib.hid hf2
  clear hx hy hB hx2 hf2
  obtain ⟨W, hW⟩ : ∃ W, W = (w.alloc (.cells #[I 0, I 0] 23)) := ⟨_, rfl⟩
  have rowW0 : W.heap[w.heap.size]? = some (.cells #[I 0, I 0] 23 (0, 0)) := by rw [hW]; exact heap_last _ _ _ rfl
  have yW00 := ovr_cell (W := W) (b := w.heap.size) (o := 0) (v := I 0) (by rw [cell_of_row _ _ _ _ _ _ rowW0]; rfl)
  have yW01 := ovr_cell (W := W) (b := w.heap.size) (o := 1) (v := I 0) (by rw [cell_of_row _ _ _ _ _ _ rowW0]; rfl)
  have RrowW0 := Lib.hid (ovr_row rowW0)
  clear rowW0
  have HUW : Hid (∀ u, Below w.heap.size w (ovr W u)) := U1 hW
  have HW := Lib.hid hW
  clear hW
  go_enter Tryz.func98, Tryz.ntmps98
  go_upto_region 1 with (fail)
  rw [← HW.out]
  obtain ⟨u0, hu0⟩ := ovr_self W
  rw [hu0]
  clear hu0
  go_wp2_with fail
  go_loopw [6, 7, 8, 9] (fun lo hi ok i wr => ∃ k : Nat, k ≤ xs.length ∧ i = .int .i64 k ∧ lo = I (spO xs fs k).lo ∧ hi = I (spO xs fs k).hi ∧ ok = .bool (spO xs fs k).ok ∧ ∃ u, wr = ovr W u) (fun _ _ _ i _ => xs.length - (intOf i).toNat)
  case atStart => exact ⟨0, by omega, rfl, rfl, rfl, rfl, u0, rfl⟩
  case round =>
    obtain ⟨k, hk, rfl, rfl, rfl, rfl, u, rfl⟩ := hrel
    by_cases hlt : k < xs.length
    · have kb : decide (k < xs.length) = true := decide_eq_true hlt
      have hs : Hid (spO xs fs (k + 1) = spI (spO xs fs k) (at0 xs k) fs k fs.length) := rfl
      generalize spO xs fs k = s at *
      obtain ⟨u9, hu9⟩ := ovr_self W
      obtain ⟨RX, RY⟩ := HX.out W (by rw [hu9]; exact HUW.out u9)
      clear hu9
      obtain ⟨bx, ox, rfl, _, ex⟩ := RX.int hlt
      have ex1 := ovr_cell ex
      clear ex RX
      have nx := H2.out k hlt
      generalize at0 xs k = x at *
      go_wp2_with fail
      go_loopw [6, 7, 8, 10] (fun lo hi ok i wr => ∃ j : Nat, j ≤ fs.length ∧ i = .int .i64 j ∧ lo = I (spI s x fs k j).lo ∧ hi = I (spI s x fs k j).hi ∧ ok = .bool (spI s x fs k j).ok ∧ ∃ u, wr = ovr W u) (fun _ _ _ i _ => fs.length - (intOf i).toNat)
      case atStart => exact ⟨0, by omega, rfl, rfl, rfl, rfl, u, rfl⟩
      case round =>
        obtain ⟨j, hj, rfl, rfl, rfl, rfl, u2, rfl⟩ := hrel
        by_cases hl2 : j < fs.length
        · have kb2 : decide (j < fs.length) = true := decide_eq_true hl2
          obtain ⟨by1, oy, rfl, _, e0, e1⟩ := RY.rng hl2
          have e01 := ovr_cell e0
          have e11 := ovr_cell e1
          clear e0 e1
          have nf := F2.out j hl2
          have hst : Hid (spI s x fs k (j + 1) = spK (spI s x fs k j) x (at0 fs j) (decide (k = 0) && decide (j = 0))) := rfl
          generalize spI s x fs k j = v at *
          generalize at0 fs j = f at *
          have nx2 := numB_iff.1 nx
          have nf2 := numB_iff.1 nf.1
          have cf := fun W => floor_any x f.lo f.hi W (by omega) (by omega) (by omega)
          have hbd := @flR_bd (x * f.lo) f.hi nf.2.1
          unfold spK spUp at hst
          generalize flR (x * f.lo) f.hi = q at *
          obtain ⟨n, r, ok⟩ := q
          simp only at hst cf hbd
          have Cf := Lib.hid cf
          have ex2 := ovr_cell (ex1 u2)
          have e02 := ovr_cell (e01 u2)
          have e12 := ovr_cell (e11 u2)
          clear cf
          go_upto_region 8 with (fail)
          refine wp_region_below_lit (by kernel_rfl) (by kernel_rfl) ?_
          repeat (go_big_quiet_step ((go_at_call 113; exact call_below (Cf.out _))))
          refine wpQuiet_nil ?_
          intro w1 hb1
          obtain ⟨u3, rfl⟩ := ovr_next hb1
          clear hb1 ex2 e02 e12
          obtain ⟨slo, shi, sok⟩ := v
          simp only at hst
          have k00 : ((((k : Int) == 0) = true) ∧ (((j : Int) == 0) = true) ∧ (decide (k = 0) && decide (j = 0)) = true) ∨ ((((k : Int) == 0) = true) ∧ (((j : Int) == 0) = false) ∧ (decide (k = 0) && decide (j = 0)) = false) ∨ ((((k : Int) == 0) = false) ∧ (decide (k = 0) && decide (j = 0)) = false) := by
            rcases Nat.eq_zero_or_pos k with rfl | h
            · rcases Nat.eq_zero_or_pos j with rfl | h
              · exact .inl ⟨rfl, rfl, rfl⟩
              · exact .inr (.inl ⟨rfl, by rw [beq_eq_false_iff_ne]; omega, by rw [decide_eq_false (by omega : ¬ j = 0)]; rfl⟩)
            · exact .inr (.inr ⟨by rw [beq_eq_false_iff_ne]; omega, by rw [decide_eq_false (by omega : ¬ k = 0)]; rfl⟩)
          rcases k00 with ⟨k1, k2, k3⟩ | ⟨k1, k2, k3⟩ | ⟨k1, k3⟩
          all_goals
            rw [k3] at hst
            clear k3
            by_cases hr : 0 < r
            · have kr : decide (0 < r) = true := decide_eq_true hr
              rw [if_pos hr] at hst
              rcases sok with _ | _
              all_goals
                go_wp2_with fail
                go_roundw
                case rel => exact ⟨j + 1, by omega, by go_num, by rw [hst.out]; first | rfl | simp, by rw [hst.out]; first | rfl | simp, by rw [hst.out]; first | rfl | simp, u3, rfl⟩
                case measure => simp [intOf]; omega
            · have kr : decide (0 < r) = false := decide_eq_false hr
              rw [if_neg hr] at hst
              rcases sok with _ | _
              all_goals
                go_wp2_with fail
                go_roundw
                case rel => exact ⟨j + 1, by omega, by go_num, by rw [hst.out]; first | rfl | simp, by rw [hst.out]; first | rfl | simp, by rw [hst.out]; first | rfl | simp, u3, rfl⟩
                case measure => simp [intOf]; omega
        · obtain rfl : j = fs.length := by omega
          go_wp2_with fail
          go_roundw
          case rel => exact ⟨k + 1, by omega, by go_num, by rw [hs.out], by rw [hs.out], by rw [hs.out], u2, rfl⟩
          case measure => simp [intOf]; omega
    · obtain rfl : k = xs.length := by omega
      have Hs := Lib.hid (refFits_any (spO xs fs xs.length).lo (spO xs fs xs.length).hi (spO xs fs xs.length).ok)
      generalize spO xs fs xs.length = s at *
      go_wp2_with fail
      refine (Hs.out _).mono ?_
      rintro e w1 ⟨rfl, hb1⟩
      obtain ⟨u1, rfl⟩ := ovr_next hb1
      clear hb1
      go_wp2_with (refine wpList_store_row rfl 23 _ _ rfl (w.heap.size) rfl _ _ (RrowW0.out _) _ rfl (one2 rfl rfl) rfl (by kernel_rfl) ?_)
      refine bodyPost_ret (results_cell_tmp rfl _ _ (w.heap.size) 23 _ (0, 0) _ rfl (setRow_same (RrowW0.out _)) Tryz.underlying23 rfl (by kernel_rfl)) rfl ?_
      exact ⟨rfl, below_setRow (HUW.out _) (by omega) _⟩
end Go.Proofs.YteibgenkklpoaaaGreat.Un
