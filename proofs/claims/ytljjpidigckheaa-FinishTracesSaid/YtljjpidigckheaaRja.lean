/- The contract of spread of the reference of chapter 1. What a hull gathers and what spread of the reference finds are the same: the plain law. The contracts of Scale, Times, Over and Less of the reference of chapter 1. -/
import Derived.Test.YtljjpidigckheaaR1
namespace Go.Proofs.Ytljjpidigckheaa.Un
open Go.RowKit
/-- What spread has found: the least, the greatest, whether all were near. -/
structure Spr where
  lo : Int
  hi : Int
  ok : Bool
def spUp (q : Int × Int × Bool) : Int := if 0 < q.2.1 then q.1 + 1 else q.1
def spK (s : Spr) (x : Int) (f : Rng) (first : Bool) : Spr :=
  let q := flR (x * f.lo) f.hi
  if first then ⟨min q.1 q.1, max (spUp q) (spUp q), s.ok && q.2.2⟩ else ⟨min s.lo q.1, max s.hi (spUp q), s.ok && q.2.2⟩
def spI (s : Spr) (x : Int) (fs : List Rng) (i : Nat) : Nat → Spr
  | 0 => s | k + 1 => spK (spI s x fs i k) x (at0 fs k) (decide (i = 0) && decide (k = 0))
def spO (xs : List Int) (fs : List Rng) : Nat → Spr
  | 0 => ⟨0, 0, true⟩ | i + 1 => spI (spO xs fs i) (at0 xs i) fs i fs.length
theorem flR_bd {v c : Int} (hc : 1 ≤ c) : (-2000000000000001 ≤ (flR v c).1 ∧ (flR v c).1 ≤ 2000000000000000) := by
  unfold flR
  by_cases h : v.natAbs / c.toNat ≤ 2000000000000000
  · rw [if_pos h]; exact div_bd2 hc h
  · rw [if_neg h]; omega
set_option maxRecDepth 100000 in
set_option maxHeartbeats 2000000 in
theorem spread_any (A A' : Option Addr) (c c' : Nat) (xs : List Int) (fs : List Rng) (w : World) (B : Nat) (hm : xs.length ≤ 1000 ∧ fs.length ≤ 1000) (hB : B ≤ w.heap.size) (hx : Rd w B 1 A xs.length (rI xs)) (hy : Rd w B 2 A' fs.length (rR fs))
    (hx2 : ∀ k, k < xs.length → numB (at0 xs k) = true) (hf2 : ∀ k, k < fs.length → numB (at0 fs k).lo = true ∧ 1 ≤ (at0 fs k).hi ∧ (at0 fs k).hi ≤ 1000000000000000) :
    Calls Try.prog 97 #[.slice A xs.length c, .slice A' fs.length c'] w (RetRn w (fiR (spO xs fs xs.length).lo (spO xs fs xs.length).hi (spO xs fs xs.length).ok)) := by
  have HX : Hid (∀ W', Below w.heap.size w W' → Rd W' B 1 A xs.length (rI xs) ∧ Rd W' B 2 A' fs.length (rR fs)) := fun W' h => ⟨hx.below (h.mono hB), hy.below (h.mono hB)⟩
  have H2 := Lib.hid hx2
  have F2 := Lib.hid hf2
  clear hx hy hB hx2 hf2
  obtain ⟨W, hW⟩ : ∃ W, W = (w.alloc (.cells #[I 0, I 0] 24)) := ⟨_, rfl⟩
  have rowW0 : W.heap[w.heap.size]? = some (.cells #[I 0, I 0] 24 (0, 0)) := by rw [hW]; exact heap_last _ _ _ rfl
  have yW00 := ovr_cell (W := W) (b := w.heap.size) (o := 0) (v := I 0) (by rw [cell_of_row _ _ _ _ _ _ rowW0]; rfl)
  have yW01 := ovr_cell (W := W) (b := w.heap.size) (o := 1) (v := I 0) (by rw [cell_of_row _ _ _ _ _ _ rowW0]; rfl)
  have RrowW0 := Lib.hid (ovr_row rowW0)
  clear rowW0
  have HUW : Hid (∀ u, Below w.heap.size w (ovr W u)) := U1 hW
  have HW := Lib.hid hW
  clear hW
  go_enter Try.func97, Try.ntmps97
  go_upto_region 1 with (fail)
  rw [← HW.out]
  obtain ⟨u0, hu0⟩ := ovr_self W
  rw [hu0]
  clear hu0
  go_wp2_with fail
  go_loopw [6, 7, 8, 9] (fun lo hi ok i wr => ∃ k : Nat, k ≤ xs.length ∧ i = .int .i64 k ∧ lo = I (spO xs fs k).lo ∧ hi = I (spO xs fs k).hi ∧ ok = .bool (spO xs fs k).ok ∧ ∃ u, wr = ovr W u) (fun _ _ _ i _ => xs.length - (intOf i).toNat)
  case atStart => exact ⟨0, by omega, rfl, rfl, rfl, rfl, u0, rfl⟩
  case round =>
    obtain ⟨k, hk, rfl, rfl, rfl, rfl, u, rfl⟩ := hrel
    by_cases hlt : k < xs.length
    · have kb : decide (k < xs.length) = true := decide_eq_true hlt
      have hs : Hid (spO xs fs (k + 1) = spI (spO xs fs k) (at0 xs k) fs k fs.length) := rfl
      generalize spO xs fs k = s at *
      obtain ⟨u9, hu9⟩ := ovr_self W
      obtain ⟨RX, RY⟩ := HX.out W (by rw [hu9]; exact HUW.out u9)
      clear hu9
      obtain ⟨bx, ox, rfl, _, ex⟩ := RX.int hlt
      have ex1 := ovr_cell ex
      clear ex RX
      have nx := H2.out k hlt
      generalize at0 xs k = x at *
      go_wp2_with fail
      go_loopw [6, 7, 8, 10] (fun lo hi ok i wr => ∃ j : Nat, j ≤ fs.length ∧ i = .int .i64 j ∧ lo = I (spI s x fs k j).lo ∧ hi = I (spI s x fs k j).hi ∧ ok = .bool (spI s x fs k j).ok ∧ ∃ u, wr = ovr W u) (fun _ _ _ i _ => fs.length - (intOf i).toNat)
      case atStart => exact ⟨0, by omega, rfl, rfl, rfl, rfl, u, rfl⟩
      case round =>
        obtain ⟨j, hj, rfl, rfl, rfl, rfl, u2, rfl⟩ := hrel
        by_cases hl2 : j < fs.length
        · have kb2 : decide (j < fs.length) = true := decide_eq_true hl2
          obtain ⟨by1, oy, rfl, _, e0, e1⟩ := RY.rng hl2
          have e01 := ovr_cell e0
          have e11 := ovr_cell e1
          clear e0 e1
          have nf := F2.out j hl2
          have hst : Hid (spI s x fs k (j + 1) = spK (spI s x fs k j) x (at0 fs j) (decide (k = 0) && decide (j = 0))) := rfl
          generalize spI s x fs k j = v at *
          generalize at0 fs j = f at *
          have nx2 := numB_iff.1 nx
          have nf2 := numB_iff.1 nf.1
          have cf := fun W => floor_any x f.lo f.hi W (by omega) (by omega) (by omega)
          have hbd := @flR_bd (x * f.lo) f.hi nf.2.1
          unfold spK spUp at hst
          generalize flR (x * f.lo) f.hi = q at *
          obtain ⟨n, r, ok⟩ := q
          simp only at hst cf hbd
          have Cf := Lib.hid cf
          have ex2 := ovr_cell (ex1 u2)
          have e02 := ovr_cell (e01 u2)
          have e12 := ovr_cell (e11 u2)
          clear cf
          go_upto_region 8 with (fail)
          refine wp_region_below_lit (by kernel_rfl) (by kernel_rfl) ?_
          repeat (go_big_quiet_step ((go_at_call 116; exact call_below (Cf.out _))))
          refine wpQuiet_nil ?_
          intro w1 hb1
          obtain ⟨u3, rfl⟩ := ovr_next hb1
          clear hb1 ex2 e02 e12
          obtain ⟨slo, shi, sok⟩ := v
          simp only at hst
          have k00 : ((((k : Int) == 0) = true) ∧ (((j : Int) == 0) = true) ∧ (decide (k = 0) && decide (j = 0)) = true) ∨ ((((k : Int) == 0) = true) ∧ (((j : Int) == 0) = false) ∧ (decide (k = 0) && decide (j = 0)) = false) ∨ ((((k : Int) == 0) = false) ∧ (decide (k = 0) && decide (j = 0)) = false) := by
            rcases Nat.eq_zero_or_pos k with rfl | h
            · rcases Nat.eq_zero_or_pos j with rfl | h
              · exact .inl ⟨rfl, rfl, rfl⟩
              · exact .inr (.inl ⟨rfl, by rw [beq_eq_false_iff_ne]; omega, by rw [decide_eq_false (by omega : ¬ j = 0)]; rfl⟩)
            · exact .inr (.inr ⟨by rw [beq_eq_false_iff_ne]; omega, by rw [decide_eq_false (by omega : ¬ k = 0)]; rfl⟩)
          rcases k00 with ⟨k1, k2, k3⟩ | ⟨k1, k2, k3⟩ | ⟨k1, k3⟩
          all_goals
            rw [k3] at hst
            clear k3
            by_cases hr : 0 < r
            · have kr : decide (0 < r) = true := decide_eq_true hr
              rw [if_pos hr] at hst
              rcases sok with _ | _
              all_goals
                go_wp2_with fail
                go_roundw
                case rel => exact ⟨j + 1, by omega, by go_num, by rw [hst.out]; first | rfl | simp, by rw [hst.out]; first | rfl | simp, by rw [hst.out]; first | rfl | simp, u3, rfl⟩
                case measure => simp [intOf]; omega
            · have kr : decide (0 < r) = false := decide_eq_false hr
              rw [if_neg hr] at hst
              rcases sok with _ | _
              all_goals
                go_wp2_with fail
                go_roundw
                case rel => exact ⟨j + 1, by omega, by go_num, by rw [hst.out]; first | rfl | simp, by rw [hst.out]; first | rfl | simp, by rw [hst.out]; first | rfl | simp, u3, rfl⟩
                case measure => simp [intOf]; omega
        · obtain rfl : j = fs.length := by omega
          go_wp2_with fail
          go_roundw
          case rel => exact ⟨k + 1, by omega, by go_num, by rw [hs.out], by rw [hs.out], by rw [hs.out], u2, rfl⟩
          case measure => simp [intOf]; omega
    · obtain rfl : k = xs.length := by omega
      have Hs := Lib.hid (refFits_any (spO xs fs xs.length).lo (spO xs fs xs.length).hi (spO xs fs xs.length).ok)
      generalize spO xs fs xs.length = s at *
      go_wp2_with fail
      refine (Hs.out _).mono ?_
      rintro e w1 ⟨rfl, hb1⟩
      obtain ⟨u1, rfl⟩ := ovr_next hb1
      clear hb1
      go_wp2_with (refine wpList_store_row rfl 24 _ _ rfl (w.heap.size) rfl _ _ (RrowW0.out _) _ rfl (one2 rfl rfl) rfl (by kernel_rfl) ?_)
      refine bodyPost_ret (results_cell_tmp rfl _ _ (w.heap.size) 24 _ (0, 0) _ rfl (setRow_same (RrowW0.out _)) Try.underlying24 rfl (by kernel_rfl)) rfl ?_
      exact ⟨rfl, below_setRow (HUW.out _) (by omega) _⟩
end Go.Proofs.Ytljjpidigckheaa.Un
namespace Go.Proofs.Ytljjpidigckheaa.Un
open Go.RowKit
/-- What a hull has gathered and what spread has found agree. -/
def RS (h : Hul) (s : Spr) : Prop := (h.f = false ∧ h.s = true ∧ s.ok = true ∧ h.lo = s.lo ∧ h.hi = s.hi) ∨ (h.f = true ∧ (s.ok = false ∨ s.lo < -1000000000000000 ∨ 1000000000000000 < s.hi))
theorem far_quo {v c : Int} (hc : 1 ≤ c) (h : 1000000000000000 < v.natAbs / c.toNat) : v / c < -1000000000000000 ∨ 1000000000000000 < v / c := by
  obtain ⟨C, rfl⟩ : ∃ C : Nat, c = C := ⟨c.toNat, by omega⟩
  rw [Int.toNat_natCast] at h
  rcases Int.lt_or_le v 0 with hv | hv
  · have f := floor_neg (m := v.natAbs) (C := C) (by omega)
    rw [show (-((v.natAbs : Nat) : Int)) = v by omega] at f
    rw [f]
    generalize v.natAbs / C = q at *
    split <;> omega
  · have e : v / (C : Int) = ((v.natAbs / C : Nat) : Int) := by rw [Int.natCast_ediv]; congr 1; omega
    rw [e]
    generalize v.natAbs / C = q at *
    omega
theorem rs_up (v c : Int) (h : v.natAbs / c.toNat ≤ 2000000000000000) : flR v c = (v / c, v % c, true) ∧ spUp (flR v c) = upF v c := by
  have e : flR v c = (v / c, v % c, true) := if_pos h
  exact ⟨e, by rw [e]; rfl⟩
theorem le_up (v c : Int) : v / c ≤ upF v c := by unfold upF; split <;> omega
theorem rs_first (x : Int) (f : Rng) (hc : 1 ≤ f.hi) : RS (addH hul0 (x * f.lo) f.hi) (spK ⟨0, 0, true⟩ x f true) := by
  unfold spK
  simp only [if_true]
  by_cases h : (x * f.lo).natAbs / f.hi.toNat ≤ 1000000000000000
  · obtain ⟨e1, e2⟩ := rs_up (x * f.lo) f.hi (by omega)
    rw [e2, e1]
    unfold addH
    rw [if_pos h]
    exact .inl ⟨rfl, rfl, rfl, by simp [hul0], by simp [hul0]⟩
  · unfold addH
    rw [if_neg h]
    refine .inr ⟨rfl, ?_⟩
    by_cases h2 : (x * f.lo).natAbs / f.hi.toNat ≤ 2000000000000000
    · obtain ⟨e1, e2⟩ := rs_up (x * f.lo) f.hi h2
      rw [e2, e1]
      have := far_quo hc (by omega : 1000000000000000 < (x * f.lo).natAbs / f.hi.toNat)
      have := le_up (x * f.lo) f.hi
      simp only
      omega
    · left
      rw [show flR (x * f.lo) f.hi = (0, 0, false) from if_neg h2]
      rfl
theorem rs_next {h : Hul} {s : Spr} (hh : RS h s) (x : Int) (f : Rng) (hc : 1 ≤ f.hi) : RS (addH h (x * f.lo) f.hi) (spK s x f false) := by
  unfold spK
  simp only [Bool.false_eq_true, if_false]
  by_cases hn : (x * f.lo).natAbs / f.hi.toNat ≤ 1000000000000000
  · obtain ⟨e1, e2⟩ := rs_up (x * f.lo) f.hi (by omega)
    rw [e2, e1]
    unfold addH
    rw [if_pos hn]
    rcases hh with ⟨h1, h2, h3, h4, h5⟩ | ⟨h1, h2⟩
    · rw [if_pos h2]
      exact .inl ⟨h1, rfl, by rw [h3]; rfl, by rw [h4], by rw [h5]⟩
    · refine .inr ⟨by split <;> exact h1, ?_⟩
      rcases h2 with h2 | h2 | h2
      · left; rw [h2]; rfl
      · right; left; simp only; omega
      · right; right; simp only; omega
  · unfold addH
    rw [if_neg hn]
    refine .inr ⟨rfl, ?_⟩
    by_cases h2 : (x * f.lo).natAbs / f.hi.toNat ≤ 2000000000000000
    · obtain ⟨e1, e2⟩ := rs_up (x * f.lo) f.hi h2
      rw [e2, e1]
      have := far_quo hc (by omega : 1000000000000000 < (x * f.lo).natAbs / f.hi.toNat)
      have := le_up (x * f.lo) f.hi
      simp only
      omega
    · left
      rw [show flR (x * f.lo) f.hi = (0, 0, false) from if_neg h2]
      simp
theorem rs_end {h : Hul} {s : Spr} (hh : RS h s) : reH h = fiR s.lo s.hi s.ok := by
  unfold reH fiR
  rcases hh with ⟨h1, h2, h3, h4, h5⟩ | ⟨h1, h2⟩
  · rw [h1, h3, h4, h5, if_neg (by decide)]
    rfl
  · rw [h1, if_pos rfl, if_neg]
    intro h
    simp only [Bool.and_eq_true, numB_iff] at h
    rcases h2 with h2 | h2 | h2
    · rw [h2] at h; exact absurd h.1 (by decide)
    · omega
    · omega
def tmR (a b : Rng) (c : Int) : Rng × Int := if rngOk a && rngOk b then (if 1 ≤ c ∧ c ≤ 1000000000000000 then (fiR (spO [a.lo, a.hi] [⟨b.lo, c⟩, ⟨b.hi, c⟩] 2).lo (spO [a.lo, a.hi] [⟨b.lo, c⟩, ⟨b.hi, c⟩] 2).hi (spO [a.lo, a.hi] [⟨b.lo, c⟩, ⟨b.hi, c⟩] 2).ok) else (⟨0, 0⟩, 3)) else (⟨0, 0⟩, 2)
theorem tmR_eq (a b : Rng) (c : Int) : tmR a b c = tmF a b c := by
  unfold tmR tmF
  by_cases h : (rngOk a && rngOk b) = true
  · rw [if_pos h, if_pos h]
    by_cases h2 : 1 ≤ c ∧ c ≤ 1000000000000000
    · rw [if_pos h2, if_pos h2]
      exact (rs_end (rs_next (rs_next (rs_next (rs_first a.lo ⟨b.lo, c⟩ h2.1) a.lo ⟨b.hi, c⟩ h2.1) a.hi ⟨b.lo, c⟩ h2.1) a.hi ⟨b.hi, c⟩ h2.1)).symm
    · rw [if_neg h2, if_neg h2]
  · rw [if_neg h, if_neg h]
end Go.Proofs.Ytljjpidigckheaa.Un
namespace Go.Proofs.Ytljjpidigckheaa.Un
open Go.RowKit
theorem cell_more {w : World} {b o : Nat} {v : Value} (x : Obj) (h : w.cell? ⟨b, o, none⟩ = some v) : (w.alloc x).cell? ⟨b, o, none⟩ = some v :=
  (((Below.refl _ _).alloc (Nat.le_refl _) x).cell (p := ⟨b, o, none⟩) (block_lt_of_cell h)).trans h
theorem pick_sp2 (x y n d m e : Int) (W : World) (k : Nat) (hk : W.heap.size = k) (hx : numB x = true ∧ numB y = true) (hn : numB n = true ∧ 1 ≤ d ∧ d ≤ 1000000000000000) (hm : numB m = true ∧ 1 ≤ e ∧ e ≤ 1000000000000000) :
    Calls Try.prog 97 #[.slice (some ⟨k, 0, none⟩) 2 2, .slice (some ⟨k + 1, 0, none⟩) 2 2] ((W.alloc (.cells #[I x, I y] 3)).alloc (.cells #[I n, I d, I m, I e] 49)) (RetRn W (fiR (spO [x, y] [⟨n, d⟩, ⟨m, e⟩] 2).lo (spO [x, y] [⟨n, d⟩, ⟨m, e⟩] 2).hi (spO [x, y] [⟨n, d⟩, ⟨m, e⟩] 2).ok)) := by
  subst hk
  have h := spread_any (some ⟨W.heap.size, 0, none⟩) (some ⟨W.heap.size + 1, 0, none⟩) 2 2 [x, y] [⟨n, d⟩, ⟨m, e⟩] ((W.alloc (.cells #[I x, I y] 3)).alloc (.cells #[I n, I d, I m, I e] 49)) _ ⟨by simp, by simp⟩ (Nat.le_refl _)
    (Rd_new (heap_before (heap_last _ _ _ rfl)) 1 2 0 _ (all2 (all1 rfl) (all1 rfl))) (Rd_new (heap_last _ _ _ (by simp)) 2 2 0 _ (all2 (all2 rfl rfl) (all2 rfl rfl))) (all2 hx.1 hx.2) (all2 hn hm)
  exact h.mono fun e w' h2 => ⟨h2.1, under2 (under2 h2.2)⟩
set_option maxRecDepth 100000 in
set_option maxHeartbeats 2000000 in
theorem refTimes_any (a b : Rng) (c : Int) (w : World) : Calls Try.prog 56 #[a.val, b.val, I c] w (RetRn w (tmR a b c)) := by
  have hf : Hid (tmR a b c = if rngOk a && rngOk b then (if 1 ≤ c ∧ c ≤ 1000000000000000 then (fiR (spO [a.lo, a.hi] [⟨b.lo, c⟩, ⟨b.hi, c⟩] 2).lo (spO [a.lo, a.hi] [⟨b.lo, c⟩, ⟨b.hi, c⟩] 2).hi (spO [a.lo, a.hi] [⟨b.lo, c⟩, ⟨b.hi, c⟩] 2).ok) else (⟨0, 0⟩, 3)) else (⟨0, 0⟩, 2)) := rfl
  have ca := Lib.hid fun W => refRange_any a W
  have cb := Lib.hid fun W => refRange_any b W
  obtain ⟨W, hW⟩ : ∃ W, W = (((w.alloc (.cells #[I a.lo, I a.hi] 24)).alloc (.cells #[I b.lo, I b.hi] 24)).alloc (.cells #[I 0, I 0] 24)) := ⟨_, rfl⟩
  have rowW0 : W.heap[w.heap.size]? = some (.cells #[I a.lo, I a.hi] 24 (0, 0)) := by rw [hW]; exact heap_before (heap_before (heap_last _ _ _ rfl))
  have yW00 := ovr_cell (W := W) (b := w.heap.size) (o := 0) (v := I a.lo) (by rw [cell_of_row _ _ _ _ _ _ rowW0]; rfl)
  have yW01 := ovr_cell (W := W) (b := w.heap.size) (o := 1) (v := I a.hi) (by rw [cell_of_row _ _ _ _ _ _ rowW0]; rfl)
  have RrowW0 := Lib.hid (ovr_row rowW0)
  clear rowW0
  have rowW1 : W.heap[w.heap.size + 1]? = some (.cells #[I b.lo, I b.hi] 24 (0, 0)) := by rw [hW]; exact heap_before (heap_last _ _ _ (by simp))
  have yW10 := ovr_cell (W := W) (b := w.heap.size + 1) (o := 0) (v := I b.lo) (by rw [cell_of_row _ _ _ _ _ _ rowW1]; rfl)
  have yW11 := ovr_cell (W := W) (b := w.heap.size + 1) (o := 1) (v := I b.hi) (by rw [cell_of_row _ _ _ _ _ _ rowW1]; rfl)
  have RrowW1 := Lib.hid (ovr_row rowW1)
  clear rowW1
  have rowW2 : W.heap[w.heap.size + 1 + 1]? = some (.cells #[I 0, I 0] 24 (0, 0)) := by rw [hW]; exact heap_last _ _ _ (by simp)
  have yW20 := ovr_cell (W := W) (b := w.heap.size + 1 + 1) (o := 0) (v := I 0) (by rw [cell_of_row _ _ _ _ _ _ rowW2]; rfl)
  have yW21 := ovr_cell (W := W) (b := w.heap.size + 1 + 1) (o := 1) (v := I 0) (by rw [cell_of_row _ _ _ _ _ _ rowW2]; rfl)
  have RrowW2 := Lib.hid (ovr_row rowW2)
  clear rowW2
  have HUW : Hid (∀ u, Below w.heap.size w (ovr W u)) := U3 hW
  have HW := Lib.hid hW
  clear hW
  rcases h1 : rngOk a with _ | _ <;> (rw [h1] at hf ca)
  · go_enter Try.func56, Try.ntmps56
    go_upto_region 1 with (fail)
    rw [← HW.out]
    obtain ⟨u0, hu0⟩ := ovr_self W
    rw [hu0]
    clear hu0
    go_wp2_with fail
    refine (ca.out _).mono ?_
    rintro e w1 ⟨rfl, hb1⟩
    obtain ⟨u1, rfl⟩ := ovr_next hb1
    clear hb1
    go_wp2_with (refine wpList_store_row rfl 24 _ _ rfl (w.heap.size + 1 + 1) rfl _ _ (RrowW2.out _) _ rfl (one2 rfl rfl) rfl (by kernel_rfl) ?_)
    refine bodyPost_ret (results_cell_tmp rfl _ _ (w.heap.size + 1 + 1) 24 _ (0, 0) _ rfl (setRow_same (RrowW2.out _)) Try.underlying24 rfl (by kernel_rfl)) rfl ?_
    exact ⟨by rw [hf.out]; rfl, below_setRow (HUW.out _) (by omega) _⟩
  rcases h2 : rngOk b with _ | _ <;> (rw [h2] at hf cb)
  · go_enter Try.func56, Try.ntmps56
    go_upto_region 1 with (fail)
    rw [← HW.out]
    obtain ⟨u0, hu0⟩ := ovr_self W
    rw [hu0]
    clear hu0
    go_wp2_with fail
    refine (ca.out _).mono ?_
    rintro e w1 ⟨rfl, hb1⟩
    obtain ⟨u1, rfl⟩ := ovr_next hb1
    clear hb1
    go_wp2_with fail
    refine (cb.out _).mono ?_
    rintro e w1 ⟨rfl, hb1⟩
    obtain ⟨u2, rfl⟩ := ovr_next hb1
    clear hb1
    go_wp2_with (refine wpList_store_row rfl 24 _ _ rfl (w.heap.size + 1 + 1) rfl _ _ (RrowW2.out _) _ rfl (one2 rfl rfl) rfl (by kernel_rfl) ?_)
    refine bodyPost_ret (results_cell_tmp rfl _ _ (w.heap.size + 1 + 1) 24 _ (0, 0) _ rfl (setRow_same (RrowW2.out _)) Try.underlying24 rfl (by kernel_rfl)) rfl ?_
    exact ⟨by rw [hf.out]; rfl, below_setRow (HUW.out _) (by omega) _⟩
  rw [if_pos (by rfl)] at hf
  have Ka := rngOk_iff.1 h1
  have Kb := rngOk_iff.1 h2
  clear h1 h2
  by_cases h3 : 1 ≤ c ∧ c ≤ 1000000000000000
  · rw [if_pos h3] at hf
    have t1 : decide (c < 1) = false := decide_eq_false (by omega)
    have t2 : decide (1000000000000000 < c) = false := decide_eq_false (by omega)
    have cs := Lib.hid fun W k hk => pick_sp2 a.lo a.hi b.lo c b.hi c W k hk ⟨numB_iff.2 (by omega), numB_iff.2 (by omega)⟩ ⟨numB_iff.2 (by omega), by omega, by omega⟩ ⟨numB_iff.2 (by omega), by omega, by omega⟩
    obtain ⟨q, hq⟩ : ∃ q, fiR (spO [a.lo, a.hi] [⟨b.lo, c⟩, ⟨b.hi, c⟩] 2).lo (spO [a.lo, a.hi] [⟨b.lo, c⟩, ⟨b.hi, c⟩] 2).hi (spO [a.lo, a.hi] [⟨b.lo, c⟩, ⟨b.hi, c⟩] 2).ok = q := ⟨_, rfl⟩
    rw [hq] at hf cs
    clear h3 Ka Kb hq
    go_enter Try.func56, Try.ntmps56
    go_upto_region 1 with (fail)
    rw [← HW.out]
    obtain ⟨u0, hu0⟩ := ovr_self W
    rw [hu0]
    clear hu0
    go_wp2_with fail
    refine (ca.out _).mono ?_
    rintro e w1 ⟨rfl, hb1⟩
    obtain ⟨u1, rfl⟩ := ovr_next hb1
    clear hb1
    go_wp2_with fail
    refine (cb.out _).mono ?_
    rintro e w1 ⟨rfl, hb1⟩
    obtain ⟨u2, rfl⟩ := ovr_next hb1
    clear hb1
    have z0 := fun x => cell_more x (yW10 u2)
    have z1 := fun x => cell_more x (yW11 u2)
    go_wp2_with fail
    refine (cs.out _ _ rfl).mono ?_
    rintro e w1 ⟨rfl, hb1⟩
    obtain ⟨u3, rfl⟩ := ovr_next hb1
    clear hb1
    go_wp2_with (refine wpList_store_row rfl 24 _ _ rfl (w.heap.size + 1 + 1) rfl _ _ (RrowW2.out _) _ rfl (one2 rfl rfl) rfl (by kernel_rfl) ?_)
    refine bodyPost_ret (results_cell_tmp rfl _ _ (w.heap.size + 1 + 1) 24 _ (0, 0) _ rfl (setRow_same (RrowW2.out _)) Try.underlying24 rfl (by kernel_rfl)) rfl ?_
    exact ⟨by rw [hf.out]; rfl, below_setRow (HUW.out _) (by omega) _⟩
  · rw [if_neg h3] at hf
    have t0 : (decide (c < 1) = true) ∨ (decide (c < 1) = false ∧ decide (1000000000000000 < c) = true) := by simp only [decide_eq_true_eq, decide_eq_false_iff_not]; omega
    clear h3 Ka Kb
    rcases t0 with t2 | ⟨t2, t3⟩
    all_goals
      go_enter Try.func56, Try.ntmps56
      go_upto_region 1 with (fail)
      rw [← HW.out]
      obtain ⟨u0, hu0⟩ := ovr_self W
      rw [hu0]
      clear hu0
      go_wp2_with fail
      refine (ca.out _).mono ?_
      rintro e w1 ⟨rfl, hb1⟩
      obtain ⟨u1, rfl⟩ := ovr_next hb1
      clear hb1
      go_wp2_with fail
      refine (cb.out _).mono ?_
      rintro e w1 ⟨rfl, hb1⟩
      obtain ⟨u2, rfl⟩ := ovr_next hb1
      clear hb1
      go_wp2_with (refine wpList_store_row rfl 24 _ _ rfl (w.heap.size + 1 + 1) rfl _ _ (RrowW2.out _) _ rfl (one2 rfl rfl) rfl (by kernel_rfl) ?_)
      refine bodyPost_ret (results_cell_tmp rfl _ _ (w.heap.size + 1 + 1) 24 _ (0, 0) _ rfl (setRow_same (RrowW2.out _)) Try.underlying24 rfl (by kernel_rfl)) rfl ?_
      exact ⟨by rw [hf.out]; rfl, below_setRow (HUW.out _) (by omega) _⟩
end Go.Proofs.Ytljjpidigckheaa.Un
