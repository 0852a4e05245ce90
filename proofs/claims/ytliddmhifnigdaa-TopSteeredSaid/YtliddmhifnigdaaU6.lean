/- The contract of CheckTable of package units. -/
import Derived.Test.YtliddmhifnigdaaU5
namespace Go.Proofs.Ytliddmhifnigdaa.Un
open Go.RowKit
/-- A coordinate. -/
def wiC (n : Int) : Bool := decide (-1000000000000 ≤ n) && decide (n ≤ 1000000000000)
theorem wiC_iff {n : Int} : wiC n = true ↔ -1000000000000 ≤ n ∧ n ≤ 1000000000000 := by simp [wiC]
/-- Knot k (lo its x, hi its y) is in order. -/
def knB (t : List Rng) (k : Nat) : Bool := wiC (at0 t k).lo && (wiC (at0 t k).hi && (decide (k = 0) || decide ((at0 t (k - 1)).lo < (at0 t k).lo)))
def tabB (t : List Rng) : Bool := (List.range t.length).all (knB t) && (decide (2 ≤ t.length) && decide (t.length ≤ 60))
def ctF (t : List Rng) : Int := if tabB t then 0 else 2
theorem within_c (n : Int) (w : World) : Calls Try.prog 63 #[I n] w fun e w' => e = .returned (.bool (wiC n)) ∧ w = w' := by
  rcases h1 : decide (-1000000000000 ≤ n) with _ | _ <;> rcases h2 : decide (n ≤ 1000000000000) with _ | _
  all_goals
    have hf : Hid (wiC n = (decide (-1000000000000 ≤ n) && decide (n ≤ 1000000000000))) := rfl
    rw [h1, h2] at hf
    go_enter Try.func63, Try.ntmps63
    go_wp2
    go_ret
    exact ⟨by rw [hf.out]; rfl, rfl⟩
theorem tab_no {t : List Rng} {k : Nat} (hk : k < t.length) (h : knB t k = false) : ctF t = 2 := by
  have : tabB t = false := by
    unfold tabB
    rw [Bool.and_eq_false_iff]
    left
    rw [List.all_eq_false]
    exact ⟨k, List.mem_range.2 hk, by rw [h]; decide⟩
  rw [ctF, this]; rfl
set_option maxRecDepth 100000 in
set_option maxHeartbeats 4000000 in
theorem table_any (A : Option Addr) (n c : Nat) (t : List Rng) (w : World) (B : Nat) (hn : n = t.length) (hm : n ≤ maxLen) (hB : B ≤ w.heap.size) (hx : Rd w B 2 A n (rR t)) :
    Calls Try.prog 37 #[.slice A n c] w fun e w' => e = .returned (I (ctF t)) ∧ Below w.heap.size w w' := by
  subst hn
  have HX : Hid (∀ u, Rd (ovr w u) B 2 A t.length (rR t)) := fun u => hx.below ((ovr_below w u).mono hB)
  obtain ⟨u0, hu0⟩ := ovr_self w
  have H0 := Lib.hid hu0
  unfold maxLen at hm
  clear hx hB hu0
  have HUw : Hid (∀ u, Below w.heap.size w (ovr w u)) := fun u => ovr_below _ _
  go_enter Try.func37, Try.ntmps37
  go_wp2_with fail
  go_loopw [8] (fun i wr => ∃ k : Nat, k ≤ t.length ∧ i = .int .i64 k ∧ (∀ j, j < k → knB t j = true) ∧ ∃ u, wr = ovr w u) (fun i _ => t.length - (intOf i).toNat)
  case atStart => exact ⟨0, by omega, rfl, fun j hj => absurd hj (by omega), u0, H0.out⟩
  case round =>
    obtain ⟨k, hk, rfl, hg, u, rfl⟩ := hrel
    have Hg := Lib.hid hg
    clear hg
    by_cases hlt : k < t.length
    · obtain ⟨b, o, hA, hbB, e0, e1⟩ := (HX.out u).rng hlt
      have hp : Hid (0 < k → ∀ u, (ovr w u).cell? ⟨b, o + (k - 1) * 2, none⟩ = some (I (at0 t (k - 1)).lo)) := fun h0 u => by
        obtain ⟨b', o', hA', _, e0', _⟩ := (HX.out u).rng (show k - 1 < t.length by omega)
        rw [hA] at hA'
        (injection hA' with ea; injection ea with ea1 ea2; subst ea1 ea2)
        exact e0'
      subst hA
      have hkn : Hid (knB t k = (wiC (at0 t k).lo && (wiC (at0 t k).hi && (decide (k = 0) || decide ((at0 t (k - 1)).lo < (at0 t k).lo))))) := rfl
      obtain ⟨x, hx⟩ : ∃ x, at0 t k = x := ⟨_, rfl⟩
      obtain ⟨p, hpx⟩ : ∃ p, (at0 t (k - 1)).lo = p := ⟨_, rfl⟩
      rw [hx] at e0 e1
      rw [hx, hpx] at hkn
      rw [hpx] at hp
      clear hx hpx
      go_upto_region 5 with (fail)
      obtain ⟨Z, hZ⟩ : ∃ Z, Z = ((ovr w u).alloc (.cells #[I x.lo, I x.hi] 111)) := ⟨_, rfl⟩
      have reZ : ∀ v, ∃ x, ovr Z v = ovr w x := fun v => ovr_re1 hZ
      have rowZ0 : Z.heap[(ovr w u).heap.size]? = some (.cells #[I x.lo, I x.hi] 111 (0, 0)) := by rw [hZ]; exact heap_last _ _ _ rfl
      have yZ00 := ovr_cell (W := Z) (b := (ovr w u).heap.size) (o := 0) (v := I x.lo) (by rw [cell_of_row _ _ _ _ _ _ rowZ0]; rfl)
      have yZ01 := ovr_cell (W := Z) (b := (ovr w u).heap.size) (o := 1) (v := I x.hi) (by rw [cell_of_row _ _ _ _ _ _ rowZ0]; rfl)
      have RrowZ0 := Lib.hid (ovr_row rowZ0)
      clear rowZ0
      have HBZ : Hid (∀ u, Below w.heap.size w (ovr Z u)) := fun u => by obtain ⟨x, hx⟩ := reZ u; rw [hx]; exact ovr_below _ _
      have HUZ : Hid (∀ u, Below w.heap.size w (ovr Z u)) := fun u => by obtain ⟨x, hx⟩ := reZ u; rw [hx]; exact HUw.out x
      clear reZ
      have HZ := Lib.hid hZ
      clear hZ
      rw [← HZ.out]
      clear e0 e1
      have cz : Hid (∀ (n : Int) (v : Bool) (W : World), wiC n = v → Calls Try.prog 63 #[I n] W fun e w' => e = .returned (.bool v) ∧ Below W.heap.size W w') := by
        rintro n v W rfl
        refine (within_c n W).mono ?_
        rintro e w' ⟨rfl, rfl⟩
        exact ⟨rfl, Below.refl _ _⟩
      rcases h1 : wiC x.lo with _ | _
      · rw [h1] at hkn
        have hno := Lib.hid (tab_no hlt hkn.out)
        refine wp_region_below_lit (by kernel_rfl) (by kernel_rfl) ?_
        repeat (go_big_quiet_step ((go_at_call 63; exact call_below (cz.out _ _ _ (by assumption)))))
        refine wpQuiet_nil ?_
        intro w1 hb1
        obtain ⟨u1, rfl⟩ : ∃ u, w1 = ovr Z u := ⟨w1, ovr_of hb1⟩
        clear hb1
        go_wp2_with fail
        go_ret
        exact ⟨ret_int hno.out.symm, HUZ.out _⟩
      rcases h2 : wiC x.hi with _ | _
      · rw [h1, h2] at hkn
        have hno := Lib.hid (tab_no hlt hkn.out)
        refine wp_region_below_lit (by kernel_rfl) (by kernel_rfl) ?_
        repeat (go_big_quiet_step ((go_at_call 63; exact call_below (cz.out _ _ _ (by assumption)))))
        refine wpQuiet_nil ?_
        intro w1 hb1
        obtain ⟨u1, rfl⟩ : ∃ u, w1 = ovr Z u := ⟨w1, ovr_of hb1⟩
        clear hb1
        go_wp2_with fail
        go_ret
        exact ⟨ret_int hno.out.symm, HUZ.out _⟩
      rw [h1, h2] at hkn
      have hZw : Hid (∀ v, ∃ u, ovr Z v = ovr w u) := fun v => ⟨_, ovr_of (HUZ.out v)⟩
      by_cases hk0 : k = 0
      · have hk1 := hkn.out
        rw [decide_eq_true hk0] at hk1
        have hok : Hid (knB t k = true) := hk1
        have hk0c : decide (0 < k) = false := decide_eq_false (by omega)
        clear hk0 hk1 hkn hp
        refine wp_region_below_lit (by kernel_rfl) (by kernel_rfl) ?_
        repeat (go_big_quiet_step ((go_at_call 63; exact call_below (cz.out _ _ _ (by assumption)))))
        refine wpQuiet_nil ?_
        intro w1 hb1
        obtain ⟨u1, rfl⟩ : ∃ u, w1 = ovr Z u := ⟨w1, ovr_of hb1⟩
        clear hb1
        go_wp2_with fail
        go_roundw
        case rel => exact ⟨k + 1, by omega, by go_num, succ_case Hg.out hok.out, hZw.out _⟩
        case measure => simp [intOf]; omega
      · have hp1 := hp.out (by omega)
        rw [decide_eq_false hk0] at hkn
        have hk0c : decide (0 < k) = true := decide_eq_true (by omega)
        have g1 : (k : Int).toNat = k := rfl
        have n1 : IntKind.i64.wrap ((k : Int) - 1) = (k : Int) - 1 := IntWalk.i64_in _ (by omega)
        have n2 : (0 : Int) ≤ (k : Int) - 1 := by omega
        have n3 : ((k : Int) - 1).toNat = k - 1 := by omega
        have n4 : (k : Int) - 1 < (t.length : Int) := by omega
        have pZ : ∀ v, (ovr Z v).cell? ⟨b, o + (k - 1) * 2, none⟩ = some (I p) := fun v => by obtain ⟨u, hu⟩ := hZw.out v; rw [hu]; exact hp1 u
        clear hp hp1 hk0
        by_cases hlp : p < x.lo
        · rw [decide_eq_true hlp] at hkn
          have hok : Hid (knB t k = true) := hkn.out
          have hlb : decide (x.lo ≤ p) = false := decide_eq_false (by omega)
          clear hlp hkn
          refine wp_region_below_lit (by kernel_rfl) (by kernel_rfl) ?_
          repeat (go_big_quiet_step ((go_at_call 63; exact call_below (cz.out _ _ _ (by assumption)))))
          refine wpQuiet_nil ?_
          intro w1 hb1
          obtain ⟨u1, rfl⟩ : ∃ u, w1 = ovr Z u := ⟨w1, ovr_of hb1⟩
          clear hb1 n1 n2 n3 n4 g1
          go_wp2_with fail
          go_roundw
          case rel => exact ⟨k + 1, by omega, by go_num, succ_case Hg.out hok.out, hZw.out _⟩
          case measure => simp [intOf]; omega
        · rw [decide_eq_false hlp] at hkn
          have hno := Lib.hid (tab_no hlt hkn.out)
          have hlb : decide (x.lo ≤ p) = true := decide_eq_true (by omega)
          clear hlp hkn
          refine wp_region_below_lit (by kernel_rfl) (by kernel_rfl) ?_
          repeat (go_big_quiet_step ((go_at_call 63; exact call_below (cz.out _ _ _ (by assumption)))))
          refine wpQuiet_nil ?_
          intro w1 hb1
          obtain ⟨u1, rfl⟩ : ∃ u, w1 = ovr Z u := ⟨w1, ovr_of hb1⟩
          clear hb1 n1 n2 n3 n4 g1
          go_wp2_with fail
          go_ret
          exact ⟨ret_int hno.out.symm, HUZ.out _⟩
    · obtain rfl : k = t.length := by omega
      have hfin : Hid (ctF t = if 2 ≤ t.length ∧ t.length ≤ 60 then 0 else 2) := by
        show _ = _
        have h1 : (List.range t.length).all (knB t) = true := List.all_eq_true.2 fun j hj => Hg.out j (List.mem_range.1 hj)
        unfold ctF tabB
        rw [h1]
        by_cases h : 2 ≤ t.length ∧ t.length ≤ 60
        · rw [if_pos h, decide_eq_true h.1, decide_eq_true h.2]; rfl
        · rw [if_neg h, if_neg (by simp only [Bool.true_and, Bool.and_eq_true, decide_eq_true_eq]; exact h)]
      clear Hg
      by_cases g1 : t.length < 2
      · rw [if_neg (by omega)] at hfin
        have g2 : decide ((t.length : Int) < 2) = true := decide_eq_true (by omega)
        go_wp2_with fail
        go_ret
        exact ⟨ret_int hfin.out.symm, ovr_below _ _⟩
      · have g2 : decide ((t.length : Int) < 2) = false := decide_eq_false (by omega)
        by_cases g3 : t.length ≤ 60
        · rw [if_pos (by omega)] at hfin
          have g4 : decide (60 < (t.length : Int)) = false := decide_eq_false (by omega)
          go_wp2_with fail
          go_ret
          exact ⟨ret_int hfin.out.symm, ovr_below _ _⟩
        · rw [if_neg (by omega)] at hfin
          have g4 : decide (60 < (t.length : Int)) = true := decide_eq_true (by omega)
          go_wp2_with fail
          go_ret
          exact ⟨ret_int hfin.out.symm, ovr_below _ _⟩
end Go.Proofs.Ytliddmhifnigdaa.Un
/- The contract of at of a line of package units. -/
namespace Go.Proofs.Ytliddmhifnigdaa.Un
open Go.RowKit
/-- A line between two knots, and a place on it. -/
structure LnOk (p q : Rng) (x : Int) : Prop where
  x0 : -1000000000000 ≤ p.lo
  y0 : -1000000000000 ≤ p.hi ∧ p.hi ≤ 1000000000000
  x1 : q.lo ≤ 1000000000000
  y1 : -1000000000000 ≤ q.hi ∧ q.hi ≤ 1000000000000
  up : p.lo < q.lo
  xl : p.lo ≤ x
  xr : x ≤ q.lo
/-- The value, rounded outwards. -/
def atF (p q : Rng) (x : Int) : Rng := ⟨p.hi + (q.hi - p.hi) * (x - p.lo) / (q.lo - p.lo), if 0 < (q.hi - p.hi) * (x - p.lo) % (q.lo - p.lo) then p.hi + (q.hi - p.hi) * (x - p.lo) / (q.lo - p.lo) + 1 else p.hi + (q.hi - p.hi) * (x - p.lo) / (q.lo - p.lo)⟩
/-- A product with a part of c, divided by c, is no greater than the factor. -/
theorem part_le {a b c : Int} (hc : 1 ≤ c) (h0 : 0 ≤ b) (h1 : b ≤ c) : -a.natAbs ≤ a * b / c ∧ a * b / c ≤ a.natAbs ∧ (a * b).natAbs / c.toNat ≤ a.natAbs := by
  have h2 : (a * b).natAbs ≤ a.natAbs * c.toNat := by
    rw [Int.natAbs_mul]
    exact Nat.mul_le_mul (Nat.le_refl _) (by omega)
  have h3 : (a * b).natAbs / c.toNat ≤ a.natAbs := Nat.div_le_of_le_mul (by rw [Nat.mul_comm]; exact h2)
  have h4 : a * b ≤ (a.natAbs : Int) * c := by
    have : ((a * b).natAbs : Int) ≤ ((a.natAbs * c.toNat : Nat) : Int) := by exact_mod_cast h2
    rw [Int.natCast_mul] at this
    have e : ((c.toNat : Nat) : Int) = c := by omega
    rw [e] at this
    omega
  have h5 : -((a.natAbs : Int) * c) ≤ a * b := by
    have : ((a * b).natAbs : Int) ≤ ((a.natAbs * c.toNat : Nat) : Int) := by exact_mod_cast h2
    rw [Int.natCast_mul] at this
    have e : ((c.toNat : Nat) : Int) = c := by omega
    rw [e] at this
    omega
  refine ⟨?_, Int.ediv_le_of_le_mul (by omega) h4, h3⟩
  rw [Int.le_ediv_iff_mul_le (by omega), Int.neg_mul]
  exact h5
set_option maxRecDepth 100000 in
set_option maxHeartbeats 4000000 in
theorem at_any (p q : Rng) (x : Int) (w : World) (h : LnOk p q x) : Calls Try.prog 89 #[.agg #[I p.lo, I p.hi, I q.lo, I q.hi], I x] w fun e w' => e = .returned ((atF p q x).val) ∧ Below w.heap.size w w' := by
  obtain ⟨h1, h2, h3, h4, h5, h6, h7⟩ := h
  have hp := part_le (a := q.hi - p.hi) (b := x - p.lo) (c := q.lo - p.lo) (by omega) (by omega) (by omega)
  have hfa := ovF_near (v := (q.hi - p.hi) * (x - p.lo)) (c := q.lo - p.lo) (by omega)
  have hm : 0 ≤ (q.hi - p.hi) * (x - p.lo) % (q.lo - p.lo) := Int.emod_nonneg _ (by omega)
  have cp : Hid (∀ W, Calls Try.prog 56 #[I (q.hi - p.hi), I (x - p.lo)] W fun e w' => e = .returned (wdV ((q.hi - p.hi) * (x - p.lo))) ∧ Below W.heap.size W w') := fun W => product_any _ _ W (by omega) (by omega)
  have co : Hid (∀ W, Calls Try.prog 57 #[wdV ((q.hi - p.hi) * (x - p.lo)), I (q.lo - p.lo)] W fun e w' => e = .returned (.tuple #[I ((q.hi - p.hi) * (x - p.lo) / (q.lo - p.lo)), I ((q.hi - p.hi) * (x - p.lo) % (q.lo - p.lo)), .bool true]) ∧ Below W.heap.size W w') := fun W => by
    have := over_any ((q.hi - p.hi) * (x - p.lo)) (q.lo - p.lo) W (by omega)
    rw [hfa] at this
    exact this
  have hat : Hid (atF p q x = ⟨p.hi + (q.hi - p.hi) * (x - p.lo) / (q.lo - p.lo), if 0 < (q.hi - p.hi) * (x - p.lo) % (q.lo - p.lo) then p.hi + (q.hi - p.hi) * (x - p.lo) / (q.lo - p.lo) + 1 else p.hi + (q.hi - p.hi) * (x - p.lo) / (q.lo - p.lo)⟩) := rfl
  have c1 : IntKind.i64.wrap (q.hi - p.hi) = q.hi - p.hi := IntWalk.i64_in _ (by omega)
  have c2 : IntKind.i64.wrap (x - p.lo) = x - p.lo := IntWalk.i64_in _ (by omega)
  have c3 : IntKind.i64.wrap (q.lo - p.lo) = q.lo - p.lo := IntWalk.i64_in _ (by omega)
  obtain ⟨n, hn⟩ : ∃ n, (q.hi - p.hi) * (x - p.lo) / (q.lo - p.lo) = n := ⟨_, rfl⟩
  obtain ⟨r, hr⟩ : ∃ r, (q.hi - p.hi) * (x - p.lo) % (q.lo - p.lo) = r := ⟨_, rfl⟩
  rw [hn, hr] at hat co
  rw [hn] at hp
  rw [hr] at hm
  have hb : -2000000000000 ≤ n ∧ n ≤ 2000000000000 := by omega
  have c4 : Hid (IntKind.i64.wrap (p.hi + n) = p.hi + n) := IntWalk.i64_in _ (by omega)
  have c5 : Hid (IntKind.i64.wrap (p.hi + n + 1) = p.hi + n + 1) := IntWalk.i64_in _ (by omega)
  clear hn hr hp hfa h1 h3 h5 h6 h7
  obtain ⟨W, hW⟩ : ∃ W, W = ((w.alloc (.cells #[I p.lo, I p.hi, I q.lo, I q.hi] 175)).alloc (.cells #[I 0, I 0] 23)) := ⟨_, rfl⟩
  have rowW0 : W.heap[w.heap.size]? = some (.cells #[I p.lo, I p.hi, I q.lo, I q.hi] 175 (0, 0)) := by rw [hW]; exact heap_before (heap_last _ _ _ rfl)
  have yW00 := ovr_cell (W := W) (b := w.heap.size) (o := 0) (v := I p.lo) (by rw [cell_of_row _ _ _ _ _ _ rowW0]; rfl)
  have yW01 := ovr_cell (W := W) (b := w.heap.size) (o := 1) (v := I p.hi) (by rw [cell_of_row _ _ _ _ _ _ rowW0]; rfl)
  have yW02 := ovr_cell (W := W) (b := w.heap.size) (o := 2) (v := I q.lo) (by rw [cell_of_row _ _ _ _ _ _ rowW0]; rfl)
  have yW03 := ovr_cell (W := W) (b := w.heap.size) (o := 3) (v := I q.hi) (by rw [cell_of_row _ _ _ _ _ _ rowW0]; rfl)
  have RrowW0 := Lib.hid (ovr_row rowW0)
  clear rowW0
  have rowW1 : W.heap[w.heap.size + 1]? = some (.cells #[I 0, I 0] 23 (0, 0)) := by rw [hW]; exact heap_last _ _ _ (by simp)
  have yW10 := ovr_cell (W := W) (b := w.heap.size + 1) (o := 0) (v := I 0) (by rw [cell_of_row _ _ _ _ _ _ rowW1]; rfl)
  have yW11 := ovr_cell (W := W) (b := w.heap.size + 1) (o := 1) (v := I 0) (by rw [cell_of_row _ _ _ _ _ _ rowW1]; rfl)
  have RrowW1 := Lib.hid (ovr_row rowW1)
  clear rowW1
  have HUW : Hid (∀ u, Below w.heap.size w (ovr W u)) := U2 hW
  have HW := Lib.hid hW
  clear hW
  obtain ⟨pl, ph⟩ := p
  obtain ⟨ql, qh⟩ := q
  simp only at *
  go_enter Try.func89, Try.ntmps89
  go_wp2_with fail
  rw [← HW.out]
  refine wp_region_below_lit (by kernel_rfl) (by kernel_rfl) ?_
  repeat (go_big_quiet_step ((first | (go_at_call 56; exact call_below (cp.out _)) | (go_at_call 57; exact call_below (co.out _)))))
  refine wpQuiet_nil ?_
  intro w1 hb1
  obtain ⟨u1, rfl⟩ : ∃ u, w1 = ovr W u := ⟨w1, ovr_of hb1⟩
  clear hb1 c1 c2 c3
  have c4 := c4.out
  have c5 := c5.out
  by_cases hr0 : 0 < r
  · rw [if_pos hr0] at hat
    have hrb : decide (0 < r) = true := decide_eq_true hr0
    clear hr0
    go_wp2_with (refine wpList_store_row rfl 23 _ _ rfl (w.heap.size + 1) rfl _ _ (heap_before (RrowW1.out _)) _ rfl (one2 rfl rfl) rfl (by kernel_rfl) ?_)
    refine bodyPost_ret (results_cell_only rfl _ _ (w.heap.size + 1) 23 _ (0, 0) _ rfl (setRow_same (heap_before (RrowW1.out _))) Try.underlying23 rfl (by kernel_rfl)) rfl ?_
    exact ⟨by rw [hat.out], below_setRow ((HUW.out _).alloc (HUW.out _).size _) (by omega) _⟩
  · rw [if_neg hr0] at hat
    have hrb : decide (0 < r) = false := decide_eq_false hr0
    clear hr0
    go_wp2_with (refine wpList_store_row rfl 23 _ _ rfl (w.heap.size + 1) rfl _ _ (heap_before (RrowW1.out _)) _ rfl (one2 rfl rfl) rfl (by kernel_rfl) ?_)
    refine bodyPost_ret (results_cell_only rfl _ _ (w.heap.size + 1) 23 _ (0, 0) _ rfl (setRow_same (heap_before (RrowW1.out _))) Try.underlying23 rfl (by kernel_rfl)) rfl ?_
    exact ⟨by rw [hat.out], below_setRow ((HUW.out _).alloc (HUW.out _).size _) (by omega) _⟩
end Go.Proofs.Ytliddmhifnigdaa.Un
/- The contracts of cmp.Compare and of the search in a table. -/
namespace Go.Proofs.Ytliddmhifnigdaa.Un
open Go.RowKit
theorem nan_any (n : Int) (w : World) : Calls Try.prog 52 #[I n] w fun e w' => e = .returned (.bool false) ∧ w = w' := by
  have h : (n != n) = false := by simp
  go_enter Try.func52, Try.ntmps52
  go_wp2
  go_ret
  exact ⟨rfl, rfl⟩
theorem compare2_any (a b : Int) (w : World) : Calls Try.prog 26 #[I a, I b] w fun e w' => e = .returned (I (cmpI a b)) ∧ w = w' := by
  have hn := Lib.hid fun n w => nan_any n w
  by_cases h1 : a < b
  · have hf := Lib.hid (cmpI_lt h1)
    go_enter Try.func26, Try.ntmps26
    go_wp2_with ((go_at_call 52; refine (hn.out _ _).mono ?_; rintro e w' ⟨rfl, rfl⟩))
    go_ret
    exact ⟨ret_int hf.out.symm, rfl⟩
  · by_cases h2 : a = b
    · have hf := Lib.hid (cmpI_eq h2)
      have h3 : ¬ b < a := by omega
      have h2' := Lib.hid h2
      clear h2
      go_enter Try.func26, Try.ntmps26
      go_wp2_with ((go_at_call 52; refine (hn.out _ _).mono ?_; rintro e w' ⟨rfl, rfl⟩))
      go_ret
      exact ⟨ret_int hf.out.symm, rfl⟩
    · have hf := Lib.hid (cmpI_gt (x := a) (y := b) (by omega))
      have h3 : b < a := by omega
      clear h2
      go_enter Try.func26, Try.ntmps26
      go_wp2_with ((go_at_call 52; refine (hn.out _ _).mono ?_; rintro e w' ⟨rfl, rfl⟩))
      go_ret
      exact ⟨ret_int hf.out.symm, rfl⟩
set_option maxRecDepth 100000 in
theorem value1_any (k : Rng) (x : Int) (w : World) : Calls Try.prog 88 #[k.val, I x] w fun e w' => e = .returned (I (cmpI k.lo x)) ∧ Below w.heap.size w w' := by
  obtain ⟨W, hW⟩ : ∃ W, W = (w.alloc (.cells #[I k.lo, I k.hi] 111)) := ⟨_, rfl⟩
  have rowW0 : W.heap[w.heap.size]? = some (.cells #[I k.lo, I k.hi] 111 (0, 0)) := by rw [hW]; exact heap_last _ _ _ rfl
  have yW00 := ovr_cell (W := W) (b := w.heap.size) (o := 0) (v := I k.lo) (by rw [cell_of_row _ _ _ _ _ _ rowW0]; rfl)
  have yW01 := ovr_cell (W := W) (b := w.heap.size) (o := 1) (v := I k.hi) (by rw [cell_of_row _ _ _ _ _ _ rowW0]; rfl)
  have RrowW0 := Lib.hid (ovr_row rowW0)
  clear rowW0
  have HUW : Hid (∀ u, Below w.heap.size w (ovr W u)) := U1 hW
  have HW := Lib.hid hW
  clear hW
  go_enter Try.func88, Try.ntmps88
  go_upto_region 1 with (fail)
  rw [← HW.out]
  obtain ⟨u0, hu0⟩ := ovr_self W
  rw [hu0]
  clear hu0
  go_wp2_with ((go_at_call 26; refine (compare2_any _ _ _).mono ?_; rintro e w' ⟨rfl, rfl⟩))
  go_ret
  exact ⟨rfl, HUW.out _⟩
/-- Where x is found: the first place that is not below it. -/
def BsAt (t : List Rng) (x : Int) (i : Nat) : Prop := i ≤ t.length ∧ (∀ j, j < i → (at0 t j).lo < x) ∧ (∀ j, i ≤ j → j < t.length → x ≤ (at0 t j).lo)
def RetBs (t : List Rng) (x : Int) (w : World) (e : Ending) (w' : World) : Prop := ∃ (i : Nat) (b : Bool), e = .returned (.tuple #[.int .i64 (i : Int), .bool b]) ∧ BsAt t x i ∧ Below w.heap.size w w'
def Asc (t : List Rng) : Prop := ∀ i j, i < j → j < t.length → (at0 t i).lo < (at0 t j).lo
set_option maxRecDepth 100000 in
set_option maxHeartbeats 2000000 in
theorem search_any (A : Option Addr) (n c : Nat) (t : List Rng) (x : Int) (w : World) (B : Nat) (hn : n = t.length) (hm : n ≤ 1000) (ha : Asc t) (hB : B ≤ w.heap.size) (hx : Rd w B 2 A n (rR t)) :
    Calls Try.prog 87 #[.slice A n c, I x, .func (Fn.func 88) #[] #[]] w (RetBs t x w) := by
  subst hn
  have HX : Hid (∀ u, Rd (ovr w u) B 2 A t.length (rR t)) := fun u => hx.below ((ovr_below w u).mono hB)
  have Ha := Lib.hid ha
  obtain ⟨u0, hu0⟩ := ovr_self w
  have H0 := Lib.hid hu0
  clear hx hB hu0 ha
  have HUw : Hid (∀ u, Below w.heap.size w (ovr w u)) := fun u => ovr_below _ _
  go_enter Try.func87, Try.ntmps87
  go_wp2_with fail
  go_loopw [9, 10] (fun i j wr => ∃ l h : Nat, l ≤ h ∧ h ≤ t.length ∧ i = .int .i64 l ∧ j = .int .i64 h ∧ (∀ j, j < l → (at0 t j).lo < x) ∧ (∀ j, h ≤ j → j < t.length → x ≤ (at0 t j).lo) ∧ ∃ u, wr = ovr w u) (fun i j _ => (intOf j - intOf i).toNat)
  case atStart => exact ⟨0, t.length, by omega, by omega, rfl, rfl, fun j hj => absurd hj (by omega), fun j hj hj2 => absurd hj2 (by omega), u0, H0.out⟩
  case round =>
    obtain ⟨l, h, hlh, hht, rfl, rfl, hl, hh, u, rfl⟩ := hrel
    have Hl := Lib.hid hl
    have Hh := Lib.hid hh
    clear hl hh
    by_cases hlt : l < h
    · have kb : decide (l < h) = true := decide_eq_true hlt
      go_upto_region 5 with (fail)
      obtain ⟨m, hmd⟩ : ∃ m : Nat, (l + h) / 2 = m := ⟨_, rfl⟩
      have e : ((l : Int) + (h : Int)) / 2 = (m : Int) := by omega
      rw [e]
      have hm1 : l ≤ m ∧ m < h := by omega
      obtain ⟨b, o, rfl, _, e0, e1⟩ := (HX.out u).rng (show m < t.length by omega)
      have Hm := Lib.hid hm1
      have n1 : m < t.length := by omega
      have cv := Lib.hid fun w => value1_any (at0 t m) x w
      obtain ⟨y, hy⟩ : ∃ y, at0 t m = y := ⟨_, rfl⟩
      rw [hy] at e0 e1 cv
      have Hy := Lib.hid hy
      clear e hmd hm1 hy
      by_cases h1 : y.lo < x
      · have k1 : cmpI y.lo x = -1 := cmpI_lt h1
        rw [k1] at cv
        have H1 := Lib.hid h1
        clear h1 k1
        go_wp2_with fail
        refine (cv.out _).mono ?_
        rintro e w1 ⟨rfl, hb1⟩
        obtain ⟨u1, rfl⟩ := ovr_next hb1
        clear hb1
        go_wp2_with fail
        go_roundw
        case rel => exact ⟨m + 1, h, by have := Hm.out; omega, by omega, by go_num, rfl, fun j hj => by
            rcases Nat.lt_or_ge j m with hjm | hjm
            · have h2 := Ha.out j m hjm n1; rw [Hy.out] at h2; have := H1.out; omega
            · obtain rfl : j = m := by omega
              rw [Hy.out]; exact H1.out, Hh.out, u1, rfl⟩
        case measure => simp [intOf]; have := Hm.out; omega
      · have k1 : Hid (0 ≤ cmpI y.lo x) := by show 0 ≤ _; unfold cmpI; rw [if_neg h1]; split <;> omega
        have H1 := Lib.hid h1
        obtain ⟨z, hz⟩ : ∃ z, cmpI y.lo x = z := ⟨_, rfl⟩
        rw [hz] at cv k1
        have k2 := k1.out
        clear h1 hz
        go_wp2_with fail
        refine (cv.out _).mono ?_
        rintro e w1 ⟨rfl, hb1⟩
        obtain ⟨u1, rfl⟩ := ovr_next hb1
        clear hb1
        go_wp2_with fail
        go_roundw
        case rel => exact ⟨l, m, by have := Hm.out; omega, by omega, rfl, rfl, Hl.out, fun j hj hjt => by
            have h3 : ¬ y.lo < x := by have := H1.out; omega
            rcases Nat.lt_or_ge m j with hjm | hjm
            · have h2 := Ha.out m j hjm hjt; rw [Hy.out] at h2; omega
            · obtain rfl : j = m := by omega
              rw [Hy.out]; omega, u1, rfl⟩
        case measure => simp [intOf]; have := Hm.out; omega
    · obtain rfl : l = h := by omega
      have kb : decide (l < l) = false := decide_eq_false (by omega)
      by_cases hin : l < t.length
      · obtain ⟨b, o, rfl, _, e0, e1⟩ := (HX.out u).rng hin
        have hin2 : decide (l < t.length) = true := decide_eq_true hin
        have cv := Lib.hid fun w => value1_any (at0 t l) x w
        go_wp2_with fail
        refine (cv.out _).mono ?_
        rintro e w1 ⟨rfl, hb1⟩
        obtain ⟨u1, rfl⟩ := ovr_next hb1
        clear hb1
        go_wp2_with fail
        go_ret2
        exact ⟨l, _, rfl, ⟨hht, Hl.out, Hh.out⟩, ovr_below _ _⟩
      · have hin2 : decide (l < t.length) = false := decide_eq_false hin
        go_wp2_with fail
        go_ret2
        exact ⟨l, _, rfl, ⟨hht, Hl.out, Hh.out⟩, ovr_below _ _⟩
end Go.Proofs.Ytliddmhifnigdaa.Un
/- The contract of value of package units. -/
namespace Go.Proofs.Ytliddmhifnigdaa.Un
open Go.RowKit
theorem rng_all {w : World} {B n : Nat} {A : Option Addr} {xs : List Rng} (h : Rd w B 2 A n (rR xs)) (hn : 0 < n) : ∃ b o, A = some ⟨b, o, none⟩ ∧ ∀ k, k < n → w.cell? ⟨b, o + k * 2, none⟩ = some (I (at0 xs k).lo) ∧ w.cell? ⟨b, o + k * 2 + 1, none⟩ = some (I (at0 xs k).hi) := by
  obtain ⟨b, o, e, _, hc⟩ := h hn
  exact ⟨b, o, e, fun k hk => ⟨hc k hk 0 (by omega), hc k hk 1 (by omega)⟩⟩
structure Tab (t : List Rng) : Prop where
  n2 : 2 ≤ t.length
  n60 : t.length ≤ 60
  x : ∀ j, j < t.length → -1000000000000 ≤ (at0 t j).lo ∧ (at0 t j).lo ≤ 1000000000000
  y : ∀ j, j < t.length → -1000000000000 ≤ (at0 t j).hi ∧ (at0 t j).hi ≤ 1000000000000
  asc : Asc t
theorem asc_of {t : List Rng} (h : ∀ k, 0 < k → k < t.length → (at0 t (k - 1)).lo < (at0 t k).lo) : Asc t := by
  intro i j hij
  induction j with
  | zero => omega
  | succ j ih =>
    intro hj
    have h1 := h (j + 1) (by omega) hj
    rw [show j + 1 - 1 = j by omega] at h1
    rcases Nat.lt_or_ge i j with h2 | h2
    · have := ih h2 (by omega); omega
    · obtain rfl : i = j := by omega
      exact h1
theorem tab_iff {t : List Rng} : tabB t = true ↔ Tab t := by
  unfold tabB
  rw [Bool.and_eq_true, Bool.and_eq_true, decide_eq_true_eq, decide_eq_true_eq, List.all_eq_true]
  constructor
  · rintro ⟨h, h2, h3⟩
    have hk : ∀ k, k < t.length → (wiC (at0 t k).lo = true ∧ wiC (at0 t k).hi = true ∧ (k = 0 ∨ (at0 t (k - 1)).lo < (at0 t k).lo)) := fun k hk => by
      have := h k (List.mem_range.2 hk)
      unfold knB at this
      simpa using this
    exact ⟨h2, h3, fun j hj => wiC_iff.1 (hk j hj).1, fun j hj => wiC_iff.1 (hk j hj).2.1, asc_of fun k h0 hkl => by rcases (hk k hkl).2.2 with h | h <;> omega⟩
  · intro h
    refine ⟨fun k hk => ?_, h.n2, h.n60⟩
    have hk := List.mem_range.1 hk
    unfold knB
    rw [wiC_iff.2 (h.x k hk), wiC_iff.2 (h.y k hk)]
    rcases Nat.eq_zero_or_pos k with h0 | h0
    · rw [decide_eq_true h0]; rfl
    · rw [decide_eq_true (h.asc (k - 1) k (by omega) hk)]; simp
/-- The first place that is not below x. -/
def plc : List Rng → Int → Nat
  | [], _ => 0 | k :: r, x => if k.lo < x then plc r x + 1 else 0
theorem plc_of : ∀ {t : List Rng} {x : Int} {i : Nat}, BsAt t x i → plc t x = i
  | [], x, i, h => by have := h.1; simp at this; subst this; rfl
  | k :: r, x, 0, h => by
    have h1 := h.2.2 0 (Nat.le_refl _) (by simp)
    have h1 : x ≤ k.lo := h1
    rw [plc, if_neg (by omega)]
  | k :: r, x, i + 1, h => by
    have h1 := h.2.1 0 (by omega)
    have h1 : k.lo < x := h1
    rw [plc, if_pos h1]
    have h0 := h.1
    rw [plc_of (t := r) (i := i) ⟨by simpa using h0, fun j hj => by have := h.2.1 (j + 1) (by omega); simpa [at0] using this, fun j hj hjl => by have := h.2.2 (j + 1) (by omega) (by simpa using hjl); simpa [at0] using this⟩]
/-- The value of a table, rounded outwards. -/
def valF (t : List Rng) (x : Int) : Rng := atF (at0 t (max (plc t x) 1 - 1)) (at0 t (max (plc t x) 1)) x
theorem place_ok {t : List Rng} {x : Int} {i m : Nat} (h : Tab t) (h0 : (at0 t 0).lo ≤ x) (h1 : x ≤ (at0 t (t.length - 1)).lo) (hi : BsAt t x i) (hm : m + 1 = max i 1) : m + 1 < t.length ∧ LnOk (at0 t m) (at0 t (m + 1)) x := by
  have h2 := h.n2
  have hil : i < t.length := by
    rcases Nat.lt_or_ge i t.length with h3 | h3
    · exact h3
    · have := hi.2.1 (t.length - 1) (by omega); omega
  have hml : m + 1 < t.length := by omega
  have a1 := h.x m (by omega)
  have a2 := h.x (m + 1) hml
  refine ⟨hml, a1.1, h.y m (by omega), a2.2, h.y (m + 1) hml, h.asc m (m + 1) (by omega) hml, ?_, ?_⟩
  · rcases Nat.eq_zero_or_pos i with h3 | h3
    · obtain rfl : m = 0 := by omega
      exact h0
    · obtain rfl : i = m + 1 := by omega
      have := hi.2.1 m (by omega); omega
  · rcases Nat.eq_zero_or_pos i with h3 | h3
    · obtain rfl : m = 0 := by omega
      have := hi.2.2 0 (by omega) (by omega)
      have := h.asc 0 (0 + 1) (by omega) hml
      omega
    · obtain rfl : i = m + 1 := by omega
      exact hi.2.2 (m + 1) (Nat.le_refl _) hml
set_option maxRecDepth 100000 in
set_option maxHeartbeats 4000000 in
theorem value_any (A : Option Addr) (n c : Nat) (t : List Rng) (x : Int) (w : World) (B : Nat) (hn : n = t.length) (ht : Tab t) (h0 : (at0 t 0).lo ≤ x) (h1 : x ≤ (at0 t (t.length - 1)).lo) (hB : B ≤ w.heap.size) (hx : Rd w B 2 A n (rR t)) :
    Calls Try.prog 65 #[.slice A n c, I x] w fun e w' => e = .returned ((valF t x).val) ∧ Below w.heap.size w w' := by
  subst hn
  have HX : Hid (∀ W', Below w.heap.size w W' → Rd W' B 2 A t.length (rR t) ∧ B ≤ W'.heap.size) := fun W' h => ⟨hx.below (h.mono hB), Nat.le_trans hB h.size⟩
  have cs : Hid (∀ W', Rd W' B 2 A t.length (rR t) ∧ B ≤ W'.heap.size → Calls Try.prog 87 #[.slice A t.length c, I x, .func (Fn.func 88) #[] #[]] W' (RetBs t x W')) := fun W' h => search_any A t.length c t x W' B rfl (by have := ht.n60; omega) ht.asc h.2 h.1
  have Hp := Lib.hid (And.intro ht (And.intro h0 h1))
  have ln : t.length ≤ 60 := ht.n60
  clear hx hB ht h0 h1
  obtain ⟨W, hW⟩ : ∃ W, W = (w.alloc (.cells #[I 0, I 0] 23)) := ⟨_, rfl⟩
  have rowW0 : W.heap[w.heap.size]? = some (.cells #[I 0, I 0] 23 (0, 0)) := by rw [hW]; exact heap_last _ _ _ rfl
  have yW00 := ovr_cell (W := W) (b := w.heap.size) (o := 0) (v := I 0) (by rw [cell_of_row _ _ _ _ _ _ rowW0]; rfl)
  have yW01 := ovr_cell (W := W) (b := w.heap.size) (o := 1) (v := I 0) (by rw [cell_of_row _ _ _ _ _ _ rowW0]; rfl)
  have RrowW0 := Lib.hid (ovr_row rowW0)
  clear rowW0
  have HUW : Hid (∀ u, Below w.heap.size w (ovr W u)) := U1 hW
  have HW := Lib.hid hW
  clear hW
  go_enter Try.func65, Try.ntmps65
  go_upto_region 1 with (fail)
  rw [← HW.out]
  obtain ⟨u0, hu0⟩ := ovr_self W
  rw [hu0]
  clear hu0
  go_wp2_with fail
  refine (cs.out _ (HX.out _ (HUW.out _))).mono ?_
  rintro e w1 ⟨i, bf, rfl, hbs, hb1⟩
  obtain ⟨u1, rfl⟩ := ovr_next hb1
  clear hb1
  obtain ⟨m, hm⟩ : ∃ m : Nat, m + 1 = max i 1 := ⟨max i 1 - 1, by omega⟩
  obtain ⟨hml, hln⟩ := place_ok Hp.out.1 Hp.out.2.1 Hp.out.2.2 hbs hm
  have hv : Hid (valF t x = atF (at0 t m) (at0 t (m + 1)) x) := by
    show _ = _
    rw [valF, plc_of hbs, ← hm]; rfl
  have cv := Lib.hid fun w => at_any (at0 t m) (at0 t (m + 1)) x w hln
  rw [← hv.out] at cv
  have hmi : max (i : Int) 1 = ((m + 1 : Nat) : Int) := by omega
  clear hbs hln hm
  go_upto_region 3 with (fail)
  have hbX := ovr_below W u1
  obtain ⟨X, hX⟩ : ∃ X, X = ovr W u1 := ⟨_, rfl⟩
  rw [← hX] at hbX
  rw [← hX]
  have hX' := Lib.hid hX
  clear hX
  have hbX' := Lib.hid hbX
  have reX : ∀ v, ∃ x, ovr X v = ovr W x := fun v => ovr_reB hbX v
  replace yW00 := tr_cell reX yW00
  replace yW01 := tr_cell reX yW01
  replace RrowW0 := Lib.hid (tr_row reX RrowW0.out)
  have HUX : Hid (∀ u, Below w.heap.size w (ovr X u)) := fun u => by obtain ⟨x, hx⟩ := reX u; rw [hx]; exact HUW.out x
  clear reX hbX
  obtain ⟨b, o, rfl, hc⟩ := rng_all (HX.out X (by have := HUX.out X; rwa [← ovr_of (Below.refl _ _)] at this)).1 (show 0 < t.length by omega)
  have e0 := ovr_cell (hc m (by omega)).1
  have e1 := ovr_cell (hc m (by omega)).2
  have e2 := ovr_cell (hc (m + 1) (by omega)).1
  have e3 := ovr_cell (hc (m + 1) (by omega)).2
  have n1 : IntKind.i64.wrap ((m : Int) + 1 - 1) = (m : Int) := by rw [show (m : Int) + 1 - 1 = (m : Int) by omega]; exact IntWalk.i64_in _ (by omega)
  have n2 : (0 : Int) ≤ (m : Int) + 1 := by omega
  have n3 : ((m : Int) + 1).toNat = m + 1 := by omega
  have n4 : (m : Int) + 1 < (t.length : Int) := by omega
  have n5 : m < t.length := by omega
  clear hc hmi
  refine wp_region_seq 12 (fun j => if j = 11 then some (fun u _ => u = (valF t x).val) else none) (by kernel_rfl) (by kernel_rfl) (by kernel_rfl) (by kernel_rfl) ?_
  simp only [List.take_succ_cons, List.take_zero, List.drop_succ_cons, List.drop_zero]
  repeat (first | (refine wpG_one rfl rfl rfl ?_; intro K hK; go_big_quiet_op; go_big_quiet_on) | (refine wpG_skip rfl ?_; simp only [Act.put, List.setIfInBounds_toArray, List.set_cons_zero, List.set_cons_succ]))
  refine wpG_make (fun u _ => u = (valF t x).val) rfl rfl (fun w' hw' _ => ?_) (fun u hu => ?_)
  · go_simp
    exact call_grow (cv.out _)
  obtain ⟨_, _, rfl⟩ := hu
  simp only [Act.put, List.setIfInBounds_toArray, List.set_cons_zero, List.set_cons_succ]
  repeat (first | (refine wpG_one rfl rfl rfl ?_; intro K hK; go_big_quiet_op; go_big_quiet_on) | (refine wpG_skip rfl ?_; simp only [Act.put, List.setIfInBounds_toArray, List.set_cons_zero, List.set_cons_succ]))
  refine wpG_nil (fun w5 hw5 hG => ?_)
  clear hG
  obtain ⟨u9, rfl⟩ : ∃ y, w5 = ovr X y := ⟨w5, ovr_of hw5.le⟩
  clear hw5
  refine wpTail_cons ?_
  refine wp_store_row 23 _ _ rfl (w.heap.size) rfl _ _ (RrowW0.out _) _ rfl (one2 rfl rfl) rfl (by kernel_rfl) ?_
  refine wpTail_nil ?_
  simp only [Act.put]
  go_wp2_with fail
  refine bodyPost_ret (results_cell_only rfl _ _ (w.heap.size) 23 _ (0, 0) _ rfl (setRow_same (RrowW0.out _)) Try.underlying23 rfl (by kernel_rfl)) rfl ?_
  exact ⟨rfl, below_setRow (HUX.out _) (by omega) _⟩
end Go.Proofs.Ytliddmhifnigdaa.Un
/- The contracts of around and Value of package units. -/
namespace Go.Proofs.Ytliddmhifnigdaa.Un
open Go.RowKit
def RetRow (w : World) (k : Nat) (r : Rng) (e : Ending) (w' : World) : Prop := e = .returned (.tuple #[]) ∧ w'.heap[k]? = some (.cells #[I r.lo, I r.hi] 23 (0, 0)) ∧ Below k w w'
set_option maxRecDepth 100000 in
set_option maxHeartbeats 2000000 in
theorem around1_any (y r : Rng) (k : Nat) (w : World) (hr : w.heap[k]? = some (.cells #[I y.lo, I y.hi] 23 (0, 0))) :
    Calls Try.prog 66 #[r.val, .pointer (some ⟨k, 0, none⟩)] w (RetRow w k (huF y r)) := by
  have hk := (Array.getElem?_eq_some_iff.1 hr).1
  have HK := Lib.hid hk
  clear hk
  have yw00 := ovr_cell (W := w) (b := k) (o := 0) (v := I y.lo) (by rw [cell_of_row _ _ _ _ _ _ hr]; rfl)
  have zw00 : ∀ u, (ovr w u).frozen? ⟨k, 0, none⟩ = false := fun u => frozen_of_row _ _ _ _ _ (ovr_row hr u)
  have yw01 := ovr_cell (W := w) (b := k) (o := 1) (v := I y.hi) (by rw [cell_of_row _ _ _ _ _ _ hr]; rfl)
  have zw01 : ∀ u, (ovr w u).frozen? ⟨k, 1, none⟩ = false := fun u => frozen_of_row _ _ _ _ _ (ovr_row hr u)
  have Rroww0 := Lib.hid (ovr_row hr)
  clear hr
  obtain ⟨W, hW⟩ : ∃ W, W = (w.alloc (.cells #[I r.lo, I r.hi] 23)) := ⟨_, rfl⟩
  have reW : ∀ v, ∃ x, ovr W v = ovr w x := fun v => ⟨_, ovr_of (U1 hW v)⟩
  replace yw00 := tr_cell reW yw00
  replace zw00 := tr_froz reW zw00
  replace yw01 := tr_cell reW yw01
  replace zw01 := tr_froz reW zw01
  replace Rroww0 := Lib.hid (tr_row reW Rroww0.out)
  have rowW0 : W.heap[w.heap.size]? = some (.cells #[I r.lo, I r.hi] 23 (0, 0)) := by rw [hW]; exact heap_last _ _ _ rfl
  have yW00 := ovr_cell (W := W) (b := w.heap.size) (o := 0) (v := I r.lo) (by rw [cell_of_row _ _ _ _ _ _ rowW0]; rfl)
  have yW01 := ovr_cell (W := W) (b := w.heap.size) (o := 1) (v := I r.hi) (by rw [cell_of_row _ _ _ _ _ _ rowW0]; rfl)
  have RrowW0 := Lib.hid (ovr_row rowW0)
  clear rowW0
  have HUW : Hid (∀ u, Below w.heap.size w (ovr W u)) := U1 hW
  have HW := Lib.hid hW
  clear hW
  go_enter Try.func66, Try.ntmps66
  go_upto_region 1 with (fail)
  rw [← HW.out]
  obtain ⟨u0, hu0⟩ := ovr_self W
  rw [hu0]
  clear hu0
  go_wp2_with (refine wpList_store_row rfl 23 _ _ rfl (k) rfl _ _ (Rroww0.out _) _ rfl (one2 rfl rfl) rfl (by kernel_rfl) ?_)
  go_end0
  exact ⟨rfl, setRow_same (Rroww0.out _), below_setRow ((HUW.out _).mono (by have := HK.out; omega)) (Nat.le_refl _) _⟩
def inX (x : Rng) (k : Rng) : Bool := decide (x.lo < k.lo) && decide (k.lo < x.hi)
def arK (t : List Rng) (x : Rng) : Nat → Rng
  | 0 => huF (valF t x.lo) (valF t x.hi) | k + 1 => if inX x (at0 t k) then huF (arK t x k) ⟨(at0 t k).hi, (at0 t k).hi⟩ else arK t x k
def Inside (t : List Rng) (x : Rng) : Prop := (at0 t 0).lo ≤ x.lo ∧ x.lo ≤ x.hi ∧ x.hi ≤ (at0 t (t.length - 1)).lo
set_option maxRecDepth 100000 in
set_option maxHeartbeats 4000000 in
theorem around_any (A : Option Addr) (n c : Nat) (t : List Rng) (x : Rng) (w : World) (B : Nat) (hn : n = t.length) (ht : Tab t) (hi : Inside t x) (hB : B ≤ w.heap.size) (hx : Rd w B 2 A n (rR t)) :
    Calls Try.prog 39 #[.slice A n c, x.val] w fun e w' => e = .returned ((arK t x t.length).val) ∧ Below w.heap.size w w' := by
  subst hn
  have HX : Hid (∀ W', Below w.heap.size w W' → Rd W' B 2 A t.length (rR t) ∧ B ≤ W'.heap.size) := fun W' h => ⟨hx.below (h.mono hB), Nat.le_trans hB h.size⟩
  have cv : Hid (∀ z W', (at0 t 0).lo ≤ z ∧ z ≤ (at0 t (t.length - 1)).lo → Rd W' B 2 A t.length (rR t) ∧ B ≤ W'.heap.size → Calls Try.prog 65 #[.slice A t.length c, I z] W' fun e w' => e = .returned ((valF t z).val) ∧ Below W'.heap.size W' w') := fun z W' hz h => value_any A t.length c t z W' B rfl ht hz.1 hz.2 h.2 h.1
  have ln : t.length ≤ 60 := ht.n60
  have I1 : Hid ((at0 t 0).lo ≤ x.lo ∧ x.lo ≤ (at0 t (t.length - 1)).lo) := ⟨hi.1, Int.le_trans hi.2.1 hi.2.2⟩
  have I2 : Hid ((at0 t 0).lo ≤ x.hi ∧ x.hi ≤ (at0 t (t.length - 1)).lo) := ⟨Int.le_trans hi.1 hi.2.1, hi.2.2⟩
  clear hx hB ht hi
  obtain ⟨W, hW⟩ : ∃ W, W = ((w.alloc (.cells #[I x.lo, I x.hi] 23)).alloc (.cells #[I 0, I 0] 23)) := ⟨_, rfl⟩
  have rowW0 : W.heap[w.heap.size]? = some (.cells #[I x.lo, I x.hi] 23 (0, 0)) := by rw [hW]; exact heap_before (heap_last _ _ _ rfl)
  have yW00 := ovr_cell (W := W) (b := w.heap.size) (o := 0) (v := I x.lo) (by rw [cell_of_row _ _ _ _ _ _ rowW0]; rfl)
  have yW01 := ovr_cell (W := W) (b := w.heap.size) (o := 1) (v := I x.hi) (by rw [cell_of_row _ _ _ _ _ _ rowW0]; rfl)
  have RrowW0 := Lib.hid (ovr_row rowW0)
  clear rowW0
  have rowW1 : W.heap[w.heap.size + 1]? = some (.cells #[I 0, I 0] 23 (0, 0)) := by rw [hW]; exact heap_last _ _ _ (by simp)
  have yW10 := ovr_cell (W := W) (b := w.heap.size + 1) (o := 0) (v := I 0) (by rw [cell_of_row _ _ _ _ _ _ rowW1]; rfl)
  have yW11 := ovr_cell (W := W) (b := w.heap.size + 1) (o := 1) (v := I 0) (by rw [cell_of_row _ _ _ _ _ _ rowW1]; rfl)
  have RrowW1 := Lib.hid (ovr_row rowW1)
  clear rowW1
  have HUW : Hid (∀ u, Below w.heap.size w (ovr W u)) := U2 hW
  have HW := Lib.hid hW
  clear hW
  go_enter Try.func39, Try.ntmps39
  go_upto_region 1 with (fail)
  rw [← HW.out]
  obtain ⟨u0, hu0⟩ := ovr_self W
  rw [hu0]
  clear hu0
  go_wp2_with fail
  refine (cv.out _ _ I1.out (HX.out _ (HUW.out _))).mono ?_
  rintro e w1 ⟨rfl, hb1⟩
  obtain ⟨u1, rfl⟩ := ovr_next hb1
  clear hb1
  obtain ⟨v1, hv1⟩ : ∃ v, valF t x.lo = v := ⟨_, rfl⟩
  obtain ⟨v2, hv2⟩ : ∃ v, valF t x.hi = v := ⟨_, rfl⟩
  rw [hv1]
  have Hv : Hid (arK t x 0 = huF v1 v2) := by show _ = _; rw [← hv1, ← hv2]; rfl
  have cw : Hid (∀ W', Rd W' B 2 A t.length (rR t) ∧ B ≤ W'.heap.size → Calls Try.prog 65 #[.slice A t.length c, I x.hi] W' fun e w' => e = .returned (v2.val) ∧ Below W'.heap.size W' w') := fun W' h => by have := cv.out x.hi W' I2.out h; rwa [hv2] at this
  clear hv1 hv2 cv
  go_upto_region 2 with (fail)
  obtain ⟨V, hV⟩ : ∃ V, V = (ovr W u1).alloc (.cells #[I v1.lo, I v1.hi] 23) := ⟨_, rfl⟩
  have rV : V.heap[(ovr W u1).heap.size]? = some (.cells #[I v1.lo, I v1.hi] 23 (0, 0)) := by rw [hV]; exact heap_last _ _ _ rfl
  have bV : Below W.heap.size W V := by rw [hV]; exact (ovr_below W u1).alloc (ovr_below W u1).size _
  have sk := (ovr_below W u1).size
  rw [← hV]
  obtain ⟨kx, hkx⟩ : ∃ kx, (ovr W u1).heap.size = kx := ⟨_, rfl⟩
  rw [hkx] at rV sk
  rw [hkx]
  have SK := Lib.hid sk
  have bV0 := Lib.hid bV
  clear hV hkx sk
  have reV : ∀ v, ∃ x, ovr V v = ovr W x := fun v => ovr_reB bV v
  have SW_yW00 := Lib.hid yW00
  replace yW00 := tr_cell reV yW00
  have SW_yW01 := Lib.hid yW01
  replace yW01 := tr_cell reV yW01
  have SW_RrowW0 := Lib.hid RrowW0.out
  replace RrowW0 := Lib.hid (tr_row reV RrowW0.out)
  have SW_yW10 := Lib.hid yW10
  replace yW10 := tr_cell reV yW10
  have SW_yW11 := Lib.hid yW11
  replace yW11 := tr_cell reV yW11
  have SW_RrowW1 := Lib.hid RrowW1.out
  replace RrowW1 := Lib.hid (tr_row reV RrowW1.out)
  have yV00 := ovr_cell (W := V) (b := kx) (o := 0) (v := I v1.lo) (by rw [cell_of_row _ _ _ _ _ _ rV]; rfl)
  have yV01 := ovr_cell (W := V) (b := kx) (o := 1) (v := I v1.hi) (by rw [cell_of_row _ _ _ _ _ _ rV]; rfl)
  have RrowV0 := Lib.hid (ovr_row rV)
  clear rV
  have HUV : Hid (∀ u, Below w.heap.size w (ovr V u)) := fun u => by obtain ⟨x, hx⟩ := reV u; rw [hx]; exact HUW.out x
  clear reV bV
  obtain ⟨u2, hu2⟩ := ovr_self V
  rw [hu2]
  clear hu2
  go_wp2_with fail
  refine (cw.out _ (HX.out _ (HUV.out _))).mono ?_
  rintro e w1 ⟨rfl, hb1⟩
  obtain ⟨u3, rfl⟩ := ovr_next hb1
  clear hb1
  have HBV : Hid (∀ u, Below W.heap.size W (ovr V u)) := fun u => bV0.out.trans ((ovr_below V u).mono bV0.out.size)
  go_wp2_with fail
  refine (around1_any v1 v2 kx _ (RrowV0.out _)).mono ?_
  rintro e w1 ⟨rfl, hr, hb⟩
  rw [← Hv.out] at hr
  have HR1 := Lib.hid hr
  have HB1 := Lib.hid ((HBV.out u3).trans (hb.mono SK.out))
  clear hr hb yV00 yV01 yW00 yW01 yW10 yW11
  go_wp2_with fail
  go_loopw [22] (fun i wr => ∃ k : Nat, k ≤ t.length ∧ i = .int .i64 k ∧ wr.heap[kx]? = some (.cells #[I (arK t x k).lo, I (arK t x k).hi] 23 (0, 0)) ∧ Below W.heap.size W wr) (fun i _ => t.length - (intOf i).toNat)
  case atStart => exact ⟨0, by omega, rfl, HR1.out, HB1.out⟩
  case round =>
    obtain ⟨k, hk, rfl, hr, hb⟩ := hrel
    rename World => X
    obtain ⟨z, hz⟩ : ∃ z, arK t x k = z := ⟨_, rfl⟩
    rw [hz] at hr
    have Hz := Lib.hid hz
    clear hz
    have hbX := Lib.hid hb
    by_cases hlt : k < t.length
    · skip
      have reX : ∀ v, ∃ x, ovr X v = ovr W x := fun v => ovr_reB hb v
      have yW00 := SW_yW00.out
      replace yW00 := tr_cell reX yW00
      have yW01 := SW_yW01.out
      replace yW01 := tr_cell reX yW01
      have RrowW0 := SW_RrowW0
      replace RrowW0 := Lib.hid (tr_row reX RrowW0.out)
      have yW10 := SW_yW10.out
      replace yW10 := tr_cell reX yW10
      have yW11 := SW_yW11.out
      replace yW11 := tr_cell reX yW11
      have RrowW1 := SW_RrowW1
      replace RrowW1 := Lib.hid (tr_row reX RrowW1.out)
      have yX00 := ovr_cell (W := X) (b := kx) (o := 0) (v := I z.lo) (by rw [cell_of_row _ _ _ _ _ _ hr]; rfl)
      have yX01 := ovr_cell (W := X) (b := kx) (o := 1) (v := I z.hi) (by rw [cell_of_row _ _ _ _ _ _ hr]; rfl)
      have RrowX0 := Lib.hid (ovr_row hr)
      clear hr
      have HUX : Hid (∀ u, Below w.heap.size w (ovr X u)) := fun u => by obtain ⟨x, hx⟩ := reX u; rw [hx]; exact HUW.out x
      clear reX hb
      have kb : decide ((k : Int) < (t.length : Int)) = true := decide_eq_true (by omega)
      obtain ⟨u, hu⟩ := ovr_self X
      obtain ⟨b, o, rfl, _, e0, e1⟩ := (HX.out _ (HUX.out u)).1.rng hlt
      rw [hu]
      clear hu
      have hs : Hid (arK t x (k + 1) = if inX x (at0 t k) then huF z ⟨(at0 t k).hi, (at0 t k).hi⟩ else z) := by show _ = _; rw [← Hz.out]; rfl
      obtain ⟨y, hy⟩ : ∃ y, at0 t k = y := ⟨_, rfl⟩
      rw [hy] at e0 e1 hs
      clear hy
      go_upto_region 7 with (fail)
      clear e0 e1
      obtain ⟨Y, hY⟩ : ∃ Y, Y = ((ovr X u).alloc (.cells #[I y.lo, I y.hi] 111)) := ⟨_, rfl⟩
      have reY : ∀ v, ∃ x, ovr Y v = ovr X x := fun v => ovr_re1 hY
      replace yW00 := tr_cell reY yW00
      replace yW01 := tr_cell reY yW01
      replace RrowW0 := Lib.hid (tr_row reY RrowW0.out)
      replace yW10 := tr_cell reY yW10
      replace yW11 := tr_cell reY yW11
      replace RrowW1 := Lib.hid (tr_row reY RrowW1.out)
      replace yX00 := tr_cell reY yX00
      replace yX01 := tr_cell reY yX01
      replace RrowX0 := Lib.hid (tr_row reY RrowX0.out)
      have rowY0 : Y.heap[(ovr X u).heap.size]? = some (.cells #[I y.lo, I y.hi] 111 (0, 0)) := by rw [hY]; exact heap_last _ _ _ rfl
      have yY00 := ovr_cell (W := Y) (b := (ovr X u).heap.size) (o := 0) (v := I y.lo) (by rw [cell_of_row _ _ _ _ _ _ rowY0]; rfl)
      have yY01 := ovr_cell (W := Y) (b := (ovr X u).heap.size) (o := 1) (v := I y.hi) (by rw [cell_of_row _ _ _ _ _ _ rowY0]; rfl)
      have RrowY0 := Lib.hid (ovr_row rowY0)
      clear rowY0
      have HBY : Hid (∀ u, Below X.heap.size X (ovr Y u)) := fun u => by obtain ⟨x, hx⟩ := reY u; rw [hx]; exact ovr_below _ _
      have HUY : Hid (∀ u, Below w.heap.size w (ovr Y u)) := fun u => by obtain ⟨x, hx⟩ := reY u; rw [hx]; exact HUX.out x
      clear reY
      have HY := Lib.hid hY
      clear hY
      rw [← HY.out]
      obtain ⟨u4, hu4⟩ := ovr_self Y
      rw [hu4]
      clear hu4
      have HBY : Hid (∀ u, Below W.heap.size W (ovr Y u)) := fun v => by
        obtain ⟨q, hq⟩ := ovr_re1 (v := v) HY.out
        rw [hq]
        exact hbX.out.trans ((ovr_below X q).mono hbX.out.size)
      rcases h1 : decide (x.lo < y.lo) with _ | _
      · have hs2 : Hid (arK t x (k + 1) = z) := by show _ = _; rw [hs.out, inX, h1]; rfl
        go_wp2_with fail
        go_roundw
        case rel => exact ⟨k + 1, by omega, by go_num, by rw [hs2.out]; exact RrowX0.out _, HBY.out _⟩
        case measure => simp [intOf]; omega
      rcases h2 : decide (y.lo < x.hi) with _ | _
      · have hs2 : Hid (arK t x (k + 1) = z) := by show _ = _; rw [hs.out, inX, h1, h2]; rfl
        go_wp2_with fail
        go_roundw
        case rel => exact ⟨k + 1, by omega, by go_num, by rw [hs2.out]; exact RrowX0.out _, HBY.out _⟩
        case measure => simp [intOf]; omega
      · have hs2 : Hid (arK t x (k + 1) = huF z ⟨y.hi, y.hi⟩) := by show _ = _; rw [hs.out, inX, h1, h2]; rfl
        go_wp2_with fail
        refine (around1_any z ⟨y.hi, y.hi⟩ kx _ (RrowX0.out _)).mono ?_
        rintro e w1 ⟨rfl, hr, hb⟩
        rw [← hs2.out] at hr
        have HR1 := Lib.hid hr
        have HB1 := Lib.hid ((HBY.out u4).trans (hb.mono SK.out))
        clear hr hb
        go_wp2_with fail
        go_roundw
        case rel => exact ⟨k + 1, by omega, by go_num, HR1.out, HB1.out⟩
        case measure => simp [intOf]; omega
    · obtain rfl : k = t.length := by omega
      have reX : ∀ v, ∃ x, ovr X v = ovr W x := fun v => ovr_reB hb v
      have yW00 := SW_yW00.out
      replace yW00 := tr_cell reX yW00
      have yW01 := SW_yW01.out
      replace yW01 := tr_cell reX yW01
      have RrowW0 := SW_RrowW0
      replace RrowW0 := Lib.hid (tr_row reX RrowW0.out)
      have yW10 := SW_yW10.out
      replace yW10 := tr_cell reX yW10
      have yW11 := SW_yW11.out
      replace yW11 := tr_cell reX yW11
      have RrowW1 := SW_RrowW1
      replace RrowW1 := Lib.hid (tr_row reX RrowW1.out)
      have yX00 := ovr_cell (W := X) (b := kx) (o := 0) (v := I z.lo) (by rw [cell_of_row _ _ _ _ _ _ hr]; rfl)
      have yX01 := ovr_cell (W := X) (b := kx) (o := 1) (v := I z.hi) (by rw [cell_of_row _ _ _ _ _ _ hr]; rfl)
      have RrowX0 := Lib.hid (ovr_row hr)
      clear hr
      have HUX : Hid (∀ u, Below w.heap.size w (ovr X u)) := fun u => by obtain ⟨x, hx⟩ := reX u; rw [hx]; exact HUW.out x
      clear reX hb
      obtain ⟨u, hu⟩ := ovr_self X
      rw [hu]
      clear hu
      go_wp2_with (refine wpList_store_row rfl 23 _ _ rfl (w.heap.size + 1) rfl _ _ (RrowW1.out _) _ rfl (one2 rfl rfl) rfl (by kernel_rfl) ?_)
      refine bodyPost_ret (results_cell_only rfl _ _ (w.heap.size + 1) 23 _ (0, 0) _ rfl (setRow_same (RrowW1.out _)) Try.underlying23 rfl (by kernel_rfl)) rfl ?_
      exact ⟨by rw [Hz.out], below_setRow (HUX.out _) (by omega) _⟩
end Go.Proofs.Ytliddmhifnigdaa.Un
/- The contract of Value of package units. -/
namespace Go.Proofs.Ytliddmhifnigdaa.Un
open Go.RowKit
def vaF (t : List Rng) (x : Rng) : Rng × Int :=
  if tabB t && rngOk x then (if decide (x.lo < (at0 t 0).lo) || decide ((at0 t (t.length - 1)).lo < x.hi) then (⟨0, 0⟩, 7) else (arK t x t.length, 0)) else (⟨0, 0⟩, 2)
set_option maxRecDepth 100000 in
set_option maxHeartbeats 4000000 in
theorem value2_any (A : Option Addr) (n c : Nat) (t : List Rng) (x : Rng) (w : World) (B : Nat) (hn : n = t.length) (hm : n ≤ maxLen) (hB : B ≤ w.heap.size) (hx : Rd w B 2 A n (rR t)) :
    Calls Try.prog 15 #[.slice A n c, x.val] w (RetRn w (vaF t x)) := by
  subst hn
  have hf : Hid (vaF t x = if tabB t && rngOk x then (if decide (x.lo < (at0 t 0).lo) || decide ((at0 t (t.length - 1)).lo < x.hi) then (⟨0, 0⟩, 7) else (arK t x t.length, 0)) else (⟨0, 0⟩, 2)) := rfl
  have HX : Hid (∀ W', Below w.heap.size w W' → Rd W' B 2 A t.length (rR t) ∧ B ≤ W'.heap.size) := fun W' h => ⟨hx.below (h.mono hB), Nat.le_trans hB h.size⟩
  have ct : Hid (∀ W', Rd W' B 2 A t.length (rR t) ∧ B ≤ W'.heap.size → Calls Try.prog 37 #[.slice A t.length c] W' fun e w' => e = .returned (I (ctF t)) ∧ Below W'.heap.size W' w') := fun W' h => table_any A t.length c t W' B rfl hm h.2 h.1
  have ca : Hid (∀ W', Tab t → Inside t x → Rd W' B 2 A t.length (rR t) ∧ B ≤ W'.heap.size → Calls Try.prog 39 #[.slice A t.length c, x.val] W' fun e w' => e = .returned ((arK t x t.length).val) ∧ Below W'.heap.size W' w') := fun W' ht hi h => around_any A t.length c t x W' B rfl ht hi h.2 h.1
  have cv := Lib.hid fun W k => valid_one x W k
  clear hx hB hm
  obtain ⟨W, hW⟩ : ∃ W, W = ((w.alloc (.cells #[I x.lo, I x.hi] 23)).alloc (.cells #[I 0, I 0] 23)) := ⟨_, rfl⟩
  have rowW0 : W.heap[w.heap.size]? = some (.cells #[I x.lo, I x.hi] 23 (0, 0)) := by rw [hW]; exact heap_before (heap_last _ _ _ rfl)
  have yW00 := ovr_cell (W := W) (b := w.heap.size) (o := 0) (v := I x.lo) (by rw [cell_of_row _ _ _ _ _ _ rowW0]; rfl)
  have yW01 := ovr_cell (W := W) (b := w.heap.size) (o := 1) (v := I x.hi) (by rw [cell_of_row _ _ _ _ _ _ rowW0]; rfl)
  have RrowW0 := Lib.hid (ovr_row rowW0)
  clear rowW0
  have rowW1 : W.heap[w.heap.size + 1]? = some (.cells #[I 0, I 0] 23 (0, 0)) := by rw [hW]; exact heap_last _ _ _ (by simp)
  have yW10 := ovr_cell (W := W) (b := w.heap.size + 1) (o := 0) (v := I 0) (by rw [cell_of_row _ _ _ _ _ _ rowW1]; rfl)
  have yW11 := ovr_cell (W := W) (b := w.heap.size + 1) (o := 1) (v := I 0) (by rw [cell_of_row _ _ _ _ _ _ rowW1]; rfl)
  have RrowW1 := Lib.hid (ovr_row rowW1)
  clear rowW1
  have HUW : Hid (∀ u, Below w.heap.size w (ovr W u)) := U2 hW
  have HW := Lib.hid hW
  clear hW
  rcases h1 : tabB t with _ | _
  · rw [h1] at hf
    have h2 : ctF t = 2 := by rw [ctF, h1]; rfl
    rw [h2] at ct
    clear h2
    go_enter Try.func15, Try.ntmps15
    go_upto_block 0 with (fail)
    rw [← HW.out]
    obtain ⟨u0, hu0⟩ := ovr_self W
    rw [hu0]
    clear hu0
    go_wp2_with fail
    refine (ct.out _ (HX.out _ (HUW.out _))).mono ?_
    rintro e w1 ⟨rfl, hb1⟩
    obtain ⟨u1, rfl⟩ := ovr_next hb1
    clear hb1
    go_wp2_with (refine wpList_store_row rfl 23 _ _ rfl (w.heap.size + 1) rfl _ _ (RrowW1.out _) _ rfl (one2 rfl rfl) rfl (by kernel_rfl) ?_)
    refine bodyPost_ret (results_cell_tmp rfl _ _ (w.heap.size + 1) 23 _ (0, 0) _ rfl (setRow_same (RrowW1.out _)) Try.underlying23 rfl (by kernel_rfl)) rfl ?_
    exact ⟨by rw [hf.out]; rfl, below_setRow (HUW.out _) (by omega) _⟩
  have h2 : ctF t = 0 := by rw [ctF, h1]; rfl
  have Ht := Lib.hid (tab_iff.1 h1)
  rw [h1] at hf
  rw [h2] at ct
  clear h1 h2
  rcases h1 : rngOk x with _ | _
  · rw [h1] at hf cv
    go_enter Try.func15, Try.ntmps15
    go_upto_block 0 with (fail)
    rw [← HW.out]
    obtain ⟨u0, hu0⟩ := ovr_self W
    rw [hu0]
    clear hu0
    go_wp2_with fail
    refine (ct.out _ (HX.out _ (HUW.out _))).mono ?_
    rintro e w1 ⟨rfl, hb1⟩
    obtain ⟨u1, rfl⟩ := ovr_next hb1
    clear hb1
    go_wp2_with fail
    refine (cv.out _ _ rfl).mono ?_
    rintro e w1 ⟨rfl, hb1⟩
    obtain ⟨u2, rfl⟩ := ovr_next hb1
    clear hb1
    go_wp2_with (refine wpList_store_row rfl 23 _ _ rfl (w.heap.size + 1) rfl _ _ (RrowW1.out _) _ rfl (one2 rfl rfl) rfl (by kernel_rfl) ?_)
    refine bodyPost_ret (results_cell_tmp rfl _ _ (w.heap.size + 1) 23 _ (0, 0) _ rfl (setRow_same (RrowW1.out _)) Try.underlying23 rfl (by kernel_rfl)) rfl ?_
    exact ⟨by rw [hf.out]; rfl, below_setRow (HUW.out _) (by omega) _⟩
  have Hx := Lib.hid (rngOk_iff.1 h1)
  rw [h1] at hf cv
  rw [if_pos (show (true && true) = true from rfl)] at hf
  clear h1
  have n2 := Ht.out.n2
  have n60 := Ht.out.n60
  go_enter Try.func15, Try.ntmps15
  go_upto_block 0 with (fail)
  rw [← HW.out]
  obtain ⟨u0, hu0⟩ := ovr_self W
  rw [hu0]
  clear hu0
  go_wp2_with fail
  refine (ct.out _ (HX.out _ (HUW.out _))).mono ?_
  rintro e w1 ⟨rfl, hb1⟩
  obtain ⟨u1, rfl⟩ := ovr_next hb1
  clear hb1
  go_wp2_with fail
  refine (cv.out _ _ rfl).mono ?_
  rintro e w1 ⟨rfl, hb1⟩
  obtain ⟨u2, rfl⟩ := ovr_next hb1
  clear hb1
  go_upto_region 3 with (fail)
  have hbX := ovr_below W u2
  obtain ⟨X, hX⟩ : ∃ X, X = ovr W u2 := ⟨_, rfl⟩
  rw [← hX] at hbX
  rw [← hX]
  have hX' := Lib.hid hX
  clear hX
  have hbX' := Lib.hid hbX
  have reX : ∀ v, ∃ x, ovr X v = ovr W x := fun v => ovr_reB hbX v
  replace yW00 := tr_cell reX yW00
  replace yW01 := tr_cell reX yW01
  replace RrowW0 := Lib.hid (tr_row reX RrowW0.out)
  replace yW10 := tr_cell reX yW10
  replace yW11 := tr_cell reX yW11
  replace RrowW1 := Lib.hid (tr_row reX RrowW1.out)
  have HUX : Hid (∀ u, Below w.heap.size w (ovr X u)) := fun u => by obtain ⟨x, hx⟩ := reX u; rw [hx]; exact HUW.out x
  clear reX hbX
  obtain ⟨b, o, rfl, hc⟩ := rng_all (HX.out X (by have := HUX.out X; rwa [← ovr_of (Below.refl _ _)] at this)).1 (show 0 < t.length by omega)
  have e0 := ovr_cell (hc 0 (by omega)).1
  have e1 := ovr_cell (hc (t.length - 1) (by omega)).1
  rw [Nat.zero_mul, Nat.add_zero] at e0
  have s1 : IntKind.i64.wrap ((t.length : Int) - 1) = (t.length : Int) - 1 := IntWalk.i64_in _ (by omega)
  have s2 : (0 : Int) ≤ (t.length : Int) - 1 := by omega
  have s3 : ((t.length : Int) - 1).toNat = t.length - 1 := by omega
  have s4 : (t.length : Int) - 1 < (t.length : Int) := by omega
  have s5 : (1 : Int) ≤ (t.length : Int) := by omega
  have s6 : 0 < t.length := by omega
  have Hin : Hid (decide (x.lo < (at0 t 0).lo) = false → decide ((at0 t (t.length - 1)).lo < x.hi) = false → Inside t x) := fun h1 h2 => by
    have h1 := of_decide_eq_false h1
    have h2 := of_decide_eq_false h2
    have := Hx.out
    exact ⟨by omega, by omega, by omega⟩
  clear hc
  rcases h1 : decide (x.lo < (at0 t 0).lo) with _ | _
  · rw [h1] at hf Hin
    rcases h2 : decide ((at0 t (t.length - 1)).lo < x.hi) with _ | _
    · rw [h2] at hf Hin
      have cb := Lib.hid fun W' => ca.out W' Ht.out (Hin.out rfl rfl)
      refine wp_region_below_lit (by kernel_rfl) (by kernel_rfl) ?_
      repeat (go_big_quiet_step (fail))
      refine wpQuiet_nil ?_
      intro w1 hb1
      obtain ⟨u3, rfl⟩ : ∃ u, w1 = ovr X u := ⟨w1, ovr_of hb1⟩
      clear hb1 s1 s2 s3 s4 s5 s6
      go_wp2_with fail
      refine (cb.out _ (HX.out _ (HUX.out _))).mono ?_
      rintro e w1 ⟨rfl, hb1⟩
      obtain ⟨u4, rfl⟩ := ovr_next hb1
      clear hb1
      go_wp2_with (refine wpList_store_row rfl 23 _ _ rfl (w.heap.size + 1) rfl _ _ (RrowW1.out _) _ rfl (one2 rfl rfl) rfl (by kernel_rfl) ?_)
      refine bodyPost_ret (results_cell_tmp rfl _ _ (w.heap.size + 1) 23 _ (0, 0) _ rfl (setRow_same (RrowW1.out _)) Try.underlying23 rfl (by kernel_rfl)) rfl ?_
      exact ⟨by rw [hf.out]; rfl, below_setRow (HUX.out _) (by omega) _⟩
    · rw [h2] at hf
      refine wp_region_below_lit (by kernel_rfl) (by kernel_rfl) ?_
      repeat (go_big_quiet_step (fail))
      refine wpQuiet_nil ?_
      intro w1 hb1
      obtain ⟨u3, rfl⟩ : ∃ u, w1 = ovr X u := ⟨w1, ovr_of hb1⟩
      clear hb1 s1 s2 s3 s4 s5 s6
      go_wp2_with (refine wpList_store_row rfl 23 _ _ rfl (w.heap.size + 1) rfl _ _ (RrowW1.out _) _ rfl (one2 rfl rfl) rfl (by kernel_rfl) ?_)
      refine bodyPost_ret (results_cell_tmp rfl _ _ (w.heap.size + 1) 23 _ (0, 0) _ rfl (setRow_same (RrowW1.out _)) Try.underlying23 rfl (by kernel_rfl)) rfl ?_
      exact ⟨by rw [hf.out]; rfl, below_setRow (HUX.out _) (by omega) _⟩
  · rw [h1] at hf
    refine wp_region_below_lit (by kernel_rfl) (by kernel_rfl) ?_
    repeat (go_big_quiet_step (fail))
    refine wpQuiet_nil ?_
    intro w1 hb1
    obtain ⟨u3, rfl⟩ : ∃ u, w1 = ovr X u := ⟨w1, ovr_of hb1⟩
    clear hb1 s1 s2 s3 s4 s5 s6
    go_wp2_with (refine wpList_store_row rfl 23 _ _ rfl (w.heap.size + 1) rfl _ _ (RrowW1.out _) _ rfl (one2 rfl rfl) rfl (by kernel_rfl) ?_)
    refine bodyPost_ret (results_cell_tmp rfl _ _ (w.heap.size + 1) 23 _ (0, 0) _ rfl (setRow_same (RrowW1.out _)) Try.underlying23 rfl (by kernel_rfl)) rfl ?_
    exact ⟨by rw [hf.out]; rfl, below_setRow (HUX.out _) (by omega) _⟩
end Go.Proofs.Ytliddmhifnigdaa.Un
