/- The contract of CheckTable of package units. -/
import Derived.Test.YtmadlmmfbpmebaaUx
namespace Go.Proofs.Ytmadlmmfbpmebaa
open Go.RowKit
/-- A coordinate. -/
def wiC (n : Int) : Bool := decide (-1000000000000 ≤ n) && decide (n ≤ 1000000000000)
theorem wiC_iff {n : Int} : wiC n = true ↔ -1000000000000 ≤ n ∧ n ≤ 1000000000000 := by simp [wiC]
/-- Knot k (lo its x, hi its y) is in order. -/
def knB (t : List Rng) (k : Nat) : Bool := wiC (at0 t k).lo && (wiC (at0 t k).hi && (decide (k = 0) || decide ((at0 t (k - 1)).lo < (at0 t k).lo)))
def tabB (t : List Rng) : Bool := (List.range t.length).all (knB t) && (decide (2 ≤ t.length) && decide (t.length ≤ 60))
def ctF (t : List Rng) : Int := if tabB t then 0 else 2
theorem within_c (n : Int) (w : World) : Calls Try.prog 83 #[I n] w fun e w' => e = .returned (.bool (wiC n)) ∧ w = w' := by
  rcases h1 : decide (-1000000000000 ≤ n) with _ | _ <;> rcases h2 : decide (n ≤ 1000000000000) with _ | _
  all_goals
    have hf : Hid (wiC n = (decide (-1000000000000 ≤ n) && decide (n ≤ 1000000000000))) := rfl
    rw [h1, h2] at hf
    go_enter Try.func83, Try.ntmps83
    go_wp2
    go_ret
    exact ⟨by rw [hf.out]; rfl, rfl⟩
theorem tab_no {t : List Rng} {k : Nat} (hk : k < t.length) (h : knB t k = false) : ctF t = 2 := by
  have : tabB t = false := by
    unfold tabB
    rw [Bool.and_eq_false_iff]
    left
    rw [List.all_eq_false]
    exact ⟨k, List.mem_range.2 hk, by rw [h]; decide⟩
  rw [ctF, this]; rfl
set_option maxRecDepth 100000 in
set_option maxHeartbeats 4000000 in
theorem table_any (A : Option Addr) (n c : Nat) (t : List Rng) (w : World) (B : Nat) (hn : n = t.length) (hm : n ≤ maxLen) (hB : B ≤ w.heap.size) (hx : Rd w B 2 A n (rR t)) :
    Calls Try.prog 32 #[.slice A n c] w fun e w' => e = .returned (I (ctF t)) ∧ Below w.heap.size w w' := by
  subst hn
  have HX : Hid (∀ u, Rd (ovr w u) B 2 A t.length (rR t)) := fun u => hx.below ((ovr_below w u).mono hB)
  obtain ⟨u0, hu0⟩ := ovr_self w
  have H0 := Lib.hid hu0
  unfold maxLen at hm
  clear hx hB hu0
  have HUw : Hid (∀ u, Below w.heap.size w (ovr w u)) := fun u => ovr_below _ _
  go_enter Try.func32, Try.ntmps32
  go_wp2_with fail
  go_loopw [8] (fun i wr => ∃ k : Nat, k ≤ t.length ∧ i = .int .i64 k ∧ (∀ j, j < k → knB t j = true) ∧ ∃ u, wr = ovr w u) (fun i _ => t.length - (intOf i).toNat)
  case atStart => exact ⟨0, by omega, rfl, fun j hj => absurd hj (by omega), u0, H0.out⟩
  case round =>
    obtain ⟨k, hk, rfl, hg, u, rfl⟩ := hrel
    have Hg := Lib.hid hg
    clear hg
    by_cases hlt : k < t.length
    · obtain ⟨b, o, hA, hbB, e0, e1⟩ := (HX.out u).rng hlt
      have hp : Hid (0 < k → ∀ u, (ovr w u).cell? ⟨b, o + (k - 1) * 2, none⟩ = some (I (at0 t (k - 1)).lo)) := fun h0 u => by
        obtain ⟨b', o', hA', _, e0', _⟩ := (HX.out u).rng (show k - 1 < t.length by omega)
        rw [hA] at hA'
        (injection hA' with ea; injection ea with ea1 ea2; subst ea1 ea2)
        exact e0'
      subst hA
      have hkn : Hid (knB t k = (wiC (at0 t k).lo && (wiC (at0 t k).hi && (decide (k = 0) || decide ((at0 t (k - 1)).lo < (at0 t k).lo))))) := rfl
      obtain ⟨x, hx⟩ : ∃ x, at0 t k = x := ⟨_, rfl⟩
      obtain ⟨p, hpx⟩ : ∃ p, (at0 t (k - 1)).lo = p := ⟨_, rfl⟩
      rw [hx] at e0 e1
      rw [hx, hpx] at hkn
      rw [hpx] at hp
      clear hx hpx
      go_upto_region 5 with (fail)
      obtain ⟨Z, hZ⟩ : ∃ Z, Z = ((ovr w u).alloc (.cells #[I x.lo, I x.hi] 50)) := ⟨_, rfl⟩
      have reZ : ∀ v, ∃ x, ovr Z v = ovr w x := fun v => ovr_re1 hZ
      have rowZ0 : Z.heap[(ovr w u).heap.size]? = some (.cells #[I x.lo, I x.hi] 50 (0, 0)) := by rw [hZ]; exact heap_last _ _ _ rfl
      have yZ00 := ovr_cell (W := Z) (b := (ovr w u).heap.size) (o := 0) (v := I x.lo) (by rw [cell_of_row _ _ _ _ _ _ rowZ0]; rfl)
      have yZ01 := ovr_cell (W := Z) (b := (ovr w u).heap.size) (o := 1) (v := I x.hi) (by rw [cell_of_row _ _ _ _ _ _ rowZ0]; rfl)
      have RrowZ0 := Lib.hid (ovr_row rowZ0)
      clear rowZ0
      have HBZ : Hid (∀ u, Below w.heap.size w (ovr Z u)) := fun u => by obtain ⟨x, hx⟩ := reZ u; rw [hx]; exact ovr_below _ _
      have HUZ : Hid (∀ u, Below w.heap.size w (ovr Z u)) := fun u => by obtain ⟨x, hx⟩ := reZ u; rw [hx]; exact HUw.out x
      clear reZ
      have HZ := Lib.hid hZ
      clear hZ
      rw [← HZ.out]
      clear e0 e1
      have cz : Hid (∀ (n : Int) (v : Bool) (W : World), wiC n = v → Calls Try.prog 83 #[I n] W fun e w' => e = .returned (.bool v) ∧ Below W.heap.size W w') := by
        rintro n v W rfl
        refine (within_c n W).mono ?_
        rintro e w' ⟨rfl, rfl⟩
        exact ⟨rfl, Below.refl _ _⟩
      rcases h1 : wiC x.lo with _ | _
      · rw [h1] at hkn
        have hno := Lib.hid (tab_no hlt hkn.out)
        refine wp_region_below_lit (by kernel_rfl) (by kernel_rfl) ?_
        repeat (go_big_quiet_step ((go_at_call 83; exact call_below (cz.out _ _ _ (by assumption)))))
        refine wpQuiet_nil ?_
        intro w1 hb1
        obtain ⟨u1, rfl⟩ : ∃ u, w1 = ovr Z u := ⟨w1, ovr_of hb1⟩
        clear hb1
        go_wp2_with fail
        go_ret
        exact ⟨ret_int hno.out.symm, HUZ.out _⟩
      rcases h2 : wiC x.hi with _ | _
      · rw [h1, h2] at hkn
        have hno := Lib.hid (tab_no hlt hkn.out)
        refine wp_region_below_lit (by kernel_rfl) (by kernel_rfl) ?_
        repeat (go_big_quiet_step ((go_at_call 83; exact call_below (cz.out _ _ _ (by assumption)))))
        refine wpQuiet_nil ?_
        intro w1 hb1
        obtain ⟨u1, rfl⟩ : ∃ u, w1 = ovr Z u := ⟨w1, ovr_of hb1⟩
        clear hb1
        go_wp2_with fail
        go_ret
        exact ⟨ret_int hno.out.symm, HUZ.out _⟩
      rw [h1, h2] at hkn
      have hZw : Hid (∀ v, ∃ u, ovr Z v = ovr w u) := fun v => ⟨_, ovr_of (HUZ.out v)⟩
      by_cases hk0 : k = 0
      · have hk1 := hkn.out
        rw [decide_eq_true hk0] at hk1
        have hok : Hid (knB t k = true) := hk1
        have hk0c : decide (0 < k) = false := decide_eq_false (by omega)
        clear hk0 hk1 hkn hp
        refine wp_region_below_lit (by kernel_rfl) (by kernel_rfl) ?_
        repeat (go_big_quiet_step ((go_at_call 83; exact call_below (cz.out _ _ _ (by assumption)))))
        refine wpQuiet_nil ?_
        intro w1 hb1
        obtain ⟨u1, rfl⟩ : ∃ u, w1 = ovr Z u := ⟨w1, ovr_of hb1⟩
        clear hb1
        go_wp2_with fail
        go_roundw
        case rel => exact ⟨k + 1, by omega, by go_num, succ_case Hg.out hok.out, hZw.out _⟩
        case measure => simp [intOf]; omega
      · have hp1 := hp.out (by omega)
        rw [decide_eq_false hk0] at hkn
        have hk0c : decide (0 < k) = true := decide_eq_true (by omega)
        have g1 : (k : Int).toNat = k := rfl
        have n1 : IntKind.i64.wrap ((k : Int) - 1) = (k : Int) - 1 := IntWalk.i64_in _ (by omega)
        have n2 : (0 : Int) ≤ (k : Int) - 1 := by omega
        have n3 : ((k : Int) - 1).toNat = k - 1 := by omega
        have n4 : (k : Int) - 1 < (t.length : Int) := by omega
        have pZ : ∀ v, (ovr Z v).cell? ⟨b, o + (k - 1) * 2, none⟩ = some (I p) := fun v => by obtain ⟨u, hu⟩ := hZw.out v; rw [hu]; exact hp1 u
        clear hp hp1 hk0
        by_cases hlp : p < x.lo
        · rw [decide_eq_true hlp] at hkn
          have hok : Hid (knB t k = true) := hkn.out
          have hlb : decide (x.lo ≤ p) = false := decide_eq_false (by omega)
          clear hlp hkn
          refine wp_region_below_lit (by kernel_rfl) (by kernel_rfl) ?_
          repeat (go_big_quiet_step ((go_at_call 83; exact call_below (cz.out _ _ _ (by assumption)))))
          refine wpQuiet_nil ?_
          intro w1 hb1
          obtain ⟨u1, rfl⟩ : ∃ u, w1 = ovr Z u := ⟨w1, ovr_of hb1⟩
          clear hb1 n1 n2 n3 n4 g1
          go_wp2_with fail
          go_roundw
          case rel => exact ⟨k + 1, by omega, by go_num, succ_case Hg.out hok.out, hZw.out _⟩
          case measure => simp [intOf]; omega
        · rw [decide_eq_false hlp] at hkn
          have hno := Lib.hid (tab_no hlt hkn.out)
          have hlb : decide (x.lo ≤ p) = true := decide_eq_true (by omega)
          clear hlp hkn
          refine wp_region_below_lit (by kernel_rfl) (by kernel_rfl) ?_
          repeat (go_big_quiet_step ((go_at_call 83; exact call_below (cz.out _ _ _ (by assumption)))))
          refine wpQuiet_nil ?_
          intro w1 hb1
          obtain ⟨u1, rfl⟩ : ∃ u, w1 = ovr Z u := ⟨w1, ovr_of hb1⟩
          clear hb1 n1 n2 n3 n4 g1
          go_wp2_with fail
          go_ret
          exact ⟨ret_int hno.out.symm, HUZ.out _⟩
    · obtain rfl : k = t.length := by omega
      have hfin : Hid (ctF t = if 2 ≤ t.length ∧ t.length ≤ 60 then 0 else 2) := by
        show _ = _
        have h1 : (List.range t.length).all (knB t) = true := List.all_eq_true.2 fun j hj => Hg.out j (List.mem_range.1 hj)
        unfold ctF tabB
        rw [h1]
        by_cases h : 2 ≤ t.length ∧ t.length ≤ 60
        · rw [if_pos h, decide_eq_true h.1, decide_eq_true h.2]; rfl
        · rw [if_neg h, if_neg (by simp only [Bool.true_and, Bool.and_eq_true, decide_eq_true_eq]; exact h)]
      clear Hg
      by_cases g1 : t.length < 2
      · rw [if_neg (by omega)] at hfin
        have g2 : decide ((t.length : Int) < 2) = true := decide_eq_true (by omega)
        go_wp2_with fail
        go_ret
        exact ⟨ret_int hfin.out.symm, ovr_below _ _⟩
      · have g2 : decide ((t.length : Int) < 2) = false := decide_eq_false (by omega)
        by_cases g3 : t.length ≤ 60
        · rw [if_pos (by omega)] at hfin
          have g4 : decide (60 < (t.length : Int)) = false := decide_eq_false (by omega)
          go_wp2_with fail
          go_ret
          exact ⟨ret_int hfin.out.symm, ovr_below _ _⟩
        · rw [if_neg (by omega)] at hfin
          have g4 : decide (60 < (t.length : Int)) = true := decide_eq_true (by omega)
          go_wp2_with fail
          go_ret
          exact ⟨ret_int hfin.out.symm, ovr_below _ _⟩
end Go.Proofs.Ytmadlmmfbpmebaa
