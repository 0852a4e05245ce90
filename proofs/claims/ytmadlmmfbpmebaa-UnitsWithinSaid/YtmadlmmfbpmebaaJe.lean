/- The contract of Portions of the reference of chapter 1. -/
import Derived.Test.YtmadlmmfbpmebaaU8
import Derived.Test.YtmadlmmfbpmebaaR1
import Derived.Test.YtmadlmmfbpmebaaJo
namespace Go.Proofs.Ytmadlmmfbpmebaa
open Go.RowKit
/-- What the first j weights get together. -/
def upF2 (n all : Int) (ws : List Int) (j : Nat) : Int := n * sumK ws j / all
/-- What weight j gets. -/
def parF (n all : Int) (ws : List Int) (j : Nat) : Int := upF2 n all ws (j + 1) - upF2 n all ws j
def parL (n all : Int) (ws : List Int) (k : Nat) : List Int := (List.range k).map (parF n all ws)
theorem parL_succ (n all : Int) (ws : List Int) (k : Nat) : parL n all ws (k + 1) = parL n all ws k ++ [parF n all ws k] := by simp [parL, List.range_succ]
theorem parL_len (n all : Int) (ws : List Int) (k : Nat) : (parL n all ws k).length = k := by simp [parL]
theorem sumK_mono {ws : List Int} (h : ws.any noP = false) : ∀ k, k ≤ ws.length → ∀ j, j ≤ k → sumK ws j ≤ sumK ws k
  | 0, _, j, hj => by obtain rfl : j = 0 := by omega
                      exact Int.le_refl _
  | k + 1, hk, j, hj => by
    have := noP_at h (j := k) (by omega)
    rcases Nat.lt_or_ge j (k + 1) with h1 | h1
    · have := sumK_mono h k (by omega) j (by omega)
      simp only [sumK]; omega
    · obtain rfl : j = k + 1 := by omega
      exact Int.le_refl _
theorem upF2_bd {n all : Int} {ws : List Int} (hn : 0 ≤ n ∧ n ≤ 1000000000000000) (ha : 1 ≤ all) {j : Nat} (h0 : 0 ≤ sumK ws j) (h1 : sumK ws j ≤ all) : 0 ≤ upF2 n all ws j ∧ upF2 n all ws j ≤ n ∧ (n * sumK ws j).natAbs / all.toNat ≤ 1000000000000000 := by
  obtain ⟨b1, b2, b3⟩ := part_le (a := n) (b := sumK ws j) (c := all) ha h0 h1
  refine ⟨Int.ediv_nonneg (Int.mul_nonneg hn.1 h0) (by omega), ?_, by omega⟩
  unfold upF2
  omega
theorem poL_back {n : Int} {ws : List Int} (hn : 0 ≤ n ∧ n ≤ 1000000000000000) (hw : ws.any noP = false) (ha : 1 ≤ sumK ws ws.length) :
    ∀ k, k ≤ ws.length → (poL n (sumK ws ws.length) ws (bwd ws.length k)).up = sumK ws (ws.length - k) ∧ (poL n (sumK ws ws.length) ws (bwd ws.length k)).lf = upF2 n (sumK ws ws.length) ws (ws.length - k) ∧
      (poL n (sumK ws ws.length) ws (bwd ws.length k)).out = List.replicate (ws.length - k) 0 ++ (parL n (sumK ws ws.length) ws ws.length).drop (ws.length - k)
  | 0, _ => by
    refine ⟨rfl, ?_, ?_⟩
    · show n = n * sumK ws ws.length / sumK ws ws.length
      rw [Int.mul_ediv_cancel _ (by omega)]
    · rw [List.drop_of_length_le (by rw [parL_len]; omega), List.append_nil]; rfl
  | k + 1, hk => by
    obtain ⟨h1, h2, h3⟩ := poL_back hn hw ha k (by omega)
    rw [bwd_succ (by omega), poL_snoc]
    have e : ws.length - k = (ws.length - 1 - k) + 1 := by omega
    have e2 : ws.length - (k + 1) = ws.length - 1 - k := by omega
    have hs : sumK ws (ws.length - k) - at0 ws (ws.length - 1 - k) = sumK ws (ws.length - 1 - k) := by rw [e]; simp only [sumK]; omega
    have hb := upF2_bd (ws := ws) hn ha (j := ws.length - 1 - k) (sumK_bd hw _ (by omega)).1 (sumK_mono hw _ (Nat.le_refl _) _ (by omega))
    have ho : (ovF (n * sumK ws (ws.length - 1 - k)) (sumK ws ws.length)).1 = upF2 n (sumK ws ws.length) ws (ws.length - 1 - k) := by rw [ovF_near hb.2.2]; rfl
    unfold poStep
    simp only
    rw [h1, h2, h3, hs, ho, e2]
    refine ⟨rfl, rfl, ?_⟩
    have hd : (parL n (sumK ws ws.length) ws ws.length).drop (ws.length - 1 - k) = parF n (sumK ws ws.length) ws (ws.length - 1 - k) :: (parL n (sumK ws ws.length) ws ws.length).drop (ws.length - k) := by
      rw [List.drop_eq_getElem_cons (by rw [parL_len]; omega), ← e]
      simp [parL]
    rw [hd, e, List.replicate_succ', List.append_assoc]
    rw [List.set_append_right _ _ (by simp)]
    simp [parF]
theorem poL_out {n : Int} {ws : List Int} (hn : 0 ≤ n ∧ n ≤ 1000000000000000) (hw : ws.any noP = false) (ha : 1 ≤ sumK ws ws.length) : (poL n (sumK ws ws.length) ws (bwd ws.length ws.length)).out = parL n (sumK ws ws.length) ws ws.length := by
  have := (poL_back hn hw ha ws.length (Nat.le_refl _)).2.2
  rw [this, Nat.sub_self]; rfl
theorem any_no {ws : List Int} (h : ∀ j, j < ws.length → wiP (at0 ws j) = true) : ws.any noP = false := by
  rw [List.any_eq_false]
  intro x hx
  obtain ⟨j, hj, rfl⟩ := at0_mem hx
  unfold noP; rw [h j hj]; decide
theorem any_yes {ws : List Int} {j : Nat} (hj : j < ws.length) (h : wiP (at0 ws j) = false) : ws.any noP = true := by
  rw [List.any_eq_true]
  exact ⟨at0 ws j, by rw [at0_get hj]; exact List.getElem_mem hj, by unfold noP; rw [h]; rfl⟩
theorem sum_bd2 {ws : List Int} : ∀ k, k ≤ ws.length → (∀ j, j < k → wiP (at0 ws j) = true) → 0 ≤ sumK ws k ∧ sumK ws k ≤ 1000000000000000 * (k : Int)
  | 0, _, _ => by simp [sumK]
  | k + 1, hk, h => by
    have h1 := sum_bd2 k (by omega) (fun j hj => h j (by omega))
    have h2 := wiP_iff.1 (h k (by omega))
    simp only [sumK]; omega
set_option maxRecDepth 100000 in
set_option maxHeartbeats 4000000 in
theorem refPortions_any (A : Option Addr) (c : Nat) (n : Int) (ws : List Int) (w : World) (B : Nat) (hB : B ≤ w.heap.size) (hx : Rd w B 1 A ws.length (rI ws)) :
    Calls Try.prog 25 #[I n, .slice A ws.length c] w (RetI w (poF n ws)) := by
  have hf : Hid (poF n ws = if 100 < ws.length then ([], 5) else if wiP n && !(ws.any noP) then (if 1000000000000000 < sumK ws ws.length then ([], 10) else if sumK ws ws.length = 0 then ([], 2) else ((poL n (sumK ws ws.length) ws (bwd ws.length ws.length)).out, 0)) else ([], 3)) := rfl
  have HX : Hid (∀ W', Below w.heap.size w W' → Rd W' B 1 A ws.length (rI ws) ∧ B ≤ W'.heap.size) := fun W' h => ⟨hx.below (h.mono hB), Nat.le_trans hB h.size⟩
  obtain ⟨i0, hi0, iz0, iz1, iz2⟩ := info_parts intK_info
  by_cases hl : 100 < ws.length
  · rw [if_pos hl] at hf
    have hlb : decide (100 < (ws.length : Int)) = true := decide_eq_true (by omega)
    clear hl hx hB
    go_enter Try.func25, Try.ntmps25
    go_wp2_with fail
    go_ret2
    exact ⟨none, 0, 0, by rw [hf.out]; rfl, by rw [hf.out]; rfl, Nat.le_refl _, Rd.nil, Below.refl _ _⟩
  rw [if_neg hl] at hf
  have hlb : decide (100 < (ws.length : Int)) = false := decide_eq_false (by omega)
  have hle : ws.length ≤ 100 := by omega
  clear hl hx hB
  rcases hn : wiP n with _ | _
  · rw [hn, if_neg (by simp)] at hf
    have h3 : (decide (n < 0) = true) ∨ (decide (n < 0) = false ∧ decide (1000000000000000 < n) = true) := by
      have : ¬ (wiP n = true) := by rw [hn]; decide
      rw [wiP_iff] at this
      simp only [decide_eq_true_eq, decide_eq_false_iff_not]; omega
    clear hn
    rcases h3 with h3 | ⟨h3, h4⟩
    all_goals
      go_enter Try.func25, Try.ntmps25
      go_wp2_with fail
      go_ret2
      exact ⟨none, 0, 0, by rw [hf.out]; rfl, by rw [hf.out]; rfl, Nat.le_refl _, Rd.nil, Below.refl _ _⟩
  rw [hn, Bool.true_and] at hf
  have Hn := Lib.hid (wiP_iff.1 hn)
  have n1 : decide (n < 0) = false := decide_eq_false (by have := Hn.out; omega)
  have n2 : decide (1000000000000000 < n) = false := decide_eq_false (by have := Hn.out; omega)
  clear hn
  obtain ⟨u0, hu0⟩ := ovr_self w
  have H0 := Lib.hid hu0
  clear hu0
  have HUw : Hid (∀ u, Below w.heap.size w (ovr w u)) := fun u => ovr_below _ _
  go_enter Try.func25, Try.ntmps25
  go_wp2_with fail
  go_loopw [6, 7] (fun s i wr => ∃ k : Nat, k ≤ ws.length ∧ i = .int .i64 k ∧ s = I (sumK ws k) ∧ (∀ j, j < k → wiP (at0 ws j) = true) ∧ wr = w) (fun _ i _ => ws.length - (intOf i).toNat)
  case atStart => exact ⟨0, by omega, rfl, rfl, fun _ h => absurd h (by omega), rfl⟩
  case round =>
    obtain ⟨k, hk, rfl, rfl, hall, hw⟩ := hrel
    subst wr
    have HA := Lib.hid hall
    clear hall
    by_cases hlt : k < ws.length
    · have hltb : decide ((k : Int) < (ws.length : Int)) = true := decide_eq_true (by omega)
      obtain ⟨b, o, rfl, _, e0⟩ := (HX.out _ (Below.refl _ _)).1.int hlt
      have hs : Hid (sumK ws (k + 1) = sumK ws k + at0 ws k) := rfl
      have hsb := sum_bd2 k hk HA.out
      rcases ho : wiP (at0 ws k) with _ | _
      · have hy := any_yes hlt ho
        rw [hy, if_neg (by decide)] at hf
        have h3 : (decide (at0 ws k < 0) = true) ∨ (decide (at0 ws k < 0) = false ∧ decide (1000000000000000 < at0 ws k) = true) := by
          have : ¬ (wiP (at0 ws k) = true) := by rw [ho]; decide
          rw [wiP_iff] at this
          simp only [decide_eq_true_eq, decide_eq_false_iff_not]; omega
        clear ho hy hsb
        generalize at0 ws k = x at *
        rcases h3 with h3 | ⟨h3, h4⟩
        all_goals
          go_wp2_with fail
          go_ret2
          exact ⟨none, 0, 0, by rw [hf.out]; rfl, by rw [hf.out]; rfl, Nat.le_refl _, Rd.nil, Below.refl _ _⟩
      · have hxb := wiP_iff.1 ho
        have HO := Lib.hid ho
        have h3 : decide (at0 ws k < 0) = false := decide_eq_false (by omega)
        have h4 : decide (1000000000000000 < at0 ws k) = false := decide_eq_false (by omega)
        have c1 : IntKind.i64.wrap (sumK ws k + at0 ws k) = sumK ws k + at0 ws k := IntWalk.i64_in _ (by omega)
        clear ho hsb hxb
        obtain ⟨x, hx⟩ : ∃ x, at0 ws k = x := ⟨_, rfl⟩
        rw [hx] at h3 h4 c1 e0 hs
        clear hx
        go_wp2_with fail
        go_roundw
        case rel => exact ⟨k + 1, by omega, by go_num, by rw [hs.out], succ_case HA.out HO.out, by first | rfl | trivial⟩
        case measure => simp [intOf]; omega
    · obtain rfl : k = ws.length := by omega
      have hltb : decide ((ws.length : Int) < (ws.length : Int)) = false := decide_eq_false (by omega)
      have hno := any_no HA.out
      rw [hno, if_pos (by decide)] at hf
      have hsb := sum_bd2 ws.length hk HA.out
      have hmono := Lib.hid (sumK_mono hno ws.length (Nat.le_refl _))
      have hsk := Lib.hid (sumK_bd hno)
      by_cases h1 : 1000000000000000 < sumK ws ws.length
      · rw [if_pos h1] at hf
        have h1b := decide_eq_true h1
        generalize sumK ws ws.length = al at *
        clear h1 hsb
        go_wp2_with fail
        go_ret2
        exact ⟨none, 0, 0, by rw [hf.out]; rfl, by rw [hf.out]; rfl, Nat.le_refl _, Rd.nil, Below.refl _ _⟩
      rw [if_neg h1] at hf
      have h1b := decide_eq_false h1
      by_cases h2 : sumK ws ws.length = 0
      · rw [if_pos h2] at hf
        have h2b : (sumK ws ws.length == 0) = true := by simpa using h2
        generalize sumK ws ws.length = al at *
        clear h1 hsb h2
        go_wp2_with fail
        go_ret2
        exact ⟨none, 0, 0, by rw [hf.out]; rfl, by rw [hf.out]; rfl, Nat.le_refl _, Rd.nil, Below.refl _ _⟩
      rw [if_neg h2, poL_out Hn.out hno (by omega)] at hf
      have h2b : (sumK ws ws.length == 0) = false := by simpa using h2
      have ha : 1 ≤ sumK ws ws.length ∧ sumK ws ws.length ≤ 1000000000000000 := by omega
      have Hno := Lib.hid hno
      obtain ⟨al, hal⟩ : ∃ al, sumK ws ws.length = al := ⟨_, rfl⟩
      rw [hal] at hf h1b h2b ha hmono
      rw [hal]
      have Ha := Lib.hid ha
      clear h1 h2 hsb hno ha hal
      go_upto_region 17 with (fail)
      have hal : Below w.heap.size w (w.alloc (.cells #[] 3)) := (Below.refl _ _).alloc (Nat.le_refl _) _
      obtain ⟨u3, hu3⟩ : ∃ u, w.alloc (.cells #[] 3) = ovr w u := ⟨_, ovr_of hal⟩
      rw [hu3]
      clear hal hu3
      go_wp2_with fail
      go_loopw [8, 9, 10, 11] (fun v s p i wr => ∃ k : Nat, k ≤ ws.length ∧ i = .int .i64 k ∧ s = I (sumK ws k) ∧ p = I (upF2 n al ws k) ∧ SoC 3 1 w.heap.size k ((parL n al ws k).map fun x => I x) v wr ∧ ∃ u, wr = ovr w u) (fun _ _ _ i _ => ws.length - (intOf i).toNat)
      case atStart => exact ⟨0, by omega, rfl, rfl, by unfold upF2 sumK; simp, .inl ⟨rfl, rfl, _, rfl⟩, u3, rfl⟩
      case round =>
        obtain ⟨k, hk, rfl, rfl, rfl, hso, u, rfl⟩ := hrel
        have HSo := Lib.hid hso
        clear hso
        by_cases hlt : k < ws.length
        · have hltb : decide ((k : Int) < (ws.length : Int)) = true := decide_eq_true (by omega)
          obtain ⟨b, o, rfl, _, e0⟩ := (HX.out _ (HUw.out u)).1.int hlt
          have hs : Hid (sumK ws (k + 1) = sumK ws k + at0 ws k) := rfl
          have hb1 := hsk.out (k + 1) hlt
          have hm1 := hmono.out (k + 1) hlt
          have hb0 := hsk.out k hk
          have hm0 := hmono.out k hk
          have f1 := upF2_bd (ws := ws) Hn.out Ha.out.1 hb1.1 hm1
          have f0 := upF2_bd (ws := ws) Hn.out Ha.out.1 hb0.1 hm0
          have hpl : Hid ((parL n al ws (k + 1)).map (fun x => I x) = (parL n al ws k).map (fun x => I x) ++ [I (upF2 n al ws (k + 1) - upF2 n al ws k)]) := by show _ = _; rw [parL_succ, List.map_append]; rfl
          have hfl : flR (n * sumK ws (k + 1)) al = (upF2 n al ws (k + 1), n * sumK ws (k + 1) % al, true) := if_pos (by omega)
          have hna := Hn.out
          have haa := Ha.out
          have cf : Hid (∀ W, Calls Try.prog 71 #[I n, I (sumK ws (k + 1)), I al] W fun e w' => e = .returned (.tuple #[I (upF2 n al ws (k + 1)), I (n * sumK ws (k + 1) % al), .bool true]) ∧ Below W.heap.size W w') := fun W => by
            have := floor_any n (sumK ws (k + 1)) al W (by omega) (by omega) (by omega)
            rw [hfl] at this; exact this
          rw [hs.out] at hb1 hm1
          have c1 : IntKind.i64.wrap (sumK ws k + at0 ws k) = sumK ws k + at0 ws k := IntWalk.i64_in _ (by omega)
          have c2 : IntKind.i64.wrap (upF2 n al ws (k + 1) - upF2 n al ws k) = upF2 n al ws (k + 1) - upF2 n al ws k := IntWalk.i64_in _ (by omega)
          obtain ⟨U1, hU1⟩ : ∃ z, upF2 n al ws (k + 1) = z := ⟨_, rfl⟩
          obtain ⟨S1, hS1⟩ : ∃ z, sumK ws (k + 1) = z := ⟨_, rfl⟩
          rw [hU1] at c2 cf hpl
          rw [hS1] at cf hs
          have HU1 := Lib.hid hU1
          have HS1 := Lib.hid hS1
          generalize upF2 n al ws k = U0 at *
          generalize sumK ws k = S0 at *
          generalize at0 ws k = x at *
          have c3 : IntKind.i64.wrap (S0 + x) = S1 := c1.trans hs.out.symm
          generalize n * sumK ws (k + 1) % al = R1 at *
          clear hU1 hS1 hna haa hfl f0 f1 hb0 hb1 hm0 hm1 c1 hs
          go_wp2_with fail
          refine (cf.out _).mono ?_
          rintro e w1 ⟨rfl, hb1⟩
          have hso1 := HSo.out.over hb1
          obtain ⟨u1, rfl⟩ := ovr_next hb1
          have HSo1 := Lib.hid (hso1.over ((Below.refl _ _).alloc (Nat.le_refl _) (.cells #[I (U1 - U0)] 3)))
          have hwz := (ovr_below w u1).size
          clear hb1 hso1 e0
          go_wp2_with (at_builtin; go_loud (refine wpList_app_soc rfl _ _ 30 rfl 3 i0 _ 1 8 Try.underlying30 hi0 iz0 iz1 iz2 rfl (by decide) w.heap.size k ((parL n al ws k).map fun x => I x) _ rfl HSo1.out ⟨(ovr w u1).heap.size, 0, none⟩ 1 [I (U1 - U0)] rfl rfl (news_lit (cs := #[I (U1 - U0)]) (heap_last _ _ _ rfl)) (by simp [Value.oneCell']) ?hB ?hl (by decide) ?_))
          case hB => simp; omega
          case hl => omega
          intro v' w2 hso2 hb2
          have hso3 : Hid (SoC 3 1 w.heap.size (k + 1) ((parL n al ws (k + 1)).map fun x => I x) v' w2) := by show SoC _ _ _ _ _ _ _; rw [hpl.out]; exact hso2
          have HB2 : Hid (Below w.heap.size w w2) := (((HUw.out u1).alloc hwz _)).trans hb2
          clear hso2 hb2 hwz
          go_wp2_with fail
          go_roundw
          case rel => exact ⟨k + 1, by omega, by go_num, by rw [HS1.out], by rw [HU1.out], hso3.out, w2, ovr_of HB2.out⟩
          case measure => simp [intOf]; omega
        · obtain rfl : k = ws.length := by omega
          have hltb : decide ((ws.length : Int) < (ws.length : Int)) = false := decide_eq_false (by omega)
          have hso := HSo.out
          rw [ints_flat, parL_len] at hso
          obtain ⟨A', c', rfl, hc1, _, hr⟩ := hso.rd
          have HC := Lib.hid hc1
          have HR := Lib.hid hr
          clear hso hc1 hr HSo
          go_wp2_with fail
          go_ret2
          exact ⟨A', ws.length, c', by rw [hf.out]; rfl, by rw [hf.out]; exact (parL_len _ _ _ _).symm, HC.out, by rw [hf.out]; exact HR.out, HUw.out u⟩
end Go.Proofs.Ytmadlmmfbpmebaa
