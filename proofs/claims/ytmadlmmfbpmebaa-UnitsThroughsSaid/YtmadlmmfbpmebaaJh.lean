/- The contract of At of the reference of chapter 1. -/
import Derived.Test.YtmadlmmfbpmebaaJf
namespace Go.Proofs.Ytmadlmmfbpmebaa
open Go.RowKit
/-- The piece at which the reference stops. -/
theorem place_of {t : List Rng} (ht : Tab t) {x : Int} {i : Nat} (h1 : 1 ≤ i) (hi : i < t.length) (hlt : ∀ j, 1 ≤ j → j < i → (at0 t j).lo < x) (hge : x ≤ (at0 t i).lo) : max (plc t x) 1 = i := by
  have hup : ∀ j, i ≤ j → j < t.length → x ≤ (at0 t j).lo := fun j hij hj => by
    rcases Nat.lt_or_ge i j with h | h
    · have := ht.asc i j h hj; omega
    · obtain rfl : j = i := by omega
      exact hge
  by_cases h0 : (at0 t 0).lo < x
  · have : plc t x = i := plc_of ⟨by omega, fun j hj => by
      rcases Nat.eq_zero_or_pos j with rfl | h
      · exact h0
      · exact hlt j h hj, hup⟩
    omega
  · by_cases h2 : i = 1
    · subst h2
      have : plc t x = 0 := plc_of ⟨by omega, fun j hj => absurd hj (by omega), fun j _ hj => by
        rcases Nat.eq_zero_or_pos j with rfl | h
        · omega
        · exact hup j h hj⟩
      omega
    · have := ht.asc 0 1 (by omega) (by omega)
      have := hlt 1 (by omega) (by omega)
      omega
theorem val_of {t : List Rng} (ht : Tab t) {x : Int} {i : Nat} (h1 : 1 ≤ i) (hi : i < t.length) (hlt : ∀ j, 1 ≤ j → j < i → (at0 t j).lo < x) (hge : x ≤ (at0 t i).lo) (h0 : (at0 t 0).lo ≤ x) :
    valF t x = atF (at0 t (i - 1)) (at0 t i) x ∧ LnOk (at0 t (i - 1)) (at0 t i) x := by
  refine ⟨?_, ?_⟩
  · unfold valF; rw [place_of ht h1 hi hlt hge]
  · have x0 := ht.x (i - 1) (by omega)
    have x1 := ht.x i hi
    have y0 := ht.y (i - 1) (by omega)
    have y1 := ht.y i hi
    refine ⟨x0.1, y0, x1.2, y1, ht.asc _ _ (by omega) hi, ?_, hge⟩
    rcases Nat.lt_or_ge 1 i with h | h
    · have := hlt (i - 1) (by omega) (by omega); omega
    · obtain rfl : i = 1 := by omega
      exact h0
set_option maxRecDepth 100000 in
set_option maxHeartbeats 4000000 in
theorem refAt_any (A : Option Addr) (c : Nat) (t : List Rng) (x : Int) (w : World) (B : Nat) (ht : Tab t) (h0 : (at0 t 0).lo ≤ x) (h1 : x ≤ (at0 t (t.length - 1)).lo) (hB : B ≤ w.heap.size) (hx : Rd w B 2 A t.length (rR t)) :
    Calls Try.prog 85 #[.slice A t.length c, I x] w fun e w' => e = .returned (.tuple #[I (valF t x).lo, I (valF t x).hi]) ∧ Below w.heap.size w w' := by
  have HX : Hid (∀ W, Below w.heap.size w W → Rd W B 2 A t.length (rR t)) := fun W h => hx.below (h.mono hB)
  obtain ⟨u0, hu0⟩ := ovr_self w
  have H0 := Lib.hid hu0
  have HT := Lib.hid ht
  have K0 := Lib.hid h0
  have K1 := Lib.hid h1
  have h60 := ht.n60
  have h2 := ht.n2
  clear hx hB hu0 ht h0 h1
  have HUw : Hid (∀ u, Below w.heap.size w (ovr w u)) := fun u => ovr_below _ _
  go_enter Try.func85, Try.ntmps85
  go_wp2_with fail
  go_loopw [6] (fun i wr => ∃ k : Nat, 1 ≤ k ∧ k < t.length ∧ i = .int .i64 k ∧ (∀ j, 1 ≤ j → j < k → (at0 t j).lo < x) ∧ ∃ u, wr = ovr w u) (fun i _ => t.length - (intOf i).toNat)
  case atStart => exact ⟨1, by omega, by omega, rfl, fun j h1 h2 => absurd h2 (by omega), u0, H0.out⟩
  case round =>
    obtain ⟨k, hk1, hk, rfl, hg, u, rfl⟩ := hrel
    have Hg := Lib.hid hg
    clear hg
    obtain ⟨b, o, hA, hbB, e0, e1⟩ := (HX.out _ (HUw.out u)).rng hk
    by_cases hlt : (at0 t k).lo < x
    · have hltb := decide_eq_true hlt
      have hkn : Hid (k + 1 < t.length) := by
        show k + 1 < t.length
        have := K1.out
        rcases Nat.lt_or_ge (k + 1) t.length with h | h
        · exact h
        · exfalso
          have e : t.length - 1 = k := by omega
          rw [e] at this; omega
      have hgn : Hid (∀ j, 1 ≤ j → j < k + 1 → (at0 t j).lo < x) := fun j h1 h2 => by
        rcases Nat.lt_or_ge j k with h | h
        · exact Hg.out j h1 h
        · obtain rfl : j = k := by omega
          exact hlt
      subst hA
      generalize at0 t k = q at *
      clear hlt
      go_wp2_with fail
      go_roundw
      case rel => exact ⟨k + 1, by omega, hkn.out, by go_num, hgn.out, u, rfl⟩
      case measure => simp [intOf]; omega
    · have hltb := decide_eq_false hlt
      obtain ⟨hv, hln⟩ := val_of HT.out hk1 hk Hg.out (by omega) K0.out
      obtain ⟨b', o', hA', _, f0, f1⟩ := (HX.out _ (HUw.out u)).rng (show k - 1 < t.length by omega)
      rw [hA] at hA'
      (injection hA' with ea; injection ea with ea1 ea2; subst ea1 ea2)
      subst hA
      have hf := Lib.hid hv
      have hkk : k - 1 < t.length := by omega
      have ck : IntKind.i64.wrap ((k : Int) - 1) = ((k - 1 : Nat) : Int) := by rw [IntWalk.i64_in _ (by omega)]; omega
      clear hv hlt
      generalize at0 t k = q at *
      generalize at0 t (k - 1) = p at *
      go_upto_region 4 with (fail)
      have hbX := ovr_below w u
      obtain ⟨X, hX⟩ : ∃ X, X = ovr w u := ⟨_, rfl⟩
      rw [← hX] at hbX
      rw [← hX]
      have hX' := Lib.hid hX
      clear hX
      have hbX' := Lib.hid hbX
      have reX : ∀ v, ∃ x, ovr X v = ovr w x := fun v => ovr_reB hbX v
      have HUX : Hid (∀ u, Below w.heap.size w (ovr X u)) := fun u => by obtain ⟨x, hx⟩ := reX u; rw [hx]; exact HUw.out x
      clear reX hbX
      rw [← hX'.out] at e0 e1 f0 f1
      obtain ⟨h1, h2, h3, h4, h5, h6, h7⟩ := hln
      have hp := part_le (a := q.hi - p.hi) (b := x - p.lo) (c := q.lo - p.lo) (by omega) (by omega) (by omega)
      have hfl : flR ((q.hi - p.hi) * (x - p.lo)) (q.lo - p.lo) = ((q.hi - p.hi) * (x - p.lo) / (q.lo - p.lo), (q.hi - p.hi) * (x - p.lo) % (q.lo - p.lo), true) := if_pos (by omega)
      have hm : 0 ≤ (q.hi - p.hi) * (x - p.lo) % (q.lo - p.lo) := Int.emod_nonneg _ (by omega)
      have cf : Hid (∀ W, Calls Try.prog 71 #[I (q.hi - p.hi), I (x - p.lo), I (q.lo - p.lo)] W fun e w' => e = .returned (.tuple #[I ((q.hi - p.hi) * (x - p.lo) / (q.lo - p.lo)), I ((q.hi - p.hi) * (x - p.lo) % (q.lo - p.lo)), .bool true]) ∧ Below W.heap.size W w') := fun W => by
        have := floor_any (q.hi - p.hi) (x - p.lo) (q.lo - p.lo) W (by omega) (by omega) (by omega)
        rw [hfl] at this; exact this
      have hat : Hid (atF p q x = ⟨p.hi + (q.hi - p.hi) * (x - p.lo) / (q.lo - p.lo), if 0 < (q.hi - p.hi) * (x - p.lo) % (q.lo - p.lo) then p.hi + (q.hi - p.hi) * (x - p.lo) / (q.lo - p.lo) + 1 else p.hi + (q.hi - p.hi) * (x - p.lo) / (q.lo - p.lo)⟩) := rfl
      have c1 : IntKind.i64.wrap (q.hi - p.hi) = q.hi - p.hi := IntWalk.i64_in _ (by omega)
      have c2 : IntKind.i64.wrap (x - p.lo) = x - p.lo := IntWalk.i64_in _ (by omega)
      have c3 : IntKind.i64.wrap (q.lo - p.lo) = q.lo - p.lo := IntWalk.i64_in _ (by omega)
      obtain ⟨n, hn⟩ : ∃ n, (q.hi - p.hi) * (x - p.lo) / (q.lo - p.lo) = n := ⟨_, rfl⟩
      obtain ⟨r, hr⟩ : ∃ r, (q.hi - p.hi) * (x - p.lo) % (q.lo - p.lo) = r := ⟨_, rfl⟩
      rw [hn, hr] at hat cf
      rw [hn] at hp
      rw [hr] at hm
      have hb : -2000000000000 ≤ n ∧ n ≤ 2000000000000 := by omega
      have c4 : IntKind.i64.wrap (p.hi + n) = p.hi + n := IntWalk.i64_in _ (by omega)
      have c5 : IntKind.i64.wrap (p.hi + n + 1) = p.hi + n + 1 := IntWalk.i64_in _ (by omega)
      clear hn hr hp hfl h1 h3 h5 h6 h7 hb h2 h4 hm
      go_cut [7, 8] (fun s7 s8 wx => ∃ pb qb : Nat, s7 = .pointer (some ⟨pb, 0, none⟩) ∧ s8 = .pointer (some ⟨qb, 0, none⟩) ∧ wx.heap[pb]? = some (.cells #[I p.lo, I p.hi] 50 (0, 0)) ∧ wx.heap[qb]? = some (.cells #[I q.lo, I q.hi] 50 (0, 0)) ∧ Below X.heap.size X wx)
      case first =>
        go_region_held3 (fun w' => w'.cell? ⟨b, o + (k - 1) * 2, none⟩ = some (I p.lo) ∧ w'.cell? ⟨b, o + (k - 1) * 2 + 1, none⟩ = some (I p.hi) ∧ w'.cell? ⟨b, o + k * 2, none⟩ = some (I q.lo) ∧ w'.cell? ⟨b, o + k * 2 + 1, none⟩ = some (I q.hi)) (go_keep) (fail)
        all_goals
          go_wp2_with fail
          go_meet
          case rel =>
            first
            | exact ⟨_, _, rfl, rfl, (by rw [heap_drew]; exact heap_before (heap_last _ _ _ rfl)), (by rw [heap_drew]; exact heap_last _ _ _ (by simp)), (((Below.refl _ _).alloc (Nat.le_refl _) _).alloc (by simp) _).drew⟩
            | exact ⟨_, _, rfl, rfl, (by rw [heap_drew]; exact heap_last _ _ _ (by simp)), (by rw [heap_drew]; exact heap_before (heap_last _ _ _ rfl)), (((Below.refl _ _).alloc (Nat.le_refl _) _).alloc (by simp) _).drew⟩
      case rest =>
        obtain ⟨pb, qb, rfl, rfl, rp, rq, hbV⟩ := hcut
        rename World => V
        have reV : ∀ v, ∃ x, ovr V v = ovr X x := fun v => ovr_reB hbV v
        have yV00 := ovr_cell (W := V) (b := pb) (o := 0) (v := I p.lo) (by rw [cell_of_row _ _ _ _ _ _ rp]; rfl)
        have yV01 := ovr_cell (W := V) (b := pb) (o := 1) (v := I p.hi) (by rw [cell_of_row _ _ _ _ _ _ rp]; rfl)
        have RrowV0 := Lib.hid (ovr_row rp)
        clear rp
        have yV10 := ovr_cell (W := V) (b := qb) (o := 0) (v := I q.lo) (by rw [cell_of_row _ _ _ _ _ _ rq]; rfl)
        have yV11 := ovr_cell (W := V) (b := qb) (o := 1) (v := I q.hi) (by rw [cell_of_row _ _ _ _ _ _ rq]; rfl)
        have RrowV1 := Lib.hid (ovr_row rq)
        clear rq
        have HUV : Hid (∀ u, Below w.heap.size w (ovr V u)) := fun u => by obtain ⟨x, hx⟩ := reV u; rw [hx]; exact HUX.out x
        clear reV hbV
        obtain ⟨u1, hu1⟩ := ovr_self V
        rw [hu1]
        clear hu1
        clear e0 e1 f0 f1
        go_wp2_with fail
        refine (cf.out _).mono ?_
        rintro e w1 ⟨rfl, hb1⟩
        obtain ⟨u2, rfl⟩ := ovr_next hb1
        clear hb1
        by_cases hr0 : 0 < r
        · have hrb := decide_eq_true hr0
          rw [if_pos hr0] at hat
          clear hr0
          have g1 := fun v => ovr_cell (yV01 u2) v
          have g2 := fun v => ovr_cell (yV11 u2) v
          go_upto_region 7 with (fail)
          refine wp_region_below_lit (by kernel_rfl) (by kernel_rfl) ?_
          repeat (go_big_quiet_step (fail))
          refine wpQuiet_nil ?_
          intro w1 hb1
          obtain ⟨u3, rfl⟩ := ovr_next hb1
          clear hb1
          go_wp2_with fail
          go_ret2
          exact ⟨by rw [hf.out, hat.out]; rfl, HUV.out u3⟩
        · have hrb := decide_eq_false hr0
          rw [if_neg hr0] at hat
          clear hr0
          have g1 := fun v => ovr_cell (yV01 u2) v
          have g2 := fun v => ovr_cell (yV11 u2) v
          go_upto_region 8 with (fail)
          refine wp_region_below_lit (by kernel_rfl) (by kernel_rfl) ?_
          repeat (go_big_quiet_step (fail))
          refine wpQuiet_nil ?_
          intro w1 hb1
          obtain ⟨u3, rfl⟩ := ovr_next hb1
          clear hb1
          go_wp2_with fail
          go_ret2
          exact ⟨by rw [hf.out, hat.out]; rfl, HUV.out u3⟩
end Go.Proofs.Ytmadlmmfbpmebaa
