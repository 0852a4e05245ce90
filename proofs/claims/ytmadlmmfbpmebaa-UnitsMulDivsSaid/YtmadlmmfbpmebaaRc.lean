/- The contract of MulDiv of the reference of chapter 1. -/
import Derived.Test.YtmadlmmfbpmebaaRb
namespace Go.Proofs.Ytmadlmmfbpmebaa
open Go.RowKit
theorem div_bd2 {v c : Int} (hc : 1 ≤ c) (h : v.natAbs / c.toNat ≤ 2000000000000000) : -2000000000000001 ≤ v / c ∧ v / c ≤ 2000000000000000 := by
  obtain ⟨C, rfl⟩ : ∃ C : Nat, c = C := ⟨c.toNat, by omega⟩
  rw [Int.toNat_natCast] at h
  rcases Int.lt_or_le v 0 with hv | hv
  · have e : v = -((v.natAbs : Nat) : Int) := by omega
    have f := floor_neg (m := v.natAbs) (C := C) (by omega)
    rw [← e] at f
    rw [f]
    generalize v.natAbs / C = q at *
    split <;> omega
  · have e : v = ((v.natAbs : Nat) : Int) := by omega
    have f : v / (C : Int) = ((v.natAbs / C : Nat) : Int) := by rw [Int.natCast_ediv, ← e]
    rw [f]
    generalize v.natAbs / C = q at *
    omega
set_option maxRecDepth 100000 in
set_option maxHeartbeats 4000000 in
theorem refMuldiv_any (a b c how : Int) (w : World) (ha : -9223372036854775808 ≤ a ∧ a ≤ 9223372036854775807) (hb : -9223372036854775808 ≤ b ∧ b ≤ 9223372036854775807) (hh : 0 ≤ how ∧ how ≤ 255) :
    Calls Try.prog 21 #[I a, I b, I c, .int .u8 how] w (RetMd w (mdF a b c how)) := by
  by_cases hw : how < 1 ∨ 3 < how
  · have hf : Hid (mdF a b c how = (0, 0, 2)) := if_pos hw
    rcases hw with hw | hw
    all_goals
      go_enter Try.func21, Try.ntmps21
      go_wp2_with fail
      go_ret3
      exact ⟨by rw [hf.out]; rfl, Below.refl _ _⟩
  · have h1 : 1 ≤ how ∧ how ≤ 3 := by omega
    have w1 : decide (how < 1) = false := decide_eq_false (by omega)
    have w2 : decide (3 < how) = false := decide_eq_false (by omega)
    have na := fun W => refNumber_any a W
    have nb := fun W => refNumber_any b W
    rcases haa : numB a with _ | _
    · have hf : Hid (mdF a b c how = (0, 0, 3)) := by show _ = _; unfold mdF; rw [if_neg hw, if_pos (.inl (by rw [haa]; rfl))]
      rw [haa] at na
      have Na := Lib.hid na
      clear haa na nb hw ha hb
      go_enter Try.func21, Try.ntmps21
      go_wp2_with fail
      refine (Na.out _).mono ?_
      rintro e w' ⟨rfl, rfl⟩
      go_wp2_with fail
      go_ret3
      exact ⟨by rw [hf.out]; rfl, Below.refl _ _⟩
    rw [haa] at na
    have Na := Lib.hid na
    clear na
    rcases hbb : numB b with _ | _
    · have hf : Hid (mdF a b c how = (0, 0, 3)) := by show _ = _; unfold mdF; rw [if_neg hw, if_pos (.inl (by rw [haa, hbb]; rfl))]
      rw [hbb] at nb
      have Nb := Lib.hid nb
      clear haa hbb nb hw ha hb
      go_enter Try.func21, Try.ntmps21
      go_wp2_with fail
      refine (Na.out _).mono ?_
      rintro e w' ⟨rfl, rfl⟩
      go_wp2_with fail
      refine (Nb.out _).mono ?_
      rintro e w' ⟨rfl, rfl⟩
      go_wp2_with fail
      go_ret3
      exact ⟨by rw [hf.out]; rfl, Below.refl _ _⟩
    rw [hbb] at nb
    have Nb := Lib.hid nb
    clear nb
    by_cases hc : c < 1 ∨ 1000000000000000 < c
    · have hf : Hid (mdF a b c how = (0, 0, 3)) := by show _ = _; unfold mdF; rw [if_neg hw, if_pos (.inr hc)]
      clear haa hbb hw ha hb
      rcases hc with hc | hc
      all_goals
        go_enter Try.func21, Try.ntmps21
        go_wp2_with fail
        refine (Na.out _).mono ?_
        rintro e w' ⟨rfl, rfl⟩
        go_wp2_with fail
        refine (Nb.out _).mono ?_
        rintro e w' ⟨rfl, rfl⟩
        go_wp2_with fail
        go_ret3
        exact ⟨by rw [hf.out]; rfl, Below.refl _ _⟩
    have c1 : decide (c < 1) = false := decide_eq_false (by omega)
    have c2 : decide (1000000000000000 < c) = false := decide_eq_false (by omega)
    have hcc : 1 ≤ c ∧ c ≤ 1000000000000000 := by omega
    have hf : Hid (mdF a b c how = if numB (rnd (a * b) c how).1 then ((rnd (a * b) c how).1, (rnd (a * b) c how).2, 0) else (0, 0, 10)) := by
      show _ = _; unfold mdF; rw [if_neg hw, if_neg (by rw [haa, hbb]; simp; omega)]
    have ka := numB_iff.1 haa
    have kb := numB_iff.1 hbb
    have Fl := fun W => floor_any a b c W (by omega) (by omega) (by omega)
    have H1 := Lib.hid h1
    clear haa hbb hw ha hb hc ka kb
    generalize a * b = v at *
    rcases Nat.lt_or_ge 2000000000000000 (v.natAbs / c.toNat) with far | near
    · have hfl : flR v c = (0, 0, false) := if_neg (by omega)
      rw [hfl] at Fl
      have Fl := Lib.hid Fl
      have hfar := rnd_far (how := how) hcc.1 (Nat.lt_trans (by decide) far)
      have hf2 : Hid (mdF a b c how = (0, 0, 10)) := by show _ = _; rw [hf.out, hfar]; rfl
      clear far hfar hf hcc hfl
      go_enter Try.func21, Try.ntmps21
      go_wp2_with fail
      refine (Na.out _).mono ?_
      rintro e w' ⟨rfl, rfl⟩
      go_wp2_with fail
      refine (Nb.out _).mono ?_
      rintro e w' ⟨rfl, rfl⟩
      go_wp2_with fail
      refine (Fl.out _).mono ?_
      rintro e w2 ⟨rfl, hb2⟩
      have B2 := Lib.hid hb2
      clear hb2
      go_wp2_with fail
      go_ret3
      exact ⟨by rw [hf2.out]; rfl, B2.out⟩
    · have hfl : flR v c = (v / c, v % c, true) := if_pos near
      rw [hfl] at Fl
      have hnb := div_bd2 hcc.1 near
      have hr0 := Int.emod_nonneg v (show c ≠ 0 by omega)
      have hr1 := Int.emod_lt_of_pos v (show 0 < c by omega)
      have hno := @rnd_no v c how
      have hup := @rnd_up v c how
      generalize v / c = n at *
      generalize v % c = r at *
      have Hno := Lib.hid hno
      have Hup := Lib.hid hup
      have Fl := Lib.hid Fl
      clear hno hup near hfl
      rcases (show r = 0 ∨ 0 < r by omega) with h0 | h0
      · subst h0
        have hq : Hid (rnd v c how = (n, 0)) := Hno.out (by omega)
        go_enter Try.func21, Try.ntmps21
        go_wp2_with fail
        refine (Na.out _).mono ?_
        rintro e w' ⟨rfl, rfl⟩
        go_wp2_with fail
        refine (Nb.out _).mono ?_
        rintro e w' ⟨rfl, rfl⟩
        go_wp2_with fail
        refine (Fl.out _).mono ?_
        rintro e w2 ⟨rfl, hb2⟩
        have B2 := Lib.hid hb2
        clear hb2
        go_wp2_with fail
        refine (refNumber_any _ _).mono ?_
        rintro e w3 ⟨rfl, rfl⟩
        rcases hn : numB (n) with _ | _
        · have hf2 : Hid (mdF a b c how = (0, 0, 10)) := by show _ = _; rw [hf.out, hq.out]; simp only; rw [hn]; rfl
          clear hn
          go_wp2_with fail
          go_ret3
          exact ⟨by rw [hf2.out]; rfl, B2.out⟩
        · have hf2 : Hid (mdF a b c how = (n, 0, 0)) := by show _ = _; rw [hf.out, hq.out]; simp only; rw [hn]; rfl
          clear hn
          go_wp2_with fail
          go_ret3
          exact ⟨by rw [hf2.out]; rfl, B2.out⟩
      · rcases (show how = 1 ∨ how = 2 ∨ how = 3 by omega) with h3 | h3 | h3
        · subst h3
          have hq : Hid (rnd v c 1 = (n, r)) := Hno.out (by omega)
          go_enter Try.func21, Try.ntmps21
          go_wp2_with fail
          refine (Na.out _).mono ?_
          rintro e w' ⟨rfl, rfl⟩
          go_wp2_with fail
          refine (Nb.out _).mono ?_
          rintro e w' ⟨rfl, rfl⟩
          go_wp2_with fail
          refine (Fl.out _).mono ?_
          rintro e w2 ⟨rfl, hb2⟩
          have B2 := Lib.hid hb2
          clear hb2
          go_wp2_with fail
          refine (refNumber_any _ _).mono ?_
          rintro e w3 ⟨rfl, rfl⟩
          rcases hn : numB (n) with _ | _
          · have hf2 : Hid (mdF a b c 1 = (0, 0, 10)) := by show _ = _; rw [hf.out, hq.out]; simp only; rw [hn]; rfl
            clear hn
            go_wp2_with fail
            go_ret3
            exact ⟨by rw [hf2.out]; rfl, B2.out⟩
          · have hf2 : Hid (mdF a b c 1 = (n, r, 0)) := by show _ = _; rw [hf.out, hq.out]; simp only; rw [hn]; rfl
            clear hn
            go_wp2_with fail
            go_ret3
            exact ⟨by rw [hf2.out]; rfl, B2.out⟩
        · subst h3
          have hq : Hid (rnd v c 2 = (n + 1, r - c)) := Hup.out (by omega)
          go_enter Try.func21, Try.ntmps21
          go_wp2_with fail
          refine (Na.out _).mono ?_
          rintro e w' ⟨rfl, rfl⟩
          go_wp2_with fail
          refine (Nb.out _).mono ?_
          rintro e w' ⟨rfl, rfl⟩
          go_wp2_with fail
          refine (Fl.out _).mono ?_
          rintro e w2 ⟨rfl, hb2⟩
          have B2 := Lib.hid hb2
          clear hb2
          go_wp2_with fail
          refine (refNumber_any _ _).mono ?_
          rintro e w3 ⟨rfl, rfl⟩
          rcases hn : numB (n + 1) with _ | _
          · have hf2 : Hid (mdF a b c 2 = (0, 0, 10)) := by show _ = _; rw [hf.out, hq.out]; simp only; rw [hn]; rfl
            clear hn
            go_wp2_with fail
            go_ret3
            exact ⟨by rw [hf2.out]; rfl, B2.out⟩
          · have hf2 : Hid (mdF a b c 2 = (n + 1, r - c, 0)) := by show _ = _; rw [hf.out, hq.out]; simp only; rw [hn]; rfl
            clear hn
            go_wp2_with fail
            go_ret3
            exact ⟨by rw [hf2.out]; rfl, B2.out⟩
        · subst h3
          rcases Int.lt_trichotomy (2 * r) c with h4 | h4 | h4
          · have t1 : decide (c < 2 * r) = false := decide_eq_false (by omega)
            have t2 : (2 * r == c) = false := by rw [beq_eq_false_iff_ne]; omega
            have hq : Hid (rnd v c 3 = (n, r)) := Hno.out (by omega)
            go_enter Try.func21, Try.ntmps21
            go_wp2_with fail
            refine (Na.out _).mono ?_
            rintro e w' ⟨rfl, rfl⟩
            go_wp2_with fail
            refine (Nb.out _).mono ?_
            rintro e w' ⟨rfl, rfl⟩
            go_wp2_with fail
            refine (Fl.out _).mono ?_
            rintro e w2 ⟨rfl, hb2⟩
            have B2 := Lib.hid hb2
            clear hb2
            go_wp2_with fail
            refine (refNumber_any _ _).mono ?_
            rintro e w3 ⟨rfl, rfl⟩
            rcases hn : numB (n) with _ | _
            · have hf2 : Hid (mdF a b c 3 = (0, 0, 10)) := by show _ = _; rw [hf.out, hq.out]; simp only; rw [hn]; rfl
              clear hn
              go_wp2_with fail
              go_ret3
              exact ⟨by rw [hf2.out]; rfl, B2.out⟩
            · have hf2 : Hid (mdF a b c 3 = (n, r, 0)) := by show _ = _; rw [hf.out, hq.out]; simp only; rw [hn]; rfl
              clear hn
              go_wp2_with fail
              go_ret3
              exact ⟨by rw [hf2.out]; rfl, B2.out⟩
          · have t1 : decide (c < 2 * r) = false := decide_eq_false (by omega)
            have t2 : (2 * r == c) = true := by rw [beq_iff_eq]; omega
            rcases (show n % 2 = 0 ∨ n % 2 = 1 by omega) with h5 | h5
            · have t3 : (n.tmod 2 == 0) = true := by rw [beq_iff_eq]; exact Int.tmod_eq_zero_of_dvd (by omega)
              have hq : Hid (rnd v c 3 = (n, r)) := Hno.out (by omega)
              go_enter Try.func21, Try.ntmps21
              go_wp2_with fail
              refine (Na.out _).mono ?_
              rintro e w' ⟨rfl, rfl⟩
              go_wp2_with fail
              refine (Nb.out _).mono ?_
              rintro e w' ⟨rfl, rfl⟩
              go_wp2_with fail
              refine (Fl.out _).mono ?_
              rintro e w2 ⟨rfl, hb2⟩
              have B2 := Lib.hid hb2
              clear hb2
              go_wp2_with fail
              refine (refNumber_any _ _).mono ?_
              rintro e w3 ⟨rfl, rfl⟩
              rcases hn : numB (n) with _ | _
              · have hf2 : Hid (mdF a b c 3 = (0, 0, 10)) := by show _ = _; rw [hf.out, hq.out]; simp only; rw [hn]; rfl
                clear hn
                go_wp2_with fail
                go_ret3
                exact ⟨by rw [hf2.out]; rfl, B2.out⟩
              · have hf2 : Hid (mdF a b c 3 = (n, r, 0)) := by show _ = _; rw [hf.out, hq.out]; simp only; rw [hn]; rfl
                clear hn
                go_wp2_with fail
                go_ret3
                exact ⟨by rw [hf2.out]; rfl, B2.out⟩
            · have t3 : (n.tmod 2 == 0) = false := by rw [beq_eq_false_iff_ne]; intro e; have := Int.dvd_of_tmod_eq_zero e; omega
              have hq : Hid (rnd v c 3 = (n + 1, r - c)) := Hup.out (by omega)
              go_enter Try.func21, Try.ntmps21
              go_wp2_with fail
              refine (Na.out _).mono ?_
              rintro e w' ⟨rfl, rfl⟩
              go_wp2_with fail
              refine (Nb.out _).mono ?_
              rintro e w' ⟨rfl, rfl⟩
              go_wp2_with fail
              refine (Fl.out _).mono ?_
              rintro e w2 ⟨rfl, hb2⟩
              have B2 := Lib.hid hb2
              clear hb2
              go_wp2_with fail
              refine (refNumber_any _ _).mono ?_
              rintro e w3 ⟨rfl, rfl⟩
              rcases hn : numB (n + 1) with _ | _
              · have hf2 : Hid (mdF a b c 3 = (0, 0, 10)) := by show _ = _; rw [hf.out, hq.out]; simp only; rw [hn]; rfl
                clear hn
                go_wp2_with fail
                go_ret3
                exact ⟨by rw [hf2.out]; rfl, B2.out⟩
              · have hf2 : Hid (mdF a b c 3 = (n + 1, r - c, 0)) := by show _ = _; rw [hf.out, hq.out]; simp only; rw [hn]; rfl
                clear hn
                go_wp2_with fail
                go_ret3
                exact ⟨by rw [hf2.out]; rfl, B2.out⟩
          · have t1 : decide (c < 2 * r) = true := decide_eq_true (by omega)
            have hq : Hid (rnd v c 3 = (n + 1, r - c)) := Hup.out (by omega)
            go_enter Try.func21, Try.ntmps21
            go_wp2_with fail
            refine (Na.out _).mono ?_
            rintro e w' ⟨rfl, rfl⟩
            go_wp2_with fail
            refine (Nb.out _).mono ?_
            rintro e w' ⟨rfl, rfl⟩
            go_wp2_with fail
            refine (Fl.out _).mono ?_
            rintro e w2 ⟨rfl, hb2⟩
            have B2 := Lib.hid hb2
            clear hb2
            go_wp2_with fail
            refine (refNumber_any _ _).mono ?_
            rintro e w3 ⟨rfl, rfl⟩
            rcases hn : numB (n + 1) with _ | _
            · have hf2 : Hid (mdF a b c 3 = (0, 0, 10)) := by show _ = _; rw [hf.out, hq.out]; simp only; rw [hn]; rfl
              clear hn
              go_wp2_with fail
              go_ret3
              exact ⟨by rw [hf2.out]; rfl, B2.out⟩
            · have hf2 : Hid (mdF a b c 3 = (n + 1, r - c, 0)) := by show _ = _; rw [hf.out, hq.out]; simp only; rw [hn]; rfl
              clear hn
              go_wp2_with fail
              go_ret3
              exact ⟨by rw [hf2.out]; rfl, B2.out⟩
end Go.Proofs.Ytmadlmmfbpmebaa
