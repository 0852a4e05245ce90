/- MulDiv of package units (what the pruned U2 of this folder leaves out). -/
import Derived.Test.YtljjpidigckheaaU2
namespace Go.Proofs.Ytljjpidigckheaa.Un
open Go.RowKit
/-- A quotient rounded, and what is left. -/
def rnd (v c how : Int) : Int × Int := if 0 < v % c ∧ (how = 2 ∨ (how = 3 ∧ (c - v % c < v % c ∨ (v % c = c - v % c ∧ (v / c) % 2 = 1)))) then (v / c + 1, v % c - c) else (v / c, v % c)
/-- The result, the rest and the error of MulDiv. -/
def mdF (a b c how : Int) : Int × Int × Int :=
  if how < 1 ∨ 3 < how then (0, 0, 2) else if (numB a && numB b) = false ∨ c < 1 ∨ 1000000000000000 < c then (0, 0, 3)
  else if numB (rnd (a * b) c how).1 then ((rnd (a * b) c how).1, (rnd (a * b) c how).2, 0) else (0, 0, 10)
def RetMd (w : World) (q : Int × Int × Int) (e : Ending) (w' : World) : Prop := e = .returned (.tuple #[I q.1, I q.2.1, I q.2.2]) ∧ Below w.heap.size w w'
theorem rnd_no {v c how : Int} (h : ¬ (0 < v % c ∧ (how = 2 ∨ (how = 3 ∧ (c - v % c < v % c ∨ (v % c = c - v % c ∧ (v / c) % 2 = 1)))))) : rnd v c how = (v / c, v % c) := if_neg h
theorem rnd_up {v c how : Int} (h : 0 < v % c ∧ (how = 2 ∨ (how = 3 ∧ (c - v % c < v % c ∨ (v % c = c - v % c ∧ (v / c) % 2 = 1))))) : rnd v c how = (v / c + 1, v % c - c) := if_pos h
theorem mul_abs {a b : Int} (ha : numB a = true) (hb : numB b = true) : (a * b).natAbs ≤ 1000000000000000 * 1000000000000000 := by
  rw [Int.natAbs_mul]
  have := numB_iff.1 ha
  have := numB_iff.1 hb
  exact Nat.mul_le_mul (by omega) (by omega)
/-- A quotient whose size is great is far from any number, however it is rounded. -/
theorem rnd_far {v c how : Int} (hc : 1 ≤ c) (h : 1000000000000000 < v.natAbs / c.toNat) : numB (rnd v c how).1 = false := by
  obtain ⟨C, rfl⟩ : ∃ C : Nat, c = C := ⟨c.toNat, by omega⟩
  rw [Int.toNat_natCast] at h
  have key : (rnd v C how).1 < -1000000000000000 ∨ 1000000000000000 < (rnd v C how).1 := by
    rcases Int.lt_or_le v 0 with hv | hv
    · left
      have e : v = -((v.natAbs : Nat) : Int) := by omega
      have f := floor_neg (m := v.natAbs) (C := C) (by omega)
      have g := mod_neg (m := v.natAbs) (C := C) (by omega)
      rw [← e] at f g
      generalize v.natAbs / C = q at *
      generalize v.natAbs % C = r at *
      unfold rnd
      split
      · rename_i hh
        show v / C + 1 < _
        rw [f]; rw [g] at hh
        split
        · rename_i h0; rw [if_pos h0] at hh; omega
        · omega
      · show v / C < _
        rw [f]
        split <;> omega
    · right
      have e : v = ((v.natAbs : Nat) : Int) := by omega
      have f : v / (C : Int) = ((v.natAbs / C : Nat) : Int) := by rw [Int.natCast_ediv, ← e]
      generalize v.natAbs / C = q at *
      unfold rnd
      split
      · show _ < v / C + 1
        omega
      · show _ < v / C
        omega
  rcases hk : numB (rnd v C how).1 with _ | _
  · rfl
  · have := numB_iff.1 hk
    omega
/-- A quotient whose size is a number. -/
theorem div_bd {v c : Int} (hc : 1 ≤ c) (h : v.natAbs / c.toNat ≤ 1000000000000000) : -1000000000000001 ≤ v / c ∧ v / c ≤ 1000000000000000 := by
  obtain ⟨C, rfl⟩ : ∃ C : Nat, c = C := ⟨c.toNat, by omega⟩
  rw [Int.toNat_natCast] at h
  rcases Int.lt_or_le v 0 with hv | hv
  · have e : v = -((v.natAbs : Nat) : Int) := by omega
    have f := floor_neg (m := v.natAbs) (C := C) (by omega)
    rw [← e] at f
    rw [f]
    generalize v.natAbs / C = q at *
    split <;> omega
  · have e : v = ((v.natAbs : Nat) : Int) := by omega
    have f : v / (C : Int) = ((v.natAbs / C : Nat) : Int) := by rw [Int.natCast_ediv, ← e]
    rw [f]
    generalize v.natAbs / C = q at *
    omega
set_option maxRecDepth 100000 in
set_option maxHeartbeats 4000000 in
theorem muldiv_any (a b c how : Int) (w : World) (ha : -9223372036854775808 ≤ a ∧ a ≤ 9223372036854775807) (hb : -9223372036854775808 ≤ b ∧ b ≤ 9223372036854775807) (hh : 0 ≤ how ∧ how ≤ 255) :
    Calls Try.prog 46 #[I a, I b, I c, .int .u8 how] w (RetMd w (mdF a b c how)) := by
  by_cases hw : how < 1 ∨ 3 < how
  · have hf : Hid (mdF a b c how = (0, 0, 2)) := if_pos hw
    rcases hw with hw | hw
    all_goals
      go_enter Try.func46, Try.ntmps46
      go_wp2_with fail
      go_ret3
      exact ⟨by rw [hf.out]; rfl, Below.refl _ _⟩
  · have h1 : 1 ≤ how ∧ how ≤ 3 := by omega
    have w1 : decide (how < 1) = false := decide_eq_false (by omega)
    have w2 : decide (3 < how) = false := decide_eq_false (by omega)
    have HR : ∀ W : World, Rd (W.alloc (.cells #[I a, I b] 3)) (W.alloc (.cells #[I a, I b] 3)).heap.size 1 (some ⟨W.heap.size, 0, none⟩) 2 (rI [a, b]) := fun W => Rd_new (heap_last _ _ _ rfl) _ _ _ _ (all2 (all1 rfl) (all1 rfl))
    have hIs := fun W => is_any (some ⟨W.heap.size, 0, none⟩) 2 2 [a, b] (W.alloc (.cells #[I a, I b] 3)) _ rfl (by unfold maxLen; omega) (HR W)
    rw [isB_two] at hIs
    have HIs := Lib.hid hIs
    clear hIs HR
    rcases hab : (numB a && numB b) with _ | _
    · have hf : Hid (mdF a b c how = (0, 0, 3)) := by show _ = _; unfold mdF; rw [if_neg hw, if_pos (.inl hab)]
      rw [hab] at HIs
      clear hab hw ha hb
      go_enter Try.func46, Try.ntmps46
      go_wp2_with fail
      refine (HIs.out _).mono ?_
      rintro e w' ⟨rfl, rfl⟩
      go_wp2_with fail
      go_ret3
      exact ⟨by rw [hf.out]; rfl, (Below.refl _ _).alloc (Nat.le_refl _) _⟩
    · rw [hab] at HIs
      by_cases hc : c < 1 ∨ 1000000000000000 < c
      · have hf : Hid (mdF a b c how = (0, 0, 3)) := by show _ = _; unfold mdF; rw [if_neg hw, if_pos (.inr hc)]
        clear hab hw ha hb
        rcases hc with hc | hc
        all_goals
          go_enter Try.func46, Try.ntmps46
          go_wp2_with fail
          refine (HIs.out _).mono ?_
          rintro e w' ⟨rfl, rfl⟩
          go_wp2_with fail
          go_ret3
          exact ⟨by rw [hf.out]; rfl, (Below.refl _ _).alloc (Nat.le_refl _) _⟩
      · have c1 : decide (c < 1) = false := decide_eq_false (by omega)
        have c2 : decide (1000000000000000 < c) = false := decide_eq_false (by omega)
        have hcc : 1 ≤ c ∧ c ≤ 1000000000000000 := by omega
        have hf : Hid (mdF a b c how = if numB (rnd (a * b) c how).1 then ((rnd (a * b) c how).1, (rnd (a * b) c how).2, 0) else (0, 0, 10)) := by
          show _ = _; unfold mdF; rw [if_neg hw, if_neg (by rw [hab]; simp; omega)]
        rw [Bool.and_eq_true] at hab
        have na := numB_iff.1 hab.1
        have nb := numB_iff.1 hab.2
        have HV := Lib.hid (mul_abs hab.1 hab.2)
        have Hcc := Lib.hid hcc
        have H1 := Lib.hid h1
        have hpr := fun W => product_any a b W (by omega) (by omega)
        have Hpr := Lib.hid hpr
        clear hab hw ha hb hc na nb hpr
        generalize a * b = v at *
        go_enter Try.func46, Try.ntmps46
        go_wp2_with fail
        refine (HIs.out _).mono ?_
        rintro e w' ⟨rfl, rfl⟩
        go_wp2_with fail
        refine (Hpr.out _).mono ?_
        rintro e w1 ⟨rfl, hb1⟩
        have B1 : Hid (Below w.heap.size w w1) := under2 hb1
        clear hb1
        go_wp2_with fail
        refine (over_any v c _ (by omega)).mono ?_
        rintro e w2 ⟨rfl, hb2⟩
        have B2 : Hid (Below w.heap.size w w2) := B1.out.trans (Below.mono hb2 B1.out.size)
        clear hb2
        rcases Nat.lt_or_ge 1000000000000000 (v.natAbs / c.toNat) with far | near
        · rw [ovF_far far]
          have hfar := rnd_far (how := how) hcc.1 far
          have hf2 : Hid (mdF a b c how = (0, 0, 10)) := by show _ = _; rw [hf.out, hfar]; rfl
          clear far hfar hf hcc
          go_wp2_with fail
          go_ret3
          exact ⟨by rw [hf2.out]; rfl, B2.out⟩
        · rw [ovF_near near]
          have hnb := div_bd hcc.1 near
          have hr0 := Int.emod_nonneg v (show c ≠ 0 by omega)
          have hr1 := Int.emod_lt_of_pos v (show 0 < c by omega)
          have hno := @rnd_no v c how
          have hup := @rnd_up v c how
          have hone := and_one (v / c)
          generalize v / c = n at *
          generalize v % c = r at *
          have HIs1 : Hid (∀ (W : World) (x : Int), Calls Try.prog 84 #[.slice (some ⟨W.heap.size, 0, none⟩) 1 1] (W.alloc (.cells #[I x] 3)) fun e w' => e = .returned (.bool (numB x)) ∧ W.alloc (.cells #[I x] 3) = w') := fun W x => by
            have := is_any (some ⟨W.heap.size, 0, none⟩) 1 1 [x] (W.alloc (.cells #[I x] 3)) _ rfl (by unfold maxLen; omega) (Rd_new (heap_last _ _ _ rfl) _ _ _ _ (all1 (all1 rfl)))
            rw [isB_one] at this; exact this
          have Hno := Lib.hid hno
          have Hup := Lib.hid hup
          clear hno hup near
          rcases (show r = 0 ∨ 0 < r by omega) with h0 | h0
          · subst h0
            have hq : Hid (rnd v c how = (n, 0)) := Hno.out (by omega)
            go_wp2_with fail
            refine (HIs1.out _ _).mono ?_
            rintro e w3 ⟨rfl, rfl⟩
            rcases hn : numB (n) with _ | _
            · have hf2 : Hid (mdF a b c how = (0, 0, 10)) := by show _ = _; rw [hf.out, hq.out]; simp only; rw [hn]; rfl
              clear hn
              go_wp2_with fail
              go_ret3
              exact ⟨by rw [hf2.out]; rfl, B2.out.alloc B2.out.size _⟩
            · have hf2 : Hid (mdF a b c how = (n, 0, 0)) := by show _ = _; rw [hf.out, hq.out]; simp only; rw [hn]; rfl
              clear hn
              go_wp2_with fail
              go_ret3
              exact ⟨by rw [hf2.out]; rfl, B2.out.alloc B2.out.size _⟩
          · rcases (show how = 1 ∨ how = 2 ∨ how = 3 by omega) with h3 | h3 | h3
            · subst h3
              have hq : Hid (rnd v c 1 = (n, r)) := Hno.out (by omega)
              go_wp2_with fail
              refine (HIs1.out _ _).mono ?_
              rintro e w3 ⟨rfl, rfl⟩
              rcases hn : numB (n) with _ | _
              · have hf2 : Hid (mdF a b c 1 = (0, 0, 10)) := by show _ = _; rw [hf.out, hq.out]; simp only; rw [hn]; rfl
                clear hn
                go_wp2_with fail
                go_ret3
                exact ⟨by rw [hf2.out]; rfl, B2.out.alloc B2.out.size _⟩
              · have hf2 : Hid (mdF a b c 1 = (n, r, 0)) := by show _ = _; rw [hf.out, hq.out]; simp only; rw [hn]; rfl
                clear hn
                go_wp2_with fail
                go_ret3
                exact ⟨by rw [hf2.out]; rfl, B2.out.alloc B2.out.size _⟩
            · subst h3
              have hq : Hid (rnd v c 2 = (n + 1, r - c)) := Hup.out (by omega)
              go_wp2_with fail
              refine (HIs1.out _ _).mono ?_
              rintro e w3 ⟨rfl, rfl⟩
              rcases hn : numB (n + 1) with _ | _
              · have hf2 : Hid (mdF a b c 2 = (0, 0, 10)) := by show _ = _; rw [hf.out, hq.out]; simp only; rw [hn]; rfl
                clear hn
                go_wp2_with fail
                go_ret3
                exact ⟨by rw [hf2.out]; rfl, B2.out.alloc B2.out.size _⟩
              · have hf2 : Hid (mdF a b c 2 = (n + 1, r - c, 0)) := by show _ = _; rw [hf.out, hq.out]; simp only; rw [hn]; rfl
                clear hn
                go_wp2_with fail
                go_ret3
                exact ⟨by rw [hf2.out]; rfl, B2.out.alloc B2.out.size _⟩
            · subst h3
              rcases Int.lt_trichotomy r (c - r) with h4 | h4 | h4
              · have t1 : decide (c - r < r) = false := decide_eq_false (by omega)
                have t2 : (r == c - r) = false := by rw [beq_eq_false_iff_ne]; omega
                have hq : Hid (rnd v c 3 = (n, r)) := Hno.out (by omega)
                clear h4
                go_wp2_with fail
                refine (HIs1.out _ _).mono ?_
                rintro e w3 ⟨rfl, rfl⟩
                rcases hn : numB (n) with _ | _
                · have hf2 : Hid (mdF a b c 3 = (0, 0, 10)) := by show _ = _; rw [hf.out, hq.out]; simp only; rw [hn]; rfl
                  clear hn
                  go_wp2_with fail
                  go_ret3
                  exact ⟨by rw [hf2.out]; rfl, B2.out.alloc B2.out.size _⟩
                · have hf2 : Hid (mdF a b c 3 = (n, r, 0)) := by show _ = _; rw [hf.out, hq.out]; simp only; rw [hn]; rfl
                  clear hn
                  go_wp2_with fail
                  go_ret3
                  exact ⟨by rw [hf2.out]; rfl, B2.out.alloc B2.out.size _⟩
              · have t1 : decide (c - r < r) = false := decide_eq_false (by omega)
                have t2 : (r == c - r) = true := by rw [beq_iff_eq]; omega
                rcases (show n % 2 = 0 ∨ n % 2 = 1 by omega) with h5 | h5
                · have t3 : (n % 2 == 1) = false := by rw [h5]; rfl
                  have hq : Hid (rnd v c 3 = (n, r)) := Hno.out (by omega)
                  clear h4 h5
                  go_wp2_with fail
                  refine (HIs1.out _ _).mono ?_
                  rintro e w3 ⟨rfl, rfl⟩
                  rcases hn : numB (n) with _ | _
                  · have hf2 : Hid (mdF a b c 3 = (0, 0, 10)) := by show _ = _; rw [hf.out, hq.out]; simp only; rw [hn]; rfl
                    clear hn
                    go_wp2_with fail
                    go_ret3
                    exact ⟨by rw [hf2.out]; rfl, B2.out.alloc B2.out.size _⟩
                  · have hf2 : Hid (mdF a b c 3 = (n, r, 0)) := by show _ = _; rw [hf.out, hq.out]; simp only; rw [hn]; rfl
                    clear hn
                    go_wp2_with fail
                    go_ret3
                    exact ⟨by rw [hf2.out]; rfl, B2.out.alloc B2.out.size _⟩
                · have t3 : (n % 2 == 1) = true := by rw [h5]; rfl
                  have hq : Hid (rnd v c 3 = (n + 1, r - c)) := Hup.out (by omega)
                  clear h4 h5
                  go_wp2_with fail
                  refine (HIs1.out _ _).mono ?_
                  rintro e w3 ⟨rfl, rfl⟩
                  rcases hn : numB (n + 1) with _ | _
                  · have hf2 : Hid (mdF a b c 3 = (0, 0, 10)) := by show _ = _; rw [hf.out, hq.out]; simp only; rw [hn]; rfl
                    clear hn
                    go_wp2_with fail
                    go_ret3
                    exact ⟨by rw [hf2.out]; rfl, B2.out.alloc B2.out.size _⟩
                  · have hf2 : Hid (mdF a b c 3 = (n + 1, r - c, 0)) := by show _ = _; rw [hf.out, hq.out]; simp only; rw [hn]; rfl
                    clear hn
                    go_wp2_with fail
                    go_ret3
                    exact ⟨by rw [hf2.out]; rfl, B2.out.alloc B2.out.size _⟩
              · have t1 : decide (c - r < r) = true := decide_eq_true (by omega)
                have hq : Hid (rnd v c 3 = (n + 1, r - c)) := Hup.out (by omega)
                clear h4
                go_wp2_with fail
                refine (HIs1.out _ _).mono ?_
                rintro e w3 ⟨rfl, rfl⟩
                rcases hn : numB (n + 1) with _ | _
                · have hf2 : Hid (mdF a b c 3 = (0, 0, 10)) := by show _ = _; rw [hf.out, hq.out]; simp only; rw [hn]; rfl
                  clear hn
                  go_wp2_with fail
                  go_ret3
                  exact ⟨by rw [hf2.out]; rfl, B2.out.alloc B2.out.size _⟩
                · have hf2 : Hid (mdF a b c 3 = (n + 1, r - c, 0)) := by show _ = _; rw [hf.out, hq.out]; simp only; rw [hn]; rfl
                  clear hn
                  go_wp2_with fail
                  go_ret3
                  exact ⟨by rw [hf2.out]; rfl, B2.out.alloc B2.out.size _⟩
end Go.Proofs.Ytljjpidigckheaa.Un
