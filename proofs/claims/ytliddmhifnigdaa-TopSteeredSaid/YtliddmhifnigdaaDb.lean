/- Contracts of the reference's span, Model, Can, Regions, of both Judges. -/
import Derived.Test.YtliddmhifnigdaaDa
namespace Go.Proofs.Ytliddmhifnigdaa.Un
open Go.RowKit
/-- The border asked about by the reference: as bdM, but that the first has none before it. -/
def bdR (m : Mdl) (k : Nat) : Bool := spanB (m.b k) 0 1000000 && !(decide (0 < k) && (decide ((m.b k).lo < (m.b (k - 1)).lo) || decide ((m.b k).hi < (m.b (k - 1)).hi)))
theorem bdR_eq (m : Mdl) (k : Nat) : bdR m k = bdM m k := by
  unfold bdR bdM
  rcases h : spanB (m.b k) 0 1000000 with _ | _
  · rfl
  · have hs := spanB_iff.1 h
    cases k with
    | zero =>
      have e1 : (0 : Int) ≤ (m.b 0).lo := hs.1
      have e2 : (0 : Int) ≤ (m.b 0).hi := by omega
      simp [bfM, e1, e2]
    | succ k =>
      simp only [bfM, Nat.succ_pos, Nat.add_sub_cancel, decide_true, Bool.true_and, Bool.not_or]
      rw [← decide_not, ← decide_not]
      congr 1 <;> (apply decide_eq_decide.2; omega)
/-- What Judge answers. -/
def jdF (c v : Int) : Int × Int := if 31 < c ∨ 31 < v then (0, 2) else if bits .and .u8 c v = c then (1, 0) else if bits .and .u8 c v = 0 then (3, 0) else (2, 0)
set_option maxRecDepth 100000 in
set_option maxHeartbeats 1000000 in
theorem judge_any (c v : Int) (w : World) : Calls Try.prog 13 #[.int .u8 c, .int .u8 v] w fun e w' => e = .returned (.tuple #[.int .u8 (jdF c v).1, I (jdF c v).2]) ∧ Below w.heap.size w w' := by
  have hf : Hid (jdF c v = if 31 < c ∨ 31 < v then (0, 2) else if bits .and .u8 c v = c then (1, 0) else if bits .and .u8 c v = 0 then (3, 0) else (2, 0)) := rfl
  obtain ⟨u0, hu0⟩ := ovr_self w
  have H0 := Lib.hid hu0
  clear hu0
  by_cases h1 : 31 < c
  · rw [if_pos (.inl h1)] at hf
    go_enter Try.func13, Try.ntmps13
    go_wp2_with fail
    go_ret2
    exact ⟨by rw [hf.out]; rfl, Below.refl _ _⟩
  · by_cases h2 : 31 < v
    · rw [if_pos (.inr h2)] at hf
      go_enter Try.func13, Try.ntmps13
      go_wp2_with fail
      go_ret2
      exact ⟨by rw [hf.out]; rfl, Below.refl _ _⟩
    · rw [if_neg (by omega)] at hf
      by_cases h3 : bits .and .u8 c v = c
      · rw [if_pos h3] at hf
        go_enter Try.func13, Try.ntmps13
        go_wp2_with fail
        go_ret2
        exact ⟨by rw [hf.out]; rfl, Below.refl _ _⟩
      · rw [if_neg h3] at hf
        by_cases h4 : bits .and .u8 c v = 0
        · rw [if_pos h4] at hf
          go_enter Try.func13, Try.ntmps13
          go_wp2_with fail
          go_ret2
          exact ⟨by rw [hf.out]; rfl, Below.refl _ _⟩
        · rw [if_neg h4] at hf
          go_enter Try.func13, Try.ntmps13
          go_wp2_with fail
          go_ret2
          exact ⟨by rw [hf.out]; rfl, Below.refl _ _⟩
/-- Can of the reference. -/
def canB (m : Mdl) (r g : Rng) (k : Nat) : Bool := !(decide (0 < k) && decide (r.hi * m.sc ≤ (m.b (k - 1)).lo * g.lo)) && (!(decide (k < 4) && decide ((m.b k).hi * g.hi < r.lo * m.sc)) && (decide (k = 0) || (decide (k = 4) || decide ((m.b (k - 1)).lo < (m.b k).hi))))
theorem can_eq {m : Mdl} {r g : Rng} {k : Nat} (hk : k < 5) (hp : PlOk m r g) : canB m r g k = posB m r g k := by
  have hr := spanB_iff.1 hp.r
  have hg := spanB_iff.1 hp.g
  have hs := okMdl_iff.1 hp.m
  have m1 := mul_bd (a := r.hi) (b := m.sc) (A := 1000000) (B := 1000000) ⟨by omega, hr.2.2⟩ ⟨by omega, hs.2.1⟩
  have m2 := mul_bd (a := r.lo) (b := m.sc) (A := 1000000) (B := 1000000) ⟨hr.1, by omega⟩ ⟨by omega, hs.2.1⟩
  unfold canB posB abv upt
  rw [Bool.eq_iff_iff]
  simp only [Bool.and_eq_true, Bool.or_eq_true, Bool.not_eq_true', Bool.and_eq_false_iff, decide_eq_true_eq, decide_eq_false_iff_not]
  by_cases h0 : k = 0
  · subst h0
    have b0 := bdM_bd hp.m (k := 0) (by omega)
    simp
    constructor
    · intro h; exact ⟨by omega, by omega, h⟩
    · intro h; exact h.2.2
  · rw [if_neg h0]
    have b1 := bdM_bd hp.m (k := k - 1) (by omega)
    by_cases h4 : k < 4
    · rw [if_pos h4]
      have e4 : ¬ k = 4 := by omega
      simp [h0, e4, h4]
      constructor
      · rintro ⟨h1, h2, h3⟩; exact ⟨h3, by omega, h2⟩
      · rintro ⟨h1, h2, h3⟩; exact ⟨by omega, h3, h1⟩
    · have e4 : k = 4 := by omega
      subst e4
      rw [if_neg h4]
      have b3 := bdM_bd hp.m (k := 3) (by omega)
      have m3 := Int.mul_le_mul_of_nonneg_left hg.1 (show (0 : Int) ≤ 1099511627776 by omega)
      have m4 := Int.mul_le_mul_of_nonneg_left (show (1 : Int) ≤ g.hi by omega) (show (0 : Int) ≤ 1099511627776 by omega)
      simp
      constructor
      · intro h; exact ⟨by omega, by omega, by omega⟩
      · intro h; exact h.2.1
/-- What Judge of the reference answers. -/
def jrF (c v : Int) : Int × Int := if 31 < c ∨ 31 < v then (0, 2) else if bits .andNot .u8 c v = 0 then (1, 0) else if bits .and .u8 c v = 0 then (3, 0) else (2, 0)
theorem jr_eq {c v : Int} (hc : 0 ≤ c) (hv : 0 ≤ v) : jrF c v = jdF c v := by
  have key : ∀ (a : Fin 32) (b : Fin 32), (bits .andNot .u8 (a.val : Int) (b.val : Int) = 0) ↔ (bits .and .u8 (a.val : Int) (b.val : Int) = (a.val : Int)) := by decide +kernel
  unfold jrF jdF
  by_cases h : 31 < c ∨ 31 < v
  · rw [if_pos h, if_pos h]
  · rw [if_neg h, if_neg h]
    obtain ⟨a, rfl⟩ := Int.eq_ofNat_of_zero_le hc
    obtain ⟨b, rfl⟩ := Int.eq_ofNat_of_zero_le hv
    have k1 := key ⟨a, by omega⟩ ⟨b, by omega⟩
    by_cases h1 : bits .and .u8 (a : Int) (b : Int) = (a : Int)
    · rw [if_pos (k1.2 h1), if_pos h1]
    · rw [if_neg (fun h2 => h1 (k1.1 h2)), if_neg h1]
end Go.Proofs.Ytliddmhifnigdaa.Un
