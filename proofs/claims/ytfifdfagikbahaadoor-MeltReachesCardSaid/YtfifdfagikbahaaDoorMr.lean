/- The reference's choices are the package's. -/
import Derived.Test.YtfifdfagikbahaaDoorMq
namespace Go.Proofs.YtfifdfagikbahaaDoor
open Go.RowKit
theorem md_val {a b c how : Int} (hw : 1 ≤ how ∧ how ≤ 3) (ha : numB a = true) (hb : numB b = true) (hc : 1 ≤ c ∧ c ≤ 1000000000000000) (hn : numB (rnd (a * b) c how).1 = true) : (mdF a b c how).1 = (rnd (a * b) c how).1 := by
  unfold mdF
  rw [if_neg (by omega), if_neg (by
    rintro (h | h | h)
    · rw [ha, hb] at h; exact absurd h (by decide)
    · omega
    · omega), if_pos hn]
theorem rnd_one (v c : Int) : (rnd v c 1).1 = v / c := by
  rw [rnd_no (fun h => by rcases h.2 with h | h <;> omega)]
theorem rnd_two {v c : Int} (hc : 0 < c) : (rnd v c 2).1 = if v % c = 0 then v / c else v / c + 1 := by
  have h0 := Int.emod_nonneg v (show c ≠ 0 by omega)
  by_cases h : v % c = 0
  · rw [rnd_no (fun h' => by omega), if_pos h]
  · rw [rnd_up ⟨by omega, .inl rfl⟩, if_neg h]
theorem q_bd2 {d p c : Int} (hd : 0 ≤ d ∧ d ≤ 300000000000000) (hp : 0 ≤ p ∧ p ≤ 2 * c) (hc : 0 < c) : 0 ≤ d * p / c ∧ d * p / c ≤ 600000000000000 := by
  have h1 : d * p ≤ 300000000000000 * (2 * c) := Int.mul_le_mul hd.2 hp.2 hp.1 (by omega)
  exact ⟨Int.ediv_nonneg (Int.mul_nonneg hd.1 hp.1) (by omega), Int.ediv_le_of_le_mul hc (by omega)⟩
theorem pt_one {share u m mass : Int} (hu : 0 ≤ u ∧ u ≤ 300000000000000) (hp : 0 ≤ share * m ∧ share * m ≤ 2 * (10000 * mass) ∧ share * m ≤ 20000000000000) (hm : 1 ≤ mass ∧ mass ≤ 1000000000) : ptF share u m mass 1 = min u (u * (share * m) / (10000 * mass)) := by
  have hb := q_bd2 hu ⟨hp.1, hp.2.1⟩ (show 0 < 10000 * mass by omega)
  have e := md_val (a := u) (b := share * m) (c := 10000 * mass) (how := 1) (by omega) (numB_iff.2 (by omega)) (numB_iff.2 (by omega)) (by omega) (numB_iff.2 (by rw [rnd_one]; omega))
  unfold ptF
  rw [e, rnd_one]
  omega
theorem pt_two {share u m mass : Int} (hu : 0 ≤ u ∧ u ≤ 300000000000000) (hp : 0 ≤ share * m ∧ share * m ≤ 2 * (10000 * mass) ∧ share * m ≤ 20000000000000) (hm : 1 ≤ mass ∧ mass ≤ 1000000000) : ptF share u m mass 2 = min u (upF u (share * m) (10000 * mass)) := by
  have hb := q_bd2 hu ⟨hp.1, hp.2.1⟩ (show 0 < 10000 * mass by omega)
  have hr : (rnd (u * (share * m)) (10000 * mass) 2).1 = upF u (share * m) (10000 * mass) := by rw [rnd_two (by omega)]; rfl
  have hn : numB (rnd (u * (share * m)) (10000 * mass) 2).1 = true := numB_iff.2 (by rw [hr]; unfold upF; split <;> omega)
  have e := md_val (a := u) (b := share * m) (c := 10000 * mass) (how := 2) (by omega) (numB_iff.2 (by omega)) (numB_iff.2 (by omega)) (by omega) hn
  unfold ptF
  rw [e, hr]
  omega
theorem up_le {u p c : Int} (hu : 0 ≤ u) (hp : 0 ≤ p ∧ p ≤ c) (hc : 0 < c) : u * p / c ≤ u ∧ upF u p c ≤ u := by
  have h1 : u * p ≤ u * c := Int.mul_le_mul_of_nonneg_left hp.2 hu
  have h2 : u * p / c ≤ u := Int.ediv_le_of_le_mul hc h1
  refine ⟨h2, ?_⟩
  unfold upF
  split
  · exact h2
  · rename_i h
    have h3 := Int.emod_add_mul_ediv (u * p) c
    have h4 := Int.emod_nonneg (u * p) (show c ≠ 0 by omega)
    rcases Int.lt_or_le (u * p / c) u with hlt | hge
    · omega
    · have e : u * p / c = u := by omega
      rw [e, Int.mul_comm c u] at h3
      omega
/-- The reference's choices are the package's, where the step fits the melt. -/
theorem cr_ch {x : Stp} {s : Nat} {d mass : Int} (hx : isS x = true) (hs : s < 3) (hd : 0 ≤ d ∧ d ≤ 300000000000000) (hm : 0 ≤ mass ∧ mass ≤ 1000000000) (hxm : x.kd = 1 → x.ms ≤ mass) : crF x s d mass = chF x s d mass := by
  have hby := isS_by hx hs
  have hms := isS_ms hx
  unfold crF chF
  by_cases h1 : x.kd = 1
  · have hm1 := hms (.inl h1)
    have hmm := hxm h1
    have h20 := hby.2.2.1 (.inl h1)
    by_cases h2 : x.ms = mass
    · rw [if_pos ⟨h1, h2⟩, if_pos ⟨h1, h2⟩]
    · rw [if_neg (fun h => h2 h.2), if_pos h1, if_neg (fun h => h2 h.2), if_pos h1]
      rw [pt_one hd (share_bd ⟨hby.1, by omega⟩ ⟨by omega, hmm⟩ hm.2) (by omega), pt_two hd (share_bd ⟨by omega, h20⟩ ⟨by omega, hmm⟩ hm.2) (by omega)]
  · simp only [h1, false_and, if_false]
    by_cases h4 : x.kd = 4
    · simp only [h4, if_true]
      have hb4 : x.b (s * 2 + 1) ≤ 10000 := by
        unfold isS at hx
        rw [if_neg (by omega), if_neg (by omega), if_neg (by omega), if_pos h4, Bool.and_eq_true] at hx
        exact (bdB_at hx.2 hs).2.2
      have e1 := pt_one (share := x.b (s * 2)) (u := d) (m := 1) (mass := 1) hd (by omega) (by omega)
      have e2 := pt_two (share := x.b (s * 2 + 1)) (u := d) (m := 1) (mass := 1) hd (by omega) (by omega)
      rw [Int.mul_one] at e1 e2
      have l1 := up_le (u := d) (p := x.b (s * 2)) (c := 10000) hd.1 ⟨hby.1, by omega⟩ (by omega)
      have l2 := up_le (u := d) (p := x.b (s * 2 + 1)) (c := 10000) hd.1 ⟨by omega, hb4⟩ (by omega)
      rw [e1, e2]
      have c1 : (10000 * 1 : Int) = 10000 := rfl
      rw [c1, Int.min_eq_right l1.1, Int.min_eq_right l2.2]
    · simp only [h4, if_false]
end Go.Proofs.YtfifdfagikbahaaDoor
