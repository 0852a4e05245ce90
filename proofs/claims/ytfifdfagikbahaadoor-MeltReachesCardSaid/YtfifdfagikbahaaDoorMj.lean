/- The contract of Ratio of package bouleref03. -/
import Derived.Test.YtfifdfagikbahaaDoorMi
namespace Go.Proofs.YtfifdfagikbahaaDoor
open Go.RowKit
/-- The number that some digits make. -/
def vL (l : List Int) : Int := l.foldl (fun s d => s * 10 + d) 0
theorem vL_snoc (l : List Int) (d : Int) : vL (l ++ [d]) = vL l * 10 + d := by simp [vL]
theorem vL_dgL (n : Nat) : vL (dgL n) = n := by
  induction n using Nat.strongRecOn with
  | _ n ih =>
    rcases Nat.eq_zero_or_pos n with rfl | hn
    · rw [dgL_zero]; rfl
    · rw [dgL_pos hn, vL_snoc, ih (n / 10) (by omega)]; omega
theorem dgL_bd (n : Nat) : ∀ d ∈ dgL n, 0 ≤ d ∧ d ≤ 9 := by
  induction n using Nat.strongRecOn with
  | _ n ih =>
    rcases Nat.eq_zero_or_pos n with rfl | hn
    · rw [dgL_zero]; intro d hd; cases hd
    · rw [dgL_pos hn]
      intro d hd
      rcases List.mem_append.1 hd with h | h
      · exact ih (n / 10) (by omega) d h
      · simp at h; omega
theorem vL_take {l : List Int} {k : Nat} (hk : k < l.length) : vL (l.take (k + 1)) = vL (l.take k) * 10 + at0 l k := by
  have h3 : l[k]? = some l[k] := List.getElem?_eq_getElem hk
  rw [List.take_add_one, h3, Option.toList_some, vL_snoc]
  simp [at0, h3]
theorem vL_mono {l : List Int} (h : ∀ d ∈ l, 0 ≤ d ∧ d ≤ 9) : ∀ k, 0 ≤ vL (l.take k) ∧ vL (l.take k) ≤ vL (l.take (k + 1))
  | 0 => by
    rcases Nat.eq_zero_or_pos l.length with h0 | h0
    · obtain rfl := List.length_eq_zero_iff.1 h0; simp [vL]
    · rw [vL_take h0]
      have := h _ (List.getElem_mem h0)
      have e : at0 l 0 = l[0] := by simp [at0, List.getElem?_eq_getElem h0]
      simp [vL] ; omega
  | k + 1 => by
    have ih := vL_mono h k
    refine ⟨by omega, ?_⟩
    rcases Nat.lt_or_ge (k + 1) l.length with h0 | h0
    · rw [vL_take h0]
      have := h _ (List.getElem_mem h0)
      have e : at0 l (k + 1) = l[k + 1] := by simp [at0, List.getElem?_eq_getElem h0]
      omega
    · rw [List.take_of_length_le h0, List.take_of_length_le (by omega)]; exact Int.le_refl _
/-- One digit more of a long division. -/
theorem long_step {a v d c : Int} (hc : 0 < c) : a * (v * 10 + d) / c = a * v / c * 10 + (a * v % c * 10 + a * d) / c ∧ a * (v * 10 + d) % c = (a * v % c * 10 + a * d) % c := by
  have e : a * (v * 10 + d) = (a * v % c * 10 + a * d) + c * (a * v / c * 10) := by
    have h := Int.emod_add_mul_ediv (a * v) c
    have h2 : a * (v * 10 + d) = a * v * 10 + a * d := by rw [Int.mul_add, Int.mul_assoc]
    rw [h2]
    have h3 : c * (a * v / c * 10) = c * (a * v / c) * 10 := by rw [Int.mul_assoc]
    rw [h3]
    omega
  rw [e, Int.add_mul_ediv_left _ _ (by omega), Int.add_mul_emod_self_left]
  exact ⟨by omega, rfl⟩
set_option maxRecDepth 100000 in
set_option maxHeartbeats 1000000 in
theorem ratio_any (a c : Int) (b : Nat) (w : World) (ha : 0 ≤ a ∧ a ≤ 1000000000000000) (hb : b ≤ 1000000000000000) (hc : 1 ≤ c ∧ c ≤ 100000000000000) (hq : a * b / c ≤ 1000000000000000000) :
    Calls Tryd.prog 66 #[I a, I b, I c] w fun e w' => e = .returned (.tuple #[I (a * b / c), .bool (decide (a * b % c = 0))]) ∧ Below w.heap.size w w' := by
  go_enter Tryd.func66, Tryd.ntmps66
  go_wp2_with fail
  refine (digits_any b w hb).mono ?_
  rintro e w1 ⟨v, rfl, ⟨g, o, cp, rfl, hg, hcell⟩, hb1⟩
  have hv := vL_dgL b
  have hd := dgL_bd b
  have hm := vL_mono hd
  have hll := dgL_len 16 b (by omega)
  generalize dgL b = l at *
  have Hb1 := Lib.hid hb1
  have Hcell := Lib.hid hcell
  have Hv := Lib.hid hv
  have Hd := Lib.hid hd
  have Hm := Lib.hid hm
  clear hb1 hcell hv hd hm
  go_wp2_with fail
  go_loopw [9, 10, 11] (fun n r i wr => ∃ k : Nat, k ≤ l.length ∧ i = .int .i64 k ∧ n = I (a * vL (l.take k) / c) ∧ r = I (a * vL (l.take k) % c) ∧ wr = w1) (fun _ _ i _ => l.length - (intOf i).toNat)
  case atStart => exact ⟨0, by omega, rfl, by simp [vL], by simp [vL], rfl⟩
  case round =>
    obtain ⟨k, hk, rfl, rfl, rfl, rfl⟩ := hrel
    by_cases hlt : k < l.length
    · have k1 : decide ((k : Int) < (l.length : Int)) = true := decide_eq_true (by omega)
      have k2 : decide (k < l.length) = true := decide_eq_true hlt
      have e3 : l[k]? = some l[k] := List.getElem?_eq_getElem hlt
      have hat : at0 l k = l[k] := by simp [at0, e3]
      have hdb := Hd.out _ (List.getElem_mem hlt)
      rw [← hat] at hdb
      have x0 : wr.cell? ⟨g, o + k, none⟩ = some (I (at0 l k)) := Hcell.out k _ (by rw [List.getElem?_map, e3, hat]; rfl)
      have hst := long_step (a := a) (v := vL (l.take k)) (d := at0 l k) (c := c) (by omega)
      rw [← vL_take hlt] at hst
      have hmk := Hm.out
      have hle : a * vL (l.take (k + 1)) / c ≤ 1000000000000000000 := by
        refine Int.le_trans (Int.ediv_le_ediv (by omega) (Int.mul_le_mul_of_nonneg_left ?_ ha.1)) hq
        rw [← Hv.out]
        have hmono : ∀ j i, i ≤ j → vL (l.take i) ≤ vL (l.take j) := by
          intro j
          induction j with
          | zero =>
            intro i hi
            have e : i = 0 := by omega
            rw [e]; exact Int.le_refl _
          | succ j ih =>
            intro i hi
            rcases Nat.lt_or_ge j i with h | h
            · have e : i = j + 1 := by omega
              rw [e]; exact Int.le_refl _
            · exact Int.le_trans (ih i h) (hmk j).2
        have := hmono l.length (k + 1) (by omega)
        rwa [List.take_length] at this
      have hr0 := Int.emod_nonneg (a * vL (l.take k)) (show c ≠ 0 by omega)
      have hr1 := Int.emod_lt_of_pos (a * vL (l.take k)) (show 0 < c by omega)
      have hn0 : 0 ≤ a * vL (l.take k) / c := Int.ediv_nonneg (Int.mul_nonneg ha.1 (hmk k).1) (by omega)
      have hp0 : 0 ≤ a * at0 l k := Int.mul_nonneg ha.1 hdb.1
      have hp1 : a * at0 l k ≤ 1000000000000000 * 9 := Int.mul_le_mul ha.2 hdb.2 hdb.1 (by omega)
      obtain ⟨d, hde⟩ : ∃ d, at0 l k = d := ⟨_, rfl⟩
      obtain ⟨n, hne⟩ : ∃ n, a * vL (l.take k) / c = n := ⟨_, rfl⟩
      obtain ⟨r, hre⟩ : ∃ r, a * vL (l.take k) % c = r := ⟨_, rfl⟩
      obtain ⟨p, hpe⟩ : ∃ p, a * d = p := ⟨_, rfl⟩
      rw [hde] at x0 hst hp0 hp1
      rw [hne] at hst hn0 ⊢
      rw [hre] at hst hr0 hr1 ⊢
      rw [hpe] at hst hp0 hp1
      have hS := Int.ediv_nonneg (show 0 ≤ r * 10 + p by omega) (show 0 ≤ c by omega)
      rw [hst.1] at hle
      have w1' : IntKind.i64.wrap (r * 10) = r * 10 := IntWalk.i64_in _ (by omega)
      have w2 : IntKind.i64.wrap (a * d) = p := by rw [hpe]; exact IntWalk.i64_in _ (by omega)
      have w3 : IntKind.i64.wrap (r * 10 + p) = r * 10 + p := IntWalk.i64_in _ (by omega)
      have w4 : IntKind.i64.wrap (n * 10) = n * 10 := IntWalk.i64_in _ (by omega)
      have w5 : Int.tdiv (r * 10 + p) c = (r * 10 + p) / c := Int.tdiv_eq_ediv_of_nonneg (by omega)
      have w6 : Int.tmod (r * 10 + p) c = (r * 10 + p) % c := Int.tmod_eq_emod_of_nonneg (by omega)
      have hmb := Int.emod_nonneg (r * 10 + p) (show c ≠ 0 by omega)
      have hmb2 := Int.emod_lt_of_pos (r * 10 + p) (show 0 < c by omega)
      have HN := Lib.hid hst
      clear hst
      generalize (r * 10 + p) / c = q1 at *
      generalize (r * 10 + p) % c = q2 at *
      have w7 : IntKind.i64.wrap q1 = q1 := IntWalk.i64_in _ (by omega)
      have w8 : IntKind.i64.wrap (n * 10 + q1) = n * 10 + q1 := IntWalk.i64_in _ (by omega)
      have w9 : IntKind.i64.wrap q2 = q2 := IntWalk.i64_in _ (by omega)
      have c0 : (c == 0) = false := by simp; omega
      have c1 : c ≠ 0 := by omega
      have c2 : (c == -1) = false := by simp; omega
      clear hle hS hmb hmb2 hr0 hr1 hn0 hp0 hp1 hde hne hre hpe hdb hat e3 hmk
      go_wp2
      exact ⟨⟨k + 1, hlt, by go_num, by rw [HN.out.1], by rw [HN.out.2], trivial⟩, by simp [intOf]; omega⟩
    · obtain rfl : k = l.length := by omega
      have k1 : decide ((l.length : Int) < (l.length : Int)) = false := decide_eq_false (by omega)
      have hlv := Hv.out
      rw [List.take_length, hlv]
      rcases hz : decide (a * (b : Int) % c = 0) with _ | _
      · have z : (a * (b : Int) % c == 0) = false := by simpa using hz
        have Hz := Lib.hid hz
        clear hz
        go_wp2
        go_ret2
        exact ⟨by rw [Hz.out]; rfl, Hb1.out⟩
      · have z : (a * (b : Int) % c == 0) = true := by simpa using hz
        have Hz := Lib.hid hz
        clear hz
        go_wp2
        go_ret2
        exact ⟨by rw [Hz.out]; rfl, Hb1.out⟩
end Go.Proofs.YtfifdfagikbahaaDoor
