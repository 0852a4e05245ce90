/- The contracts of digits and Ratio of package bouleref03. -/
import Derived.Test.YtfifdfagikbahaaDoorMh
import Derived.ArgAppend
namespace Go.Proofs.YtfifdfagikbahaaDoor
open Go.RowKit
/-- The digits of a number, the last one last; none of nought. -/
def dgL (n : Nat) : List Int := if _h : n = 0 then [] else dgL (n / 10) ++ [((n % 10 : Nat) : Int)]
termination_by n
decreasing_by omega
theorem dgL_zero : dgL 0 = [] := by rw [dgL]; rfl
theorem dgL_pos {n : Nat} (h : 0 < n) : dgL n = dgL (n / 10) ++ [((n % 10 : Nat) : Int)] := by rw [dgL, dif_neg (by omega)]
theorem dgL_len : ∀ (k n : Nat), n < 10 ^ k → (dgL n).length ≤ k
  | 0, n, h => by
    obtain rfl : n = 0 := by simpa using h
    rw [dgL_zero]; exact Nat.le_refl _
  | k + 1, n, h => by
    rcases Nat.eq_zero_or_pos n with rfl | hn
    · rw [dgL_zero]; simp
    · rw [dgL_pos hn, List.length_append]
      have := dgL_len k (n / 10) (by rw [Nat.pow_succ] at h; omega)
      simp only [List.length_cons, List.length_nil]
      omega
theorem ints_flat (l : List Int) : (l.map fun x => I x) = flat 1 (rI l) l.length := by
  apply List.ext_getElem
  · simp [flat]
  · intro k h1 h2
    simp only [List.length_map] at h1
    have h3 : l[k]? = some l[k] := List.getElem?_eq_getElem h1
    simp [flat, rI, at0, h3, Nat.div_one]
/-- A list whose cells are known, at an address. -/
def AtL (l : List Int) (v : Value) (w : World) : Prop := ∃ b o c, v = .slice (some ⟨b, o, none⟩) l.length c ∧ b < w.heap.size ∧ ∀ j u, (l.map fun x => I x)[j]? = some u → w.cell? ⟨b, o + j, none⟩ = some u
theorem AtL.of_own {w : World} {base : Nat} {e : TypeId} {v : Value} {l : List Int} (hl : 0 < l.length) (h : w.ownsRow base e 1 v l.length (l.map fun x => I x)) : AtL l v w := by
  rw [ints_flat] at h
  obtain ⟨A, c, rfl, hr⟩ := Rd.of_own h
  obtain ⟨b, o, rfl, hb, hc⟩ := hr hl
  refine ⟨b, o, c, rfl, hb, fun j u hj => ?_⟩
  rw [ints_flat] at hj
  have hjl : j < l.length := by
    have := (List.getElem?_eq_some_iff.1 hj).1
    rw [flat_len] at this
    omega
  have h2 := flat_get (rI l) hjl (show 0 < 1 by omega)
  rw [Nat.mul_one, Nat.add_zero] at h2
  rw [h2] at hj
  have := hc j hjl 0 (by omega)
  rw [Nat.mul_one, Nat.add_zero] at this
  rw [this]; exact hj
theorem int_info : (Tryd.prog.info? 3).map (fun i => (i.zero, i.size, i.bytes)) = some (some (I 0), 1, 8) := by kernel_rfl
set_option maxRecDepth 100000 in
set_option maxHeartbeats 1000000 in
theorem digits_any (n : Nat) (w : World) (hn : n ≤ 1000000000000000) : Calls Tryd.prog 89 #[I n] w fun e w' => ∃ v, e = .returned v ∧ AtL (dgL n) v w' ∧ Below w.heap.size w w' := by
  go_enter Tryd.func89, Tryd.ntmps89
  go_wp2
  go_loopw [0, 3] (fun x v wr => ∃ (k : Nat) (l : List Int), x = I k ∧ k ≤ n ∧ dgL n = dgL k ++ l ∧ AtL l v wr ∧ Below w.heap.size w wr) (fun x _ _ => (intOf x).toNat)
  case atStart => exact ⟨n, [], rfl, Nat.le_refl _, by simp, ⟨w.heap.size, 0, 0, rfl, by simp, fun j u h => by simp at h⟩, (Below.refl _ _).alloc (Nat.le_refl _) _⟩
  case round =>
    obtain ⟨k, l, rfl, hk, hd, hl, hb⟩ := hrel
    rename World => X
    obtain ⟨b, o, c, rfl, hbl, hc⟩ := hl
    have Hd := Lib.hid hd
    have Hc := Lib.hid hc
    have Hb := Lib.hid hb
    rcases Nat.eq_zero_or_pos k with rfl | hp
    · have e : dgL n = l := by rw [hd, dgL_zero, List.nil_append]
      have fin : Hid (AtL (dgL n) (.slice (some ⟨b, o, none⟩) l.length c) X) := by show AtL _ _ _; rw [e]; exact ⟨b, o, c, rfl, hbl, hc⟩
      clear hd hc hb e
      go_wp2
      go_ret
      exact ⟨_, rfl, fin.out, Hb.out⟩
    · have k1 : decide ((0 : Int) < (k : Int)) = true := decide_eq_true (by omega)
      have k2 : decide (0 < k) = true := decide_eq_true hp
      have hll : l.length ≤ 16 := by
        have h1 := dgL_len 16 n (by omega)
        rw [hd, List.length_append] at h1
        omega
      have hd2 : dgL n = dgL (k / 10) ++ (((k % 10 : Nat) : Int) :: l) := by rw [hd, dgL_pos hp, List.append_assoc]; rfl
      have Hd2 := Lib.hid hd2
      clear hd hc hb hd2
      rcases Nat.eq_zero_or_pos l.length with hl0 | hl0
      · obtain rfl : l = [] := List.length_eq_zero_iff.1 hl0
        have hlb : b < X.heap.size := hbl
        go_wp2_with (at_builtin; obtain ⟨i0, hi0, iz0, iz1, iz2⟩ := info_parts int_info; go_loud (refine wpList_append_arg _ rfl _ _ 102 rfl 3 i0 _ 1 8 Tryd.underlying102 hi0 iz0 iz1 iz2 rfl (by decide) X.heap.size 0 1 1 [I ((k : Int) % 10)] rfl ?hlo ?holds ⟨b, o, none⟩ 0 c [] rfl ?hlm ?hc ?h1c ?hsp ?b1 ?b2 ?_ (fun h => absurd h (by decide))))
        case hlo => rfl
        case hlm => rfl
        case hsp => intro _ j hj; simp at hj
        case b1 => unfold maxLen; omega
        case b2 => omega
        case h1c => intro u hu; cases hu
        case holds =>
          intro j u hj
          rcases j with _ | j
          · cases hj
            exact (cell_of_row _ _ 0 _ _ _ (heap_last X (.cells #[I ((k : Int) % 10)] 3) X.heap.size rfl)).trans rfl
          · simp at hj
        case hc => intro j u hj; simp at hj
        have hat : AtL (((k % 10 : Nat) : Int) :: []) (.slice (some ⟨X.heap.size, 0, none⟩) 1 1) (X.alloc (.cells #[I ((k : Int) % 10)] 3)) := ⟨X.heap.size, 0, 1, rfl, by simp, fun j u hj => by
          rcases j with _ | j
          · cases hj
            exact (cell_of_row _ _ 0 _ _ _ (heap_last X (.cells #[I ((k : Int) % 10)] 3) X.heap.size rfl)).trans rfl
          · simp at hj⟩
        have HAt := Lib.hid hat
        have HB3 : Hid (Below w.heap.size w (X.alloc (.cells #[I ((k : Int) % 10)] 3))) := Hb.out.alloc Hb.out.size _
        clear hat
        have es : ∀ W : World, W.setCells X.heap.size 1 [] = W := fun _ => rfl
        exact ⟨⟨k / 10, _, rfl, by omega, Hd2.out, by rw [es]; exact HAt.out, by rw [es]; exact HB3.out⟩, by simp [intOf]; omega⟩
      · go_wp2_with (at_builtin; obtain ⟨i0, hi0, iz0, iz1, iz2⟩ := info_parts int_info; go_loud (refine wpList_append_grows _ rfl _ _ 102 rfl 3 i0 _ 1 8 Tryd.underlying102 hi0 iz0 iz1 iz2 rfl (by decide) (some ⟨X.heap.size, 0, none⟩) 1 1 [I ((k : Int) % 10)] rfl ?hnn ?hlo ?holds ⟨b, o, none⟩ l.length c (l.map fun x => I x) rfl ?hlm ?hc ?h1c ?hf ?b1 ?b2 ?_))
        case hnn => intro h; cases h
        case hlo => rfl
        case hlm => simp
        case hf => omega
        case b1 => unfold maxLen; omega
        case b2 => omega
        case h1c => intro u hu; obtain ⟨y, _, rfl⟩ := List.mem_map.1 hu; rfl
        case holds =>
          intro q hq j u hj
          cases hq
          rcases j with _ | j
          · cases hj
            exact (cell_of_row _ _ 0 _ _ _ (heap_last X (.cells #[I ((k : Int) % 10)] 3) X.heap.size rfl)).trans rfl
          · simp at hj
        case hc =>
          intro j u hj
          have := Hc.out j u hj
          rw [Addr.add_lit]
          exact (((Below.refl _ _).alloc (Nat.le_refl _) _).cell (p := ⟨b, o + j, none⟩) hbl).trans this
        intro v' w3 hown hgr
        have hb3 : Below w.heap.size w w3 := (Hb.out.alloc Hb.out.size _).grown hgr (by have := Hb.out.size; simp; omega) (fun k e => by cases e)
        have hat : AtL (((k % 10 : Nat) : Int) :: l) v' w3 := AtL.of_own (by simp) (by
          have e : (((k % 10 : Nat) : Int) :: l).length = 1 + l.length := by simp; omega
          rw [e]; exact hown)
        have HAt := Lib.hid hat
        have HB3 := Lib.hid hb3
        clear hown hgr hat hb3
        go_wp2
        go_roundw
        case rel => exact ⟨k / 10, _, rfl, by omega, Hd2.out, HAt.out, HB3.out⟩
        case measure => simp [intOf]; omega
end Go.Proofs.YtfifdfagikbahaaDoor
