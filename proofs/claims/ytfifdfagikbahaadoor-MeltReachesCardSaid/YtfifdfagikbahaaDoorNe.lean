/- sort.Search with the closures of Refill. -/
import Derived.Test.YtfifdfagikbahaaDoorNd
namespace Go.Proofs.YtfifdfagikbahaaDoor
open Go.RowKit
attribute [local go_sem] Oper.semAt_some
/-- What the closures of Refill look at. -/
structure RfIn (W : World) (a : Mix) (lw q l : Nat) : Prop where
  r : W.heap[q]? = some (.cells (mixArr a) 112 (0, 0))
  l : W.heap[l]? = some (.cells #[I lw] 3 (0, 0))
theorem RfIn.below {W W' : World} {a : Mix} {lw q l : Nat} (h : RfIn W a lw q l) (hb : Below W.heap.size W W') : RfIn W' a lw q l :=
  ⟨(hb.block _ (Array.getElem?_eq_some_iff.1 h.r).1).trans h.r, (hb.block _ (Array.getElem?_eq_some_iff.1 h.l).1).trans h.l⟩
theorem refill1_any (a : Mix) (lw q l i : Nat) (w : World) (ha : MixOk a) (hi : lw + i ≤ 1000000000) (h : RfIn w a lw q l) : Calls Tryd.prog 52 #[I i, .pointer (some ⟨q, 0, none⟩), .pointer (some ⟨l, 0, none⟩)] w fun e w' => e = .returned (.bool (hld a (lw + i))) ∧ Below w.heap.size w w' := by
  have y := fun k (v : Value) (hv : (mixArr a)[k]? = some v) => (show w.cell? ⟨q, k, none⟩ = some v by rw [cell_of_row _ _ _ _ _ _ h.r]; exact hv)
  have y0 := y 0 _ rfl
  have y1 := y 1 _ rfl
  have y2 := y 2 _ rfl
  have y3 := y 3 _ rfl
  have y4 := y 4 _ rfl
  have y5 := y 5 _ rfl
  have y6 : w.cell? ⟨l, 0, none⟩ = some (I lw) := by rw [cell_of_row _ _ _ _ _ _ h.l]; rfl
  have w1 : IntKind.i64.wrap ((lw : Int) + (i : Int)) = ((lw + i : Nat) : Int) := by rw [addN]; exact IntWalk.i64_in _ (by omega)
  have hc := holds_any a (lw + i) w ha hi
  obtain ⟨s, hs⟩ : ∃ q : Int, ((lw + i : Nat) : Int) = q := ⟨_, rfl⟩
  rw [hs] at w1 hc
  have Hc := Lib.hid hc
  clear y hc hs ha hi h
  go_enter Tryd.func52, Tryd.ntmps52
  go_wp2_with fail
  refine Hc.out.mono ?_
  rintro e w' ⟨rfl, hb⟩
  have HB := Lib.hid hb
  clear hb
  go_wp2_with fail
  go_ret
  exact ⟨rfl, HB.out⟩
theorem refill2_any (a : Mix) (lw q l i : Nat) (w : World) (ha : MixOk a) (hi : lw + i ≤ 1000000000) (h : RfIn w a lw q l) : Calls Tryd.prog 53 #[I i, .pointer (some ⟨q, 0, none⟩), .pointer (some ⟨l, 0, none⟩)] w fun e w' => e = .returned (.bool (! hld a (lw + i))) ∧ Below w.heap.size w w' := by
  have y := fun k (v : Value) (hv : (mixArr a)[k]? = some v) => (show w.cell? ⟨q, k, none⟩ = some v by rw [cell_of_row _ _ _ _ _ _ h.r]; exact hv)
  have y0 := y 0 _ rfl
  have y1 := y 1 _ rfl
  have y2 := y 2 _ rfl
  have y3 := y 3 _ rfl
  have y4 := y 4 _ rfl
  have y5 := y 5 _ rfl
  have y6 : w.cell? ⟨l, 0, none⟩ = some (I lw) := by rw [cell_of_row _ _ _ _ _ _ h.l]; rfl
  have w1 : IntKind.i64.wrap ((lw : Int) + (i : Int)) = ((lw + i : Nat) : Int) := by rw [addN]; exact IntWalk.i64_in _ (by omega)
  have hc := holds_any a (lw + i) w ha hi
  obtain ⟨s, hs⟩ : ∃ q : Int, ((lw + i : Nat) : Int) = q := ⟨_, rfl⟩
  rw [hs] at w1 hc
  have Hc := Lib.hid hc
  clear y hc hs ha hi h
  go_enter Tryd.func53, Tryd.ntmps53
  go_wp2_with fail
  refine Hc.out.mono ?_
  rintro e w' ⟨rfl, hb⟩
  have HB := Lib.hid hb
  clear hb
  go_wp2_with fail
  go_ret
  exact ⟨rfl, HB.out⟩
/-- A place where the answers turn: before it none (if it is not the first), at it one (if it is not the last). -/
def Turn (p : Nat → Bool) (n r : Nat) : Prop := r ≤ n ∧ (0 < r → p (r - 1) = false) ∧ (r < n → p r = true)
theorem search1_any (a : Mix) (lw q l n : Nat) (w : World) (ha : MixOk a) (hn : lw + n ≤ 1000000000) (h : RfIn w a lw q l) : Calls Tryd.prog 51 #[I n, .func (.func 52) #[] #[.pointer (some ⟨q, 0, none⟩), .pointer (some ⟨l, 0, none⟩)]] w fun e w' => (∃ r : Nat, e = .returned (I r) ∧ Turn (fun i => hld a (lw + i)) n r) ∧ Below w.heap.size w w' := by
  have HR := Lib.hid h
  have HA := Lib.hid ha
  have hn' : n ≤ 1000000000 := by omega
  clear h ha
  go_enter Tryd.func51, Tryd.ntmps51
  go_wp2_with fail
  go_loopw [5, 6] (fun i j wr => ∃ l h : Nat, l ≤ h ∧ h ≤ n ∧ i = .int .i64 l ∧ j = .int .i64 h ∧ (0 < l → (hld a (lw + (l - 1))) = false) ∧ (h < n → (hld a (lw + h)) = true) ∧ Below w.heap.size w wr) (fun i j _ => (intOf j - intOf i).toNat)
  case atStart => exact ⟨0, n, by omega, by omega, rfl, rfl, fun h => absurd h (by omega), fun h => absurd h (by omega), Below.refl _ _⟩
  case round =>
    rename World => X
    obtain ⟨i, j, hij, hjn, rfl, rfl, hi, hj, hb⟩ := hrel
    have Hi := Lib.hid hi
    have Hj := Lib.hid hj
    have HB := Lib.hid hb
    clear hi hj hb
    by_cases hlt : i < j
    · have kb : decide (i < j) = true := decide_eq_true hlt
      have ki : decide ((i : Int) < (j : Int)) = true := decide_eq_true (by omega)
      go_upto_region 4 with (fail)
      obtain ⟨m, hmd⟩ : ∃ m : Nat, (i + j) / 2 = m := ⟨_, rfl⟩
      have e : ((i : Int) + (j : Int)) / 2 = (m : Int) := by omega
      rw [e]
      have hm1 : i ≤ m ∧ m < j := by omega
      have Hm := Lib.hid hm1
      have hc := refill1_any a lw q l m X HA.out (by omega) (HR.out.below HB.out)
      have w1 : IntKind.i64.wrap ((m : Int) + 1) = ((m + 1 : Nat) : Int) := by rw [show (m : Int) + 1 = ((m + 1 : Nat) : Int) by omega]; exact IntWalk.i64_in _ (by omega)
      obtain ⟨b, hbv⟩ : ∃ b, (hld a (lw + m)) = b := ⟨_, rfl⟩
      rw [hbv] at hc
      have Hb := Lib.hid hbv
      have Hc := Lib.hid hc
      clear e hmd hm1 hc hbv
      obtain ⟨m1, hm1'⟩ : ∃ q : Int, ((m + 1 : Nat) : Int) = q := ⟨_, rfl⟩
      have Hm1 := Lib.hid hm1'
      rw [hm1'] at w1
      clear hm1'
      go_wp2_with fail
      refine Hc.out.mono ?_
      rintro e w5 ⟨rfl, hb5⟩
      have H5 : Hid (Below w.heap.size w w5) := HB.out.trans (hb5.mono HB.out.size)
      clear hb5
      rcases b with _ | _
      · go_wp2_with fail
        go_roundw
        case rel => exact ⟨m + 1, j, by have := Hm.out; omega, by omega, by rw [← Hm1.out], rfl, fun _ => by rw [Nat.add_sub_cancel]; exact Hb.out, Hj.out, H5.out⟩
        case measure => simp [intOf]; have := Hm.out; have := Hm1.out; omega
      · go_wp2_with fail
        go_roundw
        case rel => exact ⟨i, m, by have := Hm.out; omega, by have := Hm.out; omega, rfl, rfl, Hi.out, fun _ => Hb.out, H5.out⟩
        case measure => simp [intOf]; have := Hm.out; omega
    · obtain rfl : i = j := by omega
      have kb : decide (i < i) = false := decide_eq_false (by omega)
      have ki : decide ((i : Int) < (i : Int)) = false := decide_eq_false (by omega)
      go_wp2_with fail
      go_ret
      exact ⟨⟨i, rfl, hjn, Hi.out, Hj.out⟩, HB.out⟩
theorem search2_any (a : Mix) (lw q l n : Nat) (w : World) (ha : MixOk a) (hn : lw + n ≤ 1000000000) (h : RfIn w a lw q l) : Calls Tryd.prog 51 #[I n, .func (.func 53) #[] #[.pointer (some ⟨q, 0, none⟩), .pointer (some ⟨l, 0, none⟩)]] w fun e w' => (∃ r : Nat, e = .returned (I r) ∧ Turn (fun i => ! hld a (lw + i)) n r) ∧ Below w.heap.size w w' := by
  have HR := Lib.hid h
  have HA := Lib.hid ha
  have hn' : n ≤ 1000000000 := by omega
  clear h ha
  go_enter Tryd.func51, Tryd.ntmps51
  go_wp2_with fail
  go_loopw [5, 6] (fun i j wr => ∃ l h : Nat, l ≤ h ∧ h ≤ n ∧ i = .int .i64 l ∧ j = .int .i64 h ∧ (0 < l → (! hld a (lw + (l - 1))) = false) ∧ (h < n → (! hld a (lw + h)) = true) ∧ Below w.heap.size w wr) (fun i j _ => (intOf j - intOf i).toNat)
  case atStart => exact ⟨0, n, by omega, by omega, rfl, rfl, fun h => absurd h (by omega), fun h => absurd h (by omega), Below.refl _ _⟩
  case round =>
    rename World => X
    obtain ⟨i, j, hij, hjn, rfl, rfl, hi, hj, hb⟩ := hrel
    have Hi := Lib.hid hi
    have Hj := Lib.hid hj
    have HB := Lib.hid hb
    clear hi hj hb
    by_cases hlt : i < j
    · have kb : decide (i < j) = true := decide_eq_true hlt
      have ki : decide ((i : Int) < (j : Int)) = true := decide_eq_true (by omega)
      go_upto_region 4 with (fail)
      obtain ⟨m, hmd⟩ : ∃ m : Nat, (i + j) / 2 = m := ⟨_, rfl⟩
      have e : ((i : Int) + (j : Int)) / 2 = (m : Int) := by omega
      rw [e]
      have hm1 : i ≤ m ∧ m < j := by omega
      have Hm := Lib.hid hm1
      have hc := refill2_any a lw q l m X HA.out (by omega) (HR.out.below HB.out)
      have w1 : IntKind.i64.wrap ((m : Int) + 1) = ((m + 1 : Nat) : Int) := by rw [show (m : Int) + 1 = ((m + 1 : Nat) : Int) by omega]; exact IntWalk.i64_in _ (by omega)
      obtain ⟨b, hbv⟩ : ∃ b, (! hld a (lw + m)) = b := ⟨_, rfl⟩
      rw [hbv] at hc
      have Hb := Lib.hid hbv
      have Hc := Lib.hid hc
      clear e hmd hm1 hc hbv
      obtain ⟨m1, hm1'⟩ : ∃ q : Int, ((m + 1 : Nat) : Int) = q := ⟨_, rfl⟩
      have Hm1 := Lib.hid hm1'
      rw [hm1'] at w1
      clear hm1'
      go_wp2_with fail
      refine Hc.out.mono ?_
      rintro e w5 ⟨rfl, hb5⟩
      have H5 : Hid (Below w.heap.size w w5) := HB.out.trans (hb5.mono HB.out.size)
      clear hb5
      rcases b with _ | _
      · go_wp2_with fail
        go_roundw
        case rel => exact ⟨m + 1, j, by have := Hm.out; omega, by omega, by rw [← Hm1.out], rfl, fun _ => by rw [Nat.add_sub_cancel]; exact Hb.out, Hj.out, H5.out⟩
        case measure => simp [intOf]; have := Hm.out; have := Hm1.out; omega
      · go_wp2_with fail
        go_roundw
        case rel => exact ⟨i, m, by have := Hm.out; omega, by have := Hm.out; omega, rfl, rfl, Hi.out, fun _ => Hb.out, H5.out⟩
        case measure => simp [intOf]; have := Hm.out; omega
    · obtain rfl : i = j := by omega
      have kb : decide (i < i) = false := decide_eq_false (by omega)
      have ki : decide ((i : Int) < (i : Int)) = false := decide_eq_false (by omega)
      go_wp2_with fail
      go_ret
      exact ⟨⟨i, rfl, hjn, Hi.out, Hj.out⟩, HB.out⟩
end Go.Proofs.YtfifdfagikbahaaDoor
