/- product of the reference. -/
import Derived.Test.YtfifdfagikbahaaDoorNt
namespace Go.Proofs.YtfifdfagikbahaaDoor
open Go.RowKit
attribute [local go_sem] Oper.semAt_some
theorem pw_add (a b : Nat) : pw (a + b) = pw a * pw b := Nat.pow_add ..
theorem val_drop_lt {l : List Nat} (h : Dig l) (k : Nat) : val (l.drop k) < pw (l.length - k) := by
  have := val_lt (l.drop k) fun x hx => h x (List.mem_of_mem_drop hx)
  rwa [List.length_drop] at this
theorem prod_lt {l : List Nat} (h : Dig l) (k n : Nat) (hn : n < pw 3) : val (l.drop k) * n < pw (6 + (l.length - k)) := by
  have h1 := val_drop_lt h k
  have h2 : val (l.drop k) * n ≤ pw (l.length - k) * pw 3 := Nat.mul_le_mul (by omega) (by omega)
  rw [← pw_add] at h2
  have h3 : pw (l.length - k + 3 + 1) ≤ pw (6 + (l.length - k)) := pw_mono (by omega)
  rw [pw_succ] at h3
  have := pw_pos (l.length - k + 3)
  omega
set_option maxHeartbeats 2000000 in
set_option maxRecDepth 6000 in
theorem productD_any (l : List Nat) (n : Nat) (A : Option Addr) (c B : Nat) (w : World) (hl : Dig l) (hlen : l.length ≤ 6) (hn : n < pw 3) (hB : B ≤ w.heap.size) (hx : Rd w B 1 A l.length (rN l)) :
    Calls Tryd.prog 79 #[.slice A l.length c, I (n : Int)] w fun e w' => ∃ v o, e = .returned v ∧ Dig o ∧ o.length ≤ 12 ∧ val o = val l * n ∧ SoC 3 1 w.heap.size o.length (flat 1 (rN o) o.length) v w' ∧ Below w.heap.size w w' := by
  have hmm := @run_makeMap Tryd.prog
  obtain ⟨i1, hi1, iz1, is1, ib1⟩ := info_parts int_info
  have HX := Lib.hid hx
  have HL := Lib.hid hl
  have w0 : IntKind.i64.wrap ((l.length : Int) - 1) = (l.length : Int) - 1 := IntWalk.i64_in _ (by omega)
  clear hx hl
  go_enter Tryd.func79, Tryd.ntmps79
  go_wp2_with fail
  go_loopw [5, 6] (fun v i wr => ∃ (o : List Nat) (k : Nat), k ≤ l.length ∧ i = .int .i64 ((k : Int) - 1) ∧ Dig o ∧ o.length ≤ 6 + (l.length - k) ∧ val o = val (l.drop k) * n ∧ SoC 3 1 w.heap.size o.length (flat 1 (rN o) o.length) v wr ∧ Below w.heap.size w wr) (fun _ i _ => (intOf i + 1).toNat)
  case atStart => exact ⟨[], l.length, Nat.le_refl _, rfl, (fun x hx => by cases hx), by simp, by rw [drop_end (Nat.le_refl _), Nat.zero_mul]; rfl, .inl ⟨rfl, rfl, _, rfl⟩, (Below.refl _ _).alloc (Nat.le_refl _) _⟩
  case round =>
    rename World => X
    obtain ⟨o, k, hk, rfl, ho, hol, hv, hso, hbx⟩ := hrel
    obtain ⟨A3, c3, rfl, _, _, hrd⟩ := hso.rd
    have Hv := Lib.hid hv
    have Ho := Lib.hid ho
    have Hrd := Lib.hid hrd
    have Hso := Lib.hid hso
    have Hbx := Lib.hid hbx
    have hsz := hbx.size
    clear hv ho hrd hso hbx
    rcases k with _ | k
    · go_wp2_with fail
      go_ret
      exact ⟨_, o, rfl, Ho.out, by omega, by rw [Hv.out, List.drop_zero], Hso.out, Hbx.out⟩
    · rw [show ((k + 1 : Nat) : Int) - 1 = (k : Int) by omega]
      have k0 : decide (0 ≤ (k : Int)) = true := decide_eq_true (by omega)
      have k3 : k < l.length := by omega
      have k4 : decide ((k : Int) < (l.length : Int)) = true := decide_eq_true (by omega)
      go_wp2_with (at_builtin; go_loud (refine wpList_app_pre rfl _ _ 102 rfl 3 i1 _ 8 Tryd.underlying102 hi1 iz1 is1 ib1 rfl w.heap.size X.heap.size (I 0) rfl A3 o.length c3 rfl (rN o) (heap_last _ _ _ rfl) ?hBz ?hr ?hn (by decide) ?_))
      case hBz => omega
      case hr => exact (Hrd.out.alloc (Nat.le_refl _) _).more (by simp)
      case hn => omega
      intro v4 w4 hb4 own4
      have own4 : w4.ownsRow w.heap.size 3 1 v4 (o.length + 1) (flat 1 (rN (0 :: o)) (o.length + 1)) := by rw [digs_cons]; exact own4
      have Hb4 : Hid (Below w.heap.size w w4) := (Hbx.out.alloc (by omega) _).trans (hb4.mono (by first | omega | (simp; omega)))
      have hs4 : SoC 3 1 w.heap.size (0 :: o).length (flat 1 (rN (0 :: o)) (0 :: o).length) v4 w4 := .inr own4
      obtain ⟨A4, c4, rfl, _, _, hr4⟩ := hs4.rd
      have Hr4 := Lib.hid hr4
      clear hb4 own4 hs4 hr4
      obtain ⟨b1, o1, rfl, ya⟩ := (HX.out.below (Hb4.out.mono hB)).num k3
      have hdk := HL.out.at k3
      have hvd := val_drop l k k3
      obtain ⟨d, hd⟩ : ∃ x, at0 l k = x := ⟨_, rfl⟩
      rw [hd] at ya hdk hvd
      have hpl := prod_lt HL.out k n hn
      have hval : val (0 :: o) + d * n = val (l.drop k) * n := by
        show 0 + 1000000 * val o + d * n = _
        rw [Hv.out, hvd, Nat.add_mul, Nat.mul_assoc]; omega
      have hz4 := Hb4.out.size
      have hdg0 : Dig (0 :: o) := fun x hx => by
        rcases List.mem_cons.1 hx with rfl | h
        · decide
        · exact Ho.out x h
      have hcall := sumsD_any (6 + (l.length - k)) (by omega) (by omega) (0 :: o) d n A4 c4 w4.heap.size w4 hdg0 (by simp; omega) (Nat.lt_of_lt_of_le hdk (show 1000000 ≤ pw 3 by decide)) hn (by rw [hval]; exact hpl) (Nat.le_refl _) Hr4.out
      rw [hval] at hcall
      have Hcall := Lib.hid hcall
      have w1 : IntKind.i64.wrap ((k : Int) - 1) = (k : Int) - 1 := IntWalk.i64_in _ (by omega)
      have Hpl := Lib.hid hpl
      clear hcall hval hvd hd hpl
      go_wp2_with fail
      refine Hcall.out.mono ?_
      rintro e w5 ⟨v5, o5, rfl, ho5, hl5, hv5, hs5, hb5⟩
      have Hs5 := Lib.hid (hs5.base hz4)
      have Hb5 : Hid (Below w.heap.size w w5) := Hb4.out.trans (hb5.mono hz4)
      have Hv5 := Lib.hid hv5
      clear hs5 hb5 hv5
      go_wp2_with fail
      go_roundw
      case rel => exact ⟨o5, k, by omega, rfl, ho5, hl5, Hv5.out, Hs5.out, Hb5.out⟩
      case measure => show ((k : Int) - 1 + 1).toNat < ((k : Int) + 1).toNat; omega
end Go.Proofs.YtfifdfagikbahaaDoor
