/- The law's own question whether a mass of feed fits, of MeltRefills. -/
import Derived.Test.YtfifdfagikbahaaDoorNv
import Derived.Test.YtfifdfagikbahaaDoorNh
namespace Go.Proofs.YtfifdfagikbahaaDoor
open Go.RowKit
attribute [local go_sem] Oper.semAt_some
/-- Whether a mass of feed fits. -/
def fitB (m : Mlt) (feed coef tgt : Rng) (s x : Nat) : Bool := hld (mxs m feed coef tgt s 0) x && hld (mxs m feed coef tgt s 1) x
theorem fitB_iff {m : Mlt} {feed coef tgt : Rng} {s x : Nat} : fitB m feed coef tgt s x = true ↔ Both m feed coef tgt s x := by
  unfold fitB Both
  rw [Bool.and_eq_true]
theorem cm2_le (a b : Nat) : decide (cm2 a b ≤ 0) = decide (a ≤ b) := by
  unfold cm2
  split
  · simp; omega
  · split
    · simp; omega
    · simp; omega
theorem cm2_ge (a b : Nat) : decide (cm2 a b ≥ 0) = decide (b ≤ a) := by
  unfold cm2
  split
  · simp; omega
  · split
    · simp; omega
    · simp; omega
abbrev rflArr (feed coef tgt : Rng) (s o : Int) : Array Value := #[I feed.lo, I feed.hi, I coef.lo, I coef.hi, I tgt.lo, I tgt.hi, I s, I o]
theorem fitB_eq {m : Mlt} {feed coef tgt : Rng} {s x : Nat} : fitB m feed coef tgt s x = (decide (cm2 (((m.ct (s * 2 + 1)).toNat * 1000000 + feed.hi.toNat * x) * coef.hi.toNat) (tgt.hi.toNat * (m.ms.toNat + x) * 10000) ≤ 0) && decide (cm2 (((m.ct (s * 2)).toNat * 1000000 + feed.lo.toNat * x) * coef.lo.toNat) (tgt.lo.toNat * (m.ms.toNat + x) * 10000) ≥ 0)) := by
  rw [cm2_le, cm2_ge]
  show (decide ((1000000 * (m.ct (s * 2 + 1)).toNat + feed.hi.toNat * x) * coef.hi.toNat ≤ 10000 * tgt.hi.toNat * (m.ms.toNat + x)) && decide (10000 * tgt.lo.toNat * (m.ms.toNat + x) ≤ (1000000 * (m.ct (s * 2)).toNat + feed.lo.toNat * x) * coef.lo.toNat)) = _
  rw [Nat.mul_comm 1000000 (m.ct (s * 2 + 1)).toNat, Nat.mul_comm 1000000 (m.ct (s * 2)).toNat, Nat.mul_assoc 10000 tgt.hi.toNat, Nat.mul_comm 10000 (tgt.hi.toNat * _), Nat.mul_assoc 10000 tgt.lo.toNat, Nat.mul_comm 10000 (tgt.lo.toNat * _)]
/-- What the closure has. -/
structure FitIn (W : World) (m : Mlt) (feed coef tgt : Rng) (s o : Int) (qm qd qx : Nat) : Prop where
  rm : W.heap[qm]? = some (.cells (mltArr m) 27 (0, 0))
  rd : W.heap[qd]? = some (.cells #[I (m.ct (s.toNat * 2)), I (m.ct (s.toNat * 2 + 1))] 23 (0, 0))
  rx : W.heap[qx]? = some (.cells (rflArr feed coef tgt s o) 44 (0, 0))
theorem FitIn.keep {W W' : World} {m : Mlt} {feed coef tgt : Rng} {s o : Int} {qm qd qx : Nat} (h : FitIn W m feed coef tgt s o qm qd qx) (hb : Below W.heap.size W W') : FitIn W' m feed coef tgt s o qm qd qx :=
  ⟨(hb.block _ (Array.getElem?_eq_some_iff.1 h.rm).1).trans h.rm, (hb.block _ (Array.getElem?_eq_some_iff.1 h.rd).1).trans h.rd, (hb.block _ (Array.getElem?_eq_some_iff.1 h.rx).1).trans h.rx⟩
set_option maxHeartbeats 1000000 in
theorem fit1_any (m : Mlt) (feed coef tgt : Rng) (s o : Int) (qm qd qx x : Nat) (w : World) (hI : FitIn w m feed coef tgt s o qm qd qx) (hM : isM m = true) (hS : spB s = true) (hF : rgB feed 1000000000 = true) (hT : rgB tgt 1000000000 = true) (hC : rgB coef 20000 = true) (hx : x ≤ 1000000000) :
    Calls Tryd.prog 23 #[I (x : Int), .pointer (some ⟨qm, 0, none⟩), .pointer (some ⟨qd, 0, none⟩), .pointer (some ⟨qx, 0, none⟩)] w fun e w' => e = .returned (.bool (fitB m feed coef tgt s.toNat x)) ∧ Below w.heap.size w w' := by
  obtain ⟨hm, hd, hx'⟩ := hI
  have h1 := isM_ms hM
  have h2 : bdB m.ct 1000000000000 = true := by unfold isM at hM; rw [Bool.and_eq_true] at hM; exact hM.2
  have hs : s.toNat < 3 := by unfold spB at hS; simp only [Bool.and_eq_true, decide_eq_true_eq] at hS; omega
  have h3 := bdB_at h2 hs
  have h4 := rgB_bd hF
  have h5 := rgB_bd hT
  have h6 := rgB_bd hC
  rw [fitB_eq]
  obtain ⟨c0, e0⟩ : ∃ q, m.ct (s.toNat * 2) = q := ⟨_, rfl⟩
  obtain ⟨c1, e1⟩ : ∃ q, m.ct (s.toNat * 2 + 1) = q := ⟨_, rfl⟩
  rw [e0, e1] at hd h3
  rw [e0, e1]
  obtain ⟨f0, f1⟩ := feed
  obtain ⟨k0, k1⟩ := coef
  obtain ⟨t0, t1⟩ := tgt
  simp only at h4 h5 h6 hx' ⊢
  have g := fitsD_any m.ms.toNat x c0.toNat c1.toNat f0.toNat f1.toNat k0.toNat k1.toNat t0.toNat t1.toNat
  obtain ⟨b, hb⟩ : ∃ b, (decide (cm2 ((c1.toNat * 1000000 + f1.toNat * x) * k1.toNat) (t1.toNat * (m.ms.toNat + x) * 10000) ≤ 0) && decide (cm2 ((c0.toNat * 1000000 + f0.toNat * x) * k0.toNat) (t0.toNat * (m.ms.toNat + x) * 10000) ≥ 0)) = b := ⟨_, rfl⟩
  rw [hb]
  simp only [hb] at g
  have cf : Hid (∀ W, Calls Tryd.prog 24 #[I m.ms, .agg #[I c0, I c1], .agg #[I f0, I f1], .agg #[I k0, I k1], .agg #[I t0, I t1], I (x : Int)] W fun e w' => e = .returned (.bool b) ∧ Below W.heap.size W w') := by
    intro W
    have := g W (by omega) (by omega) (by omega) (by omega) (by omega) hx
    rw [Int.toNat_of_nonneg (by omega), Int.toNat_of_nonneg (by omega), Int.toNat_of_nonneg (by omega), Int.toNat_of_nonneg (by omega), Int.toNat_of_nonneg (by omega), Int.toNat_of_nonneg (by omega), Int.toNat_of_nonneg (by omega), Int.toNat_of_nonneg (by omega), Int.toNat_of_nonneg (by omega)] at this
    exact this
  have y0 : w.cell? ⟨qm, 0, none⟩ = some (I m.ms) := by rw [cell_of_row _ _ _ _ _ _ hm]; rfl
  have d0 : w.cell? ⟨qd, 0, none⟩ = some (I c0) := by rw [cell_of_row _ _ _ _ _ _ hd]; rfl
  have d1 : w.cell? ⟨qd, 1, none⟩ = some (I c1) := by rw [cell_of_row _ _ _ _ _ _ hd]; rfl
  have x0 : w.cell? ⟨qx, 0, none⟩ = some (I f0) := by rw [cell_of_row _ _ _ _ _ _ hx']; rfl
  have x1 : w.cell? ⟨qx, 1, none⟩ = some (I f1) := by rw [cell_of_row _ _ _ _ _ _ hx']; rfl
  have x2 : w.cell? ⟨qx, 2, none⟩ = some (I k0) := by rw [cell_of_row _ _ _ _ _ _ hx']; rfl
  have x3 : w.cell? ⟨qx, 3, none⟩ = some (I k1) := by rw [cell_of_row _ _ _ _ _ _ hx']; rfl
  have x4 : w.cell? ⟨qx, 4, none⟩ = some (I t0) := by rw [cell_of_row _ _ _ _ _ _ hx']; rfl
  have x5 : w.cell? ⟨qx, 5, none⟩ = some (I t1) := by rw [cell_of_row _ _ _ _ _ _ hx']; rfl
  clear hm hd hx' h1 h2 hs h3 h4 h5 h6 hb g e0 e1 hM hS hF hT hC hx
  go_enter Tryd.func23, Tryd.ntmps23
  go_wp2_with fail
  refine (cf.out w).mono ?_
  rintro e w1 ⟨rfl, hb⟩
  go_wp2_with fail
  go_ret
  exact ⟨rfl, hb⟩
end Go.Proofs.YtfifdfagikbahaaDoor
