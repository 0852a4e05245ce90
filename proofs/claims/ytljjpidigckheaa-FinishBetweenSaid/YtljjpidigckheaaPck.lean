/- place, pick and has of the law's plain rows. -/
import Derived.Test.YtljjpidigckheaaPlc
import Derived.Test.YtljjpidigckheaaFf
namespace Go.Proofs.Ytljjpidigckheaa.Un
open Go.RowKit
abbrev H16 (n : Int) : Value := .int .u16 n
def rH (l : List Int) (k _j : Nat) : Value := H16 (at0 l k)
theorem rd_h16 {w : World} {B n k : Nat} {A : Option Addr} {l : List Int} (h : Rd w B 1 A n (rH l)) (hk : k < n) : ∃ b o, A = some ⟨b, o, none⟩ ∧ b < B ∧ w.cell? ⟨b, o + k, none⟩ = some (H16 (at0 l k)) := by
 obtain ⟨b, o, e, hb, hc⟩ := h (by omega)
 refine ⟨b, o, e, hb, ?_⟩
 have := hc k hk 0 (by omega)
 rw [Nat.mul_one, Nat.add_zero] at this
 exact this
def Is16 (l : List Int) : Prop := ∀ k, 0 ≤ at0 l k ∧ at0 l k ≤ 65535
set_option maxRecDepth 100000 in
set_option maxHeartbeats 4000000 in
theorem place_any (r : Rng) (b : Int) (w : World) (hb : 0 ≤ b ∧ b ≤ 65535) :
 Calls Try.prog 42 #[.agg #[I r.lo, I r.hi], H16 b] w fun e w' => e = .returned (I (plc r b)) ∧ Below w.heap.size w w' := by
 have hf : Hid (plc r b = if r.hi ≤ r.lo ∨ r.lo < -1000000000000000 ∨ 1000000000000000 < r.hi then r.lo else r.lo + b % (r.hi - r.lo + 1)) := rfl
 have HB := Lib.hid hb
 obtain ⟨k, rfl⟩ : ∃ k : Nat, b = k := ⟨b.toNat, by omega⟩
 clear hb
 obtain ⟨W, hW⟩ : ∃ W, W = (w.alloc (.cells #[I r.lo, I r.hi] 24)) := ⟨_, rfl⟩
 have rowW0 : W.heap[w.heap.size]? = some (.cells #[I r.lo, I r.hi] 24 (0, 0)) := by rw [hW]; exact heap_last _ _ _ rfl
 have yW00 := ovr_cell (W := W) (b := w.heap.size) (o := 0) (v := I r.lo) (by rw [cell_of_row _ _ _ _ _ _ rowW0]; rfl)
 have yW01 := ovr_cell (W := W) (b := w.heap.size) (o := 1) (v := I r.hi) (by rw [cell_of_row _ _ _ _ _ _ rowW0]; rfl)
 have RrowW0 := Lib.hid (ovr_row rowW0)
 clear rowW0
 have HUW : Hid (∀ u, Below w.heap.size w (ovr W u)) := U1 hW
 have HW := Lib.hid hW
 clear hW
 go_enter Try.func42, Try.ntmps42
 go_upto_region 1 with (fail)
 rw [← HW.out]
 obtain ⟨u0, hu0⟩ := ovr_self W
 rw [hu0]
 clear hu0
 by_cases c1 : r.hi ≤ r.lo
 · have d1 : decide (r.hi ≤ r.lo) = true := decide_eq_true c1
   rw [if_pos (.inl c1)] at hf
   clear c1
   go_wp2_with fail
   go_ret
   exact ⟨by rw [hf.out]; rfl, HUW.out _⟩
 have d1 : decide (r.hi ≤ r.lo) = false := decide_eq_false c1
 by_cases c2 : r.lo < -1000000000000000
 · have d2 : decide (r.lo < -1000000000000000) = true := decide_eq_true c2
   rw [if_pos (.inr (.inl c2))] at hf
   clear c1 c2
   go_wp2_with fail
   go_ret
   exact ⟨by rw [hf.out]; rfl, HUW.out _⟩
 have d2 : decide (r.lo < -1000000000000000) = false := decide_eq_false c2
 by_cases c3 : 1000000000000000 < r.hi
 · have d3 : decide (1000000000000000 < r.hi) = true := decide_eq_true c3
   rw [if_pos (.inr (.inr c3))] at hf
   clear c1 c2 c3
   go_wp2_with fail
   go_ret
   exact ⟨by rw [hf.out]; rfl, HUW.out _⟩
 have d3 : decide (1000000000000000 < r.hi) = false := decide_eq_false c3
 rw [if_neg (by omega)] at hf
 obtain ⟨m, hm⟩ : ∃ m : Nat, r.hi - r.lo + 1 = m := ⟨(r.hi - r.lo + 1).toNat, by omega⟩
 have e1 : IntKind.i64.wrap (r.hi - r.lo) = r.hi - r.lo := IntWalk.i64_in _ (by omega)
 have e2 : IntKind.i64.wrap (r.hi - r.lo + 1) = m := (IntWalk.i64_in _ (by omega)).trans hm
 have m0 : (m = 0) = False := eq_false (by omega)
 have m1 : ((m : Int) = 0) = False := eq_false (by omega)
 have e3 : IntKind.i64.wrap (r.lo + (k : Int) % (m : Int)) = r.lo + (k : Int) % (m : Int) := IntWalk.i64_in _ (by
  have h1 := Int.emod_nonneg (k : Int) (show (m : Int) ≠ 0 by omega)
  have h2 := Int.emod_lt_of_pos (k : Int) (show 0 < (m : Int) by omega)
  omega)
 have e5 : wrap64 (r.lo + (wrap64 (k : Int)).tmod (m : Int)) = r.lo + (k : Int) % (m : Int) := by
  have e4 : wrap64 (k : Int) = (k : Int) := by unfold wrap64; have := HB.out; omega
  rw [e4, Int.tmod_eq_emod_of_nonneg (by omega)]
  have h1 := Int.emod_nonneg (k : Int) (show (m : Int) ≠ 0 by omega)
  have h2 := Int.emod_lt_of_pos (k : Int) (show 0 < (m : Int) by omega)
  unfold wrap64
  omega
 have HE5 := Lib.hid e5
 rw [hm] at hf
 clear hm c1 c2 c3 e5 e3
 go_upto_region 3 with fail
 have hbX := ovr_below W u0
 obtain ⟨X, hX⟩ : ∃ X, X = ovr W u0 := ⟨_, rfl⟩
 rw [← hX] at hbX
 rw [← hX]
 have hX' := Lib.hid hX
 clear hX
 have hbX' := Lib.hid hbX
 have reX : ∀ v, ∃ x, ovr X v = ovr W x := fun v => ovr_reB hbX v
 replace yW00 := tr_cell reX yW00
 replace yW01 := tr_cell reX yW01
 replace RrowW0 := Lib.hid (tr_row reX RrowW0.out)
 have HUX : Hid (∀ u, Below w.heap.size w (ovr X u)) := fun u => by obtain ⟨x, hx⟩ := reX u; rw [hx]; exact HUW.out x
 clear reX hbX
 refine Gg.wp_region_make (fun _ => none) (by kernel_rfl) (by kernel_rfl) (by kernel_rfl) ?_
 repeat (first | (refine Gg.wpG_one rfl rfl rfl ?_; intro K hK; go_big_quiet_op; go_big_quiet_on) | (refine Gg.wpG_skip rfl ?_; simp only [Act.put, List.setIfInBounds_toArray, List.set_cons_zero, List.set_cons_succ]))
 refine Gg.wpG_nil (fun w5 hw5 hG => ?_)
 clear hG
 obtain ⟨x5, rfl⟩ : ∃ z, w5 = ovr X z := ⟨w5, ovr_of hw5.le⟩
 go_wp2_with fail
 go_ret
 exact ⟨by rw [hf.out, ← HE5.out]; rfl, HUX.out _⟩
set_option maxRecDepth 100000 in
set_option maxHeartbeats 4000000 in
theorem pick_any (l : List Int) (i : Nat) (A : Option Addr) (c : Nat) (w : World) (B : Nat) (hx : Rd w B 1 A l.length (rH l)) :
 Calls Try.prog 43 #[.slice A l.length c, I (i : Int)] w fun e w' => e = .returned (H16 (at0 l i)) ∧ Below w.heap.size w w' := by
 go_enter Try.func43, Try.ntmps43
 by_cases h : i < l.length
 · have d1 : decide ((i : Int) < (l.length : Int)) = true := decide_eq_true (by omega)
   have d2 : decide (i < l.length) = true := decide_eq_true h
   obtain ⟨b, o, rfl, _, e0⟩ := rd_h16 hx h
   clear hx
   go_wp2_with fail
   go_ret
   exact ⟨rfl, Below.refl _ _⟩
 · have d1 : decide ((i : Int) < (l.length : Int)) = false := decide_eq_false (by omega)
   have d2 : decide (i < l.length) = false := decide_eq_false h
   have e : Hid (at0 l i = 0) := by
    show _ = _
    unfold at0
    rw [List.getD_eq_getElem?_getD, List.getElem?_eq_none (by omega)]
    rfl
   clear hx h
   go_wp2_with fail
   go_ret
   exact ⟨by rw [e.out]; rfl, Below.refl _ _⟩
def hasB (r : Rng) (n : Int) : Bool := decide (r.lo ≤ n) && decide (n ≤ r.hi)
theorem hasB_iff {r : Rng} {n : Int} : hasB r n = true ↔ r.lo ≤ n ∧ n ≤ r.hi := by simp [hasB]
set_option maxRecDepth 100000 in
set_option maxHeartbeats 4000000 in
theorem has9_any (r : Rng) (n : Int) (w : World) :
 Calls Try.prog 44 #[.agg #[I r.lo, I r.hi], I n] w fun e w' => e = .returned (.bool (hasB r n)) ∧ Below w.heap.size w w' := by
 have hf : Hid (hasB r n = (decide (r.lo ≤ n) && decide (n ≤ r.hi))) := rfl
 obtain ⟨W, hW⟩ : ∃ W, W = (w.alloc (.cells #[I r.lo, I r.hi] 24)) := ⟨_, rfl⟩
 have rowW0 : W.heap[w.heap.size]? = some (.cells #[I r.lo, I r.hi] 24 (0, 0)) := by rw [hW]; exact heap_last _ _ _ rfl
 have yW00 := ovr_cell (W := W) (b := w.heap.size) (o := 0) (v := I r.lo) (by rw [cell_of_row _ _ _ _ _ _ rowW0]; rfl)
 have yW01 := ovr_cell (W := W) (b := w.heap.size) (o := 1) (v := I r.hi) (by rw [cell_of_row _ _ _ _ _ _ rowW0]; rfl)
 have RrowW0 := Lib.hid (ovr_row rowW0)
 clear rowW0
 have HUW : Hid (∀ u, Below w.heap.size w (ovr W u)) := U1 hW
 have HW := Lib.hid hW
 clear hW
 go_enter Try.func44, Try.ntmps44
 go_upto_region 1 with (fail)
 rw [← HW.out]
 obtain ⟨u0, hu0⟩ := ovr_self W
 rw [hu0]
 clear hu0
 by_cases c1 : r.lo ≤ n
 · have d1 : decide (r.lo ≤ n) = true := decide_eq_true c1
   rw [d1, Bool.true_and] at hf
   clear c1
   go_wp2_with fail
   go_ret
   exact ⟨by rw [hf.out]; rfl, HUW.out _⟩
 · have d1 : decide (r.lo ≤ n) = false := decide_eq_false c1
   rw [d1, Bool.false_and] at hf
   clear c1
   go_wp2_with fail
   go_ret
   exact ⟨by rw [hf.out]; rfl, HUW.out _⟩
end Go.Proofs.Ytljjpidigckheaa.Un
