/- The choices of Follow: what is told, held between the bounds; whether all were within. -/
import Derived.Test.YtnkaoplgmglijaaDoorFo2
import Derived.Test.YtnkaoplgmglijaaDoorNb
namespace Go.Proofs.YtnkaoplgmglijaaDoor
open Go.RowKit
attribute [local go_sem] Oper.semAt_some
abbrev cnArr (b : Nat → Int) : Array Value := #[I (b 0), I (b 1), I (b 2)]
def rN3 (xs : List (Nat → Int)) (k j : Nat) : Value := I (at0 xs k j)
structure TdIn (W : World) (xb qc qs s : Nat) (A : Option Addr) (d : Nat) (cs : List (Nat → Int)) (B : Nat) : Prop where
 ok : ∃ b, W.heap[xb]? = some (.cells #[.bool b] 4 (0, 0))
 c : W.heap[qc]? = some (.cells #[.slice A cs.length d] 44 (0, 0))
 s : W.heap[qs]? = some (.cells #[I s] 55 (0, 0))
 r : Rd W B 3 A cs.length (rN3 cs)
 lt : B ≤ W.heap.size
 qc : qc ≠ xb
 qs : qs ≠ xb
 B : B ≤ xb
def TdT (xb : Nat) (wi : Bool) (U V : World) : Prop := U.grownBy V (some xb) ∧ ∀ b, U.heap[xb]? = some (.cells #[.bool b] 4 (0, 0)) → V.heap[xb]? = some (.cells #[.bool (b && wi)] 4 (0, 0))
theorem grown_mix {A B C D : World} {x : Nat} {v : Value} (h1 : Below A.heap.size A B) (hC : C = B.setCell ⟨x, 0, none⟩ v) (h3 : Below C.heap.size C D) : A.grownBy D (some x) := by
 have h2 : B.grownBy C (some x) := by rw [hC]; exact grownBy_setCell' B x v
 have hs1 := h1.size
 have hs2 := h2.size
 refine ⟨h3.os.trans (h2.os.trans h1.os), h3.tape.trans (h2.tape.trans h1.tape), h3.output.trans (h2.output.trans h1.output), Nat.le_trans hs1 (Nat.le_trans hs2 h3.size), fun k hk hne => ?_⟩
 exact (h3.block k (by omega)).trans ((h2.block k (by omega) hne).trans (h1.block k hk))
set_option maxRecDepth 100000 in
set_option maxHeartbeats 2000000 in
theorem told_any (cs : List (Nat → Int)) (A : Option Addr) (d B xb qc qs s k : Nat) (lo hi : Int) (w : World) (h : TdIn w xb qc qs s A d cs B) (hk : k < cs.length) (hs : s < 3) :
 Calls Tryd.prog 32 #[I (k : Int), I lo, I hi, .pointer (some ⟨xb, 0, none⟩), .pointer (some ⟨qc, 0, none⟩), .pointer (some ⟨qs, 0, none⟩)] w fun e w' => e = .returned (I (min (max (at0 cs k s) lo) hi)) ∧ TdT xb (wiB (at0 cs k s) lo hi) w w' := by
 obtain ⟨b, hb⟩ := h.ok
 obtain ⟨ab, ao, rfl, hab, hc⟩ := h.r (by omega)
 have hv := hc k hk s hs
 have hvr : rN3 cs k s = I (at0 cs k s) := rfl
 rw [hvr] at hv
 have hB := h.B
 have hqc := h.qc
 have hqs := h.qs
 have hC := h.c
 have hS := h.s
 obtain ⟨v, hvv⟩ : ∃ v, at0 cs k s = v := ⟨_, rfl⟩
 rw [hvv] at hv
 rw [hvv]
 obtain ⟨n, hn⟩ : ∃ n, cs.length = n := ⟨_, rfl⟩
 rw [hn] at hk hC
 have hxb := (Array.getElem?_eq_some_iff.1 hb).1
 have d1 : decide ((k : Int) < (n : Int)) = true := decide_eq_true (by omega)
 have d2 : decide (k < n) = true := decide_eq_true hk
 have d3 : decide (0 ≤ (k : Int)) = true := decide_eq_true (by omega)
 have d4 : decide ((s : Int) < 3) = true := decide_eq_true (by omega)
 have d5 : decide (s < 3) = true := decide_eq_true hs
 have d6 : decide (0 ≤ (s : Int)) = true := decide_eq_true (by omega)
 obtain ⟨r, hr⟩ : ∃ r, min (max v lo) hi = r := ⟨_, rfl⟩
 obtain ⟨wi, hwi⟩ : ∃ x, wiB v lo hi = x := ⟨_, rfl⟩
 have cw : Hid (∀ W, Calls Tryd.prog 31 #[I v, I lo, I hi] W fun e w' => e = .returned (.bool wi) ∧ Below W.heap.size W w') := fun W => (within_any v lo hi W).mono fun e w' ⟨he, hw⟩ => ⟨by rw [he, hwi], hw ▸ Below.refl _ _⟩
 have y0 := ovr_cell (show w.cell? ⟨xb, 0, none⟩ = some (.bool b) by rw [cell_of_row _ _ _ _ _ _ hb]; rfl)
 have y1 := ovr_cell (show w.cell? ⟨qc, 0, none⟩ = some (.slice (some ⟨ab, ao, none⟩) n d) by rw [cell_of_row _ _ _ _ _ _ hC]; rfl)
 have y2 := ovr_cell (show w.cell? ⟨qs, 0, none⟩ = some (I (s : Int)) by rw [cell_of_row _ _ _ _ _ _ hS]; rfl)
 have y3 := ovr_cell hv
 have Hr := Lib.hid hr
 have Hk := Lib.hid hk
 have Hs := Lib.hid hs
 rw [hr, hwi]
 have HB0 := Lib.hid hb
 have HC0 := Lib.hid hC
 have HS0 := Lib.hid hS
 have HV0 := Lib.hid hv
 clear h hb hC hS hv hc hvr hvv hn hr hwi
 go_enter Tryd.func32, Tryd.ntmps32
 go_upto_region 1 with (fail)
 rcases hbb : b with _ | _
 all_goals
  rw [hbb] at y0
  refine wp_region_below_tail (by kernel_rfl) (by kernel_rfl) (by kernel_rfl) ?_
  simp only [skipLast_two, skipLast_one]
  repeat (go_big_quiet_step ((go_at_call 31; exact call_below (cw.out _))))
  refine wpQuiet_nil ?_
  intro w1 hb1 o ho
  obtain rfl := Option.some.inj ho
  have r1 := (hb1.block xb hxb).trans HB0.out
  have z0 : w1.cell? ⟨xb, 0, none⟩ = some (.bool b) := by rw [cell_of_row _ _ _ _ _ _ r1]; rfl
  have z1 := frozen_of_row _ _ 0 _ _ r1
  clear y0 y1 y2 y3
  unfold Oper.wp
  go_simp
  generalize hV' : w1.setCell ⟨xb, 0, none⟩ _ = V
  have hV := hV'.symm
  clear hV'
  have rV : V.heap[xb]? = some (.cells #[.bool (b && wi)] 4 (0, 0)) := by rw [hV, hbb]; exact rs r1 0 _
  have kV := fun k (hk : k < w.heap.size) (hne : k ≠ xb) => (show V.heap[k]? = w.heap[k]? by rw [hV]; exact (heap_setCell_other _ _ _ _ hne).trans (hb1.block k hk))
  have c1 := (kV qc (Array.getElem?_eq_some_iff.1 HC0.out).1 hqc).trans HC0.out
  have c2 := (kV qs (Array.getElem?_eq_some_iff.1 HS0.out).1 hqs).trans HS0.out
  have y1 := ovr_cell (show V.cell? ⟨qc, 0, none⟩ = some (.slice (some ⟨ab, ao, none⟩) n d) by rw [cell_of_row _ _ _ _ _ _ c1]; rfl)
  have y2 := ovr_cell (show V.cell? ⟨qs, 0, none⟩ = some (I (s : Int)) by rw [cell_of_row _ _ _ _ _ _ c2]; rfl)
  have y3 := ovr_cell (show V.cell? ⟨ab, ao + k * 3 + s, none⟩ = some (I v) by
   have := HV0.out
   unfold World.cell? at this ⊢
   rw [kV ab (by omega) (by omega)]
   exact this)
  have HV := Lib.hid hV
  have Hb1 := Lib.hid hb1
  have HrV := Lib.hid rV
  clear hV hb1 rV kV c1 c2 r1 z0 z1
  go_upto_region 2 with (fail)
  refine wp_region_below_lit (by kernel_rfl) (by kernel_rfl) ?_
  repeat (go_big_quiet_step (fail))
  refine wpQuiet_nil ?_
  intro w2 hb2
  have Hb2 := Lib.hid hb2
  clear hb2 y1 y2 y3
  go_wp2_with fail
  go_ret
  refine ⟨by rw [← Hr.out]; first | rfl | (congr 2; omega), grown_mix Hb1.out HV.out Hb2.out, fun b' hb' => ?_⟩
  rw [HB0.out] at hb'
  obtain rfl : b = b' := by injection hb' with h1; injection h1 with h2; simpa using h2
  exact (Hb2.out.block xb (by have := Hb1.out.size; rw [HV.out]; simp; omega)).trans HrV.out
end Go.Proofs.YtnkaoplgmglijaaDoor
