/- Contracts of check and Why of package defect. -/
import Derived.Test.YtnkaoplgmglijaaDoorDa
import Derived.Test.YtnkaoplgmglijaaDoorU4
namespace Go.Proofs.YtnkaoplgmglijaaDoor.Un
open Go.RowKit
def notGr (r : Rng) : Bool := !spanB r 1 1000000
set_option maxRecDepth 100000 in
set_option maxHeartbeats 1000000 in
theorem check1_any (r : Rng) (w : World) : Calls Tryd.prog 71 #[r.val] w fun e w' => e = .returned (.bool (notGr r)) ∧ Below w.heap.size w w' := by
 have c1 := Lib.hid fun W => isGrad_any r W
 have hf : Hid (notGr r = !spanB r 1 1000000) := rfl
 obtain ⟨lo, hi⟩ := r
 obtain ⟨W, hW⟩ : ∃ W, W = (w.alloc (.cells #[I lo, I hi] 23)) := ⟨_, rfl⟩
 have rowW0 : W.heap[w.heap.size]? = some (.cells #[I lo, I hi] 23 (0, 0)) := by rw [hW]; exact heap_last _ _ _ rfl
 have yW00 := ovr_cell (W := W) (b := w.heap.size) (o := 0) (v := I lo) (by rw [cell_of_row _ _ _ _ _ _ rowW0]; rfl)
 have yW01 := ovr_cell (W := W) (b := w.heap.size) (o := 1) (v := I hi) (by rw [cell_of_row _ _ _ _ _ _ rowW0]; rfl)
 have RrowW0 := Lib.hid (ovr_row rowW0)
 clear rowW0
 have HUW : Hid (∀ u, Below w.heap.size w (ovr W u)) := U1 hW
 have HW := Lib.hid hW
 clear hW
 rcases hq : spanB ⟨lo, hi⟩ 1 1000000 with _ | _ <;> rw [hq] at c1 hf
 all_goals
  go_enter Tryd.func71, Tryd.ntmps71
  go_upto_region 1 with (fail)
  rw [← HW.out]
  obtain ⟨u0, hu0⟩ := ovr_self W
  rw [hu0]
  clear hu0
  go_wp2_with fail
  refine (c1.out _).mono ?_
  rintro e w1 ⟨rfl, hb1⟩
  obtain ⟨u1, rfl⟩ := ovr_next hb1
  clear hb1
  go_wp2_with fail
  go_ret
  exact ⟨by rw [hf.out]; rfl, HUW.out _⟩
set_option maxHeartbeats 1000000 in
theorem ck1_ix (A : Option Addr) (c : Nat) (xs : List Rng) (w : World) (B : Nat) (hm : xs.length ≤ maxLen) (hB : B ≤ w.heap.size) (hx : Rd w B 2 A xs.length (rR xs)) :
 Calls Tryd.prog 80 #[.slice A xs.length c, .func (Fn.func 71) #[] #[]] w fun e w' => e = .returned (.int .i64 (ixOf notGr xs)) ∧ Below w.heap.size w w' := by
 unfold maxLen at hm
 have HX : Hid (∀ u, Rd (ovr w u) B 2 A xs.length (rR xs)) := fun u => hx.below ((ovr_below w u).mono hB)
 obtain ⟨u0, hu0⟩ := ovr_self w
 have H0 := Lib.hid hu0
 clear hx hB hu0
 go_enter Tryd.func80, Tryd.ntmps80
 go_wp2
 go_loopw [8] (fun i wr => ∃ k : Nat, k ≤ xs.length ∧ i = .int .i64 k ∧ (∀ j, j < k → notGr (at0 xs j) = false) ∧ ∃ u, wr = ovr w u) (fun i _ => xs.length - (intOf i).toNat)
 case atStart => exact ⟨0, by omega, rfl, fun j hj => absurd hj (by omega), u0, H0.out⟩
 case round =>
  obtain ⟨k, hk, rfl, hb, u, rfl⟩ := hrel
  have Hb := Lib.hid hb
  clear hb
  by_cases hlt : k < xs.length
  · obtain ⟨b, o, rfl, _, e0, e1⟩ := (HX.out u).rng hlt
    have ca := check1_any (at0 xs k) (ovr w u)
    rcases hp : notGr (at0 xs k) with _ | _
    · rw [hp] at ca
      have Ca := Lib.hid ca
      clear ca
      go_wp2_with fail
      refine Ca.out.mono ?_
      rintro e w1 ⟨rfl, hb1⟩
      obtain ⟨u1, rfl⟩ := ovr_next hb1
      clear hb1
      go_wp2_with fail
      go_roundw
      case rel => exact ⟨k + 1, by omega, by go_num, succ_case Hb.out hp, u1, rfl⟩
      case measure => simp [intOf]; omega
    · rw [hp] at ca
      have Ca := Lib.hid ca
      have hfin := Lib.hid (ixOf_at hlt hp Hb.out)
      clear ca
      go_wp2_with fail
      refine Ca.out.mono ?_
      rintro e w1 ⟨rfl, hb1⟩
      obtain ⟨u1, rfl⟩ := ovr_next hb1
      clear hb1
      go_wp2_with fail
      go_ret
      exact ⟨ret_int hfin.out.symm, ovr_below _ _⟩
  · have hfin : Hid (ixOf notGr xs = -1) := ixOf_none0 fun j hj => Hb.out j (by omega)
    go_wp2
    go_ret
    exact ⟨ret_int hfin.out.symm, ovr_below _ _⟩
set_option maxHeartbeats 1000000 in
theorem ck1_has (A : Option Addr) (c : Nat) (xs : List Rng) (w : World) (B : Nat) (hm : xs.length ≤ maxLen) (hB : B ≤ w.heap.size) (hx : Rd w B 2 A xs.length (rR xs)) :
 Calls Tryd.prog 61 #[.slice A xs.length c, .func (Fn.func 71) #[] #[]] w fun e w' => e = .returned (.bool (xs.any notGr)) ∧ Below w.heap.size w w' := by
 have hfin := ixOf_any (p := notGr) (xs := xs)
 have cx := Lib.hid (ck1_ix A c xs w B hm hB hx)
 clear hx hB hm
 go_enter Tryd.func61, Tryd.ntmps61
 go_wp2_with fail
 refine cx.out.mono ?_
 rintro e w' ⟨rfl, hb⟩
 have HB := Lib.hid hb
 clear hb
 go_wp2_with fail
 go_ret
 exact ⟨rfl, HB.out⟩
theorem erA_t : erA true = 0 := rfl
theorem erA_f : erA false = 2 := rfl
def ckF (m : Mdl) (zs : List Rng) (v : Int) : Int := if okMdl m then (if 20 < zs.length then 5 else if zs.any notGr || decide (31 < v) then 2 else 0) else 2
set_option maxRecDepth 100000 in
set_option maxHeartbeats 1000000 in
theorem dcheck_any (m : Mdl) (A : Option Addr) (c : Nat) (zs : List Rng) (v : Int) (w : World) (B : Nat) (hm : zs.length ≤ maxLen) (hB : B ≤ w.heap.size) (hx : Rd w B 2 A zs.length (rR zs)) :
 Calls Tryd.prog 49 #[.agg (mdA m), .slice A zs.length c, .int .u8 v] w fun e w' => e = .returned (I (ckF m zs v)) ∧ Below w.heap.size w w' := by
 have cm := Lib.hid fun W => checkModel_any m W
 have HX : Hid (∀ V, Below w.heap.size w V → Rd V B 2 A zs.length (rR zs) ∧ B ≤ V.heap.size) := fun V hV => ⟨hx.below (hV.mono hB), Nat.le_trans hB hV.size⟩
 have HM := Lib.hid hm
 have hf : Hid (ckF m zs v = if okMdl m then (if 20 < zs.length then 5 else if zs.any notGr || decide (31 < v) then 2 else 0) else 2) := rfl
 clear hx hB hm
 obtain ⟨W, hW⟩ : ∃ W, W = (w.alloc (.cells #[I m.sc, I (m.b 0).lo, I (m.b 0).hi, I (m.b 1).lo, I (m.b 1).hi, I (m.b 2).lo, I (m.b 2).hi, I (m.b 3).lo, I (m.b 3).hi] 79)) := ⟨_, rfl⟩
 have rowW0 : W.heap[w.heap.size]? = some (.cells #[I m.sc, I (m.b 0).lo, I (m.b 0).hi, I (m.b 1).lo, I (m.b 1).hi, I (m.b 2).lo, I (m.b 2).hi, I (m.b 3).lo, I (m.b 3).hi] 79 (0, 0)) := by rw [hW]; exact heap_last _ _ _ rfl
 have yW00 := ovr_cell (W := W) (b := w.heap.size) (o := 0) (v := I m.sc) (by rw [cell_of_row _ _ _ _ _ _ rowW0]; rfl)
 have yW01 := ovr_cell (W := W) (b := w.heap.size) (o := 1) (v := I (m.b 0).lo) (by rw [cell_of_row _ _ _ _ _ _ rowW0]; rfl)
 have yW02 := ovr_cell (W := W) (b := w.heap.size) (o := 2) (v := I (m.b 0).hi) (by rw [cell_of_row _ _ _ _ _ _ rowW0]; rfl)
 have yW03 := ovr_cell (W := W) (b := w.heap.size) (o := 3) (v := I (m.b 1).lo) (by rw [cell_of_row _ _ _ _ _ _ rowW0]; rfl)
 have yW04 := ovr_cell (W := W) (b := w.heap.size) (o := 4) (v := I (m.b 1).hi) (by rw [cell_of_row _ _ _ _ _ _ rowW0]; rfl)
 have yW05 := ovr_cell (W := W) (b := w.heap.size) (o := 5) (v := I (m.b 2).lo) (by rw [cell_of_row _ _ _ _ _ _ rowW0]; rfl)
 have yW06 := ovr_cell (W := W) (b := w.heap.size) (o := 6) (v := I (m.b 2).hi) (by rw [cell_of_row _ _ _ _ _ _ rowW0]; rfl)
 have yW07 := ovr_cell (W := W) (b := w.heap.size) (o := 7) (v := I (m.b 3).lo) (by rw [cell_of_row _ _ _ _ _ _ rowW0]; rfl)
 have yW08 := ovr_cell (W := W) (b := w.heap.size) (o := 8) (v := I (m.b 3).hi) (by rw [cell_of_row _ _ _ _ _ _ rowW0]; rfl)
 have RrowW0 := Lib.hid (ovr_row rowW0)
 clear rowW0
 have HUW : Hid (∀ u, Below w.heap.size w (ovr W u)) := U1 hW
 have HW := Lib.hid hW
 clear hW
 rcases h1 : okMdl m with _ | _ <;> (rw [h1] at cm hf; first | rw [erA_t] at cm | rw [erA_f] at cm)
 · go_enter Tryd.func49, Tryd.ntmps49
   go_upto_region 1 with (fail)
   rw [← HW.out]
   obtain ⟨u0, hu0⟩ := ovr_self W
   rw [hu0]
   clear hu0
   go_wp2_with fail
   refine (cm.out _).mono ?_
   rintro e w1 ⟨rfl, hb1⟩
   obtain ⟨u1, rfl⟩ := ovr_next hb1
   clear hb1
   go_wp2_with fail
   go_ret
   exact ⟨by rw [hf.out]; rfl, HUW.out _⟩
 by_cases h2 : 20 < zs.length
 · replace hf : Hid (ckF m zs v = 5) := by show _ = _; rw [hf.out, if_pos rfl, if_pos h2]
   have d1 : decide ((20 : Int) < (zs.length : Int)) = true := decide_eq_true (by omega)
   go_enter Tryd.func49, Tryd.ntmps49
   go_upto_region 1 with (fail)
   rw [← HW.out]
   obtain ⟨u0, hu0⟩ := ovr_self W
   rw [hu0]
   clear hu0
   go_wp2_with fail
   refine (cm.out _).mono ?_
   rintro e w1 ⟨rfl, hb1⟩
   obtain ⟨u1, rfl⟩ := ovr_next hb1
   clear hb1
   go_wp2_with fail
   go_ret
   exact ⟨by rw [hf.out]; rfl, HUW.out _⟩
 replace hf : Hid (ckF m zs v = if zs.any notGr || decide (31 < v) then 2 else 0) := by show _ = _; rw [hf.out, if_pos rfl, if_neg h2]
 have d1 : decide ((20 : Int) < (zs.length : Int)) = false := decide_eq_false (by omega)
 go_enter Tryd.func49, Tryd.ntmps49
 go_upto_region 1 with (fail)
 rw [← HW.out]
 obtain ⟨u0, hu0⟩ := ovr_self W
 rw [hu0]
 clear hu0
 go_wp2_with fail
 refine (cm.out _).mono ?_
 rintro e w1 ⟨rfl, hb1⟩
 obtain ⟨u1, rfl⟩ := ovr_next hb1
 clear hb1
 go_wp2_with fail
 refine (ck1_has A c zs _ B HM.out (HX.out _ (HUW.out u1)).2 (HX.out _ (HUW.out u1)).1).mono ?_
 rcases h3 : zs.any notGr with _ | _ <;> rw [h3] at hf
 · skip
   rintro e w1 ⟨rfl, hb1⟩
   obtain ⟨u2, rfl⟩ := ovr_next hb1
   clear hb1
   by_cases h4 : 31 < v
   · rw [decide_eq_true h4] at hf
     have d2 : decide (v ≤ 31) = false := decide_eq_false (by omega)
     go_wp2_with fail
     go_ret
     exact ⟨by rw [hf.out]; rfl, HUW.out _⟩
   · rw [decide_eq_false h4] at hf
     have d2 : decide (v ≤ 31) = true := decide_eq_true (by omega)
     go_wp2_with fail
     go_ret
     exact ⟨by rw [hf.out]; rfl, HUW.out _⟩
 · skip
   rintro e w1 ⟨rfl, hb1⟩
   obtain ⟨u2, rfl⟩ := ovr_next hb1
   clear hb1
   go_wp2_with fail
   go_ret
   exact ⟨by rw [hf.out]; rfl, HUW.out _⟩
def unw (v : Int) (k : Nat) : Bool := decide (bits .and .u8 (v / 2 ^ k) 1 = 0)
def whyB (m : Mdl) (v rate : Int) (z : Rng) (k : Nat) : Bool := unw v k && posB m ⟨rate, rate⟩ z k
def whyZ (m : Mdl) (v rate : Int) (z : Rng) : Option Nat := (List.range 5).find? (whyB m v rate z)
def whyL (m : Mdl) (v rate : Int) (zs : List Rng) : Option (Nat × Nat) := (List.range zs.length).findSome? fun i => (whyZ m v rate (at0 zs i)).map fun k => (i, k)
def whyT : Option (Nat × Nat) → Value
 | some (i, k) => .tuple #[I i, I k, I 0]
 | none => .tuple #[I (-1), I 0, I 0]
def whyF (m : Mdl) (zs : List Rng) (v rate : Int) : Value := if ckF m zs v ≠ 0 then .tuple #[I 0, I 0, I (ckF m zs v)] else if rate < 0 ∨ 1000000 < rate then .tuple #[I 0, I 0, I 3] else whyT (whyL m v rate zs)
end Go.Proofs.YtnkaoplgmglijaaDoor.Un
