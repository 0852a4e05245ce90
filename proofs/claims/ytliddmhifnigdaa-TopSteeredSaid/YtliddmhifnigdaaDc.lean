/- Contracts of check and Why of package defect. -/
import Derived.Test.YtliddmhifnigdaaDa
import Derived.Test.YtliddmhifnigdaaU4
namespace Go.Proofs.Ytliddmhifnigdaa.Un
open Go.RowKit
def notGr (r : Rng) : Bool := !spanB r 1 1000000
set_option maxRecDepth 100000 in
set_option maxHeartbeats 1000000 in
theorem check1_any (r : Rng) (w : World) : Calls Try.prog 49 #[r.val] w fun e w' => e = .returned (.bool (notGr r)) ∧ Below w.heap.size w w' := by
  have c1 := Lib.hid fun W => isGrad_any r W
  have hf : Hid (notGr r = !spanB r 1 1000000) := rfl
  obtain ⟨lo, hi⟩ := r
  obtain ⟨W, hW⟩ : ∃ W, W = (w.alloc (.cells #[I lo, I hi] 23)) := ⟨_, rfl⟩
  have rowW0 : W.heap[w.heap.size]? = some (.cells #[I lo, I hi] 23 (0, 0)) := by rw [hW]; exact heap_last _ _ _ rfl
  have yW00 := ovr_cell (W := W) (b := w.heap.size) (o := 0) (v := I lo) (by rw [cell_of_row _ _ _ _ _ _ rowW0]; rfl)
  have yW01 := ovr_cell (W := W) (b := w.heap.size) (o := 1) (v := I hi) (by rw [cell_of_row _ _ _ _ _ _ rowW0]; rfl)
  have RrowW0 := Lib.hid (ovr_row rowW0)
  clear rowW0
  have HUW : Hid (∀ u, Below w.heap.size w (ovr W u)) := U1 hW
  have HW := Lib.hid hW
  clear hW
  rcases hq : spanB ⟨lo, hi⟩ 1 1000000 with _ | _ <;> rw [hq] at c1 hf
  all_goals
    go_enter Try.func49, Try.ntmps49
    go_upto_region 1 with (fail)
    rw [← HW.out]
    obtain ⟨u0, hu0⟩ := ovr_self W
    rw [hu0]
    clear hu0
    go_wp2_with fail
    refine (c1.out _).mono ?_
    rintro e w1 ⟨rfl, hb1⟩
    obtain ⟨u1, rfl⟩ := ovr_next hb1
    clear hb1
    go_wp2_with fail
    go_ret
    exact ⟨by rw [hf.out]; rfl, HUW.out _⟩
set_option maxHeartbeats 1000000 in
theorem ck1_ix (A : Option Addr) (c : Nat) (xs : List Rng) (w : World) (B : Nat) (hm : xs.length ≤ maxLen) (hB : B ≤ w.heap.size) (hx : Rd w B 2 A xs.length (rR xs)) :
    Calls Try.prog 68 #[.slice A xs.length c, .func (Fn.func 49) #[] #[]] w fun e w' => e = .returned (.int .i64 (ixOf notGr xs)) ∧ Below w.heap.size w w' := by
  unfold maxLen at hm
  have HX : Hid (∀ u, Rd (ovr w u) B 2 A xs.length (rR xs)) := fun u => hx.below ((ovr_below w u).mono hB)
  obtain ⟨u0, hu0⟩ := ovr_self w
  have H0 := Lib.hid hu0
  clear hx hB hu0
  go_enter Try.func68, Try.ntmps68
  go_wp2
  go_loopw [8] (fun i wr => ∃ k : Nat, k ≤ xs.length ∧ i = .int .i64 k ∧ (∀ j, j < k → notGr (at0 xs j) = false) ∧ ∃ u, wr = ovr w u) (fun i _ => xs.length - (intOf i).toNat)
  case atStart => exact ⟨0, by omega, rfl, fun j hj => absurd hj (by omega), u0, H0.out⟩
  case round =>
    obtain ⟨k, hk, rfl, hb, u, rfl⟩ := hrel
    have Hb := Lib.hid hb
    clear hb
    by_cases hlt : k < xs.length
    · obtain ⟨b, o, rfl, _, e0, e1⟩ := (HX.out u).rng hlt
      have ca := check1_any (at0 xs k) (ovr w u)
      rcases hp : notGr (at0 xs k) with _ | _
      · rw [hp] at ca
        have Ca := Lib.hid ca
        clear ca
        go_wp2_with fail
        refine Ca.out.mono ?_
        rintro e w1 ⟨rfl, hb1⟩
        obtain ⟨u1, rfl⟩ := ovr_next hb1
        clear hb1
        go_wp2_with fail
        go_roundw
        case rel => exact ⟨k + 1, by omega, by go_num, succ_case Hb.out hp, u1, rfl⟩
        case measure => simp [intOf]; omega
      · rw [hp] at ca
        have Ca := Lib.hid ca
        have hfin := Lib.hid (ixOf_at hlt hp Hb.out)
        clear ca
        go_wp2_with fail
        refine Ca.out.mono ?_
        rintro e w1 ⟨rfl, hb1⟩
        obtain ⟨u1, rfl⟩ := ovr_next hb1
        clear hb1
        go_wp2_with fail
        go_ret
        exact ⟨ret_int hfin.out.symm, ovr_below _ _⟩
    · have hfin : Hid (ixOf notGr xs = -1) := ixOf_none0 fun j hj => Hb.out j (by omega)
      go_wp2
      go_ret
      exact ⟨ret_int hfin.out.symm, ovr_below _ _⟩
set_option maxHeartbeats 1000000 in
theorem ck1_has (A : Option Addr) (c : Nat) (xs : List Rng) (w : World) (B : Nat) (hm : xs.length ≤ maxLen) (hB : B ≤ w.heap.size) (hx : Rd w B 2 A xs.length (rR xs)) :
    Calls Try.prog 42 #[.slice A xs.length c, .func (Fn.func 49) #[] #[]] w fun e w' => e = .returned (.bool (xs.any notGr)) ∧ Below w.heap.size w w' := by
  have hfin := ixOf_any (p := notGr) (xs := xs)
  have cx := Lib.hid (ck1_ix A c xs w B hm hB hx)
  clear hx hB hm
  go_enter Try.func42, Try.ntmps42
  go_wp2_with fail
  refine cx.out.mono ?_
  rintro e w' ⟨rfl, hb⟩
  have HB := Lib.hid hb
  clear hb
  go_wp2_with fail
  go_ret
  exact ⟨rfl, HB.out⟩
theorem erA_t : erA true = 0 := rfl
theorem erA_f : erA false = 2 := rfl
/-- The error of a model, zones and a set. -/
def ckF (m : Mdl) (zs : List Rng) (v : Int) : Int := if okMdl m then (if 20 < zs.length then 5 else if zs.any notGr || decide (31 < v) then 2 else 0) else 2
set_option maxRecDepth 100000 in
set_option maxHeartbeats 1000000 in
theorem dcheck_any (m : Mdl) (A : Option Addr) (c : Nat) (zs : List Rng) (v : Int) (w : World) (B : Nat) (hm : zs.length ≤ maxLen) (hB : B ≤ w.heap.size) (hx : Rd w B 2 A zs.length (rR zs)) :
    Calls Try.prog 22 #[.agg (mdA m), .slice A zs.length c, .int .u8 v] w fun e w' => e = .returned (I (ckF m zs v)) ∧ Below w.heap.size w w' := by
  have cm := Lib.hid fun W => checkModel_any m W
  have HX : Hid (∀ V, Below w.heap.size w V → Rd V B 2 A zs.length (rR zs) ∧ B ≤ V.heap.size) := fun V hV => ⟨hx.below (hV.mono hB), Nat.le_trans hB hV.size⟩
  have HM := Lib.hid hm
  have hf : Hid (ckF m zs v = if okMdl m then (if 20 < zs.length then 5 else if zs.any notGr || decide (31 < v) then 2 else 0) else 2) := rfl
  clear hx hB hm
  obtain ⟨W, hW⟩ : ∃ W, W = (w.alloc (.cells #[I m.sc, I (m.b 0).lo, I (m.b 0).hi, I (m.b 1).lo, I (m.b 1).hi, I (m.b 2).lo, I (m.b 2).hi, I (m.b 3).lo, I (m.b 3).hi] 33)) := ⟨_, rfl⟩
  have rowW0 : W.heap[w.heap.size]? = some (.cells #[I m.sc, I (m.b 0).lo, I (m.b 0).hi, I (m.b 1).lo, I (m.b 1).hi, I (m.b 2).lo, I (m.b 2).hi, I (m.b 3).lo, I (m.b 3).hi] 33 (0, 0)) := by rw [hW]; exact heap_last _ _ _ rfl
  have yW00 := ovr_cell (W := W) (b := w.heap.size) (o := 0) (v := I m.sc) (by rw [cell_of_row _ _ _ _ _ _ rowW0]; rfl)
  have yW01 := ovr_cell (W := W) (b := w.heap.size) (o := 1) (v := I (m.b 0).lo) (by rw [cell_of_row _ _ _ _ _ _ rowW0]; rfl)
  have yW02 := ovr_cell (W := W) (b := w.heap.size) (o := 2) (v := I (m.b 0).hi) (by rw [cell_of_row _ _ _ _ _ _ rowW0]; rfl)
  have yW03 := ovr_cell (W := W) (b := w.heap.size) (o := 3) (v := I (m.b 1).lo) (by rw [cell_of_row _ _ _ _ _ _ rowW0]; rfl)
  have yW04 := ovr_cell (W := W) (b := w.heap.size) (o := 4) (v := I (m.b 1).hi) (by rw [cell_of_row _ _ _ _ _ _ rowW0]; rfl)
  have yW05 := ovr_cell (W := W) (b := w.heap.size) (o := 5) (v := I (m.b 2).lo) (by rw [cell_of_row _ _ _ _ _ _ rowW0]; rfl)
  have yW06 := ovr_cell (W := W) (b := w.heap.size) (o := 6) (v := I (m.b 2).hi) (by rw [cell_of_row _ _ _ _ _ _ rowW0]; rfl)
  have yW07 := ovr_cell (W := W) (b := w.heap.size) (o := 7) (v := I (m.b 3).lo) (by rw [cell_of_row _ _ _ _ _ _ rowW0]; rfl)
  have yW08 := ovr_cell (W := W) (b := w.heap.size) (o := 8) (v := I (m.b 3).hi) (by rw [cell_of_row _ _ _ _ _ _ rowW0]; rfl)
  have RrowW0 := Lib.hid (ovr_row rowW0)
  clear rowW0
  have HUW : Hid (∀ u, Below w.heap.size w (ovr W u)) := U1 hW
  have HW := Lib.hid hW
  clear hW
  rcases h1 : okMdl m with _ | _ <;> (rw [h1] at cm hf; first | rw [erA_t] at cm | rw [erA_f] at cm)
  · go_enter Try.func22, Try.ntmps22
    go_upto_region 1 with (fail)
    rw [← HW.out]
    obtain ⟨u0, hu0⟩ := ovr_self W
    rw [hu0]
    clear hu0
    go_wp2_with fail
    refine (cm.out _).mono ?_
    rintro e w1 ⟨rfl, hb1⟩
    obtain ⟨u1, rfl⟩ := ovr_next hb1
    clear hb1
    go_wp2_with fail
    go_ret
    exact ⟨by rw [hf.out]; rfl, HUW.out _⟩
  by_cases h2 : 20 < zs.length
  · replace hf : Hid (ckF m zs v = 5) := by show _ = _; rw [hf.out, if_pos rfl, if_pos h2]
    have d1 : decide ((20 : Int) < (zs.length : Int)) = true := decide_eq_true (by omega)
    go_enter Try.func22, Try.ntmps22
    go_upto_region 1 with (fail)
    rw [← HW.out]
    obtain ⟨u0, hu0⟩ := ovr_self W
    rw [hu0]
    clear hu0
    go_wp2_with fail
    refine (cm.out _).mono ?_
    rintro e w1 ⟨rfl, hb1⟩
    obtain ⟨u1, rfl⟩ := ovr_next hb1
    clear hb1
    go_wp2_with fail
    go_ret
    exact ⟨by rw [hf.out]; rfl, HUW.out _⟩
  replace hf : Hid (ckF m zs v = if zs.any notGr || decide (31 < v) then 2 else 0) := by show _ = _; rw [hf.out, if_pos rfl, if_neg h2]
  have d1 : decide ((20 : Int) < (zs.length : Int)) = false := decide_eq_false (by omega)
  go_enter Try.func22, Try.ntmps22
  go_upto_region 1 with (fail)
  rw [← HW.out]
  obtain ⟨u0, hu0⟩ := ovr_self W
  rw [hu0]
  clear hu0
  go_wp2_with fail
  refine (cm.out _).mono ?_
  rintro e w1 ⟨rfl, hb1⟩
  obtain ⟨u1, rfl⟩ := ovr_next hb1
  clear hb1
  go_wp2_with fail
  refine (ck1_has A c zs _ B HM.out (HX.out _ (HUW.out u1)).2 (HX.out _ (HUW.out u1)).1).mono ?_
  rcases h3 : zs.any notGr with _ | _ <;> rw [h3] at hf
  · skip
    rintro e w1 ⟨rfl, hb1⟩
    obtain ⟨u2, rfl⟩ := ovr_next hb1
    clear hb1
    by_cases h4 : 31 < v
    · rw [decide_eq_true h4] at hf
      have d2 : decide (v ≤ 31) = false := decide_eq_false (by omega)
      go_wp2_with fail
      go_ret
      exact ⟨by rw [hf.out]; rfl, HUW.out _⟩
    · rw [decide_eq_false h4] at hf
      have d2 : decide (v ≤ 31) = true := decide_eq_true (by omega)
      go_wp2_with fail
      go_ret
      exact ⟨by rw [hf.out]; rfl, HUW.out _⟩
  · skip
    rintro e w1 ⟨rfl, hb1⟩
    obtain ⟨u2, rfl⟩ := ovr_next hb1
    clear hb1
    go_wp2_with fail
    go_ret
    exact ⟨by rw [hf.out]; rfl, HUW.out _⟩
/-- Whether a region is not wanted. -/
def unw (v : Int) (k : Nat) : Bool := decide (bits .and .u8 (v / 2 ^ k) 1 = 0)
def whyB (m : Mdl) (v rate : Int) (z : Rng) (k : Nat) : Bool := unw v k && posB m ⟨rate, rate⟩ z k
/-- The first zone and region that are not wanted and possible. -/
def whyZ (m : Mdl) (v rate : Int) (z : Rng) : Option Nat := (List.range 5).find? (whyB m v rate z)
def whyL (m : Mdl) (v rate : Int) (zs : List Rng) : Option (Nat × Nat) := (List.range zs.length).findSome? fun i => (whyZ m v rate (at0 zs i)).map fun k => (i, k)
def whyT : Option (Nat × Nat) → Value
  | some (i, k) => .tuple #[I i, I k, I 0]
  | none => .tuple #[I (-1), I 0, I 0]
def whyF (m : Mdl) (zs : List Rng) (v rate : Int) : Value := if ckF m zs v ≠ 0 then .tuple #[I 0, I 0, I (ckF m zs v)] else if rate < 0 ∨ 1000000 < rate then .tuple #[I 0, I 0, I 3] else whyT (whyL m v rate zs)
set_option maxRecDepth 100000 in
set_option maxHeartbeats 2000000 in
theorem why_any (m : Mdl) (A : Option Addr) (c : Nat) (zs : List Rng) (v rate : Int) (w : World) (B : Nat) (hm : zs.length ≤ maxLen) (hB : B ≤ w.heap.size) (hx : Rd w B 2 A zs.length (rR zs)) :
    Calls Try.prog 10 #[.agg (mdA m), .slice A zs.length c, .int .u8 v, I rate] w fun e w' => e = .returned (whyF m zs v rate) ∧ Below w.heap.size w w' := by
  have cc : Hid (∀ V, Below w.heap.size w V → Calls Try.prog 22 #[.agg (mdA m), .slice A zs.length c, .int .u8 v] V fun e w' => e = .returned (I (ckF m zs v)) ∧ Below V.heap.size V w') := fun V hV => dcheck_any m A c zs v V B hm (Nat.le_trans hB hV.size) (hx.below (hV.mono hB))
  have HX : Hid (∀ V, Below w.heap.size w V → Rd V B 2 A zs.length (rR zs)) := fun V hV => hx.below (hV.mono hB)
  have hf : Hid (whyF m zs v rate = if ckF m zs v ≠ 0 then .tuple #[I 0, I 0, I (ckF m zs v)] else if rate < 0 ∨ 1000000 < rate then .tuple #[I 0, I 0, I 3] else whyT (whyL m v rate zs)) := rfl
  have HM : Hid (zs.length ≤ 9223372036854775807) := by show _ ≤ _; unfold maxLen at hm; omega
  clear hx hB hm
  obtain ⟨W, hW⟩ : ∃ W, W = (w.alloc (.cells #[I m.sc, I (m.b 0).lo, I (m.b 0).hi, I (m.b 1).lo, I (m.b 1).hi, I (m.b 2).lo, I (m.b 2).hi, I (m.b 3).lo, I (m.b 3).hi] 33)) := ⟨_, rfl⟩
  have rowW0 : W.heap[w.heap.size]? = some (.cells #[I m.sc, I (m.b 0).lo, I (m.b 0).hi, I (m.b 1).lo, I (m.b 1).hi, I (m.b 2).lo, I (m.b 2).hi, I (m.b 3).lo, I (m.b 3).hi] 33 (0, 0)) := by rw [hW]; exact heap_last _ _ _ rfl
  have yW00 := ovr_cell (W := W) (b := w.heap.size) (o := 0) (v := I m.sc) (by rw [cell_of_row _ _ _ _ _ _ rowW0]; rfl)
  have yW01 := ovr_cell (W := W) (b := w.heap.size) (o := 1) (v := I (m.b 0).lo) (by rw [cell_of_row _ _ _ _ _ _ rowW0]; rfl)
  have yW02 := ovr_cell (W := W) (b := w.heap.size) (o := 2) (v := I (m.b 0).hi) (by rw [cell_of_row _ _ _ _ _ _ rowW0]; rfl)
  have yW03 := ovr_cell (W := W) (b := w.heap.size) (o := 3) (v := I (m.b 1).lo) (by rw [cell_of_row _ _ _ _ _ _ rowW0]; rfl)
  have yW04 := ovr_cell (W := W) (b := w.heap.size) (o := 4) (v := I (m.b 1).hi) (by rw [cell_of_row _ _ _ _ _ _ rowW0]; rfl)
  have yW05 := ovr_cell (W := W) (b := w.heap.size) (o := 5) (v := I (m.b 2).lo) (by rw [cell_of_row _ _ _ _ _ _ rowW0]; rfl)
  have yW06 := ovr_cell (W := W) (b := w.heap.size) (o := 6) (v := I (m.b 2).hi) (by rw [cell_of_row _ _ _ _ _ _ rowW0]; rfl)
  have yW07 := ovr_cell (W := W) (b := w.heap.size) (o := 7) (v := I (m.b 3).lo) (by rw [cell_of_row _ _ _ _ _ _ rowW0]; rfl)
  have yW08 := ovr_cell (W := W) (b := w.heap.size) (o := 8) (v := I (m.b 3).hi) (by rw [cell_of_row _ _ _ _ _ _ rowW0]; rfl)
  have RrowW0 := Lib.hid (ovr_row rowW0)
  clear rowW0
  have HUW : Hid (∀ u, Below w.heap.size w (ovr W u)) := U1 hW
  have HW := Lib.hid hW
  clear hW
  by_cases h1 : ckF m zs v = 0
  case neg =>
    replace hf : Hid (whyF m zs v rate = .tuple #[I 0, I 0, I (ckF m zs v)]) := by show _ = _; rw [hf.out, if_pos h1]
    generalize ckF m zs v = q at *
    go_enter Try.func10, Try.ntmps10
    go_upto_region 1 with (fail)
    rw [← HW.out]
    obtain ⟨u0, hu0⟩ := ovr_self W
    rw [hu0]
    clear hu0
    go_wp2_with fail
    refine (cc.out _ (HUW.out u0)).mono ?_
    rintro e w1 ⟨rfl, hb1⟩
    obtain ⟨u1, rfl⟩ := ovr_next hb1
    clear hb1
    have hq := Lib.hid h1
    go_wp2_with fail
    go_ret3
    exact ⟨by rw [hf.out]; rfl, HUW.out _⟩
  replace hf : Hid (whyF m zs v rate = if rate < 0 ∨ 1000000 < rate then .tuple #[I 0, I 0, I 3] else whyT (whyL m v rate zs)) := by show _ = _; rw [hf.out, if_neg (by simp [h1])]
  rw [h1] at cc
  by_cases h2 : rate < 0
  · rw [if_pos (.inl h2)] at hf
    go_enter Try.func10, Try.ntmps10
    go_upto_region 1 with (fail)
    rw [← HW.out]
    obtain ⟨u0, hu0⟩ := ovr_self W
    rw [hu0]
    clear hu0
    go_wp2_with fail
    refine (cc.out _ (HUW.out u0)).mono ?_
    rintro e w1 ⟨rfl, hb1⟩
    obtain ⟨u1, rfl⟩ := ovr_next hb1
    clear hb1
    go_wp2_with fail
    go_ret3
    exact ⟨by rw [hf.out]; rfl, HUW.out _⟩
  by_cases h3 : 1000000 < rate
  · rw [if_pos (.inr h3)] at hf
    go_enter Try.func10, Try.ntmps10
    go_upto_region 1 with (fail)
    rw [← HW.out]
    obtain ⟨u0, hu0⟩ := ovr_self W
    rw [hu0]
    clear hu0
    go_wp2_with fail
    refine (cc.out _ (HUW.out u0)).mono ?_
    rintro e w1 ⟨rfl, hb1⟩
    obtain ⟨u1, rfl⟩ := ovr_next hb1
    clear hb1
    go_wp2_with fail
    go_ret3
    exact ⟨by rw [hf.out]; rfl, HUW.out _⟩
  rw [if_neg (by omega)] at hf
  have hok : okMdl m = true := by
    rcases hq : okMdl m with _ | _
    · unfold ckF at h1; rw [hq] at h1; cases h1
    · rfl
  have hzs : ∀ i, i < zs.length → spanB (at0 zs i) 1 1000000 = true := fun i hi => by
    unfold ckF at h1
    rw [hok, if_pos rfl] at h1
    split at h1
    · cases h1
    · split at h1
      · cases h1
      · rename_i hn
        rw [Bool.or_eq_true, not_or] at hn
        have := hn.1
        simp only [Bool.not_eq_true, List.any_eq_false] at this
        have h5 := this (at0 zs i) (by rw [at0_get hi]; exact List.getElem_mem hi)
        simpa [notGr] using h5
  have hpl : Hid (∀ i, i < zs.length → ∀ k : Nat, k < 5 → ∀ V, Calls Try.prog 30 #[.agg (mdA m), .agg #[I rate, I rate], (at0 zs i).val, I k] V fun e w' => e = .returned (.bool (posB m ⟨rate, rate⟩ (at0 zs i) k)) ∧ Below V.heap.size V w') := fun i hi k hk V => possible_any m ⟨rate, rate⟩ (at0 zs i) k hk ⟨hok, spanB_iff.2 ⟨by show (0 : Int) ≤ rate; omega, Int.le_refl _, by show rate ≤ 1000000; omega⟩, hzs i hi⟩ V
  clear h1 hok hzs
  go_enter Try.func10, Try.ntmps10
  go_upto_region 1 with (fail)
  rw [← HW.out]
  obtain ⟨u0, hu0⟩ := ovr_self W
  rw [hu0]
  clear hu0
  go_wp2_with fail
  refine (cc.out _ (HUW.out u0)).mono ?_
  rintro e w1 ⟨rfl, hb1⟩
  obtain ⟨u1, rfl⟩ := ovr_next hb1
  clear hb1
  go_wp2_with fail
  go_loopw [30] (fun i wr => ∃ (k : Nat) (u : World), k ≤ zs.length ∧ i = .int .i64 k ∧ wr = ovr W u ∧ ∀ j, j < k → whyZ m v rate (at0 zs j) = none) (fun i _ => zs.length - (intOf i).toNat)
  case atStart => exact ⟨0, u1, by omega, rfl, rfl, fun j hj => absurd hj (by omega)⟩
  case round =>
    obtain ⟨k, u, hkn, rfl, rfl, hall⟩ := hrel
    have HALL := Lib.hid hall
    clear hall
    by_cases hlt : k < zs.length
    · obtain ⟨b, o, rfl, _, e0, e1⟩ := (HX.out _ (HUW.out u)).rng hlt
      go_upto_region 9 with fail
      obtain ⟨X1, hX1⟩ : ∃ X1, X1 = ((ovr W u).alloc (.cells #[I (at0 zs k).lo, I (at0 zs k).hi] 23)) := ⟨_, rfl⟩
      have reX1 : ∀ v, ∃ x, ovr X1 v = ovr W x := fun v => ovr_re1 hX1
      replace yW00 := tr_cell reX1 yW00
      replace yW01 := tr_cell reX1 yW01
      replace yW02 := tr_cell reX1 yW02
      replace yW03 := tr_cell reX1 yW03
      replace yW04 := tr_cell reX1 yW04
      replace yW05 := tr_cell reX1 yW05
      replace yW06 := tr_cell reX1 yW06
      replace yW07 := tr_cell reX1 yW07
      replace yW08 := tr_cell reX1 yW08
      replace RrowW0 := Lib.hid (tr_row reX1 RrowW0.out)
      have rowX10 : X1.heap[(ovr W u).heap.size]? = some (.cells #[I (at0 zs k).lo, I (at0 zs k).hi] 23 (0, 0)) := by rw [hX1]; exact heap_last _ _ _ rfl
      have yX100 := ovr_cell (W := X1) (b := (ovr W u).heap.size) (o := 0) (v := I (at0 zs k).lo) (by rw [cell_of_row _ _ _ _ _ _ rowX10]; rfl)
      have yX101 := ovr_cell (W := X1) (b := (ovr W u).heap.size) (o := 1) (v := I (at0 zs k).hi) (by rw [cell_of_row _ _ _ _ _ _ rowX10]; rfl)
      have RrowX10 := Lib.hid (ovr_row rowX10)
      clear rowX10
      have HBX1 : Hid (∀ u, Below W.heap.size W (ovr X1 u)) := fun u => by obtain ⟨x, hx⟩ := reX1 u; rw [hx]; exact ovr_below _ _
      have HUX1 : Hid (∀ u, Below w.heap.size w (ovr X1 u)) := fun u => by obtain ⟨x, hx⟩ := reX1 u; rw [hx]; exact HUW.out x
      clear reX1
      have HX1 := Lib.hid hX1
      clear hX1
      rw [← HX1.out]
      obtain ⟨u2, hu2⟩ := ovr_self X1
      rw [hu2]
      clear hu2
      have HLT := Lib.hid hlt
      clear e0 e1
      go_wp2_with fail
      go_loopw [35] (fun i wr => ∃ (j : Nat) (u : World), j ≤ 5 ∧ i = .int .i64 j ∧ wr = ovr X1 u ∧ ∀ j', j' < j → whyB m v rate (at0 zs k) j' = false) (fun i _ => 5 - (intOf i).toNat)
      case atStart => exact ⟨0, u2, by omega, rfl, rfl, fun j hj => absurd hj (by omega)⟩
      case round =>
        obtain ⟨j, u3, hj5, rfl, rfl, hno⟩ := hrel
        have HNO := Lib.hid hno
        clear hno
        by_cases hj : j < 5
        · have CP := Lib.hid (hpl.out k HLT.out j hj (ovr X1 u3))
          have hwb : Hid (whyB m v rate (at0 zs k) j = (unw v j && posB m ⟨rate, rate⟩ (at0 zs k) j)) := rfl
          have hlast : Hid (whyB m v rate (at0 zs k) j = false → ∀ j', j' < j + 1 → whyB m v rate (at0 zs k) j' = false) := fun h j' hj' => by
            rcases Nat.lt_or_eq_of_le (Nat.le_of_lt_succ hj') with h1 | h1
            · exact HNO.out j' h1
            · rw [h1]; exact h
          by_cases hu : bits .and .u8 (v / 2 ^ j) 1 = 0
          · rcases hb : posB m ⟨rate, rate⟩ (at0 zs k) j with _ | _ <;> rw [hb] at CP
            · have hn := Lib.hid (hlast.out (by rw [hwb.out, hb, Bool.and_false]))
              clear hb
              go_wp2_with fail
              refine CP.out.mono ?_
              rintro e w1 ⟨rfl, hb1⟩
              obtain ⟨u4, rfl⟩ := ovr_next hb1
              clear hb1
              go_wp2_with fail
              exact ⟨⟨j + 1, u4, by omega, rfl, rfl, hn.out⟩, by simp [intOf]; omega⟩
            · have hy : whyB m v rate (at0 zs k) j = true := by rw [hwb.out, hb, Bool.and_true]; exact decide_eq_true hu
              have hz : whyZ m v rate (at0 zs k) = some j := by
                unfold whyZ
                rw [List.find?_eq_some_iff_getElem]
                exact ⟨hy, j, by simpa using hj, by simp, fun q hq => by simp; exact HNO.out q hq⟩
              have hl : whyL m v rate zs = some (k, j) := by
                unfold whyL
                rw [List.findSome?_eq_some_iff]
                refine ⟨List.range k, k, (List.range (zs.length - k - 1)).map (k + 1 + ·), ?_, by rw [hz]; rfl, fun q hq => ?_⟩
                · rw [show zs.length = k + ((zs.length - k - 1) + 1) by have := HLT.out; omega, List.range_add]
                  congr 1
                  rw [List.range_succ_eq_map, List.map_cons, List.map_map, Nat.add_zero]
                  congr 1
                  rw [show k + (zs.length - k - 1 + 1) - k - 1 = zs.length - k - 1 by omega]
                  refine List.map_congr_left fun a _ => ?_
                  show k + (a + 1) = k + 1 + a
                  omega
                · rw [HALL.out q (by simpa using hq)]; rfl
              have hf2 : Hid (whyF m zs v rate = .tuple #[I k, I j, I 0]) := by show _ = _; rw [hf.out, hl]; rfl
              clear hb hy hz hl
              go_wp2_with fail
              refine CP.out.mono ?_
              rintro e w1 ⟨rfl, hb1⟩
              obtain ⟨u4, rfl⟩ := ovr_next hb1
              clear hb1
              go_wp2_with fail
              go_ret3
              exact ⟨by rw [hf2.out]; rfl, HUX1.out u4⟩
          · have hn := Lib.hid (hlast.out (by rw [hwb.out]; unfold unw; rw [decide_eq_false hu]; rfl))
            go_wp2_with fail
            exact ⟨⟨j + 1, u3, by omega, rfl, rfl, hn.out⟩, by simp [intOf]; omega⟩
        · have hz : Hid (whyZ m v rate (at0 zs k) = none) := by
            show _ = _
            unfold whyZ
            rw [List.find?_eq_none]
            intro q hq
            rw [HNO.out q (by have := List.mem_range.1 hq; omega)]
            simp
          have hre : Hid (Below W.heap.size W (ovr X1 u3)) := HBX1.out u3
          have hkm : k < 9223372036854775807 := by have := HM.out; have := HLT.out; omega
          go_wp2_with fail
          refine ⟨⟨k + 1, _, by have := HLT.out; omega, rfl, ovr_of hre.out, fun j hj => ?_⟩, by have := HLT.out; simp [intOf]; omega⟩
          rcases Nat.lt_or_eq_of_le (Nat.le_of_lt_succ hj) with h1 | h1
          · exact HALL.out j h1
          · rw [h1]; exact hz.out
    · have hl : whyL m v rate zs = none := by
        unfold whyL
        rw [List.findSome?_eq_none_iff]
        intro q hq
        rw [HALL.out q (by have := List.mem_range.1 hq; omega)]
        rfl
      have hf2 : Hid (whyF m zs v rate = .tuple #[I (-1), I 0, I 0]) := by show _ = _; rw [hf.out, hl]; rfl
      clear hl
      go_wp2_with fail
      go_ret3
      exact ⟨by rw [hf2.out]; rfl, HUW.out u⟩
end Go.Proofs.Ytliddmhifnigdaa.Un
