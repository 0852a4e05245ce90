/- Through of package units: tables one behind the other. -/
import Derived.Test.YtmadlmmfbpmebaaU6
namespace Go.Proofs.Ytmadlmmfbpmebaa
open Go.RowKit
/-- A list of tables: the outer row holds slice values. -/
def RdT (w : World) (B : Nat) (A : Option Addr) (TT : List (List Rng)) (C : Nat → Option Addr) (D : Nat → Nat) : Prop :=
  Rd w B 1 A TT.length (fun k _ => .slice (C k) (at0 TT k).length (D k)) ∧ ∀ k, k < TT.length → (at0 TT k).length ≤ maxLen ∧ Rd w B 2 (C k) (at0 TT k).length (rR (at0 TT k))
theorem RdT.below {w w' : World} {B : Nat} {A : Option Addr} {TT : List (List Rng)} {C : Nat → Option Addr} {D : Nat → Nat} (h : RdT w B A TT C D) (hb : Below B w w') : RdT w' B A TT C D :=
  ⟨h.1.below hb, fun k hk => ⟨(h.2 k hk).1, (h.2 k hk).2.below hb⟩⟩
theorem RdT.more {w : World} {B B' : Nat} {A : Option Addr} {TT : List (List Rng)} {C : Nat → Option Addr} {D : Nat → Nat} (h : RdT w B A TT C D) (hb : B ≤ B') : RdT w B' A TT C D :=
  ⟨h.1.more hb, fun k hk => ⟨(h.2 k hk).1, (h.2 k hk).2.more hb⟩⟩
theorem RdT.at {w : World} {B : Nat} {A : Option Addr} {TT : List (List Rng)} {C : Nat → Option Addr} {D : Nat → Nat} (h : RdT w B A TT C D) {k : Nat} (hk : k < TT.length) :
    ∃ b o, A = some ⟨b, o, none⟩ ∧ b < B ∧ w.cell? ⟨b, o + k, none⟩ = some (.slice (C k) (at0 TT k).length (D k)) := by
  obtain ⟨b, o, hA, hb, hc⟩ := h.1 (by omega)
  exact ⟨b, o, hA, hb, by have := hc k hk 0 (by omega); simpa using this⟩
/-- What the tables from the k-th on tell. -/
def thG (TT : List (List Rng)) : Nat → Nat → Rng → Rng × Int × Int
  | 0, _, x => (x, 0, 0)
  | m + 1, k, x => if (vaF (at0 TT k) x).2 = 0 then thG TT m (k + 1) (vaF (at0 TT k) x).1 else (⟨0, 0⟩, (k : Int), (vaF (at0 TT k) x).2)
def badT (t : List Rng) : Bool := !tabB t
def thF (TT : List (List Rng)) (x : Rng) : Rng × Int × Int :=
  if 10 < TT.length then (⟨0, 0⟩, 0, 5) else if TT.any badT || !rngOk x then (⟨0, 0⟩, 0, 2) else thG TT TT.length 0 x
theorem thG_step {TT : List (List Rng)} {n k : Nat} {x : Rng} (h : k < n) : thG TT (n - k) k x = if (vaF (at0 TT k) x).2 = 0 then thG TT (n - (k + 1)) (k + 1) (vaF (at0 TT k) x).1 else (⟨0, 0⟩, (k : Int), (vaF (at0 TT k) x).2) := by
  rw [show n - k = (n - (k + 1)) + 1 by omega]
  rfl
/-- A range, a place and the number of an error. -/
def RetT (w : World) (q : Rng × Int × Int) (e : Ending) (w' : World) : Prop := e = .returned (.tuple #[q.1.val, I q.2.1, I q.2.2]) ∧ Below w.heap.size w w'
theorem results_cell_tt {P : Program} {fn : Func} {p t1 t2 : Tmp} {ty : TypeId} (h : fn.results = #[.cell p ty, .tmp t1, .tmp t2]) (tmps : Array Value) (w : World) (g : Nat) (t : TypeId) (cs : Array Value) (fr : Nat × Nat) (d : TypeDesc)
    (hp : tmps.getD p undef = .pointer (some ⟨g, 0, none⟩)) (hg : w.heap[g]? = some (.cells cs t fr))
    (hu : P.underlying ty = some d) (hd : (match d with | .struct _ | .array _ _ => true | _ => false) = true) (hi : (P.info? ty).map (·.size) = some cs.size) :
    (results fn tmps).run P w = .ok (.tuple #[.agg cs, tmps.getD t1 undef, tmps.getD t2 undef]) w := by
  have hp' : tmps[p]?.getD undef = .pointer (some ⟨g, 0, none⟩) := by simpa using hp
  simp [results, h, hp', asAddr, run_loadVar_row w g t ty cs fr d hg hu hd hi]
theorem badT_any (A : Option Addr) (c : Nat) (t : List Rng) (w : World) (B : Nat) (hm : t.length ≤ maxLen) (hB : B ≤ w.heap.size) (hx : Rd w B 2 A t.length (rR t)) :
    Calls Try.prog 99 #[.slice A t.length c] w fun e w' => e = .returned (.bool (badT t)) ∧ Below w.heap.size w w' := by
  have ct := Lib.hid (table_any A t.length c t w B rfl hm hB hx)
  clear hx hB hm
  have hf : Hid (badT t = !tabB t) := rfl
  have h2 : Hid (ctF t = if tabB t then 0 else 2) := rfl
  rw [h2.out] at ct
  rcases h1 : tabB t with _ | _ <;> rw [h1] at hf ct
  · have ct' : Hid (Calls Try.prog 32 #[.slice A t.length c] w fun e w' => e = .returned (I 2) ∧ Below w.heap.size w w') := ct
    clear ct h1 h2
    go_enter Try.func99, Try.ntmps99
    go_wp2_with fail
    refine ct'.out.mono ?_
    rintro e w' ⟨rfl, hb⟩
    have HB := Lib.hid hb
    clear hb
    go_wp2_with fail
    go_ret
    exact ⟨by rw [hf.out]; rfl, HB.out⟩
  · have ct' : Hid (Calls Try.prog 32 #[.slice A t.length c] w fun e w' => e = .returned (I 0) ∧ Below w.heap.size w w') := ct
    clear ct h1 h2
    go_enter Try.func99, Try.ntmps99
    go_wp2_with fail
    refine ct'.out.mono ?_
    rintro e w' ⟨rfl, hb⟩
    have HB := Lib.hid hb
    clear hb
    go_wp2_with fail
    go_ret
    exact ⟨by rw [hf.out]; rfl, HB.out⟩
set_option maxHeartbeats 1000000 in
theorem ix_tab (A : Option Addr) (c : Nat) (TT : List (List Rng)) (C : Nat → Option Addr) (D : Nat → Nat) (w : World) (B : Nat) (hm : TT.length ≤ maxLen) (hB : B ≤ w.heap.size) (hx : RdT w B A TT C D) :
    Calls Try.prog 123 #[.slice A TT.length c, .func (Fn.func 99) #[] #[]] w fun e w' => e = .returned (.int .i64 (ixOf badT TT)) ∧ Below w.heap.size w w' := by
  unfold maxLen at hm
  have HX : Hid (∀ u, RdT (ovr w u) B A TT C D ∧ B ≤ (ovr w u).heap.size) := fun u => ⟨hx.below ((ovr_below w u).mono hB), Nat.le_trans hB (ovr_below w u).size⟩
  obtain ⟨u0, hu0⟩ := ovr_self w
  have H0 := Lib.hid hu0
  clear hx hB hu0
  go_enter Try.func123, Try.ntmps123
  go_wp2
  go_loopw [8] (fun i wr => ∃ k : Nat, k ≤ TT.length ∧ i = .int .i64 k ∧ (∀ j, j < k → badT (at0 TT j) = false) ∧ ∃ u, wr = ovr w u) (fun i _ => TT.length - (intOf i).toNat)
  case atStart => exact ⟨0, by omega, rfl, fun j hj => absurd hj (by omega), u0, H0.out⟩
  case round =>
    obtain ⟨k, hk, rfl, hb, u, rfl⟩ := hrel
    have Hb := Lib.hid hb
    clear hb
    by_cases hlt : k < TT.length
    · obtain ⟨b, o, rfl, _, e0⟩ := (HX.out u).1.at hlt
      have ca := badT_any (C k) (D k) (at0 TT k) (ovr w u) B ((HX.out u).1.2 k hlt).1 (HX.out u).2 ((HX.out u).1.2 k hlt).2
      rcases hp : badT (at0 TT k) with _ | _
      · rw [hp] at ca
        have Ca := Lib.hid ca
        clear ca
        go_wp2_with fail
        refine Ca.out.mono ?_
        rintro e w1 ⟨rfl, hb1⟩
        obtain ⟨u1, rfl⟩ := ovr_next hb1
        clear hb1
        go_wp2_with fail
        go_roundw
        case rel => exact ⟨k + 1, by omega, by go_num, succ_case Hb.out hp, u1, rfl⟩
        case measure => simp [intOf]; omega
      · rw [hp] at ca
        have Ca := Lib.hid ca
        have hfin := Lib.hid (ixOf_at hlt hp Hb.out)
        clear ca
        go_wp2_with fail
        refine Ca.out.mono ?_
        rintro e w1 ⟨rfl, hb1⟩
        obtain ⟨u1, rfl⟩ := ovr_next hb1
        clear hb1
        go_wp2_with fail
        go_ret
        exact ⟨ret_int hfin.out.symm, ovr_below _ _⟩
    · have hfin : Hid (ixOf badT TT = -1) := ixOf_none0 fun j hj => Hb.out j (by omega)
      go_wp2
      go_ret
      exact ⟨ret_int hfin.out.symm, ovr_below _ _⟩
theorem has_tab (A : Option Addr) (c : Nat) (TT : List (List Rng)) (C : Nat → Option Addr) (D : Nat → Nat) (w : World) (B : Nat) (hm : TT.length ≤ maxLen) (hB : B ≤ w.heap.size) (hx : RdT w B A TT C D) :
    Calls Try.prog 98 #[.slice A TT.length c, .func (Fn.func 99) #[] #[]] w fun e w' => e = .returned (.bool (TT.any badT)) ∧ Below w.heap.size w w' := by
  have hfin := ixOf_any (p := badT) (xs := TT)
  have cx := Lib.hid (ix_tab A c TT C D w B hm hB hx)
  clear hx hB hm
  go_enter Try.func98, Try.ntmps98
  go_wp2_with fail
  refine cx.out.mono ?_
  rintro e w' ⟨rfl, hb⟩
  have HB := Lib.hid hb
  clear hb
  go_wp2_with fail
  go_ret
  exact ⟨rfl, HB.out⟩
set_option maxRecDepth 100000 in
set_option maxHeartbeats 4000000 in
theorem through_any (A : Option Addr) (c : Nat) (TT : List (List Rng)) (C : Nat → Option Addr) (D : Nat → Nat) (x : Rng) (w : World) (B : Nat) (hm : TT.length ≤ maxLen) (hB : B ≤ w.heap.size) (hx : RdT w B A TT C D) :
    Calls Try.prog 53 #[.slice A TT.length c, x.val] w (RetT w (thF TT x)) := by
  have hf : Hid (thF TT x = if 10 < TT.length then (⟨0, 0⟩, 0, 5) else if TT.any badT || !rngOk x then (⟨0, 0⟩, 0, 2) else thG TT TT.length 0 x) := rfl
  have HX : Hid (∀ W', Below w.heap.size w W' → RdT W' B A TT C D ∧ B ≤ W'.heap.size) := fun W' h => ⟨hx.below (h.mono hB), Nat.le_trans hB h.size⟩
  have ch : Hid (∀ W', Below w.heap.size w W' → Calls Try.prog 98 #[.slice A TT.length c, .func (Fn.func 99) #[] #[]] W' fun e w' => e = .returned (.bool (TT.any badT)) ∧ Below W'.heap.size W' w') := fun W' h => has_tab A c TT C D W' B hm (Nat.le_trans hB h.size) (hx.below (h.mono hB))
  have cv := Lib.hid fun W k => valid_one x W k
  have ca : Hid (∀ W' k y, k < TT.length → Below w.heap.size w W' → Calls Try.prog 33 #[.slice (C k) (at0 TT k).length (D k), y.val] W' (RetRn W' (vaF (at0 TT k) y))) := fun W' k y hk h => value2_any (C k) _ (D k) (at0 TT k) y W' B rfl (hx.2 k hk).1 (Nat.le_trans hB h.size) ((hx.2 k hk).2.below (h.mono hB))
  clear hx hB
  have HUw : Hid (∀ u, Below w.heap.size w (ovr w u)) := fun u => ovr_below _ _
  obtain ⟨W, hW⟩ : ∃ W, W = ((w.alloc (.cells #[I x.lo, I x.hi] 38)).alloc (.cells #[I 0, I 0] 38)) := ⟨_, rfl⟩
  have rowW0 : W.heap[w.heap.size]? = some (.cells #[I x.lo, I x.hi] 38 (0, 0)) := by rw [hW]; exact heap_before (heap_last _ _ _ rfl)
  have yW00 := ovr_cell (W := W) (b := w.heap.size) (o := 0) (v := I x.lo) (by rw [cell_of_row _ _ _ _ _ _ rowW0]; rfl)
  have yW01 := ovr_cell (W := W) (b := w.heap.size) (o := 1) (v := I x.hi) (by rw [cell_of_row _ _ _ _ _ _ rowW0]; rfl)
  have RrowW0 := Lib.hid (ovr_row rowW0)
  clear rowW0
  have rowW1 : W.heap[w.heap.size + 1]? = some (.cells #[I 0, I 0] 38 (0, 0)) := by rw [hW]; exact heap_last _ _ _ (by simp)
  have yW10 := ovr_cell (W := W) (b := w.heap.size + 1) (o := 0) (v := I 0) (by rw [cell_of_row _ _ _ _ _ _ rowW1]; rfl)
  have yW11 := ovr_cell (W := W) (b := w.heap.size + 1) (o := 1) (v := I 0) (by rw [cell_of_row _ _ _ _ _ _ rowW1]; rfl)
  have RrowW1 := Lib.hid (ovr_row rowW1)
  clear rowW1
  have HUW : Hid (∀ u, Below w.heap.size w (ovr W u)) := U2 hW
  have HW := Lib.hid hW
  clear hW
  by_cases h10 : 10 < TT.length
  · rw [if_pos h10] at hf
    have hb : decide (10 < (TT.length : Int)) = true := decide_eq_true (by omega)
    clear h10 hm
    go_enter Try.func53, Try.ntmps53
    go_upto_block 0 with (fail)
    rw [← HW.out]
    obtain ⟨u0, hu0⟩ := ovr_self W
    rw [hu0]
    clear hu0
    go_wp2_with (refine wpList_store_row rfl 38 _ _ rfl (w.heap.size + 1) rfl _ _ (RrowW1.out _) _ rfl (one2 rfl rfl) rfl (by kernel_rfl) ?_)
    refine bodyPost_ret (results_cell_tt rfl _ _ (w.heap.size + 1) 38 _ (0, 0) _ rfl (setRow_same (RrowW1.out _)) Try.underlying38 rfl (by kernel_rfl)) rfl ?_
    exact ⟨by rw [hf.out]; rfl, below_setRow (HUW.out _) (by omega) _⟩
  rw [if_neg h10] at hf
  have hb : decide (10 < (TT.length : Int)) = false := decide_eq_false (by omega)
  clear hm
  rcases hx1 : TT.any badT with _ | _ <;> rw [hx1] at hf ch
  case true =>
    go_enter Try.func53, Try.ntmps53
    go_upto_block 0 with (fail)
    rw [← HW.out]
    obtain ⟨u0, hu0⟩ := ovr_self W
    rw [hu0]
    clear hu0
    go_wp2_with fail
    refine (ch.out _ (HUW.out _)).mono ?_
    rintro e w1 ⟨rfl, hb1⟩
    obtain ⟨u1, rfl⟩ := ovr_next hb1
    clear hb1
    go_wp2_with (refine wpList_store_row rfl 38 _ _ rfl (w.heap.size + 1) rfl _ _ (RrowW1.out _) _ rfl (one2 rfl rfl) rfl (by kernel_rfl) ?_)
    refine bodyPost_ret (results_cell_tt rfl _ _ (w.heap.size + 1) 38 _ (0, 0) _ rfl (setRow_same (RrowW1.out _)) Try.underlying38 rfl (by kernel_rfl)) rfl ?_
    exact ⟨by rw [hf.out]; rfl, below_setRow (HUW.out _) (by omega) _⟩
  rcases hx2 : rngOk x with _ | _ <;> rw [hx2] at hf cv
  case false =>
    go_enter Try.func53, Try.ntmps53
    go_upto_block 0 with (fail)
    rw [← HW.out]
    obtain ⟨u0, hu0⟩ := ovr_self W
    rw [hu0]
    clear hu0
    go_wp2_with fail
    refine (ch.out _ (HUW.out _)).mono ?_
    rintro e w1 ⟨rfl, hb1⟩
    obtain ⟨u1, rfl⟩ := ovr_next hb1
    clear hb1
    go_wp2_with fail
    refine (cv.out _ _ rfl).mono ?_
    rintro e w1 ⟨rfl, hb1⟩
    obtain ⟨u2, rfl⟩ := ovr_next hb1
    clear hb1
    go_wp2_with (refine wpList_store_row rfl 38 _ _ rfl (w.heap.size + 1) rfl _ _ (RrowW1.out _) _ rfl (one2 rfl rfl) rfl (by kernel_rfl) ?_)
    refine bodyPost_ret (results_cell_tt rfl _ _ (w.heap.size + 1) 38 _ (0, 0) _ rfl (setRow_same (RrowW1.out _)) Try.underlying38 rfl (by kernel_rfl)) rfl ?_
    exact ⟨by rw [hf.out]; rfl, below_setRow (HUW.out _) (by omega) _⟩
  rw [if_neg (show ¬ ((false || !true) = true) by decide)] at hf
  clear hx1 hx2
  go_enter Try.func53, Try.ntmps53
  go_upto_block 0 with (fail)
  rw [← HW.out]
  obtain ⟨u0, hu0⟩ := ovr_self W
  rw [hu0]
  clear hu0
  go_wp2_with fail
  refine (ch.out _ (HUW.out _)).mono ?_
  rintro e w1 ⟨rfl, hb1⟩
  obtain ⟨u1, rfl⟩ := ovr_next hb1
  clear hb1
  go_wp2_with fail
  refine (cv.out _ _ rfl).mono ?_
  rintro e w1 ⟨rfl, hb1⟩
  obtain ⟨u2, rfl⟩ := ovr_next hb1
  clear hb1
  go_wp2_with fail
  go_loopw [6, 26] (fun z i wr => ∃ k : Nat, ∃ y : Rng, k ≤ TT.length ∧ i = .int .i64 k ∧ z = I 0 ∧ thG TT TT.length 0 x = thG TT (TT.length - k) k y ∧ wr.heap[w.heap.size]? = some (.cells #[I y.lo, I y.hi] 38 (0, 0)) ∧ wr.heap[w.heap.size + 1]? = some (.cells #[I 0, I 0] 38 (0, 0)) ∧ Below w.heap.size w wr) (fun _ i _ => TT.length - (intOf i).toNat)
  case atStart => exact ⟨0, x, by omega, rfl, rfl, rfl, RrowW0.out _, RrowW1.out _, HUW.out _⟩
  case round =>
    obtain ⟨k, y, hk, rfl, rfl, hg, hr, hr2, hb⟩ := hrel
    rename World => X
    have reX : ∀ v, ∃ x, ovr X v = ovr w x := fun v => ovr_reB hb v
    have yX00 := ovr_cell (W := X) (b := w.heap.size) (o := 0) (v := I y.lo) (by rw [cell_of_row _ _ _ _ _ _ hr]; rfl)
    have yX01 := ovr_cell (W := X) (b := w.heap.size) (o := 1) (v := I y.hi) (by rw [cell_of_row _ _ _ _ _ _ hr]; rfl)
    have RrowX0 := Lib.hid (ovr_row hr)
    clear hr
    have yX10 := ovr_cell (W := X) (b := w.heap.size + 1) (o := 0) (v := I 0) (by rw [cell_of_row _ _ _ _ _ _ hr2]; rfl)
    have yX11 := ovr_cell (W := X) (b := w.heap.size + 1) (o := 1) (v := I 0) (by rw [cell_of_row _ _ _ _ _ _ hr2]; rfl)
    have RrowX1 := Lib.hid (ovr_row hr2)
    clear hr2
    have HUX : Hid (∀ u, Below w.heap.size w (ovr X u)) := fun u => by obtain ⟨x, hx⟩ := reX u; rw [hx]; exact HUw.out x
    clear reX hb
    obtain ⟨u, hu⟩ := ovr_self X
    rw [hu]
    clear hu
    by_cases hlt : k < TT.length
    · have hltb : decide ((k : Int) < (TT.length : Int)) = true := decide_eq_true (by omega)
      rw [thG_step hlt] at hg
      have cq : Hid (∀ W', Below w.heap.size w W' → Calls Try.prog 33 #[.slice (C k) (at0 TT k).length (D k), y.val] W' (RetRn W' (vaF (at0 TT k) y))) := fun W' h => ca.out W' k y hlt h
      obtain ⟨b, o, rfl, _, e0⟩ := (HX.out _ (HUX.out u)).1.at hlt
      obtain ⟨⟨v, z⟩, hv⟩ : ∃ q, vaF (at0 TT k) y = q := ⟨_, rfl⟩
      rw [hv] at hg cq
      clear hv
      obtain ⟨L, hL⟩ : ∃ L, at0 TT k = L := ⟨_, rfl⟩
      rw [hL] at e0 cq
      clear hL
      by_cases hz : z = 0
      · subst hz
        rw [if_pos rfl] at hg
        have Hg := Lib.hid hg
        clear hg
        go_wp2_with fail
        refine (cq.out _ (HUX.out _)).mono ?_
        rintro e w1 ⟨rfl, hb1⟩
        obtain ⟨u1, rfl⟩ := ovr_next hb1
        clear hb1
        go_wp2_with (refine wpList_store_row rfl 38 _ _ rfl (w.heap.size) rfl _ _ (RrowX0.out _) _ rfl (one2 rfl rfl) rfl (by kernel_rfl) ?_)
        go_roundw
        case rel => exact ⟨k + 1, v, by omega, by go_num, rfl, Hg.out, setRow_same (RrowX0.out _), (setRow_other (by omega)).trans (RrowX1.out _), below_setRow (HUX.out _) (by omega) _⟩
        case measure => simp [intOf]; omega
      · rw [if_neg hz] at hg
        have Hg := Lib.hid hg
        have zb : (z != 0) = true := by simpa using hz
        clear hg hz
        go_wp2_with fail
        refine (cq.out _ (HUX.out _)).mono ?_
        rintro e w1 ⟨rfl, hb1⟩
        obtain ⟨u1, rfl⟩ := ovr_next hb1
        clear hb1
        go_upto_region 9 with (refine wpList_store_row rfl 38 _ _ rfl (w.heap.size) rfl _ _ (RrowX0.out _) _ rfl (one2 rfl rfl) rfl (by kernel_rfl) ?_)
        obtain ⟨Z, hZ⟩ : ∃ Z, Z = (ovr X u1).setRow w.heap.size #[I v.lo, I v.hi] := ⟨_, rfl⟩
        have hr4 : Z.heap[w.heap.size + 1]? = some (.cells #[I 0, I 0] 38 (0, 0)) := by rw [hZ]; exact (setRow_other (by omega)).trans (RrowX1.out _)
        have hb4 : Below w.heap.size w Z := by rw [hZ]; exact below_setRow (HUX.out _) (by omega) _
        rw [← hZ]
        clear hZ e0
        have reZ : ∀ v, ∃ x, ovr Z v = ovr w x := fun v => ovr_reB hb4 v
        have yZ00 := ovr_cell (W := Z) (b := w.heap.size + 1) (o := 0) (v := I 0) (by rw [cell_of_row _ _ _ _ _ _ hr4]; rfl)
        have yZ01 := ovr_cell (W := Z) (b := w.heap.size + 1) (o := 1) (v := I 0) (by rw [cell_of_row _ _ _ _ _ _ hr4]; rfl)
        have RrowZ0 := Lib.hid (ovr_row hr4)
        clear hr4
        have HUZ : Hid (∀ u, Below w.heap.size w (ovr Z u)) := fun u => by obtain ⟨x, hx⟩ := reZ u; rw [hx]; exact HUw.out x
        clear reZ hb4
        obtain ⟨u4, hu4⟩ := ovr_self Z
        rw [hu4]
        clear hu4
        go_wp2_with (refine wpList_store_row rfl 38 _ _ rfl (w.heap.size + 1) rfl _ _ (RrowZ0.out _) _ rfl (one2 rfl rfl) rfl (by kernel_rfl) ?_)
        refine bodyPost_ret (results_cell_tt rfl _ _ (w.heap.size + 1) 38 _ (0, 0) _ rfl (setRow_same (RrowZ0.out _)) Try.underlying38 rfl (by kernel_rfl)) rfl ?_
        exact ⟨by rw [hf.out, Hg.out]; rfl, below_setRow (HUZ.out _) (by omega) _⟩
    · obtain rfl : k = TT.length := by omega
      have hltb : decide ((TT.length : Int) < (TT.length : Int)) = false := decide_eq_false (by omega)
      rw [Nat.sub_self] at hg
      have Hg := Lib.hid hg
      clear hg
      go_wp2_with (refine wpList_store_row rfl 38 _ _ rfl (w.heap.size + 1) rfl _ _ (RrowX1.out _) _ rfl (one2 rfl rfl) rfl (by kernel_rfl) ?_)
      refine bodyPost_ret (results_cell_tt rfl _ _ (w.heap.size + 1) 38 _ (0, 0) _ rfl (setRow_same (RrowX1.out _)) Try.underlying38 rfl (by kernel_rfl)) rfl ?_
      exact ⟨by rw [hf.out, Hg.out]; rfl, below_setRow (HUX.out _) (by omega) _⟩
end Go.Proofs.Ytmadlmmfbpmebaa
