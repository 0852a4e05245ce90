/- The contracts of valid, check, fits, cut, Less of package units. -/
import Derived.Test.YtnkaoplgmglijaaDoorU3
namespace Go.Proofs.YtnkaoplgmglijaaDoor.Un
open Go.RowKit
def rngOk (r : Rng) : Bool := numB r.lo && (numB r.hi && decide (r.lo ≤ r.hi))
def badR (r : Rng) : Bool := !rngOk r
theorem rngOk_iff {r : Rng} : rngOk r = true ↔ (-1000000000000000 ≤ r.lo ∧ r.lo ≤ 1000000000000000) ∧ (-1000000000000000 ≤ r.hi ∧ r.hi ≤ 1000000000000000) ∧ r.lo ≤ r.hi := by
 unfold rngOk
 rw [Bool.and_eq_true, Bool.and_eq_true, numB_iff, numB_iff, decide_eq_true_eq]
theorem is_two (x y : Int) (W : World) (k : Nat) (hk : W.heap.size = k) : Calls Tryd.prog 106 #[.slice (some ⟨k, 0, none⟩) 2 2] (W.alloc (.cells #[I x, I y] 3)) fun e w' => e = .returned (.bool (numB x && numB y)) ∧ Below W.heap.size W w' := by
 subst hk
 have := is_any (some ⟨W.heap.size, 0, none⟩) 2 2 [x, y] (W.alloc (.cells #[I x, I y] 3)) _ rfl (by unfold maxLen; omega) (Rd_new (heap_last _ _ _ rfl) _ _ _ _ (all2 (all1 rfl) (all1 rfl)))
 rw [isB_two] at this
 refine this.mono ?_
 rintro e w' ⟨rfl, rfl⟩
 exact ⟨rfl, (Below.refl _ _).alloc (Nat.le_refl _) _⟩
set_option maxRecDepth 100000 in
set_option maxHeartbeats 1000000 in
theorem bad_any (r : Rng) (w : World) : Calls Tryd.prog 109 #[r.val] w fun e w' => e = .returned (.bool (badR r)) ∧ Below w.heap.size w w' := by
 obtain ⟨lo, hi⟩ := r
 have hf : Hid (badR ⟨lo, hi⟩ = !(numB lo && (numB hi && decide (lo ≤ hi)))) := rfl
 have ci := Lib.hid fun W k => is_two lo hi W k
 obtain ⟨W, hW⟩ : ∃ W, W = (w.alloc (.cells #[I lo, I hi] 23)) := ⟨_, rfl⟩
 have rowW0 : W.heap[w.heap.size]? = some (.cells #[I lo, I hi] 23 (0, 0)) := by rw [hW]; exact heap_last _ _ _ rfl
 have yW00 := ovr_cell (W := W) (b := w.heap.size) (o := 0) (v := I lo) (by rw [cell_of_row _ _ _ _ _ _ rowW0]; rfl)
 have yW01 := ovr_cell (W := W) (b := w.heap.size) (o := 1) (v := I hi) (by rw [cell_of_row _ _ _ _ _ _ rowW0]; rfl)
 have RrowW0 := Lib.hid (ovr_row rowW0)
 clear rowW0
 have HUW : Hid (∀ u, Below w.heap.size w (ovr W u)) := U1 hW
 have HW := Lib.hid hW
 clear hW
 rcases h1 : numB lo with _ | _ <;> rcases h2 : numB hi with _ | _ <;> (rw [h1, h2] at hf ci)
 case true.true =>
  by_cases h3 : lo ≤ hi
  all_goals
   have h3b : decide (hi < lo) = decide (¬ lo ≤ hi) := by apply decide_eq_decide.2; omega
   rw [decide_not] at h3b
   first | rw [decide_eq_true h3] at hf h3b | rw [decide_eq_false h3] at hf h3b
   clear h3
   go_enter Tryd.func109, Tryd.ntmps109
   go_upto_region 1 with (fail)
   rw [← HW.out]
   obtain ⟨u0, hu0⟩ := ovr_self W
   rw [hu0]
   clear hu0
   go_wp2_with fail
   refine (ci.out _ _ rfl).mono ?_
   rintro e w1 ⟨rfl, hb1⟩
   obtain ⟨u1, rfl⟩ := ovr_next hb1
   clear hb1
   go_wp2_with fail
   go_ret
   exact ⟨by rw [hf.out]; rfl, HUW.out _⟩
 all_goals
  go_enter Tryd.func109, Tryd.ntmps109
  go_upto_region 1 with (fail)
  rw [← HW.out]
  obtain ⟨u0, hu0⟩ := ovr_self W
  rw [hu0]
  clear hu0
  go_wp2_with fail
  refine (ci.out _ _ rfl).mono ?_
  rintro e w1 ⟨rfl, hb1⟩
  obtain ⟨u1, rfl⟩ := ovr_next hb1
  clear hb1
  go_wp2_with fail
  go_ret
  exact ⟨by rw [hf.out]; rfl, HUW.out _⟩
set_option maxHeartbeats 1000000 in
theorem ix_rng (A : Option Addr) (c : Nat) (xs : List Rng) (w : World) (B : Nat) (hm : xs.length ≤ maxLen) (hB : B ≤ w.heap.size) (hx : Rd w B 2 A xs.length (rR xs)) :
 Calls Tryd.prog 80 #[.slice A xs.length c, .func (Fn.func 109) #[] #[]] w fun e w' => e = .returned (.int .i64 (ixOf badR xs)) ∧ Below w.heap.size w w' := by
 unfold maxLen at hm
 have HX : Hid (∀ u, Rd (ovr w u) B 2 A xs.length (rR xs)) := fun u => hx.below ((ovr_below w u).mono hB)
 obtain ⟨u0, hu0⟩ := ovr_self w
 have H0 := Lib.hid hu0
 clear hx hB hu0
 go_enter Tryd.func80, Tryd.ntmps80
 go_wp2
 go_loopw [8] (fun i wr => ∃ k : Nat, k ≤ xs.length ∧ i = .int .i64 k ∧ (∀ j, j < k → badR (at0 xs j) = false) ∧ ∃ u, wr = ovr w u) (fun i _ => xs.length - (intOf i).toNat)
 case atStart => exact ⟨0, by omega, rfl, fun j hj => absurd hj (by omega), u0, H0.out⟩
 case round =>
  obtain ⟨k, hk, rfl, hb, u, rfl⟩ := hrel
  have Hb := Lib.hid hb
  clear hb
  by_cases hlt : k < xs.length
  · obtain ⟨b, o, rfl, _, e0, e1⟩ := (HX.out u).rng hlt
    have ca := bad_any (at0 xs k) (ovr w u)
    rcases hp : badR (at0 xs k) with _ | _
    · rw [hp] at ca
      have Ca := Lib.hid ca
      clear ca
      go_wp2_with fail
      refine Ca.out.mono ?_
      rintro e w1 ⟨rfl, hb1⟩
      obtain ⟨u1, rfl⟩ := ovr_next hb1
      clear hb1
      go_wp2_with fail
      go_roundw
      case rel => exact ⟨k + 1, by omega, by go_num, succ_case Hb.out hp, u1, rfl⟩
      case measure => simp [intOf]; omega
    · rw [hp] at ca
      have Ca := Lib.hid ca
      have hfin := Lib.hid (ixOf_at hlt hp Hb.out)
      clear ca
      go_wp2_with fail
      refine Ca.out.mono ?_
      rintro e w1 ⟨rfl, hb1⟩
      obtain ⟨u1, rfl⟩ := ovr_next hb1
      clear hb1
      go_wp2_with fail
      go_ret
      exact ⟨ret_int hfin.out.symm, ovr_below _ _⟩
  · have hfin : Hid (ixOf badR xs = -1) := ixOf_none0 fun j hj => Hb.out j (by omega)
    go_wp2
    go_ret
    exact ⟨ret_int hfin.out.symm, ovr_below _ _⟩
def rngsOk (xs : List Rng) : Bool := !(xs.any badR)
set_option maxHeartbeats 1000000 in
theorem valid_any (A : Option Addr) (n c : Nat) (xs : List Rng) (w : World) (B : Nat) (hn : n = xs.length) (hm : n ≤ maxLen) (hB : B ≤ w.heap.size) (hx : Rd w B 2 A n (rR xs)) :
 Calls Tryd.prog 98 #[.slice A n c] w fun e w' => e = .returned (.bool (rngsOk xs)) ∧ Below w.heap.size w w' := by
 subst hn
 have hfin := ixOf_any (p := badR) (xs := xs)
 have cx := Lib.hid (ix_rng A c xs w B hm hB hx)
 have hc : Calls Tryd.prog 61 #[.slice A xs.length c, .func (Fn.func 109) #[] #[]] w fun e w' => e = .returned (.bool (xs.any badR)) ∧ Below w.heap.size w w' := by
  clear hx hB hm
  go_enter Tryd.func61, Tryd.ntmps61
  go_wp2_with fail
  refine cx.out.mono ?_
  rintro e w' ⟨rfl, hb⟩
  have HB := Lib.hid hb
  clear hb
  go_wp2_with fail
  go_ret
  exact ⟨rfl, HB.out⟩
 have Hc := Lib.hid hc
 clear hx hc hfin cx hm hB
 go_enter Tryd.func98, Tryd.ntmps98
 go_wp2_with fail
 refine Hc.out.mono ?_
 rintro e w' ⟨rfl, hb⟩
 have HB := Lib.hid hb
 clear hb
 go_wp2_with fail
 go_ret
 exact ⟨rfl, HB.out⟩
def chk (xs : List Rng) : Int := if 100 < xs.length then 5 else if rngsOk xs then 0 else 2
set_option maxHeartbeats 1000000 in
theorem check_any (A : Option Addr) (n c : Nat) (xs : List Rng) (w : World) (B : Nat) (hn : n = xs.length) (hm : n ≤ maxLen) (hB : B ≤ w.heap.size) (hx : Rd w B 2 A n (rR xs)) :
 Calls Tryd.prog 81 #[.slice A n c] w fun e w' => e = .returned (I (chk xs)) ∧ Below w.heap.size w w' := by
 subst hn
 have hf : Hid (chk xs = if 100 < xs.length then 5 else if rngsOk xs then 0 else 2) := rfl
 have cv := Lib.hid (valid_any A xs.length c xs w B rfl hm hB hx)
 unfold maxLen at hm
 clear hx hB
 by_cases h : 100 < xs.length
 · rw [if_pos h] at hf
   go_enter Tryd.func81, Tryd.ntmps81
   go_wp2_with fail
   go_ret
   exact ⟨ret_int hf.out.symm, Below.refl _ _⟩
 · rw [if_neg h] at hf
   rcases hv : rngsOk xs with _ | _ <;> rw [hv] at hf cv
   all_goals
    go_enter Tryd.func81, Tryd.ntmps81
    go_wp2_with fail
    refine cv.out.mono ?_
    rintro e w' ⟨rfl, hb⟩
    have HB := Lib.hid hb
    clear hb
    go_wp2_with fail
    go_ret
    exact ⟨by rw [hf.out]; rfl, HB.out⟩
end Go.Proofs.YtnkaoplgmglijaaDoor.Un
/- The contracts of fits, added, Sum, Less of package units. -/
namespace Go.Proofs.YtnkaoplgmglijaaDoor.Un
open Go.RowKit
def RetRn (w : World) (q : Rng × Int) (e : Ending) (w' : World) : Prop := e = .returned (.tuple #[q.1.val, I q.2]) ∧ Below w.heap.size w w'
def fiF (lo hi : Int) : Rng × Int := if numB lo && numB hi then (⟨lo, hi⟩, 0) else (⟨0, 0⟩, 10)
def addK (xs : List Rng) : Nat → Int × Int
 | 0 => (0, 0) | k + 1 => ((addK xs k).1 + (at0 xs k).lo, (addK xs k).2 + (at0 xs k).hi)
theorem addK_bd {xs : List Rng} (h : ∀ j, j < xs.length → rngOk (at0 xs j) = true) : ∀ k : Nat, k ≤ xs.length → -(1000000000000000 * (k : Int)) ≤ (addK xs k).1 ∧ (addK xs k).1 ≤ (addK xs k).2 ∧ (addK xs k).2 ≤ 1000000000000000 * (k : Int)
 | 0, _ => by simp [addK]
 | k + 1, hk => by
   obtain ⟨i1, i2, i3⟩ := addK_bd h k (by omega)
   have := rngOk_iff.1 (h k (by omega))
   simp only [addK]
   omega
theorem rngs_at {xs : List Rng} (h : rngsOk xs = true) {j : Nat} (hj : j < xs.length) : rngOk (at0 xs j) = true := by
 unfold rngsOk at h
 rw [Bool.not_eq_true', List.any_eq_false] at h
 have := h (at0 xs j) (by rw [at0_get hj]; exact List.getElem_mem hj)
 unfold badR at this
 simpa using this
def RetTw (w : World) (q : Int × Int) (e : Ending) (w' : World) : Prop := e = .returned (.tuple #[I q.1, I q.2]) ∧ Below w.heap.size w w'
end Go.Proofs.YtnkaoplgmglijaaDoor.Un
/- The contracts of Sum, Less, cut, Hull$1 of package units. -/
namespace Go.Proofs.YtnkaoplgmglijaaDoor.Un
open Go.RowKit
def suF (xs : List Rng) : Rng × Int := if chk xs = 0 then fiF (addK xs xs.length).1 (addK xs xs.length).2 else (⟨0, 0⟩, chk xs)
theorem chk_ok {xs : List Rng} (h : chk xs = 0) : xs.length ≤ 100 ∧ rngsOk xs = true := by
 unfold chk at h
 split at h
 · cases h
 · rename_i h1
   split at h
   · rename_i h2; exact ⟨by omega, h2⟩
   · cases h
theorem valid_two (a b : Rng) (W : World) (k : Nat) (hk : W.heap.size = k) : Calls Tryd.prog 98 #[.slice (some ⟨k, 0, none⟩) 2 2] (W.alloc (.cells #[I a.lo, I a.hi, I b.lo, I b.hi] 23)) fun e w' => e = .returned (.bool (rngOk a && rngOk b)) ∧ Below W.heap.size W w' := by
 subst hk
 have h := valid_any (some ⟨W.heap.size, 0, none⟩) 2 2 [a, b] (W.alloc (.cells #[I a.lo, I a.hi, I b.lo, I b.hi] 23)) _ rfl (by unfold maxLen; omega) (by simp) (Rd_new (heap_last _ _ _ rfl) _ _ _ _ (all2 (all2 rfl rfl) (all2 rfl rfl)))
 have e : rngsOk [a, b] = (rngOk a && rngOk b) := by simp [rngsOk, badR]
 rw [e] at h
 refine h.mono ?_
 rintro e w' ⟨rfl, hb⟩
 exact ⟨rfl, under2 hb⟩
theorem valid_one (a : Rng) (W : World) (k : Nat) (hk : W.heap.size = k) : Calls Tryd.prog 98 #[.slice (some ⟨k, 0, none⟩) 1 1] (W.alloc (.cells #[I a.lo, I a.hi] 23)) fun e w' => e = .returned (.bool (rngOk a)) ∧ Below W.heap.size W w' := by
 subst hk
 have h := valid_any (some ⟨W.heap.size, 0, none⟩) 1 1 [a] (W.alloc (.cells #[I a.lo, I a.hi] 23)) _ rfl (by unfold maxLen; omega) (by simp) (Rd_new (heap_last _ _ _ rfl) _ _ _ _ (all1 (all2 rfl rfl)))
 have e : rngsOk [a] = rngOk a := by simp [rngsOk, badR]
 rw [e] at h
 refine h.mono ?_
 rintro e w' ⟨rfl, hb⟩
 exact ⟨rfl, under2 hb⟩
def leF (a b : Rng) : Rng × Int := if rngOk a && rngOk b then fiF (a.lo - b.hi) (a.hi - b.lo) else (⟨0, 0⟩, 2)
def cuF (a b : Rng) : Rng := ⟨max a.lo b.lo, min a.hi b.hi⟩
def huF (a b : Rng) : Rng := ⟨min a.lo b.lo, max a.hi b.hi⟩
set_option maxRecDepth 100000 in
set_option maxHeartbeats 1000000 in
theorem hullf_any (a b : Rng) (w : World) : Calls Tryd.prog 64 #[a.val, b.val] w fun e w' => e = .returned ((huF a b).val) ∧ Below w.heap.size w w' := by
 obtain ⟨W, hW⟩ : ∃ W, W = (((w.alloc (.cells #[I a.lo, I a.hi] 23)).alloc (.cells #[I b.lo, I b.hi] 23)).alloc (.cells #[I 0, I 0] 23)) := ⟨_, rfl⟩
 have rowW0 : W.heap[w.heap.size]? = some (.cells #[I a.lo, I a.hi] 23 (0, 0)) := by rw [hW]; exact heap_before (heap_before (heap_last _ _ _ rfl))
 have yW00 := ovr_cell (W := W) (b := w.heap.size) (o := 0) (v := I a.lo) (by rw [cell_of_row _ _ _ _ _ _ rowW0]; rfl)
 have yW01 := ovr_cell (W := W) (b := w.heap.size) (o := 1) (v := I a.hi) (by rw [cell_of_row _ _ _ _ _ _ rowW0]; rfl)
 have RrowW0 := Lib.hid (ovr_row rowW0)
 clear rowW0
 have rowW1 : W.heap[w.heap.size + 1]? = some (.cells #[I b.lo, I b.hi] 23 (0, 0)) := by rw [hW]; exact heap_before (heap_last _ _ _ (by simp))
 have yW10 := ovr_cell (W := W) (b := w.heap.size + 1) (o := 0) (v := I b.lo) (by rw [cell_of_row _ _ _ _ _ _ rowW1]; rfl)
 have yW11 := ovr_cell (W := W) (b := w.heap.size + 1) (o := 1) (v := I b.hi) (by rw [cell_of_row _ _ _ _ _ _ rowW1]; rfl)
 have RrowW1 := Lib.hid (ovr_row rowW1)
 clear rowW1
 have rowW2 : W.heap[w.heap.size + 1 + 1]? = some (.cells #[I 0, I 0] 23 (0, 0)) := by rw [hW]; exact heap_last _ _ _ (by simp)
 have yW20 := ovr_cell (W := W) (b := w.heap.size + 1 + 1) (o := 0) (v := I 0) (by rw [cell_of_row _ _ _ _ _ _ rowW2]; rfl)
 have yW21 := ovr_cell (W := W) (b := w.heap.size + 1 + 1) (o := 1) (v := I 0) (by rw [cell_of_row _ _ _ _ _ _ rowW2]; rfl)
 have RrowW2 := Lib.hid (ovr_row rowW2)
 clear rowW2
 have HUW : Hid (∀ u, Below w.heap.size w (ovr W u)) := U3 hW
 have HW := Lib.hid hW
 clear hW
 go_enter Tryd.func64, Tryd.ntmps64
 go_upto_region 1 with (fail)
 rw [← HW.out]
 obtain ⟨u0, hu0⟩ := ovr_self W
 rw [hu0]
 clear hu0
 go_wp2_with (refine wpList_store_row rfl 23 _ _ rfl (w.heap.size + 1 + 1) rfl _ _ (RrowW2.out _) _ rfl (one2 rfl rfl) rfl (by kernel_rfl) ?_)
 refine bodyPost_ret (results_cell_only rfl _ _ (w.heap.size + 1 + 1) 23 _ (0, 0) _ rfl (setRow_same (RrowW2.out _)) Tryd.underlying23 rfl (by kernel_rfl)) rfl ?_
 exact ⟨by rfl, below_setRow (HUW.out _) (by omega) _⟩
end Go.Proofs.YtnkaoplgmglijaaDoor.Un
/- The contracts of fold, Meet, Hull of package units. -/
namespace Go.Proofs.YtnkaoplgmglijaaDoor.Un
open Go.RowKit
def foK (J : Rng → Rng → Rng) (xs : List Rng) : Nat → Rng
 | 0 => at0 xs 0 | k + 1 => J (foK J xs k) (at0 xs (k + 1))
def foF (J : Rng → Rng → Rng) (xs : List Rng) : Rng × Int :=
 if chk xs = 0 then (if xs.length = 0 then (⟨0, 0⟩, 2) else if (foK J xs (xs.length - 1)).hi < (foK J xs (xs.length - 1)).lo then (⟨0, 0⟩, 7) else (foK J xs (xs.length - 1), 0)) else (⟨0, 0⟩, chk xs)
set_option maxRecDepth 100000 in
set_option maxHeartbeats 2000000 in
theorem fold_any (J : Rng → Rng → Rng) (F : FuncId) (hF : ∀ args w, (callFunc F args).run Tryd.prog w = .ok (.enter F args) w) (hj : ∀ a b W, Calls Tryd.prog F #[a.val, b.val] W fun e w' => e = .returned ((J a b).val) ∧ Below W.heap.size W w') (A : Option Addr) (n c : Nat) (xs : List Rng) (w : World) (B : Nat) (hn : n = xs.length) (hc : n ≤ c) (hm : c ≤ maxLen) (hB : B ≤ w.heap.size) (hx : Rd w B 2 A n (rR xs)) :
 Calls Tryd.prog 63 #[.slice A n c, .func (Fn.func F) #[] #[]] w (RetRn w (foF J xs)) := by
 subst hn
 have hf : Hid (foF J xs = if chk xs = 0 then (if xs.length = 0 then (⟨0, 0⟩, 2) else if (foK J xs (xs.length - 1)).hi < (foK J xs (xs.length - 1)).lo then (⟨0, 0⟩, 7) else (foK J xs (xs.length - 1), 0)) else (⟨0, 0⟩, chk xs)) := rfl
 have HX : Hid (∀ W', Below w.heap.size w W' → Rd W' B 2 A xs.length (rR xs) ∧ B ≤ W'.heap.size) := fun W' h => ⟨hx.below (h.mono hB), Nat.le_trans hB h.size⟩
 have cc : Hid (∀ W', Rd W' B 2 A xs.length (rR xs) ∧ B ≤ W'.heap.size → Calls Tryd.prog 81 #[.slice A xs.length c] W' fun e w' => e = .returned (I (chk xs)) ∧ Below W'.heap.size W' w') := fun W' h => check_any A xs.length c xs W' B rfl (by omega) h.2 h.1
 have Hj := Lib.hid hj
 unfold maxLen at hm
 clear hx hB hj
 obtain ⟨W, hW⟩ : ∃ W, W = (w.alloc (.cells #[I 0, I 0] 23)) := ⟨_, rfl⟩
 have rowW0 : W.heap[w.heap.size]? = some (.cells #[I 0, I 0] 23 (0, 0)) := by rw [hW]; exact heap_last _ _ _ rfl
 have yW00 := ovr_cell (W := W) (b := w.heap.size) (o := 0) (v := I 0) (by rw [cell_of_row _ _ _ _ _ _ rowW0]; rfl)
 have yW01 := ovr_cell (W := W) (b := w.heap.size) (o := 1) (v := I 0) (by rw [cell_of_row _ _ _ _ _ _ rowW0]; rfl)
 have RrowW0 := Lib.hid (ovr_row rowW0)
 clear rowW0
 have HUW : Hid (∀ u, Below w.heap.size w (ovr W u)) := U1 hW
 have HW := Lib.hid hW
 clear hW
 go_enter Tryd.func63, Tryd.ntmps63
 go_upto_region 1 with (fail)
 rw [← HW.out]
 obtain ⟨u0, hu0⟩ := ovr_self W
 rw [hu0]
 clear hu0
 go_wp2_with fail
 refine (cc.out _ (HX.out _ (HUW.out _))).mono ?_
 rintro e w1 ⟨rfl, hb1⟩
 obtain ⟨u1, rfl⟩ := ovr_next hb1
 clear hb1
 by_cases h0 : chk xs = 0
 · rw [if_pos h0] at hf
   have hl := (chk_ok h0).1
   rw [h0]
   clear h0
   by_cases h1 : xs.length = 0
   · rw [if_pos h1] at hf
     have h1b : ((xs.length : Int) == 0) = true := by rw [h1]; rfl
     have H1 := Lib.hid h1
     clear h1
     go_wp2_with (refine wpList_store_row rfl 23 _ _ rfl (w.heap.size) rfl _ _ (RrowW0.out _) _ rfl (one2 rfl rfl) rfl (by kernel_rfl) ?_)
     refine bodyPost_ret (results_cell_tmp rfl _ _ (w.heap.size) 23 _ (0, 0) _ rfl (setRow_same (RrowW0.out _)) Tryd.underlying23 rfl (by kernel_rfl)) rfl ?_
     exact ⟨by rw [hf.out]; rfl, below_setRow (HUW.out _) (by omega) _⟩
   · rw [if_neg h1] at hf
     have h1b : ((xs.length : Int) == 0) = false := by rw [beq_eq_false_iff_ne]; omega
     have h1c : 0 < xs.length := by omega
     clear h1
     obtain ⟨b, o, rfl, _, e0, e1⟩ := (HX.out _ (HUW.out u1)).1.rng h1c
     rw [Nat.zero_mul, Nat.add_zero] at e0 e1
     go_upto_region 7 with (fail)
     obtain ⟨V, hV⟩ : ∃ V, V = (ovr W u1).alloc (.cells #[I (at0 xs 0).lo, I (at0 xs 0).hi] 23) := ⟨_, rfl⟩
     have rV : V.heap[(ovr W u1).heap.size]? = some (.cells #[I (at0 xs 0).lo, I (at0 xs 0).hi] 23 (0, 0)) := by rw [hV]; exact heap_last _ _ _ rfl
     have bV : Below W.heap.size W V := by rw [hV]; exact (ovr_below W u1).alloc (ovr_below W u1).size _
     have sk := (ovr_below W u1).size
     rw [← hV]
     obtain ⟨kx, hkx⟩ : ∃ kx, (ovr W u1).heap.size = kx := ⟨_, rfl⟩
     rw [hkx] at rV sk
     rw [hkx]
     have RV := Lib.hid rV
     have BV := Lib.hid bV
     have SK := Lib.hid sk
     clear e0 e1 hV hkx rV bV sk
     go_cut [24, 25, 26] (fun s24 s25 s26 wx => ∃ A', s24 = .slice A' (xs.length - 1) (c - 1) ∧ (0 < xs.length - 1 → A' = some ⟨b, o + 2, none⟩) ∧ s25 = .int .i64 ((xs.length - 1 : Nat) : Int) ∧ s26 = .int .i64 0 ∧ wx = V)
     case first =>
       by_cases hc1 : c = 1
       all_goals
         try subst hc1
         go_wp2_with fail
         go_meet
         case rel =>
          first
          | exact ⟨some ⟨b, o + 2, none⟩, rfl, fun _ => rfl, rfl, rfl, rfl⟩
          | exact ⟨some ⟨b, o, none⟩, by congr 1 <;> omega, fun h => by exfalso; omega, by congr 1; omega, rfl, rfl⟩
     case rest =>
       obtain ⟨A', rfl, hA, rfl, rfl, rfl⟩ := hcut
       have HA := Lib.hid hA
       clear hA
       go_wp2_with fail
       go_loopw [26] (fun i wr => ∃ k : Nat, k ≤ xs.length - 1 ∧ i = .int .i64 k ∧ wr.heap[kx]? = some (.cells #[I (foK J xs k).lo, I (foK J xs k).hi] 23 (0, 0)) ∧ Below W.heap.size W wr) (fun i _ => xs.length - 1 - (intOf i).toNat)
       case atStart => exact ⟨0, by omega, rfl, RV.out, BV.out⟩
       case round =>
         obtain ⟨k, hk, rfl, hr, hb⟩ := hrel
         rename World => X
         by_cases hlt : k < xs.length - 1
         · obtain rfl := HA.out (by omega)
           have HXW : Hid (∀ u, Below W.heap.size W (ovr X u)) := fun u => hb.trans ((ovr_below X u).mono hb.size)
           have reX : ∀ v, ∃ x, ovr X v = ovr W x := fun v => ovr_reB hb v
           replace yW00 := tr_cell reX yW00
           replace yW01 := tr_cell reX yW01
           replace RrowW0 := Lib.hid (tr_row reX RrowW0.out)
           have yX00 := ovr_cell (W := X) (b := kx) (o := 0) (v := I (foK J xs k).lo) (by rw [cell_of_row _ _ _ _ _ _ hr]; rfl)
           have yX01 := ovr_cell (W := X) (b := kx) (o := 1) (v := I (foK J xs k).hi) (by rw [cell_of_row _ _ _ _ _ _ hr]; rfl)
           have RrowX0 := Lib.hid (ovr_row hr)
           clear hr
           have HUX : Hid (∀ u, Below w.heap.size w (ovr X u)) := fun u => by obtain ⟨x, hx⟩ := reX u; rw [hx]; exact HUW.out x
           clear reX hb
           obtain ⟨u, hu⟩ := ovr_self X
           obtain ⟨b', o', hA, _, e0, e1⟩ := (HX.out _ (HUX.out u)).1.rng (show k + 1 < xs.length by omega)
           (injection hA with ea; injection ea with ea1 ea2; subst ea1 ea2)
           rw [show o + (k + 1) * 2 = o + 2 + k * 2 by omega] at e0 e1
           rw [hu]
           clear hu
           go_upto_region 10 with (fail)
           clear e0 e1
           obtain ⟨Y, hY⟩ : ∃ Y, Y = ((ovr X u).alloc (.cells #[I (at0 xs (k + 1)).lo, I (at0 xs (k + 1)).hi] 23)) := ⟨_, rfl⟩
           have reY : ∀ v, ∃ x, ovr Y v = ovr X x := fun v => ovr_re1 hY
           replace yW00 := tr_cell reY yW00
           replace yW01 := tr_cell reY yW01
           replace RrowW0 := Lib.hid (tr_row reY RrowW0.out)
           replace yX00 := tr_cell reY yX00
           replace yX01 := tr_cell reY yX01
           replace RrowX0 := Lib.hid (tr_row reY RrowX0.out)
           have rowY0 : Y.heap[(ovr X u).heap.size]? = some (.cells #[I (at0 xs (k + 1)).lo, I (at0 xs (k + 1)).hi] 23 (0, 0)) := by rw [hY]; exact heap_last _ _ _ rfl
           have yY00 := ovr_cell (W := Y) (b := (ovr X u).heap.size) (o := 0) (v := I (at0 xs (k + 1)).lo) (by rw [cell_of_row _ _ _ _ _ _ rowY0]; rfl)
           have yY01 := ovr_cell (W := Y) (b := (ovr X u).heap.size) (o := 1) (v := I (at0 xs (k + 1)).hi) (by rw [cell_of_row _ _ _ _ _ _ rowY0]; rfl)
           have RrowY0 := Lib.hid (ovr_row rowY0)
           clear rowY0
           have HBY : Hid (∀ u, Below X.heap.size X (ovr Y u)) := fun u => by obtain ⟨x, hx⟩ := reY u; rw [hx]; exact ovr_below _ _
           have HUY : Hid (∀ u, Below w.heap.size w (ovr Y u)) := fun u => by obtain ⟨x, hx⟩ := reY u; rw [hx]; exact HUX.out x
           clear reY
           have HY := Lib.hid hY
           clear hY
           rw [← HY.out]
           obtain ⟨u2, hu2⟩ := ovr_self Y
           rw [hu2]
           clear hu2
           go_wp2_with fail
           refine (Hj.out (foK J xs k) (at0 xs (k + 1)) _).mono ?_
           rintro e w1 ⟨rfl, hb1⟩
           obtain ⟨u3, rfl⟩ := ovr_next hb1
           clear hb1
           have hk1 : Hid (foK J xs (k + 1) = J (foK J xs k) (at0 xs (k + 1))) := rfl
           have hBW : Hid (Below W.heap.size W (ovr Y u3)) := by obtain ⟨x, hx⟩ := ovr_re1 (v := u3) HY.out; show Below _ _ _; rw [hx]; exact HXW.out x
           go_wp2_with (refine wpList_store_row rfl 23 _ _ rfl (kx) rfl _ _ (RrowX0.out _) _ rfl (one2 rfl rfl) rfl (by kernel_rfl) ?_)
           go_roundw
           case rel => exact ⟨k + 1, by omega, by go_num, by rw [hk1.out]; exact setRow_same (RrowX0.out _), below_setRow hBW.out SK.out _⟩
           case measure => simp [intOf]; omega
         · obtain rfl : k = xs.length - 1 := by omega
           obtain ⟨z, hz⟩ : ∃ z, foK J xs (xs.length - 1) = z := ⟨_, rfl⟩
           rw [hz] at hf
           rw [hz] at hr
           clear hz
           have reX : ∀ v, ∃ x, ovr X v = ovr W x := fun v => ovr_reB hb v
           replace yW00 := tr_cell reX yW00
           replace yW01 := tr_cell reX yW01
           replace RrowW0 := Lib.hid (tr_row reX RrowW0.out)
           have yX00 := ovr_cell (W := X) (b := kx) (o := 0) (v := I z.lo) (by rw [cell_of_row _ _ _ _ _ _ hr]; rfl)
           have yX01 := ovr_cell (W := X) (b := kx) (o := 1) (v := I z.hi) (by rw [cell_of_row _ _ _ _ _ _ hr]; rfl)
           have RrowX0 := Lib.hid (ovr_row hr)
           clear hr
           have HUX : Hid (∀ u, Below w.heap.size w (ovr X u)) := fun u => by obtain ⟨x, hx⟩ := reX u; rw [hx]; exact HUW.out x
           clear reX hb
           obtain ⟨u, hu⟩ := ovr_self X
           rw [hu]
           clear hu
           by_cases h2 : z.hi < z.lo
           · rw [if_pos h2] at hf
             have h2b : decide (z.hi < z.lo) = true := decide_eq_true h2
             clear h2
             go_wp2_with (refine wpList_store_row rfl 23 _ _ rfl (w.heap.size) rfl _ _ (RrowW0.out _) _ rfl (one2 rfl rfl) rfl (by kernel_rfl) ?_)
             refine bodyPost_ret (results_cell_tmp rfl _ _ (w.heap.size) 23 _ (0, 0) _ rfl (setRow_same (RrowW0.out _)) Tryd.underlying23 rfl (by kernel_rfl)) rfl ?_
             exact ⟨by rw [hf.out]; rfl, below_setRow (HUX.out _) (by omega) _⟩
           · rw [if_neg h2] at hf
             have h2b : decide (z.hi < z.lo) = false := decide_eq_false h2
             clear h2
             go_wp2_with (refine wpList_store_row rfl 23 _ _ rfl (w.heap.size) rfl _ _ (RrowW0.out _) _ rfl (one2 rfl rfl) rfl (by kernel_rfl) ?_)
             refine bodyPost_ret (results_cell_tmp rfl _ _ (w.heap.size) 23 _ (0, 0) _ rfl (setRow_same (RrowW0.out _)) Tryd.underlying23 rfl (by kernel_rfl)) rfl ?_
             exact ⟨by rw [hf.out]; rfl, below_setRow (HUX.out _) (by omega) _⟩
 · rw [if_neg h0] at hf
   have h0b : (chk xs == 0) = false := by simpa using h0
   have h0c : (chk xs != 0) = true := by simpa using h0
   clear h0
   go_wp2_with (refine wpList_store_row rfl 23 _ _ rfl (w.heap.size) rfl _ _ (RrowW0.out _) _ rfl (one2 rfl rfl) rfl (by kernel_rfl) ?_)
   refine bodyPost_ret (results_cell_tmp rfl _ _ (w.heap.size) 23 _ (0, 0) _ rfl (setRow_same (RrowW0.out _)) Tryd.underlying23 rfl (by kernel_rfl)) rfl ?_
   exact ⟨by rw [hf.out]; rfl, below_setRow (HUW.out _) (by omega) _⟩
theorem hull_any (A : Option Addr) (n c : Nat) (xs : List Rng) (w : World) (B : Nat) (hn : n = xs.length) (hc : n ≤ c) (hm : c ≤ maxLen) (hB : B ≤ w.heap.size) (hx : Rd w B 2 A n (rR xs)) :
 Calls Tryd.prog 40 #[.slice A n c] w (RetRn w (foF huF xs)) := by
 have HX : Hid (∀ W', Below w.heap.size w W' → Rd W' B 2 A n (rR xs) ∧ B ≤ W'.heap.size) := fun W' h => ⟨hx.below (h.mono hB), Nat.le_trans hB h.size⟩
 have cf : Hid (∀ W', Rd W' B 2 A n (rR xs) ∧ B ≤ W'.heap.size → Calls Tryd.prog 63 #[.slice A n c, .func (Fn.func 64) #[] #[]] W' (RetRn W' (foF huF xs))) := fun W' h => fold_any huF _ (fun _ _ => by kernel_rfl) hullf_any A n c xs W' B hn hc hm h.2 h.1
 clear hx hB hm hn hc
 obtain ⟨W, hW⟩ : ∃ W, W = (w.alloc (.cells #[I 0, I 0] 23)) := ⟨_, rfl⟩
 have rowW0 : W.heap[w.heap.size]? = some (.cells #[I 0, I 0] 23 (0, 0)) := by rw [hW]; exact heap_last _ _ _ rfl
 have yW00 := ovr_cell (W := W) (b := w.heap.size) (o := 0) (v := I 0) (by rw [cell_of_row _ _ _ _ _ _ rowW0]; rfl)
 have yW01 := ovr_cell (W := W) (b := w.heap.size) (o := 1) (v := I 0) (by rw [cell_of_row _ _ _ _ _ _ rowW0]; rfl)
 have RrowW0 := Lib.hid (ovr_row rowW0)
 clear rowW0
 have HUW : Hid (∀ u, Below w.heap.size w (ovr W u)) := U1 hW
 have HW := Lib.hid hW
 clear hW
 go_enter Tryd.func40, Tryd.ntmps40
 go_upto_region 1 with (fail)
 rw [← HW.out]
 obtain ⟨u0, hu0⟩ := ovr_self W
 rw [hu0]
 clear hu0
 go_wp2_with fail
 refine (cf.out _ (HX.out _ (HUW.out _))).mono ?_
 rintro e w1 ⟨rfl, hb1⟩
 obtain ⟨u1, rfl⟩ := ovr_next hb1
 clear hb1
 go_wp2_with (refine wpList_store_row rfl 23 _ _ rfl (w.heap.size) rfl _ _ (RrowW0.out _) _ rfl (one2 rfl rfl) rfl (by kernel_rfl) ?_)
 refine bodyPost_ret (results_cell_tmp rfl _ _ (w.heap.size) 23 _ (0, 0) _ rfl (setRow_same (RrowW0.out _)) Tryd.underlying23 rfl (by kernel_rfl)) rfl ?_
 exact ⟨rfl, below_setRow (HUW.out _) (by omega) _⟩
end Go.Proofs.YtnkaoplgmglijaaDoor.Un
