/- The contracts of valid, check, fits, cut, Less of package units. -/
import Derived.Test.YtliddmhifnigdaaU3
namespace Go.Proofs.Ytliddmhifnigdaa.Un
open Go.RowKit
/-- A valid range. -/
def rngOk (r : Rng) : Bool := numB r.lo && (numB r.hi && decide (r.lo ≤ r.hi))
def badR (r : Rng) : Bool := !rngOk r
theorem rngOk_iff {r : Rng} : rngOk r = true ↔ (-1000000000000000 ≤ r.lo ∧ r.lo ≤ 1000000000000000) ∧ (-1000000000000000 ≤ r.hi ∧ r.hi ≤ 1000000000000000) ∧ r.lo ≤ r.hi := by
  unfold rngOk
  rw [Bool.and_eq_true, Bool.and_eq_true, numB_iff, numB_iff, decide_eq_true_eq]
theorem is_two (x y : Int) (W : World) (k : Nat) (hk : W.heap.size = k) : Calls Try.prog 55 #[.slice (some ⟨k, 0, none⟩) 2 2] (W.alloc (.cells #[I x, I y] 3)) fun e w' => e = .returned (.bool (numB x && numB y)) ∧ Below W.heap.size W w' := by
  subst hk
  have := is_any (some ⟨W.heap.size, 0, none⟩) 2 2 [x, y] (W.alloc (.cells #[I x, I y] 3)) _ rfl (by unfold maxLen; omega) (Rd_new (heap_last _ _ _ rfl) _ _ _ _ (all2 (all1 rfl) (all1 rfl)))
  rw [isB_two] at this
  refine this.mono ?_
  rintro e w' ⟨rfl, rfl⟩
  exact ⟨rfl, (Below.refl _ _).alloc (Nat.le_refl _) _⟩
set_option maxRecDepth 100000 in
set_option maxHeartbeats 1000000 in
theorem bad_any (r : Rng) (w : World) : Calls Try.prog 64 #[r.val] w fun e w' => e = .returned (.bool (badR r)) ∧ Below w.heap.size w w' := by
  obtain ⟨lo, hi⟩ := r
  have hf : Hid (badR ⟨lo, hi⟩ = !(numB lo && (numB hi && decide (lo ≤ hi)))) := rfl
  have ci := Lib.hid fun W k => is_two lo hi W k
  obtain ⟨W, hW⟩ : ∃ W, W = (w.alloc (.cells #[I lo, I hi] 23)) := ⟨_, rfl⟩
  have rowW0 : W.heap[w.heap.size]? = some (.cells #[I lo, I hi] 23 (0, 0)) := by rw [hW]; exact heap_last _ _ _ rfl
  have yW00 := ovr_cell (W := W) (b := w.heap.size) (o := 0) (v := I lo) (by rw [cell_of_row _ _ _ _ _ _ rowW0]; rfl)
  have yW01 := ovr_cell (W := W) (b := w.heap.size) (o := 1) (v := I hi) (by rw [cell_of_row _ _ _ _ _ _ rowW0]; rfl)
  have RrowW0 := Lib.hid (ovr_row rowW0)
  clear rowW0
  have HUW : Hid (∀ u, Below w.heap.size w (ovr W u)) := U1 hW
  have HW := Lib.hid hW
  clear hW
  rcases h1 : numB lo with _ | _ <;> rcases h2 : numB hi with _ | _ <;> (rw [h1, h2] at hf ci)
  case true.true =>
    by_cases h3 : lo ≤ hi
    all_goals
      have h3b : decide (hi < lo) = decide (¬ lo ≤ hi) := by apply decide_eq_decide.2; omega
      rw [decide_not] at h3b
      first | rw [decide_eq_true h3] at hf h3b | rw [decide_eq_false h3] at hf h3b
      clear h3
      go_enter Try.func64, Try.ntmps64
      go_upto_region 1 with (fail)
      rw [← HW.out]
      obtain ⟨u0, hu0⟩ := ovr_self W
      rw [hu0]
      clear hu0
      go_wp2_with fail
      refine (ci.out _ _ rfl).mono ?_
      rintro e w1 ⟨rfl, hb1⟩
      obtain ⟨u1, rfl⟩ := ovr_next hb1
      clear hb1
      go_wp2_with fail
      go_ret
      exact ⟨by rw [hf.out]; rfl, HUW.out _⟩
  all_goals
    go_enter Try.func64, Try.ntmps64
    go_upto_region 1 with (fail)
    rw [← HW.out]
    obtain ⟨u0, hu0⟩ := ovr_self W
    rw [hu0]
    clear hu0
    go_wp2_with fail
    refine (ci.out _ _ rfl).mono ?_
    rintro e w1 ⟨rfl, hb1⟩
    obtain ⟨u1, rfl⟩ := ovr_next hb1
    clear hb1
    go_wp2_with fail
    go_ret
    exact ⟨by rw [hf.out]; rfl, HUW.out _⟩
set_option maxHeartbeats 1000000 in
theorem ix_rng (A : Option Addr) (c : Nat) (xs : List Rng) (w : World) (B : Nat) (hm : xs.length ≤ maxLen) (hB : B ≤ w.heap.size) (hx : Rd w B 2 A xs.length (rR xs)) :
    Calls Try.prog 68 #[.slice A xs.length c, .func (Fn.func 64) #[] #[]] w fun e w' => e = .returned (.int .i64 (ixOf badR xs)) ∧ Below w.heap.size w w' := by
  unfold maxLen at hm
  have HX : Hid (∀ u, Rd (ovr w u) B 2 A xs.length (rR xs)) := fun u => hx.below ((ovr_below w u).mono hB)
  obtain ⟨u0, hu0⟩ := ovr_self w
  have H0 := Lib.hid hu0
  clear hx hB hu0
  go_enter Try.func68, Try.ntmps68
  go_wp2
  go_loopw [8] (fun i wr => ∃ k : Nat, k ≤ xs.length ∧ i = .int .i64 k ∧ (∀ j, j < k → badR (at0 xs j) = false) ∧ ∃ u, wr = ovr w u) (fun i _ => xs.length - (intOf i).toNat)
  case atStart => exact ⟨0, by omega, rfl, fun j hj => absurd hj (by omega), u0, H0.out⟩
  case round =>
    obtain ⟨k, hk, rfl, hb, u, rfl⟩ := hrel
    have Hb := Lib.hid hb
    clear hb
    by_cases hlt : k < xs.length
    · obtain ⟨b, o, rfl, _, e0, e1⟩ := (HX.out u).rng hlt
      have ca := bad_any (at0 xs k) (ovr w u)
      rcases hp : badR (at0 xs k) with _ | _
      · rw [hp] at ca
        have Ca := Lib.hid ca
        clear ca
        go_wp2_with fail
        refine Ca.out.mono ?_
        rintro e w1 ⟨rfl, hb1⟩
        obtain ⟨u1, rfl⟩ := ovr_next hb1
        clear hb1
        go_wp2_with fail
        go_roundw
        case rel => exact ⟨k + 1, by omega, by go_num, succ_case Hb.out hp, u1, rfl⟩
        case measure => simp [intOf]; omega
      · rw [hp] at ca
        have Ca := Lib.hid ca
        have hfin := Lib.hid (ixOf_at hlt hp Hb.out)
        clear ca
        go_wp2_with fail
        refine Ca.out.mono ?_
        rintro e w1 ⟨rfl, hb1⟩
        obtain ⟨u1, rfl⟩ := ovr_next hb1
        clear hb1
        go_wp2_with fail
        go_ret
        exact ⟨ret_int hfin.out.symm, ovr_below _ _⟩
    · have hfin : Hid (ixOf badR xs = -1) := ixOf_none0 fun j hj => Hb.out j (by omega)
      go_wp2
      go_ret
      exact ⟨ret_int hfin.out.symm, ovr_below _ _⟩
/-- All ranges are valid. -/
def rngsOk (xs : List Rng) : Bool := !(xs.any badR)
set_option maxHeartbeats 1000000 in
theorem valid_any (A : Option Addr) (n c : Nat) (xs : List Rng) (w : World) (B : Nat) (hn : n = xs.length) (hm : n ≤ maxLen) (hB : B ≤ w.heap.size) (hx : Rd w B 2 A n (rR xs)) :
    Calls Try.prog 38 #[.slice A n c] w fun e w' => e = .returned (.bool (rngsOk xs)) ∧ Below w.heap.size w w' := by
  subst hn
  have hfin := ixOf_any (p := badR) (xs := xs)
  have cx := Lib.hid (ix_rng A c xs w B hm hB hx)
  have hc : Calls Try.prog 42 #[.slice A xs.length c, .func (Fn.func 64) #[] #[]] w fun e w' => e = .returned (.bool (xs.any badR)) ∧ Below w.heap.size w w' := by
    clear hx hB hm
    go_enter Try.func42, Try.ntmps42
    go_wp2_with fail
    refine cx.out.mono ?_
    rintro e w' ⟨rfl, hb⟩
    have HB := Lib.hid hb
    clear hb
    go_wp2_with fail
    go_ret
    exact ⟨rfl, HB.out⟩
  have Hc := Lib.hid hc
  clear hx hc hfin cx hm hB
  go_enter Try.func38, Try.ntmps38
  go_wp2_with fail
  refine Hc.out.mono ?_
  rintro e w' ⟨rfl, hb⟩
  have HB := Lib.hid hb
  clear hb
  go_wp2_with fail
  go_ret
  exact ⟨rfl, HB.out⟩
/-- The error of a list of ranges. -/
def chk (xs : List Rng) : Int := if 100 < xs.length then 5 else if rngsOk xs then 0 else 2
end Go.Proofs.Ytliddmhifnigdaa.Un
/- The contracts of fits, added, Sum, Less of package units. -/
namespace Go.Proofs.Ytliddmhifnigdaa.Un
open Go.RowKit
/-- A range and the number of an error. -/
def RetRn (w : World) (q : Rng × Int) (e : Ending) (w' : World) : Prop := e = .returned (.tuple #[q.1.val, I q.2]) ∧ Below w.heap.size w w'
def fiF (lo hi : Int) : Rng × Int := if numB lo && numB hi then (⟨lo, hi⟩, 0) else (⟨0, 0⟩, 10)
set_option maxRecDepth 100000 in
set_option maxHeartbeats 1000000 in
theorem fits_any (lo hi : Int) (w : World) : Calls Try.prog 67 #[I lo, I hi] w (RetRn w (fiF lo hi)) := by
  have hf : Hid (fiF lo hi = if numB lo && numB hi then (⟨lo, hi⟩, 0) else (⟨0, 0⟩, 10)) := rfl
  have ci := Lib.hid fun W k => is_two lo hi W k
  obtain ⟨W, hW⟩ : ∃ W, W = (w.alloc (.cells #[I 0, I 0] 23)) := ⟨_, rfl⟩
  have rowW0 : W.heap[w.heap.size]? = some (.cells #[I 0, I 0] 23 (0, 0)) := by rw [hW]; exact heap_last _ _ _ rfl
  have yW00 := ovr_cell (W := W) (b := w.heap.size) (o := 0) (v := I 0) (by rw [cell_of_row _ _ _ _ _ _ rowW0]; rfl)
  have yW01 := ovr_cell (W := W) (b := w.heap.size) (o := 1) (v := I 0) (by rw [cell_of_row _ _ _ _ _ _ rowW0]; rfl)
  have RrowW0 := Lib.hid (ovr_row rowW0)
  clear rowW0
  have HUW : Hid (∀ u, Below w.heap.size w (ovr W u)) := U1 hW
  have HW := Lib.hid hW
  clear hW
  rcases h1 : (numB lo && numB hi) with _ | _ <;> (rw [h1] at hf ci)
  all_goals
    go_enter Try.func67, Try.ntmps67
    go_upto_region 1 with (fail)
    rw [← HW.out]
    obtain ⟨u0, hu0⟩ := ovr_self W
    rw [hu0]
    clear hu0
    go_wp2_with fail
    refine (ci.out _ _ rfl).mono ?_
    rintro e w1 ⟨rfl, hb1⟩
    obtain ⟨u1, rfl⟩ := ovr_next hb1
    clear hb1
    go_wp2_with (refine wpList_store_row rfl 23 _ _ rfl (w.heap.size) rfl _ _ (RrowW0.out _) _ rfl (one2 rfl rfl) rfl (by kernel_rfl) ?_)
    refine bodyPost_ret (results_cell_tmp rfl _ _ (w.heap.size) 23 _ (0, 0) _ rfl (setRow_same (RrowW0.out _)) Try.underlying23 rfl (by kernel_rfl)) rfl ?_
    exact ⟨by rw [hf.out]; rfl, below_setRow (HUW.out _) (by omega) _⟩
/-- The sums of the first k ranges' ends. -/
def addK (xs : List Rng) : Nat → Int × Int
  | 0 => (0, 0) | k + 1 => ((addK xs k).1 + (at0 xs k).lo, (addK xs k).2 + (at0 xs k).hi)
theorem addK_bd {xs : List Rng} (h : ∀ j, j < xs.length → rngOk (at0 xs j) = true) : ∀ k : Nat, k ≤ xs.length → -(1000000000000000 * (k : Int)) ≤ (addK xs k).1 ∧ (addK xs k).1 ≤ (addK xs k).2 ∧ (addK xs k).2 ≤ 1000000000000000 * (k : Int)
  | 0, _ => by simp [addK]
  | k + 1, hk => by
    obtain ⟨i1, i2, i3⟩ := addK_bd h k (by omega)
    have := rngOk_iff.1 (h k (by omega))
    simp only [addK]
    omega
theorem rngs_at {xs : List Rng} (h : rngsOk xs = true) {j : Nat} (hj : j < xs.length) : rngOk (at0 xs j) = true := by
  unfold rngsOk at h
  rw [Bool.not_eq_true', List.any_eq_false] at h
  have := h (at0 xs j) (by rw [at0_get hj]; exact List.getElem_mem hj)
  unfold badR at this
  simpa using this
def RetTw (w : World) (q : Int × Int) (e : Ending) (w' : World) : Prop := e = .returned (.tuple #[I q.1, I q.2]) ∧ Below w.heap.size w w'
end Go.Proofs.Ytliddmhifnigdaa.Un
/- The contracts of Sum, Less, cut, Hull$1 of package units. -/
namespace Go.Proofs.Ytliddmhifnigdaa.Un
open Go.RowKit
def suF (xs : List Rng) : Rng × Int := if chk xs = 0 then fiF (addK xs xs.length).1 (addK xs xs.length).2 else (⟨0, 0⟩, chk xs)
theorem chk_ok {xs : List Rng} (h : chk xs = 0) : xs.length ≤ 100 ∧ rngsOk xs = true := by
  unfold chk at h
  split at h
  · cases h
  · rename_i h1
    split at h
    · rename_i h2; exact ⟨by omega, h2⟩
    · cases h
theorem valid_two (a b : Rng) (W : World) (k : Nat) (hk : W.heap.size = k) : Calls Try.prog 38 #[.slice (some ⟨k, 0, none⟩) 2 2] (W.alloc (.cells #[I a.lo, I a.hi, I b.lo, I b.hi] 23)) fun e w' => e = .returned (.bool (rngOk a && rngOk b)) ∧ Below W.heap.size W w' := by
  subst hk
  have h := valid_any (some ⟨W.heap.size, 0, none⟩) 2 2 [a, b] (W.alloc (.cells #[I a.lo, I a.hi, I b.lo, I b.hi] 23)) _ rfl (by unfold maxLen; omega) (by simp) (Rd_new (heap_last _ _ _ rfl) _ _ _ _ (all2 (all2 rfl rfl) (all2 rfl rfl)))
  have e : rngsOk [a, b] = (rngOk a && rngOk b) := by simp [rngsOk, badR]
  rw [e] at h
  refine h.mono ?_
  rintro e w' ⟨rfl, hb⟩
  exact ⟨rfl, under2 hb⟩
theorem valid_one (a : Rng) (W : World) (k : Nat) (hk : W.heap.size = k) : Calls Try.prog 38 #[.slice (some ⟨k, 0, none⟩) 1 1] (W.alloc (.cells #[I a.lo, I a.hi] 23)) fun e w' => e = .returned (.bool (rngOk a)) ∧ Below W.heap.size W w' := by
  subst hk
  have h := valid_any (some ⟨W.heap.size, 0, none⟩) 1 1 [a] (W.alloc (.cells #[I a.lo, I a.hi] 23)) _ rfl (by unfold maxLen; omega) (by simp) (Rd_new (heap_last _ _ _ rfl) _ _ _ _ (all1 (all2 rfl rfl)))
  have e : rngsOk [a] = rngOk a := by simp [rngsOk, badR]
  rw [e] at h
  refine h.mono ?_
  rintro e w' ⟨rfl, hb⟩
  exact ⟨rfl, under2 hb⟩
def leF (a b : Rng) : Rng × Int := if rngOk a && rngOk b then fiF (a.lo - b.hi) (a.hi - b.lo) else (⟨0, 0⟩, 2)
/-- What two ranges have in common, and the range round both. -/
def cuF (a b : Rng) : Rng := ⟨max a.lo b.lo, min a.hi b.hi⟩
def huF (a b : Rng) : Rng := ⟨min a.lo b.lo, max a.hi b.hi⟩
end Go.Proofs.Ytliddmhifnigdaa.Un
/- The contracts of fold, Meet, Hull of package units. -/
namespace Go.Proofs.Ytliddmhifnigdaa.Un
open Go.RowKit
def foK (J : Rng → Rng → Rng) (xs : List Rng) : Nat → Rng
  | 0 => at0 xs 0 | k + 1 => J (foK J xs k) (at0 xs (k + 1))
def foF (J : Rng → Rng → Rng) (xs : List Rng) : Rng × Int :=
  if chk xs = 0 then (if xs.length = 0 then (⟨0, 0⟩, 2) else if (foK J xs (xs.length - 1)).hi < (foK J xs (xs.length - 1)).lo then (⟨0, 0⟩, 7) else (foK J xs (xs.length - 1), 0)) else (⟨0, 0⟩, chk xs)
end Go.Proofs.Ytliddmhifnigdaa.Un
