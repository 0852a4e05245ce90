/- The contracts of fits, added, Sum, Less of package units. -/
import Derived.Test.YtmadlmmfbpmebaaUq
namespace Go.Proofs.Ytmadlmmfbpmebaa
open Go.RowKit
/-- A range and the number of an error. -/
def RetRn (w : World) (q : Rng × Int) (e : Ending) (w' : World) : Prop := e = .returned (.tuple #[q.1.val, I q.2]) ∧ Below w.heap.size w w'
def fiF (lo hi : Int) : Rng × Int := if numB lo && numB hi then (⟨lo, hi⟩, 0) else (⟨0, 0⟩, 10)
set_option maxRecDepth 100000 in
set_option maxHeartbeats 1000000 in
theorem fits_any (lo hi : Int) (w : World) : Calls Try.prog 100 #[I lo, I hi] w (RetRn w (fiF lo hi)) := by
  have hf : Hid (fiF lo hi = if numB lo && numB hi then (⟨lo, hi⟩, 0) else (⟨0, 0⟩, 10)) := rfl
  have ci := Lib.hid fun W k => is_two lo hi W k
  obtain ⟨W, hW⟩ : ∃ W, W = (w.alloc (.cells #[I 0, I 0] 38)) := ⟨_, rfl⟩
  have rowW0 : W.heap[w.heap.size]? = some (.cells #[I 0, I 0] 38 (0, 0)) := by rw [hW]; exact heap_last _ _ _ rfl
  have yW00 := ovr_cell (W := W) (b := w.heap.size) (o := 0) (v := I 0) (by rw [cell_of_row _ _ _ _ _ _ rowW0]; rfl)
  have yW01 := ovr_cell (W := W) (b := w.heap.size) (o := 1) (v := I 0) (by rw [cell_of_row _ _ _ _ _ _ rowW0]; rfl)
  have RrowW0 := Lib.hid (ovr_row rowW0)
  clear rowW0
  have HUW : Hid (∀ u, Below w.heap.size w (ovr W u)) := U1 hW
  have HW := Lib.hid hW
  clear hW
  rcases h1 : (numB lo && numB hi) with _ | _ <;> (rw [h1] at hf ci)
  all_goals
    go_enter Try.func100, Try.ntmps100
    go_upto_region 1 with (fail)
    rw [← HW.out]
    obtain ⟨u0, hu0⟩ := ovr_self W
    rw [hu0]
    clear hu0
    go_wp2_with fail
    refine (ci.out _ _ rfl).mono ?_
    rintro e w1 ⟨rfl, hb1⟩
    obtain ⟨u1, rfl⟩ := ovr_next hb1
    clear hb1
    go_wp2_with (refine wpList_store_row rfl 38 _ _ rfl (w.heap.size) rfl _ _ (RrowW0.out _) _ rfl (one2 rfl rfl) rfl (by kernel_rfl) ?_)
    refine bodyPost_ret (results_cell_tmp rfl _ _ (w.heap.size) 38 _ (0, 0) _ rfl (setRow_same (RrowW0.out _)) Try.underlying38 rfl (by kernel_rfl)) rfl ?_
    exact ⟨by rw [hf.out]; rfl, below_setRow (HUW.out _) (by omega) _⟩
/-- The sums of the first k ranges' ends. -/
def addK (xs : List Rng) : Nat → Int × Int
  | 0 => (0, 0) | k + 1 => ((addK xs k).1 + (at0 xs k).lo, (addK xs k).2 + (at0 xs k).hi)
theorem addK_bd {xs : List Rng} (h : ∀ j, j < xs.length → rngOk (at0 xs j) = true) : ∀ k : Nat, k ≤ xs.length → -(1000000000000000 * (k : Int)) ≤ (addK xs k).1 ∧ (addK xs k).1 ≤ (addK xs k).2 ∧ (addK xs k).2 ≤ 1000000000000000 * (k : Int)
  | 0, _ => by simp [addK]
  | k + 1, hk => by
    obtain ⟨i1, i2, i3⟩ := addK_bd h k (by omega)
    have := rngOk_iff.1 (h k (by omega))
    simp only [addK]
    omega
theorem rngs_at {xs : List Rng} (h : rngsOk xs = true) {j : Nat} (hj : j < xs.length) : rngOk (at0 xs j) = true := by
  unfold rngsOk at h
  rw [Bool.not_eq_true', List.any_eq_false] at h
  have := h (at0 xs j) (by rw [at0_get hj]; exact List.getElem_mem hj)
  unfold badR at this
  simpa using this
def RetTw (w : World) (q : Int × Int) (e : Ending) (w' : World) : Prop := e = .returned (.tuple #[I q.1, I q.2]) ∧ Below w.heap.size w w'
set_option maxRecDepth 100000 in
set_option maxHeartbeats 1000000 in
theorem added_any (A : Option Addr) (c : Nat) (xs : List Rng) (w : World) (B : Nat) (hm : xs.length ≤ 1000) (hv : rngsOk xs = true) (hB : B ≤ w.heap.size) (hx : Rd w B 2 A xs.length (rR xs)) :
    Calls Try.prog 79 #[.slice A xs.length c] w (RetTw w (addK xs xs.length)) := by
  have HX : Hid (∀ u, Rd (ovr w u) B 2 A xs.length (rR xs)) := fun u => hx.below ((ovr_below w u).mono hB)
  obtain ⟨u0, hu0⟩ := ovr_self w
  have H0 := Lib.hid hu0
  have Hv := Lib.hid hv
  clear hx hB hu0 hv
  have HUw : Hid (∀ u, Below w.heap.size w (ovr w u)) := fun u => ovr_below _ _
  go_enter Try.func79, Try.ntmps79
  go_wp2_with fail
  go_loopw [2, 3, 8] (fun s t i wr => ∃ k : Nat, k ≤ xs.length ∧ i = .int .i64 k ∧ s = I (addK xs k).1 ∧ t = I (addK xs k).2 ∧ ∃ u, wr = ovr w u) (fun _ _ i _ => xs.length - (intOf i).toNat)
  case atStart => exact ⟨0, by omega, rfl, rfl, rfl, u0, H0.out⟩
  case round =>
    obtain ⟨k, hk, rfl, rfl, rfl, u, rfl⟩ := hrel
    by_cases hlt : k < xs.length
    · obtain ⟨b, o, rfl, _, e0, e1⟩ := (HX.out u).rng hlt
      have bd := addK_bd (fun j => rngs_at Hv.out) k hk
      have bd1 := addK_bd (fun j => rngs_at Hv.out) (k + 1) hlt
      have hs : Hid (addK xs (k + 1) = ((addK xs k).1 + (at0 xs k).lo, (addK xs k).2 + (at0 xs k).hi)) := rfl
      rw [hs.out] at bd1
      obtain ⟨p, hp⟩ : ∃ p, addK xs k = p := ⟨_, rfl⟩
      obtain ⟨q, hq⟩ : ∃ q, at0 xs k = q := ⟨_, rfl⟩
      rw [hp, hq] at hs bd1
      rw [hp] at bd
      rw [hp]
      rw [hq] at e0 e1
      have c1 : IntKind.i64.wrap (p.1 + q.lo) = p.1 + q.lo := IntWalk.i64_in _ (by simp only at bd1; omega)
      have c2 : IntKind.i64.wrap (p.2 + q.hi) = p.2 + q.hi := IntWalk.i64_in _ (by simp only at bd1; omega)
      clear bd bd1 hp hq
      go_upto_region 4 with (fail)
      obtain ⟨V, hV⟩ : ∃ V, V = ((ovr w u).alloc (.cells #[I q.lo, I q.hi] 38)) := ⟨_, rfl⟩
      have reV : ∀ v, ∃ x, ovr V v = ovr w x := fun v => ovr_re1 hV
      have rowV0 : V.heap[(ovr w u).heap.size]? = some (.cells #[I q.lo, I q.hi] 38 (0, 0)) := by rw [hV]; exact heap_last _ _ _ rfl
      have yV00 := ovr_cell (W := V) (b := (ovr w u).heap.size) (o := 0) (v := I q.lo) (by rw [cell_of_row _ _ _ _ _ _ rowV0]; rfl)
      have yV01 := ovr_cell (W := V) (b := (ovr w u).heap.size) (o := 1) (v := I q.hi) (by rw [cell_of_row _ _ _ _ _ _ rowV0]; rfl)
      have RrowV0 := Lib.hid (ovr_row rowV0)
      clear rowV0
      have HUV : Hid (∀ u, Below w.heap.size w (ovr V u)) := fun u => by obtain ⟨x, hx⟩ := reV u; rw [hx]; exact HUw.out x
      clear reV
      have HV := Lib.hid hV
      clear hV
      rw [← HV.out]
      clear e0 e1
      refine wp_region_below_lit (by kernel_rfl) (by kernel_rfl) ?_
      repeat (go_big_quiet_step (fail))
      refine wpQuiet_nil ?_
      intro w1 hb1
      obtain ⟨u1, rfl⟩ : ∃ u1, w1 = ovr w u1 := ⟨w1, ovr_of (by have := (HUV.out w1); rw [← ovr_of hb1] at this; exact this)⟩
      clear hb1
      go_wp2_with fail
      go_roundw
      case rel => exact ⟨k + 1, by omega, by go_num, by rw [hs.out], by rw [hs.out], u1, rfl⟩
      case measure => simp [intOf]; omega
    · obtain rfl : k = xs.length := by omega
      go_wp2_with fail
      go_ret2
      exact ⟨rfl, ovr_below _ _⟩
end Go.Proofs.Ytmadlmmfbpmebaa
