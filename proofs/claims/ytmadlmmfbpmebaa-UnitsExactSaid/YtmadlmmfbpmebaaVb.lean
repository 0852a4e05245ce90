/- The contract of value of package units. -/
import Derived.Test.YtmadlmmfbpmebaaVa
namespace Go.Proofs.Ytmadlmmfbpmebaa
open Go.RowKit
theorem rng_all {w : World} {B n : Nat} {A : Option Addr} {xs : List Rng} (h : Rd w B 2 A n (rR xs)) (hn : 0 < n) : ∃ b o, A = some ⟨b, o, none⟩ ∧ ∀ k, k < n → w.cell? ⟨b, o + k * 2, none⟩ = some (I (at0 xs k).lo) ∧ w.cell? ⟨b, o + k * 2 + 1, none⟩ = some (I (at0 xs k).hi) := by
  obtain ⟨b, o, e, _, hc⟩ := h hn
  exact ⟨b, o, e, fun k hk => ⟨hc k hk 0 (by omega), hc k hk 1 (by omega)⟩⟩
structure Tab (t : List Rng) : Prop where
  n2 : 2 ≤ t.length
  n60 : t.length ≤ 60
  x : ∀ j, j < t.length → -1000000000000 ≤ (at0 t j).lo ∧ (at0 t j).lo ≤ 1000000000000
  y : ∀ j, j < t.length → -1000000000000 ≤ (at0 t j).hi ∧ (at0 t j).hi ≤ 1000000000000
  asc : Asc t
theorem asc_of {t : List Rng} (h : ∀ k, 0 < k → k < t.length → (at0 t (k - 1)).lo < (at0 t k).lo) : Asc t := by
  intro i j hij
  induction j with
  | zero => omega
  | succ j ih =>
    intro hj
    have h1 := h (j + 1) (by omega) hj
    rw [show j + 1 - 1 = j by omega] at h1
    rcases Nat.lt_or_ge i j with h2 | h2
    · have := ih h2 (by omega); omega
    · obtain rfl : i = j := by omega
      exact h1
theorem tab_iff {t : List Rng} : tabB t = true ↔ Tab t := by
  unfold tabB
  rw [Bool.and_eq_true, Bool.and_eq_true, decide_eq_true_eq, decide_eq_true_eq, List.all_eq_true]
  constructor
  · rintro ⟨h, h2, h3⟩
    have hk : ∀ k, k < t.length → (wiC (at0 t k).lo = true ∧ wiC (at0 t k).hi = true ∧ (k = 0 ∨ (at0 t (k - 1)).lo < (at0 t k).lo)) := fun k hk => by
      have := h k (List.mem_range.2 hk)
      unfold knB at this
      simpa using this
    exact ⟨h2, h3, fun j hj => wiC_iff.1 (hk j hj).1, fun j hj => wiC_iff.1 (hk j hj).2.1, asc_of fun k h0 hkl => by rcases (hk k hkl).2.2 with h | h <;> omega⟩
  · intro h
    refine ⟨fun k hk => ?_, h.n2, h.n60⟩
    have hk := List.mem_range.1 hk
    unfold knB
    rw [wiC_iff.2 (h.x k hk), wiC_iff.2 (h.y k hk)]
    rcases Nat.eq_zero_or_pos k with h0 | h0
    · rw [decide_eq_true h0]; rfl
    · rw [decide_eq_true (h.asc (k - 1) k (by omega) hk)]; simp
/-- The first place that is not below x. -/
def plc : List Rng → Int → Nat
  | [], _ => 0 | k :: r, x => if k.lo < x then plc r x + 1 else 0
theorem plc_of : ∀ {t : List Rng} {x : Int} {i : Nat}, BsAt t x i → plc t x = i
  | [], x, i, h => by have := h.1; simp at this; subst this; rfl
  | k :: r, x, 0, h => by
    have h1 := h.2.2 0 (Nat.le_refl _) (by simp)
    have h1 : x ≤ k.lo := h1
    rw [plc, if_neg (by omega)]
  | k :: r, x, i + 1, h => by
    have h1 := h.2.1 0 (by omega)
    have h1 : k.lo < x := h1
    rw [plc, if_pos h1]
    have h0 := h.1
    rw [plc_of (t := r) (i := i) ⟨by simpa using h0, fun j hj => by have := h.2.1 (j + 1) (by omega); simpa [at0] using this, fun j hj hjl => by have := h.2.2 (j + 1) (by omega) (by simpa using hjl); simpa [at0] using this⟩]
/-- The value of a table, rounded outwards. -/
def valF (t : List Rng) (x : Int) : Rng := atF (at0 t (max (plc t x) 1 - 1)) (at0 t (max (plc t x) 1)) x
theorem place_ok {t : List Rng} {x : Int} {i m : Nat} (h : Tab t) (h0 : (at0 t 0).lo ≤ x) (h1 : x ≤ (at0 t (t.length - 1)).lo) (hi : BsAt t x i) (hm : m + 1 = max i 1) : m + 1 < t.length ∧ LnOk (at0 t m) (at0 t (m + 1)) x := by
  have h2 := h.n2
  have hil : i < t.length := by
    rcases Nat.lt_or_ge i t.length with h3 | h3
    · exact h3
    · have := hi.2.1 (t.length - 1) (by omega); omega
  have hml : m + 1 < t.length := by omega
  have a1 := h.x m (by omega)
  have a2 := h.x (m + 1) hml
  refine ⟨hml, a1.1, h.y m (by omega), a2.2, h.y (m + 1) hml, h.asc m (m + 1) (by omega) hml, ?_, ?_⟩
  · rcases Nat.eq_zero_or_pos i with h3 | h3
    · obtain rfl : m = 0 := by omega
      exact h0
    · obtain rfl : i = m + 1 := by omega
      have := hi.2.1 m (by omega); omega
  · rcases Nat.eq_zero_or_pos i with h3 | h3
    · obtain rfl : m = 0 := by omega
      have := hi.2.2 0 (by omega) (by omega)
      have := h.asc 0 (0 + 1) (by omega) hml
      omega
    · obtain rfl : i = m + 1 := by omega
      exact hi.2.2 (m + 1) (Nat.le_refl _) hml
set_option maxRecDepth 100000 in
set_option maxHeartbeats 4000000 in
theorem value_any (A : Option Addr) (n c : Nat) (t : List Rng) (x : Int) (w : World) (B : Nat) (hn : n = t.length) (ht : Tab t) (h0 : (at0 t 0).lo ≤ x) (h1 : x ≤ (at0 t (t.length - 1)).lo) (hB : B ≤ w.heap.size) (hx : Rd w B 2 A n (rR t)) :
    Calls Try.prog 114 #[.slice A n c, I x] w fun e w' => e = .returned ((valF t x).val) ∧ Below w.heap.size w w' := by
  subst hn
  have HX : Hid (∀ W', Below w.heap.size w W' → Rd W' B 2 A t.length (rR t) ∧ B ≤ W'.heap.size) := fun W' h => ⟨hx.below (h.mono hB), Nat.le_trans hB h.size⟩
  have cs : Hid (∀ W', Rd W' B 2 A t.length (rR t) ∧ B ≤ W'.heap.size → Calls Try.prog 126 #[.slice A t.length c, I x, .func (Fn.func 127) #[] #[]] W' (RetBs t x W')) := fun W' h => search_any A t.length c t x W' B rfl (by have := ht.n60; omega) ht.asc h.2 h.1
  have Hp := Lib.hid (And.intro ht (And.intro h0 h1))
  have ln : t.length ≤ 60 := ht.n60
  clear hx hB ht h0 h1
  obtain ⟨W, hW⟩ : ∃ W, W = (w.alloc (.cells #[I 0, I 0] 38)) := ⟨_, rfl⟩
  have rowW0 : W.heap[w.heap.size]? = some (.cells #[I 0, I 0] 38 (0, 0)) := by rw [hW]; exact heap_last _ _ _ rfl
  have yW00 := ovr_cell (W := W) (b := w.heap.size) (o := 0) (v := I 0) (by rw [cell_of_row _ _ _ _ _ _ rowW0]; rfl)
  have yW01 := ovr_cell (W := W) (b := w.heap.size) (o := 1) (v := I 0) (by rw [cell_of_row _ _ _ _ _ _ rowW0]; rfl)
  have RrowW0 := Lib.hid (ovr_row rowW0)
  clear rowW0
  have HUW : Hid (∀ u, Below w.heap.size w (ovr W u)) := U1 hW
  have HW := Lib.hid hW
  clear hW
  go_enter Try.func114, Try.ntmps114
  go_upto_region 1 with (fail)
  rw [← HW.out]
  obtain ⟨u0, hu0⟩ := ovr_self W
  rw [hu0]
  clear hu0
  go_wp2_with fail
  refine (cs.out _ (HX.out _ (HUW.out _))).mono ?_
  rintro e w1 ⟨i, bf, rfl, hbs, hb1⟩
  obtain ⟨u1, rfl⟩ := ovr_next hb1
  clear hb1
  obtain ⟨m, hm⟩ : ∃ m : Nat, m + 1 = max i 1 := ⟨max i 1 - 1, by omega⟩
  obtain ⟨hml, hln⟩ := place_ok Hp.out.1 Hp.out.2.1 Hp.out.2.2 hbs hm
  have hv : Hid (valF t x = atF (at0 t m) (at0 t (m + 1)) x) := by
    show _ = _
    rw [valF, plc_of hbs, ← hm]; rfl
  have cv := Lib.hid fun w => at_any (at0 t m) (at0 t (m + 1)) x w hln
  rw [← hv.out] at cv
  have hmi : max (i : Int) 1 = ((m + 1 : Nat) : Int) := by omega
  clear hbs hln hm
  go_upto_region 3 with (fail)
  have hbX := ovr_below W u1
  obtain ⟨X, hX⟩ : ∃ X, X = ovr W u1 := ⟨_, rfl⟩
  rw [← hX] at hbX
  rw [← hX]
  clear hX
  have reX : ∀ v, ∃ x, ovr X v = ovr W x := fun v => ovr_reB hbX v
  replace yW00 := tr_cell reX yW00
  replace yW01 := tr_cell reX yW01
  replace RrowW0 := Lib.hid (tr_row reX RrowW0.out)
  have HUX : Hid (∀ u, Below w.heap.size w (ovr X u)) := fun u => by obtain ⟨x, hx⟩ := reX u; rw [hx]; exact HUW.out x
  clear reX hbX
  obtain ⟨b, o, rfl, hc⟩ := rng_all (HX.out X (by have := HUX.out X; rwa [← ovr_of (Below.refl _ _)] at this)).1 (show 0 < t.length by omega)
  have e0 := ovr_cell (hc m (by omega)).1
  have e1 := ovr_cell (hc m (by omega)).2
  have e2 := ovr_cell (hc (m + 1) (by omega)).1
  have e3 := ovr_cell (hc (m + 1) (by omega)).2
  have n1 : IntKind.i64.wrap ((m : Int) + 1 - 1) = (m : Int) := by rw [show (m : Int) + 1 - 1 = (m : Int) by omega]; exact IntWalk.i64_in _ (by omega)
  have n2 : (0 : Int) ≤ (m : Int) + 1 := by omega
  have n3 : ((m : Int) + 1).toNat = m + 1 := by omega
  have n4 : (m : Int) + 1 < (t.length : Int) := by omega
  have n5 : m < t.length := by omega
  clear hc hmi
  refine wp_region_seq 12 (fun j => if j = 11 then some (fun u _ => u = (valF t x).val) else none) (by kernel_rfl) (by kernel_rfl) (by kernel_rfl) (by kernel_rfl) ?_
  simp only [List.take_succ_cons, List.take_zero, List.drop_succ_cons, List.drop_zero]
  repeat (refine wpG_one rfl rfl rfl ?_; intro K hK; go_big_quiet_op; go_big_quiet_on)
  refine wpG_make (fun u _ => u = (valF t x).val) rfl rfl (fun w' hw' _ => ?_) (fun u hu => ?_)
  · go_simp
    exact call_grow (cv.out _)
  obtain ⟨_, _, rfl⟩ := hu
  simp only [Act.put, List.setIfInBounds_toArray, List.set_cons_zero, List.set_cons_succ]
  repeat (refine wpG_one rfl rfl rfl ?_; intro K hK; go_big_quiet_op; go_big_quiet_on)
  refine wpG_nil (fun w5 hw5 hG => ?_)
  clear hG
  obtain ⟨u9, rfl⟩ : ∃ y, w5 = ovr X y := ⟨w5, ovr_of hw5.le⟩
  clear hw5
  refine wpTail_cons ?_
  refine wp_store_row 38 _ _ rfl (w.heap.size) rfl _ _ (RrowW0.out _) _ rfl (one2 rfl rfl) rfl (by kernel_rfl) ?_
  refine wpTail_nil ?_
  simp only [Act.put]
  go_wp2_with fail
  refine bodyPost_ret (results_cell_only rfl _ _ (w.heap.size) 38 _ (0, 0) _ rfl (setRow_same (RrowW0.out _)) Try.underlying38 rfl (by kernel_rfl)) rfl ?_
  exact ⟨rfl, below_setRow (HUX.out _) (by omega) _⟩
end Go.Proofs.Ytmadlmmfbpmebaa
