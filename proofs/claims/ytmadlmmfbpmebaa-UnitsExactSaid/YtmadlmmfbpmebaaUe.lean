/- The contracts of is, magnitude, product, cmp and over of package units. -/
import Derived.Test.YtmadlmmfbpmebaaUd
namespace Go.Proofs.Ytmadlmmfbpmebaa
open Go.RowKit
theorem heap_last (w : World) (o : Obj) (q : Nat) (hq : q = w.heap.size) : (w.alloc o).heap[q]? = some o := by subst hq; exact heap_alloc_new w o
theorem heap_before {w : World} {o x : Obj} {q : Nat} (h : w.heap[q]? = some x) : (w.alloc o).heap[q]? = some x :=
  (Below.heap_alloc w o q (Array.getElem?_eq_some_iff.1 h).1).trans h
theorem Rd_new {W : World} {q : Nat} {cs : Array Value} {t : TypeId} (hq : W.heap[q]? = some (.cells cs t (0, 0))) (sz n o : Nat) (g : Nat → Nat → Value) (h : ∀ k, k < n → ∀ j, j < sz → cs[o + k * sz + j]? = some (g k j)) :
    Rd W W.heap.size sz (some ⟨q, o, none⟩) n g := fun _ =>
  ⟨q, o, rfl, (Array.getElem?_eq_some_iff.1 hq).1, fun k hk j hj => by rw [cell_of_row W q _ cs t _ hq]; exact h k hk j hj⟩
theorem under2 {w W : World} {o : Obj} (h : Below (w.alloc o).heap.size (w.alloc o) W) : Below w.heap.size w W := ((Below.refl _ _).alloc (Nat.le_refl _) o).trans (h.mono (by simp))
/-- No number. -/
def outN (n : Int) : Bool := decide (n < -1000000000000000) || decide (1000000000000000 < n)
def isB (xs : List Int) : Bool := !(xs.any outN)
theorem outN_false {n : Int} : outN n = false ↔ -1000000000000000 ≤ n ∧ n ≤ 1000000000000000 := by
  unfold outN
  rw [Bool.or_eq_false_iff, decide_eq_false_iff_not, decide_eq_false_iff_not]
  omega
theorem isB_iff {xs : List Int} : isB xs = true ↔ ∀ x ∈ xs, -1000000000000000 ≤ x ∧ x ≤ 1000000000000000 := by
  unfold isB
  rw [Bool.not_eq_true', List.any_eq_false]
  constructor <;> intro h x hx
  · have := h x hx
    exact outN_false.1 (by simpa using this)
  · have := outN_false.2 (h x hx)
    rw [this]; decide
theorem is1_any (n : Int) (w : World) : Calls Try.prog 104 #[I n] w fun e w' => e = .returned (.bool (outN n)) ∧ w = w' := by
  show Calls _ _ _ _ fun e w' => e = .returned (.bool (decide (n < -1000000000000000) || decide (1000000000000000 < n))) ∧ w = w'
  go_enter Try.func104, Try.ntmps104
  go_wp2
  all_goals (go_ret; exact ⟨rfl, rfl⟩)
set_option maxHeartbeats 400000 in
theorem ix_is (A : Option Addr) (c : Nat) (xs : List Int) (w : World) (B : Nat) (hm : xs.length ≤ maxLen) (hx : Rd w B 1 A xs.length (rI xs)) :
    Calls Try.prog 109 #[.slice A xs.length c, .func (Fn.func 104) #[] #[]] w fun e w' => e = .returned (.int .i64 (ixOf outN xs)) ∧ w = w' := by
  unfold maxLen at hm
  have Hx := Lib.hid hx
  clear hx
  go_enter Try.func109, Try.ntmps109
  go_wp2
  go_loop [8] (fun i => ∃ k : Nat, k ≤ xs.length ∧ i = .int .i64 k ∧ ∀ j, j < k → outN (at0 xs j) = false) (fun i => xs.length - (intOf i).toNat)
  case atStart => exact ⟨0, by omega, rfl, by omega⟩
  case round =>
    obtain ⟨k, hk, rfl, hb⟩ := hrel
    have Hb := Lib.hid hb
    clear hb
    by_cases hlt : k < xs.length
    · obtain ⟨b, o, rfl, _, hxk⟩ := Hx.out.int hlt
      by_cases hp : outN (at0 xs k) = true
      · have hfin := Lib.hid (ixOf_at hlt hp Hb.out)
        go_wp2_with (go_at_call 104; refine (is1_any _ _).mono ?_; rintro e w' ⟨rfl, rfl⟩)
        go_ret
        exact ⟨ret_int hfin.out.symm, rfl⟩
      · have hp : outN (at0 xs k) = false := by simpa using hp
        go_wp2_with (go_at_call 104; refine (is1_any _ _).mono ?_; rintro e w' ⟨rfl, rfl⟩)
        go_round
        case rel => exact ⟨k + 1, by omega, by go_num, succ_case Hb.out hp⟩
        case measure => simp [intOf]; omega
    · have hfin : Hid (ixOf outN xs = -1) := ixOf_none0 fun j hj => Hb.out j (by omega)
      go_wp2
      go_ret
      exact ⟨ret_int hfin.out.symm, rfl⟩
set_option maxHeartbeats 400000 in
theorem is_any (A : Option Addr) (n c : Nat) (xs : List Int) (w : World) (B : Nat) (hn : n = xs.length) (hm : n ≤ maxLen) (hx : Rd w B 1 A n (rI xs)) :
    Calls Try.prog 67 #[.slice A n c] w fun e w' => e = .returned (.bool (isB xs)) ∧ w = w' := by
  subst hn
  have hfin := ixOf_any (p := outN) (xs := xs)
  have Hx := Lib.hid hx
  have hc : ∀ w, Rd w B 1 A xs.length (rI xs) → Calls Try.prog 74 #[.slice A xs.length c, .func (Fn.func 104) #[] #[]] w fun e w' => e = .returned (.bool (xs.any outN)) ∧ w = w' := fun w hx => by
    have Hx := Lib.hid hx
    clear hx
    go_enter Try.func74, Try.ntmps74
    go_wp2_with (go_at_call 109; refine (ix_is _ _ _ _ _ hm Hx.out).mono ?_; rintro e w' ⟨rfl, rfl⟩)
    go_ret
    exact ⟨rfl, rfl⟩
  have Hc := Lib.hid (hc w hx)
  clear hx hc
  go_enter Try.func67, Try.ntmps67
  go_wp2_with (go_at_call 74; refine Hc.out.mono ?_; rintro e w' ⟨rfl, rfl⟩)
  go_ret
  exact ⟨rfl, rfl⟩
/-- The size of a number, and whether it is below 0. -/
theorem mag_any (n : Int) (w : World) (h1 : -4611686018427387904 ≤ n ∧ n ≤ 4611686018427387904) : Calls Try.prog 105 #[I n] w fun e w' => e = .returned (.tuple #[.int .u64 (n.natAbs : Int), .bool (decide (n < 0))]) ∧ w = w' := by
  by_cases h : n < 0
  · have e1 : Hid (IntKind.u64.wrap (-n) = (n.natAbs : Int)) := by show _ = _; rw [IntKind.wrap_u64]; omega
    have e2 : Hid (decide (n < 0) = true) := decide_eq_true h
    have e3 : Hid (-n = (n.natAbs : Int)) := by show _ = _; omega
    go_enter Try.func105, Try.ntmps105
    go_wp2_with fail
    go_ret2
    exact ⟨by rw [e2.out]; first | (rw [← e1.out]; rfl) | (rw [← e3.out]; rfl), rfl⟩
  · have e2 : Hid (decide (n < 0) = false) := decide_eq_false h
    have e3 : Hid (n = (n.natAbs : Int)) := by show _ = _; omega
    go_enter Try.func105, Try.ntmps105
    go_wp2_with fail
    go_ret2
    exact ⟨by rw [e2.out, ← e3.out]; rfl, rfl⟩
/-- A number of two words. -/
abbrev wdArr (v : Int) : Array Value := #[.int .u64 ((v.natAbs / 18446744073709551616 : Nat) : Int), .int .u64 ((v.natAbs % 18446744073709551616 : Nat) : Int), .bool (decide (v < 0))]
abbrev wdV (v : Int) : Value := .agg (wdArr v)
theorem wd_one (v : Int) : ∀ x ∈ (wdArr v).toList, x.oneCell' = true := by intro x hx; simp at hx; rcases hx with rfl | rfl | rfl <;> rfl
theorem or_zero (v : Nat) : ((v / 18446744073709551616) ||| (v % 18446744073709551616) = 0) ↔ v = 0 := by
  rw [Nat.or_eq_zero_iff]
  omega
theorem drew_below (w : World) (n : Nat) : Below w.heap.size w (w.drewN n) := ⟨rfl, rfl, rfl, Nat.le_refl _, fun _ _ => rfl⟩
set_option maxRecDepth 100000 in
set_option maxHeartbeats 1000000 in
theorem product_any (a b : Int) (w : World) (ha : -4611686018427387904 ≤ a ∧ a ≤ 4611686018427387904) (hb : -4611686018427387904 ≤ b ∧ b ≤ 4611686018427387904) :
    Calls Try.prog 68 #[I a, I b] w fun e w' => e = .returned (wdV (a * b)) ∧ Below w.heap.size w w' := by
  have hz : (a * b).natAbs = a.natAbs * b.natAbs := Int.natAbs_mul a b
  obtain ⟨v, hv⟩ : ∃ v, a.natAbs * b.natAbs = v := ⟨_, rfl⟩
  have hA : a.natAbs < 18446744073709551616 := by omega
  have hB : b.natAbs < 18446744073709551616 := by omega
  have hc := mul64_any a.natAbs b.natAbs hA hB
  rw [hv] at hc
  have hv2 : v < 18446744073709551616 * 18446744073709551616 := by rw [← hv]; exact Nat.mul_lt_mul'' hA hB
  obtain ⟨vh, hvh⟩ : ∃ k, v / 18446744073709551616 = k := ⟨_, rfl⟩
  obtain ⟨vl, hvl⟩ : ∃ k, v % 18446744073709551616 = k := ⟨_, rfl⟩
  have hor : bits .or .u64 (vh : Int) (vl : Int) = ((vh ||| vl : Nat) : Int) :=
    bits_or_u64_nat _ _ (by rw [← hvh, Nat.div_lt_iff_lt_mul (by decide)]; exact hv2) (by rw [← hvl]; exact Nat.mod_lt _ (by decide))
  have hz0 := or_zero v
  rw [hvh, hvl] at hc hz0
  have Hz0 := Lib.hid hz0
  have Hvh := Lib.hid hvh
  have Hvl := Lib.hid hvl
  have Hor := Lib.hid hor
  have Hc := Lib.hid hc
  have Hv : Hid ((a * b).natAbs = v) := by show _ = _; rw [hz, hv]
  have hm1 := mag_any a w ha
  have HA := Lib.hid ha
  have HB := Lib.hid hb
  clear hz hv hA hB hc hv2 hor hm1 ha hb hvh hvl hz0
  go_enter Try.func68, Try.ntmps68
  go_wp2_with fail
  refine (mag_any a _ HA.out).mono ?_
  rintro e w' ⟨rfl, rfl⟩
  go_wp2_with fail
  refine (mag_any b _ HB.out).mono ?_
  rintro e w' ⟨rfl, rfl⟩
  go_wp2_with fail
  refine (Hc.out _).mono ?_
  rintro e w' ⟨rfl, rfl⟩
  have hab : (a * b).natAbs = a.natAbs * b.natAbs := Int.natAbs_mul a b
  have hv := Hv.out
  by_cases s1 : a < 0 <;> by_cases s2 : b < 0
  · have HM : Hid (decide (a * b < 0) = false) := decide_eq_false (by have := Int.mul_pos_of_neg_of_neg s1 s2; omega)
    have d1 : decide (a < 0) = true := decide_eq_true s1
    have d2 : decide (b < 0) = true := decide_eq_true s2
    rw [d1, d2]
    clear s1 s2 d1 d2 hab hv
    go_wp2_with fail
    refine bodyPost_ret (results_cell_only rfl _ _ w.heap.size 104 #[.int .u64 (vh : Int), .int .u64 (vl : Int), .bool false] (0, 0) _ rfl (heap_last _ _ _ rfl) Try.underlying104 rfl (by kernel_rfl)) rfl ?_
    exact ⟨by rw [wdV, wdArr, Hv.out, HM.out, Hvh.out, Hvl.out], (Below.refl _ _).alloc (Nat.le_refl _) _⟩
  · have d1 : decide (a < 0) = true := decide_eq_true s1
    have d2 : decide (b < 0) = false := decide_eq_false s2
    rw [d1, d2]
    have h0 : a * b ≤ 0 := Int.mul_nonpos_of_nonpos_of_nonneg (by omega) (by omega)
    by_cases hv0 : v = 0
    · have HM : Hid (decide (a * b < 0) = false) := decide_eq_false (by omega)
      have e0 : (bits .or .u64 (vh : Int) (vl : Int) != 0) = false := by
        rw [Hor.out, Hz0.out.2 hv0]; rfl
      clear s1 s2 d1 d2 hab hv h0 hv0
      go_wp2_with fail
      refine bodyPost_ret (results_cell_only rfl _ _ w.heap.size 104 #[.int .u64 (vh : Int), .int .u64 (vl : Int), .bool false] (0, 0) _ rfl (heap_last _ _ _ rfl) Try.underlying104 rfl (by kernel_rfl)) rfl ?_
      exact ⟨by rw [wdV, wdArr, Hv.out, HM.out, Hvh.out, Hvl.out], (Below.refl _ _).alloc (Nat.le_refl _) _⟩
    · have HM : Hid (decide (a * b < 0) = true) := decide_eq_true (by omega)
      have e0 : (bits .or .u64 (vh : Int) (vl : Int) != 0) = true := by
        rw [Hor.out, bne_iff_ne]
        intro h
        exact hv0 (Hz0.out.1 (Int.ofNat_inj.1 h))
      clear s1 s2 d1 d2 hab hv h0 hv0
      go_wp2_with fail
      refine bodyPost_ret (results_cell_only rfl _ _ w.heap.size 104 #[.int .u64 (vh : Int), .int .u64 (vl : Int), .bool true] (0, 0) _ rfl (heap_last _ _ _ rfl) Try.underlying104 rfl (by kernel_rfl)) rfl ?_
      exact ⟨by rw [wdV, wdArr, Hv.out, HM.out, Hvh.out, Hvl.out], (Below.refl _ _).alloc (Nat.le_refl _) _⟩
  · have d1 : decide (a < 0) = false := decide_eq_false s1
    have d2 : decide (b < 0) = true := decide_eq_true s2
    rw [d1, d2]
    have h0 : a * b ≤ 0 := Int.mul_nonpos_of_nonneg_of_nonpos (by omega) (by omega)
    by_cases hv0 : v = 0
    · have HM : Hid (decide (a * b < 0) = false) := decide_eq_false (by omega)
      have e0 : (bits .or .u64 (vh : Int) (vl : Int) != 0) = false := by
        rw [Hor.out, Hz0.out.2 hv0]; rfl
      clear s1 s2 d1 d2 hab hv h0 hv0
      go_wp2_with fail
      refine bodyPost_ret (results_cell_only rfl _ _ w.heap.size 104 #[.int .u64 (vh : Int), .int .u64 (vl : Int), .bool false] (0, 0) _ rfl (heap_last _ _ _ rfl) Try.underlying104 rfl (by kernel_rfl)) rfl ?_
      exact ⟨by rw [wdV, wdArr, Hv.out, HM.out, Hvh.out, Hvl.out], (Below.refl _ _).alloc (Nat.le_refl _) _⟩
    · have HM : Hid (decide (a * b < 0) = true) := decide_eq_true (by omega)
      have e0 : (bits .or .u64 (vh : Int) (vl : Int) != 0) = true := by
        rw [Hor.out, bne_iff_ne]
        intro h
        exact hv0 (Hz0.out.1 (Int.ofNat_inj.1 h))
      clear s1 s2 d1 d2 hab hv h0 hv0
      go_wp2_with fail
      refine bodyPost_ret (results_cell_only rfl _ _ w.heap.size 104 #[.int .u64 (vh : Int), .int .u64 (vl : Int), .bool true] (0, 0) _ rfl (heap_last _ _ _ rfl) Try.underlying104 rfl (by kernel_rfl)) rfl ?_
      exact ⟨by rw [wdV, wdArr, Hv.out, HM.out, Hvh.out, Hvl.out], (Below.refl _ _).alloc (Nat.le_refl _) _⟩
  · have HM : Hid (decide (a * b < 0) = false) := decide_eq_false (by have := Int.mul_nonneg (show 0 ≤ a by omega) (show 0 ≤ b by omega); omega)
    have d1 : decide (a < 0) = false := decide_eq_false s1
    have d2 : decide (b < 0) = false := decide_eq_false s2
    rw [d1, d2]
    clear s1 s2 d1 d2 hab hv
    go_wp2_with fail
    refine bodyPost_ret (results_cell_only rfl _ _ w.heap.size 104 #[.int .u64 (vh : Int), .int .u64 (vl : Int), .bool false] (0, 0) _ rfl (heap_last _ _ _ rfl) Try.underlying104 rfl (by kernel_rfl)) rfl ?_
    exact ⟨by rw [wdV, wdArr, Hv.out, HM.out, Hvh.out, Hvl.out], (Below.refl _ _).alloc (Nat.le_refl _) _⟩
end Go.Proofs.Ytmadlmmfbpmebaa
