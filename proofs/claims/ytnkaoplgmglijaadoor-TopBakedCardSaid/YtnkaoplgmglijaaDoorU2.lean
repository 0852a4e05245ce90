/- The contracts of is, magnitude, product, cmp and over of package units. -/
import Derived.Test.YtnkaoplgmglijaaDoorU1
namespace Go.Proofs.YtnkaoplgmglijaaDoor.Un
open Go.RowKit
theorem heap_last (w : World) (o : Obj) (q : Nat) (hq : q = w.heap.size) : (w.alloc o).heap[q]? = some o := by subst hq; exact heap_alloc_new w o
theorem heap_before {w : World} {o x : Obj} {q : Nat} (h : w.heap[q]? = some x) : (w.alloc o).heap[q]? = some x :=
 (Below.heap_alloc w o q (Array.getElem?_eq_some_iff.1 h).1).trans h
theorem Rd_new {W : World} {q : Nat} {cs : Array Value} {t : TypeId} (hq : W.heap[q]? = some (.cells cs t (0, 0))) (sz n o : Nat) (g : Nat → Nat → Value) (h : ∀ k, k < n → ∀ j, j < sz → cs[o + k * sz + j]? = some (g k j)) :
 Rd W W.heap.size sz (some ⟨q, o, none⟩) n g := fun _ =>
 ⟨q, o, rfl, (Array.getElem?_eq_some_iff.1 hq).1, fun k hk j hj => by rw [cell_of_row W q _ cs t _ hq]; exact h k hk j hj⟩
theorem under2 {w W : World} {o : Obj} (h : Below (w.alloc o).heap.size (w.alloc o) W) : Below w.heap.size w W := ((Below.refl _ _).alloc (Nat.le_refl _) o).trans (h.mono (by simp))
def outN (n : Int) : Bool := decide (n < -1000000000000000) || decide (1000000000000000 < n)
def isB (xs : List Int) : Bool := !(xs.any outN)
theorem outN_false {n : Int} : outN n = false ↔ -1000000000000000 ≤ n ∧ n ≤ 1000000000000000 := by
 unfold outN
 rw [Bool.or_eq_false_iff, decide_eq_false_iff_not, decide_eq_false_iff_not]
 omega
theorem isB_iff {xs : List Int} : isB xs = true ↔ ∀ x ∈ xs, -1000000000000000 ≤ x ∧ x ≤ 1000000000000000 := by
 unfold isB
 rw [Bool.not_eq_true', List.any_eq_false]
 constructor <;> intro h x hx
 · have := h x hx
   exact outN_false.1 (by simpa using this)
 · have := outN_false.2 (h x hx)
   rw [this]; decide
theorem is1_any (n : Int) (w : World) : Calls Tryd.prog 112 #[I n] w fun e w' => e = .returned (.bool (outN n)) ∧ w = w' := by
 show Calls _ _ _ _ fun e w' => e = .returned (.bool (decide (n < -1000000000000000) || decide (1000000000000000 < n))) ∧ w = w'
 go_enter Tryd.func112, Tryd.ntmps112
 go_wp2
 all_goals (go_ret; exact ⟨rfl, rfl⟩)
set_option maxHeartbeats 400000 in
theorem ix_is (A : Option Addr) (c : Nat) (xs : List Int) (w : World) (B : Nat) (hm : xs.length ≤ maxLen) (hx : Rd w B 1 A xs.length (rI xs)) :
 Calls Tryd.prog 111 #[.slice A xs.length c, .func (Fn.func 112) #[] #[]] w fun e w' => e = .returned (.int .i64 (ixOf outN xs)) ∧ w = w' := by
 unfold maxLen at hm
 have Hx := Lib.hid hx
 clear hx
 go_enter Tryd.func111, Tryd.ntmps111
 go_wp2
 go_loop [8] (fun i => ∃ k : Nat, k ≤ xs.length ∧ i = .int .i64 k ∧ ∀ j, j < k → outN (at0 xs j) = false) (fun i => xs.length - (intOf i).toNat)
 case atStart => exact ⟨0, by omega, rfl, by omega⟩
 case round =>
  obtain ⟨k, hk, rfl, hb⟩ := hrel
  have Hb := Lib.hid hb
  clear hb
  by_cases hlt : k < xs.length
  · obtain ⟨b, o, rfl, _, hxk⟩ := Hx.out.int hlt
    by_cases hp : outN (at0 xs k) = true
    · have hfin := Lib.hid (ixOf_at hlt hp Hb.out)
      go_wp2_with (go_at_call 112; refine (is1_any _ _).mono ?_; rintro e w' ⟨rfl, rfl⟩)
      go_ret
      exact ⟨ret_int hfin.out.symm, rfl⟩
    · have hp : outN (at0 xs k) = false := by simpa using hp
      go_wp2_with (go_at_call 112; refine (is1_any _ _).mono ?_; rintro e w' ⟨rfl, rfl⟩)
      go_round
      case rel => exact ⟨k + 1, by omega, by go_num, succ_case Hb.out hp⟩
      case measure => simp [intOf]; omega
  · have hfin : Hid (ixOf outN xs = -1) := ixOf_none0 fun j hj => Hb.out j (by omega)
    go_wp2
    go_ret
    exact ⟨ret_int hfin.out.symm, rfl⟩
set_option maxHeartbeats 400000 in
theorem is_any (A : Option Addr) (n c : Nat) (xs : List Int) (w : World) (B : Nat) (hn : n = xs.length) (hm : n ≤ maxLen) (hx : Rd w B 1 A n (rI xs)) :
 Calls Tryd.prog 106 #[.slice A n c] w fun e w' => e = .returned (.bool (isB xs)) ∧ w = w' := by
 subst hn
 have hfin := ixOf_any (p := outN) (xs := xs)
 have Hx := Lib.hid hx
 have hc : ∀ w, Rd w B 1 A xs.length (rI xs) → Calls Tryd.prog 104 #[.slice A xs.length c, .func (Fn.func 112) #[] #[]] w fun e w' => e = .returned (.bool (xs.any outN)) ∧ w = w' := fun w hx => by
  have Hx := Lib.hid hx
  clear hx
  go_enter Tryd.func104, Tryd.ntmps104
  go_wp2_with (go_at_call 111; refine (ix_is _ _ _ _ _ hm Hx.out).mono ?_; rintro e w' ⟨rfl, rfl⟩)
  go_ret
  exact ⟨rfl, rfl⟩
 have Hc := Lib.hid (hc w hx)
 clear hx hc
 go_enter Tryd.func106, Tryd.ntmps106
 go_wp2_with (go_at_call 104; refine Hc.out.mono ?_; rintro e w' ⟨rfl, rfl⟩)
 go_ret
 exact ⟨rfl, rfl⟩
theorem mag_any (n : Int) (w : World) (h1 : -4611686018427387904 ≤ n ∧ n ≤ 4611686018427387904) : Calls Tryd.prog 113 #[I n] w fun e w' => e = .returned (.tuple #[.int .u64 (n.natAbs : Int), .bool (decide (n < 0))]) ∧ w = w' := by
 by_cases h : n < 0
 · have e1 : Hid (IntKind.u64.wrap (-n) = (n.natAbs : Int)) := by show _ = _; rw [IntKind.wrap_u64]; omega
   have e2 : Hid (decide (n < 0) = true) := decide_eq_true h
   have e3 : Hid (-n = (n.natAbs : Int)) := by show _ = _; omega
   go_enter Tryd.func113, Tryd.ntmps113
   go_wp2_with fail
   go_ret2
   exact ⟨by rw [e2.out]; first | (rw [← e1.out]; rfl) | (rw [← e3.out]; rfl), rfl⟩
 · have e2 : Hid (decide (n < 0) = false) := decide_eq_false h
   have e3 : Hid (n = (n.natAbs : Int)) := by show _ = _; omega
   go_enter Tryd.func113, Tryd.ntmps113
   go_wp2_with fail
   go_ret2
   exact ⟨by rw [e2.out, ← e3.out]; rfl, rfl⟩
abbrev wdArr (v : Int) : Array Value := #[.int .u64 ((v.natAbs / 18446744073709551616 : Nat) : Int), .int .u64 ((v.natAbs % 18446744073709551616 : Nat) : Int), .bool (decide (v < 0))]
abbrev wdV (v : Int) : Value := .agg (wdArr v)
theorem wd_one (v : Int) : ∀ x ∈ (wdArr v).toList, x.oneCell' = true := by intro x hx; simp at hx; rcases hx with rfl | rfl | rfl <;> rfl
theorem or_zero (v : Nat) : ((v / 18446744073709551616) ||| (v % 18446744073709551616) = 0) ↔ v = 0 := by
 rw [Nat.or_eq_zero_iff]
 omega
theorem drew_below (w : World) (n : Nat) : Below w.heap.size w (w.drewN n) := ⟨rfl, rfl, rfl, Nat.le_refl _, fun _ _ => rfl⟩
set_option maxRecDepth 100000 in
set_option maxHeartbeats 1000000 in
theorem product_any (a b : Int) (w : World) (ha : -4611686018427387904 ≤ a ∧ a ≤ 4611686018427387904) (hb : -4611686018427387904 ≤ b ∧ b ≤ 4611686018427387904) :
 Calls Tryd.prog 107 #[I a, I b] w fun e w' => e = .returned (wdV (a * b)) ∧ Below w.heap.size w w' := by
 have hz : (a * b).natAbs = a.natAbs * b.natAbs := Int.natAbs_mul a b
 obtain ⟨v, hv⟩ : ∃ v, a.natAbs * b.natAbs = v := ⟨_, rfl⟩
 have hA : a.natAbs < 18446744073709551616 := by omega
 have hB : b.natAbs < 18446744073709551616 := by omega
 have hc := mul64_any a.natAbs b.natAbs hA hB
 rw [hv] at hc
 have hv2 : v < 18446744073709551616 * 18446744073709551616 := by rw [← hv]; exact Nat.mul_lt_mul'' hA hB
 obtain ⟨vh, hvh⟩ : ∃ k, v / 18446744073709551616 = k := ⟨_, rfl⟩
 obtain ⟨vl, hvl⟩ : ∃ k, v % 18446744073709551616 = k := ⟨_, rfl⟩
 have hor : bits .or .u64 (vh : Int) (vl : Int) = ((vh ||| vl : Nat) : Int) :=
  bits_or_u64_nat _ _ (by rw [← hvh, Nat.div_lt_iff_lt_mul (by decide)]; exact hv2) (by rw [← hvl]; exact Nat.mod_lt _ (by decide))
 have hz0 := or_zero v
 rw [hvh, hvl] at hc hz0
 have Hz0 := Lib.hid hz0
 have Hvh := Lib.hid hvh
 have Hvl := Lib.hid hvl
 have Hor := Lib.hid hor
 have Hc := Lib.hid hc
 have Hv : Hid ((a * b).natAbs = v) := by show _ = _; rw [hz, hv]
 have hm1 := mag_any a w ha
 have HA := Lib.hid ha
 have HB := Lib.hid hb
 clear hz hv hA hB hc hv2 hor hm1 ha hb hvh hvl hz0
 go_enter Tryd.func107, Tryd.ntmps107
 go_wp2_with fail
 refine (mag_any a _ HA.out).mono ?_
 rintro e w' ⟨rfl, rfl⟩
 go_wp2_with fail
 refine (mag_any b _ HB.out).mono ?_
 rintro e w' ⟨rfl, rfl⟩
 go_wp2_with fail
 refine (Hc.out _).mono ?_
 rintro e w' ⟨rfl, rfl⟩
 have hab : (a * b).natAbs = a.natAbs * b.natAbs := Int.natAbs_mul a b
 have hv := Hv.out
 by_cases s1 : a < 0 <;> by_cases s2 : b < 0
 · have HM : Hid (decide (a * b < 0) = false) := decide_eq_false (by have := Int.mul_pos_of_neg_of_neg s1 s2; omega)
   have d1 : decide (a < 0) = true := decide_eq_true s1
   have d2 : decide (b < 0) = true := decide_eq_true s2
   rw [d1, d2]
   clear s1 s2 d1 d2 hab hv
   go_wp2_with fail
   refine bodyPost_ret (results_cell_only rfl _ _ w.heap.size 196 #[.int .u64 (vh : Int), .int .u64 (vl : Int), .bool false] (0, 0) _ rfl (heap_last _ _ _ rfl) Tryd.underlying196 rfl (by kernel_rfl)) rfl ?_
   exact ⟨by rw [wdV, wdArr, Hv.out, HM.out, Hvh.out, Hvl.out], (Below.refl _ _).alloc (Nat.le_refl _) _⟩
 · have d1 : decide (a < 0) = true := decide_eq_true s1
   have d2 : decide (b < 0) = false := decide_eq_false s2
   rw [d1, d2]
   have h0 : a * b ≤ 0 := Int.mul_nonpos_of_nonpos_of_nonneg (by omega) (by omega)
   by_cases hv0 : v = 0
   · have HM : Hid (decide (a * b < 0) = false) := decide_eq_false (by omega)
     have e0 : (bits .or .u64 (vh : Int) (vl : Int) != 0) = false := by
        rw [Hor.out, Hz0.out.2 hv0]; rfl
     clear s1 s2 d1 d2 hab hv h0 hv0
     go_wp2_with fail
     refine bodyPost_ret (results_cell_only rfl _ _ w.heap.size 196 #[.int .u64 (vh : Int), .int .u64 (vl : Int), .bool false] (0, 0) _ rfl (heap_last _ _ _ rfl) Tryd.underlying196 rfl (by kernel_rfl)) rfl ?_
     exact ⟨by rw [wdV, wdArr, Hv.out, HM.out, Hvh.out, Hvl.out], (Below.refl _ _).alloc (Nat.le_refl _) _⟩
   · have HM : Hid (decide (a * b < 0) = true) := decide_eq_true (by omega)
     have e0 : (bits .or .u64 (vh : Int) (vl : Int) != 0) = true := by
        rw [Hor.out, bne_iff_ne]
        intro h
        exact hv0 (Hz0.out.1 (Int.ofNat_inj.1 h))
     clear s1 s2 d1 d2 hab hv h0 hv0
     go_wp2_with fail
     refine bodyPost_ret (results_cell_only rfl _ _ w.heap.size 196 #[.int .u64 (vh : Int), .int .u64 (vl : Int), .bool true] (0, 0) _ rfl (heap_last _ _ _ rfl) Tryd.underlying196 rfl (by kernel_rfl)) rfl ?_
     exact ⟨by rw [wdV, wdArr, Hv.out, HM.out, Hvh.out, Hvl.out], (Below.refl _ _).alloc (Nat.le_refl _) _⟩
 · have d1 : decide (a < 0) = false := decide_eq_false s1
   have d2 : decide (b < 0) = true := decide_eq_true s2
   rw [d1, d2]
   have h0 : a * b ≤ 0 := Int.mul_nonpos_of_nonneg_of_nonpos (by omega) (by omega)
   by_cases hv0 : v = 0
   · have HM : Hid (decide (a * b < 0) = false) := decide_eq_false (by omega)
     have e0 : (bits .or .u64 (vh : Int) (vl : Int) != 0) = false := by
        rw [Hor.out, Hz0.out.2 hv0]; rfl
     clear s1 s2 d1 d2 hab hv h0 hv0
     go_wp2_with fail
     refine bodyPost_ret (results_cell_only rfl _ _ w.heap.size 196 #[.int .u64 (vh : Int), .int .u64 (vl : Int), .bool false] (0, 0) _ rfl (heap_last _ _ _ rfl) Tryd.underlying196 rfl (by kernel_rfl)) rfl ?_
     exact ⟨by rw [wdV, wdArr, Hv.out, HM.out, Hvh.out, Hvl.out], (Below.refl _ _).alloc (Nat.le_refl _) _⟩
   · have HM : Hid (decide (a * b < 0) = true) := decide_eq_true (by omega)
     have e0 : (bits .or .u64 (vh : Int) (vl : Int) != 0) = true := by
        rw [Hor.out, bne_iff_ne]
        intro h
        exact hv0 (Hz0.out.1 (Int.ofNat_inj.1 h))
     clear s1 s2 d1 d2 hab hv h0 hv0
     go_wp2_with fail
     refine bodyPost_ret (results_cell_only rfl _ _ w.heap.size 196 #[.int .u64 (vh : Int), .int .u64 (vl : Int), .bool true] (0, 0) _ rfl (heap_last _ _ _ rfl) Tryd.underlying196 rfl (by kernel_rfl)) rfl ?_
     exact ⟨by rw [wdV, wdArr, Hv.out, HM.out, Hvh.out, Hvl.out], (Below.refl _ _).alloc (Nat.le_refl _) _⟩
 · have HM : Hid (decide (a * b < 0) = false) := decide_eq_false (by have := Int.mul_nonneg (show 0 ≤ a by omega) (show 0 ≤ b by omega); omega)
   have d1 : decide (a < 0) = false := decide_eq_false s1
   have d2 : decide (b < 0) = false := decide_eq_false s2
   rw [d1, d2]
   clear s1 s2 d1 d2 hab hv
   go_wp2_with fail
   refine bodyPost_ret (results_cell_only rfl _ _ w.heap.size 196 #[.int .u64 (vh : Int), .int .u64 (vl : Int), .bool false] (0, 0) _ rfl (heap_last _ _ _ rfl) Tryd.underlying196 rfl (by kernel_rfl)) rfl ?_
   exact ⟨by rw [wdV, wdArr, Hv.out, HM.out, Hvh.out, Hvl.out], (Below.refl _ _).alloc (Nat.le_refl _) _⟩
end Go.Proofs.YtnkaoplgmglijaaDoor.Un
/- The contracts of over and cmp of package units: a wide number divided, and compared. -/
namespace Go.Proofs.YtnkaoplgmglijaaDoor.Un
open Go.RowKit
def ovF (v c : Int) : Int × Int × Bool := if v.natAbs / c.toNat ≤ 1000000000000000 then (v / c, v % c, true) else (0, 0, false)
def RetOv (w : World) (q : Int × Int × Bool) (e : Ending) (w' : World) : Prop := e = .returned (.tuple #[I q.1, I q.2.1, .bool q.2.2]) ∧ Below w.heap.size w w'
theorem ovF_far {v c : Int} (h : 1000000000000000 < v.natAbs / c.toNat) : ovF v c = (0, 0, false) := if_neg (by omega)
theorem ovF_near {v c : Int} (h : v.natAbs / c.toNat ≤ 1000000000000000) : ovF v c = (v / c, v % c, true) := if_pos h
theorem floor_neg {m C : Nat} (hC : 0 < C) : (-(m : Int)) / (C : Int) = if m % C = 0 then -((m / C : Nat) : Int) else -((m / C : Nat) : Int) - 1 := by
 have hm := Nat.div_add_mod m C
 have hl := Nat.mod_lt m hC
 have hd := Int.mul_ediv_add_emod (-(m : Int)) (C : Int)
 have h1 := Int.emod_nonneg (-(m : Int)) (show (C : Int) ≠ 0 by omega)
 have h2 := Int.emod_lt_of_pos (-(m : Int)) (show (0 : Int) < (C : Int) by omega)
 generalize (-(m : Int)) % (C : Int) = r at *
 split
 · rename_i h0
   have e : (-(m : Int)) = (C : Int) * (-((m / C : Nat) : Int)) + 0 := by
    rw [Int.mul_neg, ← Int.natCast_mul]; omega
   rw [e, Int.mul_add_ediv_left _ _ (by omega)]
   simp
 · rename_i h0
   have e : (-(m : Int)) = (C : Int) * (-((m / C : Nat) : Int) - 1) + ((C - m % C : Nat) : Int) := by
    rw [Int.mul_sub, Int.mul_neg, ← Int.natCast_mul, Int.mul_one]; omega
   rw [e, Int.mul_add_ediv_left _ _ (by omega), Int.ediv_eq_zero_of_lt (by omega) (by omega)]
   omega
theorem mod_neg {m C : Nat} (hC : 0 < C) : (-(m : Int)) % (C : Int) = if m % C = 0 then 0 else (C : Int) - ((m % C : Nat) : Int) := by
 have h := floor_neg (m := m) hC
 have hm := Nat.div_add_mod m C
 have hd := Int.mul_ediv_add_emod (-(m : Int)) (C : Int)
 rw [h] at hd
 split at hd
 · rename_i h0
   rw [if_pos h0]
   rw [Int.mul_neg, ← Int.natCast_mul] at hd
   omega
 · rename_i h0
   rw [if_neg h0]
   rw [Int.mul_sub, Int.mul_neg, ← Int.natCast_mul, Int.mul_one] at hd
   omega
theorem ret3 {a b a' b' : Int} {t : Bool} (h1 : a = a') (h2 : b = b') : Ending.returned (.tuple #[I a, I b, .bool t]) = Ending.returned (.tuple #[I a', I b', .bool t]) := by rw [h1, h2]
set_option maxRecDepth 100000 in
set_option maxHeartbeats 1000000 in
theorem over_any (v c : Int) (w : World) (hc : 1 ≤ c ∧ c ≤ 4611686018427387904) :
 Calls Tryd.prog 108 #[wdV v, I c] w (RetOv w (ovF v c)) := by
 obtain ⟨C, rfl⟩ : ∃ C : Nat, c = C := ⟨c.toNat, by omega⟩
 obtain ⟨m, hm⟩ : ∃ m, v.natAbs = m := ⟨_, rfl⟩
 obtain ⟨vh, hvh⟩ : ∃ k, m / 18446744073709551616 = k := ⟨_, rfl⟩
 obtain ⟨vl, hvl⟩ : ∃ k, m % 18446744073709551616 = k := ⟨_, rfl⟩
 have hV : wdV v = .agg #[.int .u64 (vh : Int), .int .u64 (vl : Int), .bool (decide (v < 0))] := by rw [wdV, wdArr, hm, hvh, hvl]
 rw [hV]
 have hml : vh * 18446744073709551616 + vl = m := by rw [← hvh, ← hvl, Nat.mul_comm]; exact Nat.div_add_mod _ _
 have hC : 1 ≤ C ∧ C ≤ 4611686018427387904 := by omega
 have hvl2 : vl < 18446744073709551616 := by rw [← hvl]; exact Nat.mod_lt _ (by decide)
 have Hm := Lib.hid hm
 have HC := Lib.hid hC
 have hcw : IntKind.u64.wrap (C : Int) = (C : Int) := wrapN _ (by omega)
 clear hV hvh
 rcases Nat.lt_or_ge vh C with h1 | h1
 · have hdv := fun w => div64_any vh vl C w h1 hvl2 (by omega)
   rw [hml] at hdv
   obtain ⟨q, hq⟩ : ∃ k, m / C = k := ⟨_, rfl⟩
   obtain ⟨r, hr⟩ : ∃ k, m % C = k := ⟨_, rfl⟩
   rw [hq, hr] at hdv
   have Hdv := Lib.hid hdv
   have Hq := Lib.hid hq
   have Hr := Lib.hid hr
   have hrl : r < C := by rw [← hr]; exact Nat.mod_lt _ (by omega)
   have HRL := Lib.hid hrl
   have t13 : decide ((C : Int) ≤ (vh : Int)) = false := decide_eq_false (by omega)
   have t13b : decide (C ≤ vh) = false := decide_eq_false (by omega)
   clear hdv hq hr hrl h1 hml hvl hvl2 hm hC hc
   go_enter Tryd.func108, Tryd.ntmps108
   go_wp2_with fail
   refine (Hdv.out _).mono ?_
   rintro e w' ⟨nq, rfl, hw'⟩
   have HB : Hid (Below w.heap.size w w') := by
    show Below _ _ _
    rw [hw']; exact ((Below.refl _ _).alloc (Nat.le_refl _) _).trans ⟨rfl, rfl, rfl, Nat.le_refl _, fun _ _ => rfl⟩
   have x2 : w'.cell? ⟨w.heap.size, 2, none⟩ = some (.bool (decide (v < 0))) := by rw [hw']; exact cell_of_row _ _ _ _ _ _ (heap_last w (.cells #[.int .u64 (vh : Int), .int .u64 (vl : Int), .bool (decide (v < 0))] 196) _ rfl)
   clear hw' hcw
   rcases Nat.lt_or_ge 1000000000000000 q with h2 | h2
   · have hf := Lib.hid (ovF_far (v := v) (c := (C : Int)) (by rw [Hm.out, Int.toNat_natCast, Hq.out]; exact h2))
     have t25 : decide (1000000000000000 < (q : Int)) = true := decide_eq_true (by omega)
     clear h2
     go_wp2_with fail
     go_ret3
     exact ⟨by rw [hf.out]; rfl, HB.out⟩
   · have hf := Lib.hid (ovF_near (v := v) (c := (C : Int)) (by rw [Hm.out, Int.toNat_natCast, Hq.out]; exact h2))
     have t25 : decide (1000000000000000 < (q : Int)) = false := decide_eq_false (by omega)
     have hC := HC.out
     have hrl := HRL.out
     have c1 : IntKind.i64.wrap (q : Int) = (q : Int) := IntWalk.i64_in _ (by omega)
     have c2 : IntKind.i64.wrap (r : Int) = (r : Int) := IntWalk.i64_in _ (by omega)
     have n1 : wrap64 (-(q : Int)) = -(q : Int) := by unfold wrap64; omega
     have n2 : wrap64 (-(r : Int)) = -(r : Int) := by unfold wrap64; omega
     have Hq2 := Lib.hid h2
     by_cases hs : v < 0
     · have e : v = -(m : Int) := by have := Hm.out; omega
       have F1 : Hid (v / (C : Int) = if r = 0 then -(q : Int) else -(q : Int) - 1) := by show _ = _; rw [e, floor_neg (by omega), Hr.out, Hq.out]
       have F2 : Hid (v % (C : Int) = if r = 0 then 0 else (C : Int) - (r : Int)) := by show _ = _; rw [e, mod_neg (by omega), Hr.out]
       have d1 : decide (v < 0) = true := decide_eq_true hs
       rw [d1] at x2
       by_cases hr0 : r = 0
       · rw [if_pos hr0] at F1 F2
         subst hr0
         clear hs e d1 h2
         go_wp2_with fail
         go_ret3
         exact ⟨by rw [hf.out]; exact ret3 (by rw [F1.out]; exact n1) (by rw [F2.out]), HB.out⟩
       · rw [if_neg hr0] at F1 F2
         have hrp : 0 < r := by omega
         clear hs e d1 h2
         go_wp2_with fail
         go_ret3
         exact ⟨by rw [hf.out]; exact ret3 (by rw [F1.out]; show wrap64 (-(q : Int) - 1) = -(q : Int) - 1; have := Hq2.out; unfold wrap64; omega) (by rw [F2.out]; show -(r : Int) + (C : Int) = (C : Int) - (r : Int); omega), HB.out⟩
     · have e : v = (m : Int) := by have := Hm.out; omega
       have F1 : Hid (v / (C : Int) = (q : Int)) := by show _ = _; rw [e, ← Int.natCast_ediv, Hq.out]
       have F2 : Hid (v % (C : Int) = (r : Int)) := by show _ = _; rw [e, ← Int.natCast_emod, Hr.out]
       have d1 : decide (v < 0) = false := decide_eq_false hs
       rw [d1] at x2
       clear hs e d1 h2
       go_wp2_with fail
       go_ret3
       exact ⟨by rw [hf.out]; exact ret3 (by rw [F1.out]) (by rw [F2.out]), HB.out⟩
 · have hf := Lib.hid (ovF_far (v := v) (c := (C : Int)) (by
    rw [Hm.out, Int.toNat_natCast]
    have : 18446744073709551616 ≤ m / C := by rw [Nat.le_div_iff_mul_le (by omega)]; have := Nat.mul_le_mul_left 18446744073709551616 h1; omega
    omega))
   have t13 : decide ((C : Int) ≤ (vh : Int)) = true := decide_eq_true (by omega)
   have t13b : decide (C ≤ vh) = true := decide_eq_true (by omega)
   clear h1 hml hvl hvl2 hm hC hc
   go_enter Tryd.func108, Tryd.ntmps108
   go_wp2_with fail
   go_ret3
   exact ⟨by rw [hf.out]; rfl, (Below.refl _ _).alloc (Nat.le_refl _) _⟩
def cmpI (x y : Int) : Int := if x < y then -1 else if x = y then 0 else 1
theorem cmpI_lt {x y : Int} (h : x < y) : cmpI x y = -1 := if_pos h
theorem cmpI_eq {x y : Int} (h : x = y) : cmpI x y = 0 := by unfold cmpI; rw [if_neg (by omega), if_pos h]
theorem cmpI_gt {x y : Int} (h : y < x) : cmpI x y = 1 := by unfold cmpI; rw [if_neg (by omega), if_neg (by omega)]
end Go.Proofs.YtnkaoplgmglijaaDoor.Un
/- The contract of MulDiv of package units. -/
namespace Go.Proofs.YtnkaoplgmglijaaDoor.Un
open Go.RowKit
theorem and_one (n : Int) : bits .and .i64 n 1 = n % 2 := by
 have e : (BitVec.ofInt 64 n &&& BitVec.ofInt 64 1).toNat = (n % 18446744073709551616).toNat % 2 := by
  rw [BitVec.toNat_and, BitVec.toNat_ofInt, BitVec.toNat_ofInt]
  show (n % 18446744073709551616).toNat &&& 1 = _
  rw [Nat.and_one_is_mod]
 unfold bits
 show IntKind.i64.wrap ((BitVec.ofInt 64 n &&& BitVec.ofInt 64 1).toNat : Int) = _
 rw [e, IntWalk.i64_in _ (by omega)]
 omega
def rnd (v c how : Int) : Int × Int := if 0 < v % c ∧ (how = 2 ∨ (how = 3 ∧ (c - v % c < v % c ∨ (v % c = c - v % c ∧ (v / c) % 2 = 1)))) then (v / c + 1, v % c - c) else (v / c, v % c)
def numB (n : Int) : Bool := decide (-1000000000000000 ≤ n) && decide (n ≤ 1000000000000000)
theorem isB_one (n : Int) : isB [n] = numB n := by
 rw [Bool.eq_iff_iff, isB_iff]
 simp [numB]
theorem isB_two (a b : Int) : isB [a, b] = (numB a && numB b) := by
 rw [Bool.eq_iff_iff, isB_iff]
 simp [numB]
def mdF (a b c how : Int) : Int × Int × Int :=
 if how < 1 ∨ 3 < how then (0, 0, 2) else if (numB a && numB b) = false ∨ c < 1 ∨ 1000000000000000 < c then (0, 0, 3)
 else if numB (rnd (a * b) c how).1 then ((rnd (a * b) c how).1, (rnd (a * b) c how).2, 0) else (0, 0, 10)
def RetMd (w : World) (q : Int × Int × Int) (e : Ending) (w' : World) : Prop := e = .returned (.tuple #[I q.1, I q.2.1, I q.2.2]) ∧ Below w.heap.size w w'
theorem rnd_no {v c how : Int} (h : ¬ (0 < v % c ∧ (how = 2 ∨ (how = 3 ∧ (c - v % c < v % c ∨ (v % c = c - v % c ∧ (v / c) % 2 = 1)))))) : rnd v c how = (v / c, v % c) := if_neg h
theorem rnd_up {v c how : Int} (h : 0 < v % c ∧ (how = 2 ∨ (how = 3 ∧ (c - v % c < v % c ∨ (v % c = c - v % c ∧ (v / c) % 2 = 1))))) : rnd v c how = (v / c + 1, v % c - c) := if_pos h
theorem numB_iff {n : Int} : numB n = true ↔ -1000000000000000 ≤ n ∧ n ≤ 1000000000000000 := by simp [numB]
theorem mul_abs {a b : Int} (ha : numB a = true) (hb : numB b = true) : (a * b).natAbs ≤ 1000000000000000 * 1000000000000000 := by
 rw [Int.natAbs_mul]
 have := numB_iff.1 ha
 have := numB_iff.1 hb
 exact Nat.mul_le_mul (by omega) (by omega)
theorem rnd_far {v c how : Int} (hc : 1 ≤ c) (h : 1000000000000000 < v.natAbs / c.toNat) : numB (rnd v c how).1 = false := by
 obtain ⟨C, rfl⟩ : ∃ C : Nat, c = C := ⟨c.toNat, by omega⟩
 rw [Int.toNat_natCast] at h
 have key : (rnd v C how).1 < -1000000000000000 ∨ 1000000000000000 < (rnd v C how).1 := by
  rcases Int.lt_or_le v 0 with hv | hv
  · left
    have e : v = -((v.natAbs : Nat) : Int) := by omega
    have f := floor_neg (m := v.natAbs) (C := C) (by omega)
    have g := mod_neg (m := v.natAbs) (C := C) (by omega)
    rw [← e] at f g
    generalize v.natAbs / C = q at *
    generalize v.natAbs % C = r at *
    unfold rnd
    split
    · rename_i hh
      show v / C + 1 < _
      rw [f]; rw [g] at hh
      split
      · rename_i h0; rw [if_pos h0] at hh; omega
      · omega
    · show v / C < _
      rw [f]
      split <;> omega
  · right
    have e : v = ((v.natAbs : Nat) : Int) := by omega
    have f : v / (C : Int) = ((v.natAbs / C : Nat) : Int) := by rw [Int.natCast_ediv, ← e]
    generalize v.natAbs / C = q at *
    unfold rnd
    split
    · show _ < v / C + 1
      omega
    · show _ < v / C
      omega
 rcases hk : numB (rnd v C how).1 with _ | _
 · rfl
 · have := numB_iff.1 hk
   omega
theorem div_bd {v c : Int} (hc : 1 ≤ c) (h : v.natAbs / c.toNat ≤ 1000000000000000) : -1000000000000001 ≤ v / c ∧ v / c ≤ 1000000000000000 := by
 obtain ⟨C, rfl⟩ : ∃ C : Nat, c = C := ⟨c.toNat, by omega⟩
 rw [Int.toNat_natCast] at h
 rcases Int.lt_or_le v 0 with hv | hv
 · have e : v = -((v.natAbs : Nat) : Int) := by omega
   have f := floor_neg (m := v.natAbs) (C := C) (by omega)
   rw [← e] at f
   rw [f]
   generalize v.natAbs / C = q at *
   split <;> omega
 · have e : v = ((v.natAbs : Nat) : Int) := by omega
   have f : v / (C : Int) = ((v.natAbs / C : Nat) : Int) := by rw [Int.natCast_ediv, ← e]
   rw [f]
   generalize v.natAbs / C = q at *
   omega
set_option maxRecDepth 100000 in
set_option maxHeartbeats 4000000 in
theorem muldiv_any (a b c how : Int) (w : World) (ha : -9223372036854775808 ≤ a ∧ a ≤ 9223372036854775807) (hb : -9223372036854775808 ≤ b ∧ b ≤ 9223372036854775807) (hh : 0 ≤ how ∧ how ≤ 255) :
 Calls Tryd.prog 97 #[I a, I b, I c, .int .u8 how] w (RetMd w (mdF a b c how)) := by
 by_cases hw : how < 1 ∨ 3 < how
 · have hf : Hid (mdF a b c how = (0, 0, 2)) := if_pos hw
   rcases hw with hw | hw
   all_goals
    go_enter Tryd.func97, Tryd.ntmps97
    go_wp2_with fail
    go_ret3
    exact ⟨by rw [hf.out]; rfl, Below.refl _ _⟩
 · have h1 : 1 ≤ how ∧ how ≤ 3 := by omega
   have w1 : decide (how < 1) = false := decide_eq_false (by omega)
   have w2 : decide (3 < how) = false := decide_eq_false (by omega)
   have HR : ∀ W : World, Rd (W.alloc (.cells #[I a, I b] 3)) (W.alloc (.cells #[I a, I b] 3)).heap.size 1 (some ⟨W.heap.size, 0, none⟩) 2 (rI [a, b]) := fun W => Rd_new (heap_last _ _ _ rfl) _ _ _ _ (all2 (all1 rfl) (all1 rfl))
   have hIs := fun W => is_any (some ⟨W.heap.size, 0, none⟩) 2 2 [a, b] (W.alloc (.cells #[I a, I b] 3)) _ rfl (by unfold maxLen; omega) (HR W)
   rw [isB_two] at hIs
   have HIs := Lib.hid hIs
   clear hIs HR
   rcases hab : (numB a && numB b) with _ | _
   · have hf : Hid (mdF a b c how = (0, 0, 3)) := by show _ = _; unfold mdF; rw [if_neg hw, if_pos (.inl hab)]
     rw [hab] at HIs
     clear hab hw ha hb
     go_enter Tryd.func97, Tryd.ntmps97
     go_wp2_with fail
     refine (HIs.out _).mono ?_
     rintro e w' ⟨rfl, rfl⟩
     go_wp2_with fail
     go_ret3
     exact ⟨by rw [hf.out]; rfl, (Below.refl _ _).alloc (Nat.le_refl _) _⟩
   · rw [hab] at HIs
     by_cases hc : c < 1 ∨ 1000000000000000 < c
     · have hf : Hid (mdF a b c how = (0, 0, 3)) := by show _ = _; unfold mdF; rw [if_neg hw, if_pos (.inr hc)]
       clear hab hw ha hb
       rcases hc with hc | hc
       all_goals
         go_enter Tryd.func97, Tryd.ntmps97
         go_wp2_with fail
         refine (HIs.out _).mono ?_
         rintro e w' ⟨rfl, rfl⟩
         go_wp2_with fail
         go_ret3
         exact ⟨by rw [hf.out]; rfl, (Below.refl _ _).alloc (Nat.le_refl _) _⟩
     · have c1 : decide (c < 1) = false := decide_eq_false (by omega)
       have c2 : decide (1000000000000000 < c) = false := decide_eq_false (by omega)
       have hcc : 1 ≤ c ∧ c ≤ 1000000000000000 := by omega
       have hf : Hid (mdF a b c how = if numB (rnd (a * b) c how).1 then ((rnd (a * b) c how).1, (rnd (a * b) c how).2, 0) else (0, 0, 10)) := by
         show _ = _; unfold mdF; rw [if_neg hw, if_neg (by rw [hab]; simp; omega)]
       rw [Bool.and_eq_true] at hab
       have na := numB_iff.1 hab.1
       have nb := numB_iff.1 hab.2
       have HV := Lib.hid (mul_abs hab.1 hab.2)
       have Hcc := Lib.hid hcc
       have H1 := Lib.hid h1
       have hpr := fun W => product_any a b W (by omega) (by omega)
       have Hpr := Lib.hid hpr
       clear hab hw ha hb hc na nb hpr
       generalize a * b = v at *
       go_enter Tryd.func97, Tryd.ntmps97
       go_wp2_with fail
       refine (HIs.out _).mono ?_
       rintro e w' ⟨rfl, rfl⟩
       go_wp2_with fail
       refine (Hpr.out _).mono ?_
       rintro e w1 ⟨rfl, hb1⟩
       have B1 : Hid (Below w.heap.size w w1) := under2 hb1
       clear hb1
       go_wp2_with fail
       refine (over_any v c _ (by omega)).mono ?_
       rintro e w2 ⟨rfl, hb2⟩
       have B2 : Hid (Below w.heap.size w w2) := B1.out.trans (Below.mono hb2 B1.out.size)
       clear hb2
       rcases Nat.lt_or_ge 1000000000000000 (v.natAbs / c.toNat) with far | near
       · rw [ovF_far far]
         have hfar := rnd_far (how := how) hcc.1 far
         have hf2 : Hid (mdF a b c how = (0, 0, 10)) := by show _ = _; rw [hf.out, hfar]; rfl
         clear far hfar hf hcc
         go_wp2_with fail
         go_ret3
         exact ⟨by rw [hf2.out]; rfl, B2.out⟩
       · rw [ovF_near near]
         have hnb := div_bd hcc.1 near
         have hr0 := Int.emod_nonneg v (show c ≠ 0 by omega)
         have hr1 := Int.emod_lt_of_pos v (show 0 < c by omega)
         have hno := @rnd_no v c how
         have hup := @rnd_up v c how
         have hone := and_one (v / c)
         generalize v / c = n at *
         generalize v % c = r at *
         have HIs1 : Hid (∀ (W : World) (x : Int), Calls Tryd.prog 106 #[.slice (some ⟨W.heap.size, 0, none⟩) 1 1] (W.alloc (.cells #[I x] 3)) fun e w' => e = .returned (.bool (numB x)) ∧ W.alloc (.cells #[I x] 3) = w') := fun W x => by
           have := is_any (some ⟨W.heap.size, 0, none⟩) 1 1 [x] (W.alloc (.cells #[I x] 3)) _ rfl (by unfold maxLen; omega) (Rd_new (heap_last _ _ _ rfl) _ _ _ _ (all1 (all1 rfl)))
           rw [isB_one] at this; exact this
         have Hno := Lib.hid hno
         have Hup := Lib.hid hup
         clear hno hup near
         rcases (show r = 0 ∨ 0 < r by omega) with h0 | h0
         · subst h0
           have hq : Hid (rnd v c how = (n, 0)) := Hno.out (by omega)
           go_wp2_with fail
           refine (HIs1.out _ _).mono ?_
           rintro e w3 ⟨rfl, rfl⟩
           rcases hn : numB (n) with _ | _
           · have hf2 : Hid (mdF a b c how = (0, 0, 10)) := by show _ = _; rw [hf.out, hq.out]; simp only; rw [hn]; rfl
             clear hn
             go_wp2_with fail
             go_ret3
             exact ⟨by rw [hf2.out]; rfl, B2.out.alloc B2.out.size _⟩
           · have hf2 : Hid (mdF a b c how = (n, 0, 0)) := by show _ = _; rw [hf.out, hq.out]; simp only; rw [hn]; rfl
             clear hn
             go_wp2_with fail
             go_ret3
             exact ⟨by rw [hf2.out]; rfl, B2.out.alloc B2.out.size _⟩
         · rcases (show how = 1 ∨ how = 2 ∨ how = 3 by omega) with h3 | h3 | h3
           · subst h3
             have hq : Hid (rnd v c 1 = (n, r)) := Hno.out (by omega)
             go_wp2_with fail
             refine (HIs1.out _ _).mono ?_
             rintro e w3 ⟨rfl, rfl⟩
             rcases hn : numB (n) with _ | _
             · have hf2 : Hid (mdF a b c 1 = (0, 0, 10)) := by show _ = _; rw [hf.out, hq.out]; simp only; rw [hn]; rfl
               clear hn
               go_wp2_with fail
               go_ret3
               exact ⟨by rw [hf2.out]; rfl, B2.out.alloc B2.out.size _⟩
             · have hf2 : Hid (mdF a b c 1 = (n, r, 0)) := by show _ = _; rw [hf.out, hq.out]; simp only; rw [hn]; rfl
               clear hn
               go_wp2_with fail
               go_ret3
               exact ⟨by rw [hf2.out]; rfl, B2.out.alloc B2.out.size _⟩
           · subst h3
             have hq : Hid (rnd v c 2 = (n + 1, r - c)) := Hup.out (by omega)
             go_wp2_with fail
             refine (HIs1.out _ _).mono ?_
             rintro e w3 ⟨rfl, rfl⟩
             rcases hn : numB (n + 1) with _ | _
             · have hf2 : Hid (mdF a b c 2 = (0, 0, 10)) := by show _ = _; rw [hf.out, hq.out]; simp only; rw [hn]; rfl
               clear hn
               go_wp2_with fail
               go_ret3
               exact ⟨by rw [hf2.out]; rfl, B2.out.alloc B2.out.size _⟩
             · have hf2 : Hid (mdF a b c 2 = (n + 1, r - c, 0)) := by show _ = _; rw [hf.out, hq.out]; simp only; rw [hn]; rfl
               clear hn
               go_wp2_with fail
               go_ret3
               exact ⟨by rw [hf2.out]; rfl, B2.out.alloc B2.out.size _⟩
           · subst h3
             rcases Int.lt_trichotomy r (c - r) with h4 | h4 | h4
             · have t1 : decide (c - r < r) = false := decide_eq_false (by omega)
               have t2 : (r == c - r) = false := by rw [beq_eq_false_iff_ne]; omega
               have hq : Hid (rnd v c 3 = (n, r)) := Hno.out (by omega)
               clear h4
               go_wp2_with fail
               refine (HIs1.out _ _).mono ?_
               rintro e w3 ⟨rfl, rfl⟩
               rcases hn : numB (n) with _ | _
               · have hf2 : Hid (mdF a b c 3 = (0, 0, 10)) := by show _ = _; rw [hf.out, hq.out]; simp only; rw [hn]; rfl
                 clear hn
                 go_wp2_with fail
                 go_ret3
                 exact ⟨by rw [hf2.out]; rfl, B2.out.alloc B2.out.size _⟩
               · have hf2 : Hid (mdF a b c 3 = (n, r, 0)) := by show _ = _; rw [hf.out, hq.out]; simp only; rw [hn]; rfl
                 clear hn
                 go_wp2_with fail
                 go_ret3
                 exact ⟨by rw [hf2.out]; rfl, B2.out.alloc B2.out.size _⟩
             · have t1 : decide (c - r < r) = false := decide_eq_false (by omega)
               have t2 : (r == c - r) = true := by rw [beq_iff_eq]; omega
               rcases (show n % 2 = 0 ∨ n % 2 = 1 by omega) with h5 | h5
               · have t3 : (n % 2 == 1) = false := by rw [h5]; rfl
                 have hq : Hid (rnd v c 3 = (n, r)) := Hno.out (by omega)
                 clear h4 h5
                 go_wp2_with fail
                 refine (HIs1.out _ _).mono ?_
                 rintro e w3 ⟨rfl, rfl⟩
                 rcases hn : numB (n) with _ | _
                 · have hf2 : Hid (mdF a b c 3 = (0, 0, 10)) := by show _ = _; rw [hf.out, hq.out]; simp only; rw [hn]; rfl
                   clear hn
                   go_wp2_with fail
                   go_ret3
                   exact ⟨by rw [hf2.out]; rfl, B2.out.alloc B2.out.size _⟩
                 · have hf2 : Hid (mdF a b c 3 = (n, r, 0)) := by show _ = _; rw [hf.out, hq.out]; simp only; rw [hn]; rfl
                   clear hn
                   go_wp2_with fail
                   go_ret3
                   exact ⟨by rw [hf2.out]; rfl, B2.out.alloc B2.out.size _⟩
               · have t3 : (n % 2 == 1) = true := by rw [h5]; rfl
                 have hq : Hid (rnd v c 3 = (n + 1, r - c)) := Hup.out (by omega)
                 clear h4 h5
                 go_wp2_with fail
                 refine (HIs1.out _ _).mono ?_
                 rintro e w3 ⟨rfl, rfl⟩
                 rcases hn : numB (n + 1) with _ | _
                 · have hf2 : Hid (mdF a b c 3 = (0, 0, 10)) := by show _ = _; rw [hf.out, hq.out]; simp only; rw [hn]; rfl
                   clear hn
                   go_wp2_with fail
                   go_ret3
                   exact ⟨by rw [hf2.out]; rfl, B2.out.alloc B2.out.size _⟩
                 · have hf2 : Hid (mdF a b c 3 = (n + 1, r - c, 0)) := by show _ = _; rw [hf.out, hq.out]; simp only; rw [hn]; rfl
                   clear hn
                   go_wp2_with fail
                   go_ret3
                   exact ⟨by rw [hf2.out]; rfl, B2.out.alloc B2.out.size _⟩
             · have t1 : decide (c - r < r) = true := decide_eq_true (by omega)
               have hq : Hid (rnd v c 3 = (n + 1, r - c)) := Hup.out (by omega)
               clear h4
               go_wp2_with fail
               refine (HIs1.out _ _).mono ?_
               rintro e w3 ⟨rfl, rfl⟩
               rcases hn : numB (n + 1) with _ | _
               · have hf2 : Hid (mdF a b c 3 = (0, 0, 10)) := by show _ = _; rw [hf.out, hq.out]; simp only; rw [hn]; rfl
                 clear hn
                 go_wp2_with fail
                 go_ret3
                 exact ⟨by rw [hf2.out]; rfl, B2.out.alloc B2.out.size _⟩
               · have hf2 : Hid (mdF a b c 3 = (n + 1, r - c, 0)) := by show _ = _; rw [hf.out, hq.out]; simp only; rw [hn]; rfl
                 clear hn
                 go_wp2_with fail
                 go_ret3
                 exact ⟨by rw [hf2.out]; rfl, B2.out.alloc B2.out.size _⟩
end Go.Proofs.YtnkaoplgmglijaaDoor.Un
/- The contracts of ok, cmp and split of a fraction, and of Compare, of package units. -/
namespace Go.Proofs.YtnkaoplgmglijaaDoor.Un
open Go.RowKit
structure Frc where
 n : Int
 d : Int
deriving Inhabited
abbrev Frc.val (f : Frc) : Value := .agg #[I f.n, I f.d]
def fok (f : Frc) : Bool := numB f.n && (decide (1 ≤ f.d) && decide (f.d ≤ 1000000000000000))
theorem fok_iff {f : Frc} : fok f = true ↔ (-1000000000000000 ≤ f.n ∧ f.n ≤ 1000000000000000) ∧ 1 ≤ f.d ∧ f.d ≤ 1000000000000000 := by
 unfold fok
 rw [Bool.and_eq_true, numB_iff, Bool.and_eq_true, decide_eq_true_eq, decide_eq_true_eq]
theorem is_one (x : Int) (W : World) : Calls Tryd.prog 106 #[.slice (some ⟨W.heap.size, 0, none⟩) 1 1] (W.alloc (.cells #[I x] 3)) fun e w' => e = .returned (.bool (numB x)) ∧ W.alloc (.cells #[I x] 3) = w' := by
 have := is_any (some ⟨W.heap.size, 0, none⟩) 1 1 [x] (W.alloc (.cells #[I x] 3)) _ rfl (by unfold maxLen; omega) (Rd_new (heap_last _ _ _ rfl) _ _ _ _ (all1 (all1 rfl)))
 rw [isB_one] at this; exact this
def fcm (a b : Frc) : Int := cmpI (a.n * b.d) (b.n * a.d)
def fBd (f : Frc) : Prop := (-2000000000000000 ≤ f.n ∧ f.n ≤ 2000000000000000) ∧ (-2000000000000000 ≤ f.d ∧ f.d ≤ 2000000000000000)
theorem fBd_ok {f : Frc} (h : fok f = true) : fBd f := by have := fok_iff.1 h; unfold fBd; omega
theorem prod_lt {a b : Int} (ha : -2000000000000000 ≤ a ∧ a ≤ 2000000000000000) (hb : -2000000000000000 ≤ b ∧ b ≤ 2000000000000000) : (a * b).natAbs < 18446744073709551616 * 18446744073709551616 := by
 rw [Int.natAbs_mul]
 have : a.natAbs * b.natAbs ≤ 2000000000000000 * 2000000000000000 := Nat.mul_le_mul (by omega) (by omega)
 omega
end Go.Proofs.YtnkaoplgmglijaaDoor.Un
/- The contract of Compare of package units. -/
namespace Go.Proofs.YtnkaoplgmglijaaDoor.Un
open Go.RowKit
def coF (a b : Frc) : Int × Int := if fok a && fok b then (fcm a b, 0) else (0, 2)
end Go.Proofs.YtnkaoplgmglijaaDoor.Un
/- The contract of split of package units. -/
namespace Go.Proofs.YtnkaoplgmglijaaDoor.Un
open Go.RowKit
section
variable {P : Program}
theorem results_tmp_cell {fn : Func} {p t1 : Tmp} {ty : TypeId} (h : fn.results = #[.tmp t1, .cell p ty]) (tmps : Array Value) (w : World) (g : Nat) (t : TypeId) (cs : Array Value) (fr : Nat × Nat) (d : TypeDesc)
 (hp : tmps.getD p undef = .pointer (some ⟨g, 0, none⟩)) (hg : w.heap[g]? = some (.cells cs t fr))
 (hu : P.underlying ty = some d) (hd : (match d with | .struct _ | .array _ _ => true | _ => false) = true) (hi : (P.info? ty).map (·.size) = some cs.size) :
 (results fn tmps).run P w = .ok (.tuple #[tmps.getD t1 undef, .agg cs]) w := by
 have hp' : tmps[p]?.getD undef = .pointer (some ⟨g, 0, none⟩) := by simpa using hp
 simp [results, h, hp', asAddr, run_loadVar_row w g t ty cs fr d hg hu hd hi]
end
theorem tdiv_neg {m D : Nat} : (-(m : Int)).tdiv (D : Int) = -((m / D : Nat) : Int) := by rw [Int.neg_tdiv, ← Int.ofNat_tdiv]
theorem tmod_neg {m D : Nat} : (-(m : Int)).tmod (D : Int) = -((m % D : Nat) : Int) := by rw [Int.neg_tmod, ← Int.ofNat_tmod]
end Go.Proofs.YtnkaoplgmglijaaDoor.Un
