/- What Steer leans on (as in the texts of the ring seat, without what came before them), and what it answers in the body. -/
import Derived.Test.YtliddmhifnigdaaPca
import Derived.Test.YtliddmhifnigdaaHp
import Derived.Test.YtliddmhifnigdaaU6
import Derived.Maps.RangeRun
import Derived.Laws.EntriesVeiled
namespace Go.Proofs.Ytliddmhifnigdaa.Un
open Go.RowKit
/-- A fraction (numerator, denominator) that is no gain. -/
def badG (r : Rng) : Bool := decide (r.lo < -1000000) || decide (1000000 < r.lo) || decide (r.hi < 1) || decide (1000000 < r.hi)
theorem badG_not {r : Rng} : badG r = false ↔ -1000000 ≤ r.lo ∧ r.lo ≤ 1000000 ∧ 1 ≤ r.hi ∧ r.hi ≤ 1000000 := by
  simp only [badG, Bool.or_eq_false_iff, decide_eq_false_iff_not]
  omega
theorem gain1_any (r : Rng) (w : World) :
    Calls Try.prog 54 #[.agg #[I r.lo, I r.hi]] w fun e w' => e = .returned (.bool (badG r)) ∧ Below w.heap.size w w' := by
  have hf : Hid (badG r = (decide (r.lo < -1000000) || decide (1000000 < r.lo) || decide (r.hi < 1) || decide (1000000 < r.hi))) := rfl
  have HB : Hid (∀ x, Below w.heap.size w (w.alloc x)) := fun x => (Below.refl _ _).alloc (Nat.le_refl _) x
  rcases h1 : decide (r.lo < -1000000) with _ | _ <;> rcases h2 : decide (1000000 < r.lo) with _ | _ <;> rcases h3 : decide (r.hi < 1) with _ | _ <;> rcases h4 : decide (1000000 < r.hi) with _ | _
  all_goals
    rw [h1, h2, h3, h4] at hf
    go_enter Try.func54, Try.ntmps54
    go_wp2_with fail
    go_ret
    exact ⟨by rw [hf.out]; rfl, HB.out _⟩
set_option maxHeartbeats 400000 in
theorem ix_gain (A : Option Addr) (c : Nat) (xs : List Rng) (w : World) (hm : xs.length ≤ maxLen) (hx : Rd w w.heap.size 2 A xs.length (rR xs)) :
    Calls Try.prog 81 #[.slice A xs.length c, .func (Fn.func 54) #[] #[]] w fun e w' => e = .returned (.int .i64 (ixOf badG xs)) ∧ Below w.heap.size w w' := by
  unfold maxLen at hm
  have Hx := Lib.hid hx
  clear hx
  go_enter Try.func81, Try.ntmps81
  go_wp2
  go_loopw [8] (fun i wr => ∃ k : Nat, k ≤ xs.length ∧ i = .int .i64 k ∧ (∀ j, j < k → badG (at0 xs j) = false) ∧ Below w.heap.size w wr) (fun i _ => xs.length - (intOf i).toNat)
  case atStart => exact ⟨0, by omega, rfl, by omega, Below.refl _ _⟩
  case round =>
    obtain ⟨k, hk, rfl, hb, hbw⟩ := hrel
    have Hb := Lib.hid hb
    clear hb
    by_cases hlt : k < xs.length
    · obtain ⟨b, o, rfl, _, hx0, hx1⟩ := (Hx.out.below hbw).rng hlt
      have hsz := hbw.size
      by_cases hp : badG (at0 xs k) = true
      · have hfin := Lib.hid (ixOf_at hlt hp Hb.out)
        go_wp2_with (go_at_call 54; refine (gain1_any _ _).mono ?_; rintro e w' ⟨rfl, hb1⟩)
        go_ret
        exact ⟨ret_int hfin.out.symm, hbw.trans (hb1.mono hsz)⟩
      · have hp : badG (at0 xs k) = false := by simpa using hp
        go_wp2_with (go_at_call 54; refine (gain1_any _ _).mono ?_; rintro e w' ⟨rfl, hb1⟩)
        go_roundw
        case rel => exact ⟨k + 1, by omega, by go_num, succ_case Hb.out hp, hbw.trans (hb1.mono hsz)⟩
        case measure => simp [intOf]; omega
    · have hfin : Hid (ixOf badG xs = -1) := ixOf_none0 fun j hj => Hb.out j (by omega)
      go_wp2
      go_ret
      exact ⟨ret_int hfin.out.symm, hbw⟩
set_option maxHeartbeats 400000 in
theorem contains_gain (A : Option Addr) (c : Nat) (xs : List Rng) (w : World) (hm : xs.length ≤ maxLen) (hx : Rd w w.heap.size 2 A xs.length (rR xs)) :
    Calls Try.prog 53 #[.slice A xs.length c, .func (Fn.func 54) #[] #[]] w fun e w' => e = .returned (.bool (xs.any badG)) ∧ Below w.heap.size w w' := by
  have hfin := Lib.hid (ixOf_any (p := badG) (xs := xs))
  have Hx := Lib.hid hx
  clear hx
  go_enter Try.func53, Try.ntmps53
  go_wp2_with (go_at_call 81; refine (ix_gain _ _ _ _ hm Hx.out).mono ?_; rintro e w' ⟨rfl, hb1⟩)
  go_ret
  exact ⟨by rw [hfin.out]; rfl, hb1⟩
set_option maxHeartbeats 400000 in
theorem isGain_any (A : Option Addr) (n c : Nat) (xs : List Rng) (w : World) (hn : n = xs.length) (hm : n ≤ maxLen) (hx : Rd w w.heap.size 2 A n (rR xs)) :
    Calls Try.prog 28 #[.slice A n c] w fun e w' => e = .returned (.bool (!xs.any badG)) ∧ Below w.heap.size w w' := by
  subst hn
  have Hx := Lib.hid hx
  clear hx
  go_enter Try.func28, Try.ntmps28
  go_wp2_with (go_at_call 53; refine (contains_gain _ _ _ _ hm Hx.out).mono ?_; rintro e w' ⟨rfl, hb1⟩)
  go_ret
  exact ⟨rfl, hb1⟩
def ovw (f : Vec) (k m : Nat) (g : Vec) : Vec := fun i => if k ≤ i ∧ i < k + m then g (i - k) else f i
theorem ovw_ia (f g : Vec) {n k m : Nat} (h : k + m ≤ n) : ((ia n f).toList.take (k + 0) ++ (ia m g).toList ++ (ia n f).toList.drop (k + 0 + (ia m g).toList.length)).toArray = ia n (ovw f k m g) := by
  apply Array.ext_getElem?
  intro i
  have hl : (ia n f).toList.length = n := by simp [ia]
  have hm : (ia m g).toList.length = m := by simp [ia]
  rw [List.getElem?_toArray, hm, Nat.add_zero]
  by_cases hi : i < n
  · rw [ia_get hi]
    by_cases h1 : i < k
    · rw [List.append_assoc, List.getElem?_append_left (by rw [List.length_take]; omega), List.getElem?_take, if_pos h1, Array.getElem?_toList, ia_get hi, ovw, if_neg (by omega)]
    · by_cases h2 : i < k + m
      · rw [List.append_assoc, List.getElem?_append_right (by rw [List.length_take]; omega), List.length_take, List.getElem?_append_left (by rw [hm]; omega), Array.getElem?_toList, hl, show i - min k n = i - k by omega, ia_get (by omega), ovw, if_pos (by omega)]
      · rw [List.getElem?_append_right (by rw [List.length_append, List.length_take]; omega), List.length_append, List.length_take, List.getElem?_drop, Array.getElem?_toList, hl, hm, show k + m + (i - (min k n + m)) = i by omega, ia_get hi, ovw, if_neg (by omega)]
  · rw [List.getElem?_eq_none (by simp only [List.length_append, List.length_take, List.length_drop, hl, hm]; omega), Array.getElem?_eq_none (by rw [ia_size]; omega)]
section
variable {P : Program}
/-- A store of some integers into a block of integers. -/
theorem wpList_store_ia {ops : Array Oper} {rest : List Oper} {o : Oper} {a : Act} {w : World} {Q : Exit → Act → World → Prop} (hgd : o.guard = none) (ty : TypeId) (x y : Operand) (ho : o.op = .store ty x y)
    (b k n m : Nat) (hx : a.eval x = .pointer (some ⟨b, k, none⟩)) (f g : Vec) (t : TypeId) (hg : w.heap[b]? = some (.cells (ia n f) t (0, 0))) (hk : k + m ≤ n) (v : Value) (hv : v.cells = ia m g) (hy : a.eval y = v) (hi : (P.info? ty).map (·.size) = some m)
    (h : wpList P ops Q rest (a.put o.dst undef) (w.setRow b (ia n (ovw f k m g)))) : wpList P ops Q (o :: rest) a w := by
  refine wpList_plain hgd fun _ hK => ?_
  have hst := run_storeCells_at (P := P) b k t (ia m g).toList 0 (ia n f) w hg (by rw [ia_size]; simp [ia]; omega) ia_one
  rw [ovw_ia f g hk] at hst
  have hrun : (storeVar ty ⟨b, k, none⟩ v).run P w = .ok () (w.setRow b (ia n (ovw f k m g))) := by
    cases hq : P.info? ty with
    | none => simp [hq] at hi
    | some i =>
      have hs' : i.size = m := by simpa [hq] using hi
      simp only [storeVar, Sem.run_bind, sizeOf, typeInfo, hv]
      simp [hq, hs', Sem.run_bind, ia_size] at hst ⊢
      exact hst
  unfold Oper.wp execOp
  simp only [ho, hx, hy, Instr.storeAt, Instr.sureAddr, Sem.run_bind, Sem.run_pure, Result.andThen_ok, hrun]
  exact hK _ _ h
end
/-- A rule that lets everything through, its first g gauges set. -/
def softR (g : Nat) : Vec := fun i => if i < 12 then (if i / 2 < g ∧ i % 2 = 1 then 1000000 else 0) else if i < 18 then (if i - 12 < g then 1000000 else 0) else if i = 19 then 100000 else if i = 21 then 10000000000 else 0
/-- The puller whose first k rules are set. -/
def softP (k : Nat) : Vec := fun i => if i < 110 then (if i / 22 < k then softR 6 (i % 22) else 0) else if i = 110 then 2 else if i = 111 then 1 else if i = 112 then 97 else if i = 113 then 104 else if i = 114 then 600 else if i = 115 then 10 else 0
def softV : Vec := softP 5
theorem ia_congr {n : Nat} {f g : Vec} (h : ∀ i, i < n → f i = g i) : ia n f = ia n g := by
  apply Array.ext_getElem?
  intro i
  by_cases hi : i < n
  · rw [ia_get hi, ia_get hi, h i hi]
  · rw [Array.getElem?_eq_none (by rw [ia_size]; omega), Array.getElem?_eq_none (by rw [ia_size]; omega)]
/-- A valid puller. -/
structure VPul (p : Vec) : Prop where
  bd : ∀ r, r < 5 → ∀ g, g < 6 → 0 ≤ p (r * 22 + g * 2) ∧ p (r * 22 + g * 2) ≤ p (r * 22 + g * 2 + 1) ∧ p (r * 22 + g * 2 + 1) ≤ 1000000
  rm : ∀ r, r < 5 → ∀ g, g < 6 → 0 ≤ p (r * 22 + 12 + g) ∧ p (r * 22 + 12 + g) ≤ 1000000
  sc : ∀ r, r < 5 → 0 ≤ p (r * 22 + 18) ∧ p (r * 22 + 18) ≤ p (r * 22 + 19) ∧ p (r * 22 + 19) ≤ 100000
  ln : ∀ r, r < 5 → 0 ≤ p (r * 22 + 20) ∧ p (r * 22 + 20) ≤ p (r * 22 + 21) ∧ p (r * 22 + 21) ≤ 10000000000
  grow : 0 ≤ p 110 ∧ p 110 ≤ 1000000
  shrink : 0 ≤ p 111 ∧ p 111 ≤ 1000000
  lim : 0 ≤ p 112 ∧ p 112 ≤ p 113 ∧ p 113 ≤ 1000000
  slip : 0 ≤ p 114 ∧ p 114 ≤ 10000000000
  hold : 0 ≤ p 115 ∧ p 115 ≤ 100000
  grace : 0 ≤ p 116 ∧ p 116 ≤ 100000
theorem vPul_of {p : Vec} (h : okPuller p = true) : VPul p := by
  unfold okPuller at h
  rw [Bool.and_eq_true, List.all_eq_true] at h
  obtain ⟨h1, h2⟩ := h
  have hr : ∀ r, r < 5 → ruleB p r = true := fun r hr => h1 r (by simpa using hr)
  simp only [ruleB, Bool.and_eq_true, rangeB_iff, inB_iff] at hr
  simp only [restB, Bool.and_eq_true, rangeB_iff, inB_iff] at h2
  obtain ⟨⟨⟨a1, a2⟩, a3⟩, a4⟩ := h2
  refine ⟨fun r hr5 g hg => ?_, fun r hr5 g hg => ?_, fun r hr5 => ?_, fun r hr5 => ?_, a1 _ (by simp), a1 _ (by simp), a2 ⟨p 112, p 113⟩ (by simp), a3 _ (by simp), a4 _ (by simp), a4 _ (by simp)⟩
  · have := (hr r hr5).1.1.1
    have e : ∀ g, g < 6 → (⟨p (r * 22 + g * 2), p (r * 22 + g * 2 + 1)⟩ : Rng) ∈ bnds p (r * 22) := all6 (by simp [bnds]) (by simp [bnds]) (by simp [bnds]) (by simp [bnds]) (by simp [bnds]) (by simp [bnds])
    exact this _ (e g hg)
  · have := (hr r hr5).1.1.2
    have e : ∀ g, g < 6 → p (r * 22 + 12 + g) ∈ rmps p (r * 22) := all6 (by simp [rmps]) (by simp [rmps]) (by simp [rmps]) (by simp [rmps]) (by simp [rmps]) (by simp [rmps])
    exact this _ (e g hg)
  · exact (hr r hr5).1.2 ⟨p (r * 22 + 18), p (r * 22 + 19)⟩ (by simp)
  · exact (hr r hr5).2 ⟨p (r * 22 + 20), p (r * 22 + 21)⟩ (by simp)
open Go.ChangeMaps (setBlock)
section
variable {P : Program} {ops : Array Oper} {rest : List Oper} {o : Oper} {a : Act} {w : World} {Q : Exit → Act → World → Prop}
theorem wpList_insert (hgd : o.guard = none) (t : TypeId) (m k x : Operand) (ho : o.op = .insert t m k x) (b : Nat) (hm : a.eval m = .map (some b)) (kt et : TypeId) (ht : P.underlying t = some (.map kt et)) (hkt : P.underlying kt = some (.int .i64))
    (es : Array MapEntry) (clock : Nat) (hb : w.heap[b]? = some (.map es clock)) (key : Int) (hk : a.eval k = I key) (v : Value) (hv : a.eval x = v) (hnone : Instr.findNow (.int .i64) (I key) es.toList 0 = some none)
    (h : wpList P ops Q rest (a.put o.dst undef) (setBlock w b (.map (es.push ⟨I key, v, clock⟩) (clock + 1)))) : wpList P ops Q (o :: rest) a w := by
  refine wpList_plain hgd fun _ hK => ?_
  have hrun : (Instr.mapUpdate t (.map (some b)) (I key) v).run P w = .ok () (setBlock w b (.map (es.push ⟨I key, v, clock⟩) (clock + 1))) := by
    simp [Instr.mapUpdate, run_underlying ht, MapKept.run_getObj_map hb, MapKept.run_checkKey hkt (show MapKept.IsKey (.int .i64) (I key) from rfl), MapKept.run_findKey hkt hnone, MapKept.run_setObj_map _ hb, Result.andThen, setBlock]
  unfold Oper.wp
  simp [execOp, ho, hm, hk, hv, hrun, Result.andThen]
  exact hK _ _ h
theorem run_upd {t b : Nat} (kt et : TypeId) (ht : P.underlying t = some (.map kt et)) (hkt : P.underlying kt = some (.int .i64)) (es : Array MapEntry) (clock : Nat) (hb : w.heap[b]? = some (.map es clock)) (key : Int) (v : Value) (hnone : Instr.findNow (.int .i64) (I key) es.toList 0 = some none) :
    (Instr.mapUpdate t (.map (some b)) (I key) v).run P w = .ok () (setBlock w b (.map (es.push ⟨I key, v, clock⟩) (clock + 1))) := by
  simp [Instr.mapUpdate, run_underlying ht, MapKept.run_getObj_map hb, MapKept.run_checkKey hkt (show MapKept.IsKey (.int .i64) (I key) from rfl), MapKept.run_findKey hkt hnone, MapKept.run_setObj_map _ hb, Result.andThen, setBlock]
theorem wpList_makeMap (hgd : o.guard = none) (t : TypeId) (ho : o.op = .makeMap t none)
    (h : wpList P ops Q rest (a.put o.dst (.map (some w.heap.size))) (w.alloc (.map #[] 0))) : wpList P ops Q (o :: rest) a w := by
  refine wpList_plain hgd fun _ hK => ?_
  have hrun : (Instr.makeMap t none).run P w = .ok (.map (some w.heap.size)) (w.alloc (.map #[] 0)) := rfl
  unfold Oper.wp
  simp [execOp, ho, hrun, Result.andThen]
  exact hK _ _ h
theorem wpList_rangeMap (hgd : o.guard = none) (t : TypeId) (m : Operand) (ho : o.op = .range t m) (b : Nat) (hm : a.eval m = .map (some b)) (kt et : TypeId) (ht : P.underlying t = some (.map kt et)) (es : Array MapEntry) (clock : Nat) (hb : w.heap[b]? = some (.map es clock))
    (h : wpList P ops Q rest (a.put o.dst (.pointer (some ⟨w.heap.size, 0, none⟩))) (w.alloc (.mapIter (some b) clock #[] clock))) : wpList P ops Q (o :: rest) a w := by
  refine wpList_plain hgd fun _ hK => ?_
  have hrun := run_range_map (P := P) w t kt et b es clock ht hb
  unfold Oper.wp
  simp [execOp, ho, hm, hrun, Result.andThen]
  exact hK _ _ h
theorem wpList_nextMap (hgd : o.guard = none) (it : Operand) (ho : o.op = .next it false) (r b since c0 clock : Nat) (seen : Array Nat) (es : Array MapEntry) (hi : a.eval it = .pointer (some ⟨r, 0, none⟩))
    (hr : w.heap[r]? = some (.mapIter (some b) since seen c0)) (hb : w.heap[b]? = some (.map es clock)) (hold : ∀ x ∈ es.toList, x.born < since) (hsc : since ≤ c0)
    (h0 : (leftOf es seen).size = 0 → wpList P ops Q rest (a.put o.dst (.tuple #[.bool false])) w)
    (h1 : ∀ e ∈ (leftOf es seen).toList, ∀ w1 : World, (w1 = w ∨ w1 = w.drew) → wpList P ops Q rest (a.put o.dst (.tuple #[.bool true, e.key, e.val])) (setBlock w1 r (.mapIter (some b) since (seen.push e.born) clock))) : wpList P ops Q (o :: rest) a w := by
  refine wpList_plain hgd fun _ hK => ?_
  unfold Oper.wp
  rcases run_next_at (P := P) w o.type r b since c0 seen es clock hr hb hold hsc with ⟨hz, hrun⟩ | ⟨e, he, w1, hw1, hrun⟩
  · simp [execOp, ho, hi, hrun, Result.andThen]
    exact hK _ _ (h0 hz)
  · simp [execOp, ho, hi, hrun, Result.andThen]
    exact hK _ _ (h1 e he w1 hw1)
theorem wpList_entryMap (hgd : o.guard = none) (it : Operand) (ho : o.op = .entry it) (r b since clock : Nat) (seen : Array Nat) (es : Array MapEntry) (e : MapEntry) (hi : a.eval it = .pointer (some ⟨r, 0, none⟩))
    (hr : w.heap[r]? = some (.mapIter (some b) since (seen.push e.born) clock)) (hb : w.heap[b]? = some (.map es clock)) (he : e ∈ es.toList) (hn : (es.toList.map (·.born)).Nodup)
    (h : wpList P ops Q rest (a.put o.dst (.tuple #[e.key, e.val])) w) : wpList P ops Q (o :: rest) a w := by
  refine wpList_plain hgd fun _ hK => ?_
  have hrun := run_entry_at (P := P) w r b since seen es clock e hr hb he hn
  unfold Oper.wp
  simp [execOp, ho, hi, hrun, Result.andThen]
  exact hK _ _ h
theorem wpList_next1 (hgd : o.guard = none) (it : Operand) (ho : o.op = .next it false) (r : Nat) (hi : a.eval it = .pointer (some ⟨r, 0, none⟩)) (v : Value) (w' : World) (hrun : (Instr.next (.pointer (some ⟨r, 0, none⟩)) false o.type).run P w = .ok v w')
    (h : wpList P ops Q rest (a.put o.dst v) w') : wpList P ops Q (o :: rest) a w := by
  refine wpList_plain hgd fun _ hK => ?_
  unfold Oper.wp
  simp [execOp, ho, hi, hrun, Result.andThen]
  exact hK _ _ h
theorem below_setBlock {B : Nat} {a w : World} (h : Below B a w) {g : Nat} (hg : B ≤ g) (o : Obj) : Below B a (setBlock w g o) :=
  h.trans ⟨rfl, rfl, rfl, by simp [setBlock], fun k hk => by show (w.heap.setIfInBounds g o)[k]? = w.heap[k]?; rw [Array.getElem?_setIfInBounds]; rw [if_neg (by omega)]⟩
theorem setBlock_same {w : World} {g : Nat} {o o' : Obj} (h : w.heap[g]? = some o) : (setBlock w g o').heap[g]? = some o' := (MapKept.heap_set h).1
theorem setBlock_other {w : World} {g k : Nat} {o' : Obj} (h : k ≠ g) : (setBlock w g o').heap[k]? = w.heap[k]? := by
  show (w.heap.setIfInBounds g o')[k]? = w.heap[k]?
  rw [Array.getElem?_setIfInBounds, if_neg (by omega)]
/-- One integer more. -/
theorem wpList_store_i (hgd : o.guard = none) (ty : TypeId) (x y : Operand) (ho : o.op = .store ty x y)
    (b k n : Nat) (hx : a.eval x = .pointer (some ⟨b, k, none⟩)) (f : Vec) (t : TypeId) (hg : w.heap[b]? = some (.cells (ia n f) t (0, 0))) (hk : k < n) (v : Int) (hy : a.eval y = I v) (hi : (P.info? ty).map (·.size) = some 1)
    (h : wpList P ops Q rest (a.put o.dst undef) (w.setRow b (ia n (ovw f k 1 fun _ => v)))) : wpList P ops Q (o :: rest) a w :=
  wpList_store_ia hgd ty x y ho b k n 1 hx f (fun _ => v) t hg (by omega) (I v) rfl hy hi h
end
/-- What is added to a gauge. -/
def mdN (tw : Int) (g : Rng) : Int := (mdF tw g.lo (2 * g.hi) 3).1
def twF (p : Vec) (x : Rng) : Int := x.lo + x.hi - (p 112 + p 113)
/-- The setting before its limits, with the gauges that were changed. -/
def xSt (s : Stg) (tw : Int) (g h : Rng) (a b : Bool) (k : Nat) : Int := s.v k + (if k = 0 ∧ a = true then mdN tw g else 0) + (if k = 1 ∧ b = true then mdN tw h else 0)
def loS (p : Vec) (s : Stg) (at_ : Int) (k : Nat) : Int := max (s.v k - p (12 + k) * (at_ - s.t)) (p (k * 2))
def hiS (p : Vec) (s : Stg) (at_ : Int) (k : Nat) : Int := min (s.v k + p (12 + k) * (at_ - s.t)) (p (k * 2 + 1))
/-- The next setting. -/
def nxSt (p : Vec) (g h : Rng) (s : Stg) (at_ : Int) (x : Rng) : Stg := ⟨at_, s.ph, fun k => min (max (xSt s (twF p x) g h true true k) (loS p s at_ k)) (hiS p s at_ k)⟩
/-- What is asked of what Steer is given. -/
structure StOk (p : Vec) (s : Stg) (at_ : Int) (x : Rng) : Prop where
  pul : okPuller p = true
  set : okSet s = true
  ph : s.ph = 1
  t : 0 ≤ s.t ∧ s.t < at_ ∧ at_ ≤ 100000
  rng : rangeB 1000000 [x] = true
  bd : ∀ k, k < 6 → p (k * 2) ≤ s.v k ∧ s.v k ≤ p (k * 2 + 1)
theorem one8 {a b c d e f g h : Value} (h1 : a.oneCell' = true) (h2 : b.oneCell' = true) (h3 : c.oneCell' = true) (h4 : d.oneCell' = true) (h5 : e.oneCell' = true) (h6 : f.oneCell' = true) (h7 : g.oneCell' = true) (h8 : h.oneCell' = true) : ∀ v ∈ (#[a, b, c, d, e, f, g, h] : Array Value).toList, v.oneCell' = true := by
  intro v hv
  simp only [List.mem_cons, List.not_mem_nil, or_false] at hv
  rcases hv with rfl | rfl | rfl | rfl | rfl | rfl | rfl | rfl <;> assumption
/-- A setting's eight numbers. -/
def stV (s : Stg) : Vec := fun k => match k with | 0 => s.t | 1 => s.ph | k + 2 => s.v k
theorem st_at (s : Stg) (at_ : Int) : ia 8 (ovw (stV s) 0 1 fun _ => at_) = ia 8 (stV ⟨at_, s.ph, s.v⟩) := ia_congr fun i hi => by
  match i with
  | 0 => rfl
  | i + 1 => unfold ovw; rw [if_neg (by omega)]; cases i <;> rfl
theorem st_v (t ph : Int) (f f' : Nat → Int) (k : Nat) (v : Int) (h : f' k = v) (h' : ∀ j, j ≠ k → f' j = f j) : ia 8 (ovw (stV ⟨t, ph, f⟩) (2 + k) 1 fun _ => v) = ia 8 (stV ⟨t, ph, f'⟩) := ia_congr fun i _ => by
  unfold ovw
  match i with
  | 0 => rw [if_neg (by omega)]; rfl
  | 1 => rw [if_neg (by omega)]; rfl
  | i + 2 =>
    by_cases hi : i = k
    · subst hi; rw [if_pos (by omega)]; exact h.symm
    · rw [if_neg (by omega)]; exact (h' i hi).symm
/-- The map's entries. -/
def gE (g h : Rng) : Array MapEntry := #[⟨I 0, .agg #[I g.lo, I g.hi], 0⟩, ⟨I 1, .agg #[I h.lo, I h.hi], 1⟩]
abbrev gnArr (g h : Rng) : Array Value := #[I g.lo, I g.hi, I h.lo, I h.hi]
def stR (p : Vec) (g h : Rng) (s : Stg) (at_ : Int) (x : Rng) : Value := if badG g || badG h then .tuple #[.agg #[I 0, I 0, I 0, I 0, I 0, I 0, I 0, I 0], I 2] else .tuple #[(nxSt p g h s at_ x).val, I 0]
theorem iter_at {w : World} {r : Nat} {m : Option Nat} {a c : Nat} {seen : Array Nat} (h : w.heap[r]? = some (.mapIter m a seen c)) : w.iterSeen r = seen := by simp [World.iterSeen, h]
theorem mdF_small (a b c how : Int) : -1000000000000000 ≤ (mdF a b c how).1 ∧ (mdF a b c how).1 ≤ 1000000000000000 := by
  unfold mdF
  split
  · simp
  · split
    · simp
    · split
      · rename_i h; exact numB_iff.1 h
      · simp
/-- A puller whose first rule is the one of the body. -/
def q5 (p : Vec) : Vec := fun j => if j < 22 then p (66 + j) else p j
theorem q5_lt (p : Vec) {j : Nat} (h : j < 22) : q5 p j = p (66 + j) := if_pos h
theorem q5_ge (p : Vec) {j : Nat} (h : ¬ j < 22) : q5 p j = p j := if_neg h
/-- What is asked of what Steer is given in the body. -/
structure StOk4 (p : Vec) (s : Stg) (at_ : Int) (x : Rng) : Prop where
  pul : okPuller p = true
  set : okSet s = true
  ph : s.ph = 4
  t : 0 ≤ s.t ∧ s.t < at_ ∧ at_ ≤ 100000
  rng : rangeB 1000000 [x] = true
  bd : ∀ k, k < 6 → p (66 + k * 2) ≤ s.v k ∧ s.v k ≤ p (66 + k * 2 + 1)
end Go.Proofs.Ytliddmhifnigdaa.Un
