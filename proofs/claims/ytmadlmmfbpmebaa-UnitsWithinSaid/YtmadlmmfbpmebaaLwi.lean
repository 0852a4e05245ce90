/- The walk of the law UnitsWithin. -/
import Derived.Test.YtmadlmmfbpmebaaU8
import Derived.Test.YtmadlmmfbpmebaaWf
import Derived.Test.YtmadlmmfbpmebaaJv
namespace Go.Proofs.Ytmadlmmfbpmebaa
open Go.RowKit
def SlO (sz n : Nat) (g : Nat → Nat → Value) (u : Value) (w : World) : Prop := ∃ A c, u = .slice A n c ∧ n ≤ c ∧ c ≤ maxLen ∧ Rd w w.heap.size sz A n g
theorem own_growO {P : Program} {f : FuncId} {args : Array Value} {w : World} {sz n : Nat} {g : Nat → Nat → Value} (h : Calls P f args w (RetLc w sz n g)) : Calls P f args w fun e w' => ∃ u, e = .returned u ∧ Le w w' ∧ Box (SlO sz n g) u w' :=
  h.mono fun _ _ ⟨A, c, he, h1, h2, hr, hb⟩ => ⟨_, he, hb, fun _ hl => ⟨A, c, rfl, h1, h2, (hr.below hl).more hl.size⟩⟩
def SlT (l : List Rng) (er : Int) (u : Value) (w : World) : Prop := ∃ A c, u = .tuple #[.slice A l.length c, I er] ∧ Rd w w.heap.size 2 A l.length (rR l)
theorem retL_growK {P : Program} {f : FuncId} {args : Array Value} {w : World} {l : List Rng} {er : Int} (h : Calls P f args w (RetL w (l, er))) : Calls P f args w fun e w' => ∃ u, e = .returned u ∧ Le w w' ∧ Box (SlT l er) u w' :=
  h.mono fun _ _ ⟨A, n, c, he, hn, _, hr, hb⟩ => ⟨_, he, hb, fun _ hl => ⟨A, c, by subst hn; rfl, by subst hn; exact (hr.below hl).more hl.size⟩⟩
theorem SlT.at {l : List Rng} {er : Int} {A : Option Addr} {c : Nat} {w : World} (h : SlT l er (.tuple #[.slice A l.length c, I er]) w) : Rd w w.heap.size 2 A l.length (rR l) := by
  obtain ⟨A', c', hu, hr⟩ := h
  have e : A = A' := by simp at hu; exact hu.1
  subst e
  exact hr
theorem runs_far {t l : List Rng} {y : Rng} {hi : Int} (h : Runs t y l hi) : ∀ i, i < l.length → (at0 t 0).lo + i ≤ (at0 l i).lo
  | 0, hl => by have := (runs_at h hl).1; omega
  | i + 1, hl => by
    have := runs_far h i (by omega)
    have := runs_gap h (show i < i + 1 by omega) hl
    have := runs_at h (show i < l.length by omega)
    omega
set_option maxRecDepth 100000 in
/-- The number x stands: its value lies in y. -/
theorem stands_any (A : Option Addr) (c : Nat) (t : List Rng) (x : Int) (y : Rng) (w : World) (ht : Tab t) (h0 : (at0 t 0).lo ≤ x) (h1 : x ≤ (at0 t (t.length - 1)).lo) (hx : Rd w w.heap.size 2 A t.length (rR t)) :
    Calls Try.prog 42 #[.slice A t.length c, I x, y.val] w fun e w' => e = .returned (.bool (insB (valF t x) y)) ∧ Below w.heap.size w w' := by
  have HX : Hid (∀ W', Below w.heap.size w W' → Rd W' w.heap.size 2 A t.length (rR t) ∧ w.heap.size ≤ W'.heap.size) := fun W' h => ⟨hx.below h, h.size⟩
  have co : Hid (∀ W', Below w.heap.size w W' → Calls Try.prog 31 #[.slice A t.length c] W' (RetLc W' 2 t.length (rR t))) := fun W' h => ownKnots_any A t.length c (rR t) W' w.heap.size (by have := ht.n60; omega) h.size (hx.below h)
  have cp := Lib.hid fun W => point_any x W
  have cv : Hid (∀ W' A' c', Rd W' W'.heap.size 2 A' t.length (rR t) → Calls Try.prog 33 #[.slice A' t.length c', (⟨x, x⟩ : Rng).val] W' (RetRn W' (valF t x, 0))) := fun W' A' c' h => by
    have := value2_any A' t.length c' t ⟨x, x⟩ W' W'.heap.size rfl (by have := ht.n60; unfold maxLen; omega) (Nat.le_refl _) h
    rwa [va_point ht h0 h1] at this
  have ci := Lib.hid fun W => inside_any (valF t x) y W
  clear hx h0 h1
  generalize valF t x = v at *
  obtain ⟨W, hW⟩ : ∃ W, W = (w.alloc (.cells #[I y.lo, I y.hi] 38)) := ⟨_, rfl⟩
  have rowW0 : W.heap[w.heap.size]? = some (.cells #[I y.lo, I y.hi] 38 (0, 0)) := by rw [hW]; exact heap_last _ _ _ rfl
  have yW00 := ovr_cell (W := W) (b := w.heap.size) (o := 0) (v := I y.lo) (by rw [cell_of_row _ _ _ _ _ _ rowW0]; rfl)
  have yW01 := ovr_cell (W := W) (b := w.heap.size) (o := 1) (v := I y.hi) (by rw [cell_of_row _ _ _ _ _ _ rowW0]; rfl)
  have RrowW0 := Lib.hid (ovr_row rowW0)
  clear rowW0
  have HUW : Hid (∀ u, Below w.heap.size w (ovr W u)) := U1 hW
  have HW := Lib.hid hW
  clear hW
  go_enter Try.func42, Try.ntmps42
  go_upto_region 1 with (fail)
  rw [← HW.out]
  obtain ⟨u0, hu0⟩ := ovr_self W
  rw [hu0]
  clear hu0
  go_wp2_with fail
  refine (co.out _ (HUW.out _)).mono ?_
  rintro e w1 ⟨A', c', rfl, _, _, hr, hb1⟩
  obtain ⟨u1, rfl⟩ := ovr_next hb1
  have HR : Hid (∀ W', Below (ovr W u1).heap.size (ovr W u1) W' → Rd W' W'.heap.size 2 A' t.length (rR t)) := fun W' h => (hr.below h).more h.size
  clear hb1 hr
  go_wp2_with fail
  refine (cp.out _).mono ?_
  rintro e w1 ⟨rfl, hb1⟩
  have hr := HR.out _ hb1
  obtain ⟨u2, rfl⟩ := ovr_next hb1
  have HR2 := Lib.hid hr
  clear hb1 hr
  go_wp2_with fail
  refine (cv.out _ _ _ HR2.out).mono ?_
  rintro e w1 ⟨rfl, hb1⟩
  obtain ⟨u3, rfl⟩ := ovr_next hb1
  clear hb1
  go_upto_region 2 with (refine wpList_store_fresh rfl 38 _ _ rfl #[I 0, I 0] 38 rfl #[I v.lo, I v.hi] rfl (one2 rfl rfl) rfl (by kernel_rfl) ?_)
  obtain ⟨Y, hY⟩ : ∃ Y, Y = ((ovr W u3).alloc (.cells #[I v.lo, I v.hi] 38)) := ⟨_, rfl⟩
  have reY : ∀ v, ∃ x, ovr Y v = ovr W x := fun v => ovr_re1 hY
  replace yW00 := tr_cell reY yW00
  replace yW01 := tr_cell reY yW01
  replace RrowW0 := Lib.hid (tr_row reY RrowW0.out)
  have rowY0 : Y.heap[(ovr W u3).heap.size]? = some (.cells #[I v.lo, I v.hi] 38 (0, 0)) := by rw [hY]; exact heap_last _ _ _ rfl
  have yY00 := ovr_cell (W := Y) (b := (ovr W u3).heap.size) (o := 0) (v := I v.lo) (by rw [cell_of_row _ _ _ _ _ _ rowY0]; rfl)
  have yY01 := ovr_cell (W := Y) (b := (ovr W u3).heap.size) (o := 1) (v := I v.hi) (by rw [cell_of_row _ _ _ _ _ _ rowY0]; rfl)
  have RrowY0 := Lib.hid (ovr_row rowY0)
  clear rowY0
  have HBY : Hid (∀ u, Below W.heap.size W (ovr Y u)) := fun u => by obtain ⟨x, hx⟩ := reY u; rw [hx]; exact ovr_below _ _
  have HUY : Hid (∀ u, Below w.heap.size w (ovr Y u)) := fun u => by obtain ⟨x, hx⟩ := reY u; rw [hx]; exact HUW.out x
  clear reY
  have HY := Lib.hid hY
  clear hY
  rw [← HY.out]
  obtain ⟨u4, hu4⟩ := ovr_self Y
  rw [hu4]
  clear hu4
  go_wp2_with fail
  refine (ci.out _).mono ?_
  rintro e w1 ⟨rfl, hb1⟩
  obtain ⟨u5, rfl⟩ := ovr_next hb1
  clear hb1
  go_wp2_with fail
  go_ret
  exact ⟨rfl, HUY.out _⟩
/-- The table of which the first k knots are turned over. -/
def tuG (t : List Rng) (k : Nat) (j i : Nat) : Value := if j < k ∧ i = 1 then I (-(at0 t j).hi) else rR t j i
theorem tuG_set (t : List Rng) {k n : Nat} (_ : k < n) : (flat 2 (tuG t k) n).set (k * 2 + 1) (I (-(at0 t k).hi)) = flat 2 (tuG t (k + 1)) n := by
  have gE : ∀ (g : Nat → Nat → Value) (m : Nat) (h : m < (flat 2 g n).length), (flat 2 g n)[m] = g (m / 2) (m % 2) := fun g m h => by simp [flat]
  refine List.ext_getElem (by simp [flat_len]) fun m h1 h2 => ?_
  rw [List.getElem_set, gE, gE]
  unfold tuG
  split
  · rename_i h
    have a : m / 2 = k := by omega
    have b : m % 2 = 1 := by omega
    rw [a, b, if_pos ⟨by omega, rfl⟩]
  · rename_i h
    by_cases hb : m % 2 = 1
    · by_cases hc : m / 2 < k
      · rw [if_pos ⟨hc, hb⟩, if_pos ⟨by omega, hb⟩]
      · rw [if_neg (fun h => hc h.1), if_neg (fun h' => by have := h'.1; omega)]
    · rw [if_neg (fun h => hb h.2), if_neg (fun h => hb h.2)]
theorem tuG_zero (t : List Rng) (n : Nat) : flat 2 (tuG t 0) n = flat 2 (rR t) n := flat_congr fun j hj i hi => by unfold tuG; rw [if_neg (fun h => absurd h.1 (by omega))]
theorem tuG_all (t : List Rng) : flat 2 (tuG t t.length) t.length = flat 2 (rR (tuT t)) t.length := flat_congr fun j hj i hi => by
  unfold tuG
  show _ = (at0 (tuT t) j).c i
  rw [tu_at hj]
  match i, hi with
  | 0, _ => rw [if_neg (fun h => absurd h.2 (by omega))]; rfl
  | 1, _ => rw [if_pos ⟨hj, rfl⟩]; rfl
theorem Htn_bd {t : List Rng} (ht : Tab t) {x : Int} (h0 : (at0 t 0).lo ≤ x) (h1 : x ≤ (at0 t (t.length - 1)).lo) : -1000000000001 ≤ (valF t x).lo ∧ (valF t x).hi ≤ 1000000000001 := by
  obtain ⟨i, hi, p1, p2⟩ := piece_of ht h0 h1
  have hup := ht.asc i (i + 1) (by omega) hi
  rw [val_piece ht hi ⟨p1, p2⟩]
  have hm := at_mono hup (Int.le_refl _) p1 p2 (Int.le_refl _)
  rw [at_first, at_last hup] at hm
  have y0 := ht.y i (by omega)
  have y1 := ht.y (i + 1) hi
  simp only at hm
  omega
set_option maxRecDepth 100000 in
set_option maxHeartbeats 8000000 in
theorem unitsWithin_any (A : Option Addr) (c : Nat) (t : List Rng) (y : Rng) (a0 a1 a2 : Int) (w : World) (_ : t.length ≤ c) (_ : c ≤ maxLen) (hx : Rd w w.heap.size 2 A t.length (rR t))
    (_ : ∀ j, j < t.length → (-9223372036854775808 ≤ (at0 t j).lo ∧ (at0 t j).lo ≤ 9223372036854775807) ∧ (-9223372036854775808 ≤ (at0 t j).hi ∧ (at0 t j).hi ≤ 9223372036854775807))
    (hs : (0 ≤ a0 ∧ a0 ≤ 65535) ∧ (0 ≤ a1 ∧ a1 ≤ 65535) ∧ (0 ≤ a2 ∧ a2 ≤ 65535)) :
    Calls Try.prog 10 #[.slice A t.length c, y.val, .agg #[.int .u16 a0, .int .u16 a1, .int .u16 a2]] w fun e w' => e = .returned (.bool true) ∧ Below w.heap.size w w' := by
  have ck := Lib.hid fun W => known_any W
  obtain ⟨W, hW⟩ : ∃ W, W = ((w.alloc (.cells #[I y.lo, I y.hi] 38)).alloc (.cells #[.int .u16 a0, .int .u16 a1, .int .u16 a2] 62)) := ⟨_, rfl⟩
  have rowW0 : W.heap[w.heap.size]? = some (.cells #[I y.lo, I y.hi] 38 (0, 0)) := by rw [hW]; exact heap_before (heap_last _ _ _ rfl)
  have yW00 := ovr_cell (W := W) (b := w.heap.size) (o := 0) (v := I y.lo) (by rw [cell_of_row _ _ _ _ _ _ rowW0]; rfl)
  have yW01 := ovr_cell (W := W) (b := w.heap.size) (o := 1) (v := I y.hi) (by rw [cell_of_row _ _ _ _ _ _ rowW0]; rfl)
  have RrowW0 := Lib.hid (ovr_row rowW0)
  clear rowW0
  have rowW1 : W.heap[w.heap.size + 1]? = some (.cells #[.int .u16 a0, .int .u16 a1, .int .u16 a2] 62 (0, 0)) := by rw [hW]; exact heap_last _ _ _ (by simp)
  have yW10 := ovr_cell (W := W) (b := w.heap.size + 1) (o := 0) (v := .int .u16 a0) (by rw [cell_of_row _ _ _ _ _ _ rowW1]; rfl)
  have yW11 := ovr_cell (W := W) (b := w.heap.size + 1) (o := 1) (v := .int .u16 a1) (by rw [cell_of_row _ _ _ _ _ _ rowW1]; rfl)
  have yW12 := ovr_cell (W := W) (b := w.heap.size + 1) (o := 2) (v := .int .u16 a2) (by rw [cell_of_row _ _ _ _ _ _ rowW1]; rfl)
  have RrowW1 := Lib.hid (ovr_row rowW1)
  clear rowW1
  have HUW : Hid (∀ u, Below w.heap.size w (ovr W u)) := U2 hW
  have HW := Lib.hid hW
  clear hW
  by_cases hl : 60 < t.length
  · have hb : decide (60 < (t.length : Int)) = true := decide_eq_true (by omega)
    clear hx hl hs
    go_enter Try.func10, Try.ntmps10
    go_upto_region 1 with (fail)
    rw [← HW.out]
    obtain ⟨u0, hu0⟩ := ovr_self W
    rw [hu0]
    clear hu0
    go_wp2_with fail
    refine (ck.out _).mono ?_
    rintro e w1 ⟨rfl, hb1⟩
    obtain ⟨u1, rfl⟩ := ovr_next hb1
    clear hb1
    go_wp2_with fail
    go_ret
    exact ⟨rfl, HUW.out _⟩
  have hb : decide (60 < (t.length : Int)) = false := decide_eq_false (by omega)
  have h60 : t.length ≤ 60 := by omega
  have HX : Hid (∀ W', Below w.heap.size w W' → Rd W' w.heap.size 2 A t.length (rR t) ∧ w.heap.size ≤ W'.heap.size) := fun W' h => ⟨hx.below h, h.size⟩
  have co : Hid (∀ W', Below w.heap.size w W' → Calls Try.prog 31 #[.slice A t.length c] W' (RetLc W' 2 t.length (rR t))) := fun W' h => ownKnots_any A t.length c (rR t) W' w.heap.size (by omega) h.size (hx.below h)
  have ct : Hid (∀ W' A' c', Rd W' W'.heap.size 2 A' t.length (rR t) → Calls Try.prog 32 #[.slice A' t.length c'] W' fun e w' => e = .returned (I (ctF t)) ∧ Below W'.heap.size W' w') := fun W' A' c' h => table_any A' t.length c' t W' W'.heap.size rfl (by unfold maxLen; omega) (Nat.le_refl _) h
  clear hx hl
  rcases ht : tabB t with _ | _
  · have h2 : ctF t = 2 := by rw [ctF, ht]; rfl
    rw [h2] at ct
    clear h2 ht hs
    go_enter Try.func10, Try.ntmps10
    go_upto_region 1 with (fail)
    rw [← HW.out]
    obtain ⟨u0, hu0⟩ := ovr_self W
    rw [hu0]
    clear hu0
    go_wp2_with fail
    refine (co.out _ (HUW.out _)).mono ?_
    rintro e w1 ⟨A', c', rfl, _, _, hr, hb1⟩
    obtain ⟨u1, rfl⟩ := ovr_next hb1
    have HR := Lib.hid hr
    clear hb1 hr
    go_wp2_with fail
    refine (ct.out _ _ _ HR.out).mono ?_
    rintro e w1 ⟨rfl, hb1⟩
    obtain ⟨u2, rfl⟩ := ovr_next hb1
    clear hb1
    go_wp2_with fail
    refine (ck.out _).mono ?_
    rintro e w1 ⟨rfl, hb1⟩
    obtain ⟨u3, rfl⟩ := ovr_next hb1
    clear hb1
    go_wp2_with fail
    go_ret
    exact ⟨rfl, HUW.out _⟩
  have Ht := Lib.hid (tab_iff.1 ht)
  have h2 : ctF t = 0 := by rw [ctF, ht]; rfl
  rw [h2] at ct
  clear h2 ht
  have h2 := Ht.out.n2
  have hb2 : decide ((t.length : Int) < 2) = false := decide_eq_false (by omega)
  have s1 : IntKind.i64.wrap ((t.length : Int) - 1) = ((t.length - 1 : Nat) : Int) := by rw [IntWalk.i64_in _ (by omega)]; omega
  have HS := Lib.hid hs
  clear hs
  go_enter Try.func10, Try.ntmps10
  go_upto_region 1 with (fail)
  rw [← HW.out]
  obtain ⟨u0, hu0⟩ := ovr_self W
  rw [hu0]
  clear hu0
  go_wp2_with fail
  refine (co.out _ (HUW.out _)).mono ?_
  rintro e w1 ⟨A', c', rfl, _, _, hr, hb1⟩
  obtain ⟨u1, rfl⟩ := ovr_next hb1
  have HR := Lib.hid hr
  clear hb1 hr
  go_wp2_with fail
  refine (ct.out _ _ _ HR.out).mono ?_
  rintro e w1 ⟨rfl, hb1⟩
  obtain ⟨u2, rfl⟩ := ovr_next hb1
  clear hb1
  go_upto_region 3 with (fail)
  have hbY := ovr_below W u2
  obtain ⟨Y, hY⟩ : ∃ Y, Y = ovr W u2 := ⟨_, rfl⟩
  rw [← hY] at hbY
  rw [← hY]
  have hY' := Lib.hid hY
  clear hY
  have hbY' := Lib.hid hbY
  have reY : ∀ v, ∃ x, ovr Y v = ovr W x := fun v => ovr_reB hbY v
  replace yW00 := tr_cell reY yW00
  replace yW01 := tr_cell reY yW01
  replace RrowW0 := Lib.hid (tr_row reY RrowW0.out)
  replace yW10 := tr_cell reY yW10
  replace yW11 := tr_cell reY yW11
  replace yW12 := tr_cell reY yW12
  replace RrowW1 := Lib.hid (tr_row reY RrowW1.out)
  have HUY : Hid (∀ u, Below w.heap.size w (ovr Y u)) := fun u => by obtain ⟨x, hx⟩ := reY u; rw [hx]; exact HUW.out x
  clear reY hbY
  obtain ⟨b, o, hA, _, e0, _⟩ := (HX.out _ (below_self HUY.out)).1.rng (show 0 < t.length by omega)
  obtain ⟨b', o', hA', _, e1, _⟩ := (HX.out _ (below_self HUY.out)).1.rng (show t.length - 1 < t.length by omega)
  rw [hA] at hA'
  (injection hA' with ea; injection ea with ea1 ea2; subst ea1 ea2)
  subst hA
  rw [Nat.zero_mul, Nat.add_zero] at e0
  have f0 := ovr_cell e0
  have f1 := ovr_cell e1
  obtain ⟨l0, hl0⟩ : ∃ x, (at0 t 0).lo = x := ⟨_, rfl⟩
  obtain ⟨l1, hl1⟩ : ∃ x, (at0 t (t.length - 1)).lo = x := ⟨_, rfl⟩
  rw [hl0] at e0 f0
  rw [hl1] at e1 f1
  have Hl0 := Lib.hid hl0
  have Hl1 := Lib.hid hl1
  clear hl0 hl1 HR ct
  refine wp_region_seq2 13 (fun j => if j = 12 then some (NewAt Y #[I 0, I 0] 38) else none) (by kernel_rfl) (by kernel_rfl) (by kernel_rfl) (by kernel_rfl) (by kernel_rfl) ?_
  simp only [List.take_succ_cons, List.take_zero, List.drop_succ_cons, List.drop_zero]
  repeat (refine wpG_one rfl rfl rfl ?_; intro K hK; go_big_quiet_op; go_big_quiet_on)
  refine wpG_make (NewAt Y #[I 0, I 0] 38) rfl rfl (fun w' hw' _ => ?_) (fun u hu => ?_)
  · go_simp
    exact new_grow hw'
  obtain ⟨_, _, bn, rfl, _, _⟩ := hu
  simp only [Act.put, List.setIfInBounds_toArray, List.set_cons_zero, List.set_cons_succ]
  refine wpG_nil (fun w5 hw5 hG => ?_)
  have hn := (Box.now hG.2).at
  clear hG
  refine wpTailIn_cons Wd.wide (by intro c h; cases h) ?_
  refine wp_store_row 38 _ _ rfl bn rfl _ _ hn.1 #[I l0, I l1] rfl (one2 rfl rfl) rfl (by kernel_rfl) ?_
  refine wpTailIn_nil ?_
  simp only [Act.put]
  obtain ⟨Z, hZ⟩ : ∃ Z, Z = w5.setRow bn #[I l0, I l1] := ⟨_, rfl⟩
  have rZ : Z.heap[bn]? = some (.cells #[I l0, I l1] 38 (0, 0)) := by rw [hZ]; exact setRow_same hn.1
  have hbZ : Below Y.heap.size Y Z := by rw [hZ]; exact below_setRow hw5.le hn.2 _
  rw [← hZ]
  clear hZ hn hw5 e0 e1 f0 f1
  have reZ : ∀ v, ∃ x, ovr Z v = ovr Y x := fun v => ovr_reB hbZ v
  replace yW00 := tr_cell reZ yW00
  replace yW01 := tr_cell reZ yW01
  replace RrowW0 := Lib.hid (tr_row reZ RrowW0.out)
  replace yW10 := tr_cell reZ yW10
  replace yW11 := tr_cell reZ yW11
  replace yW12 := tr_cell reZ yW12
  replace RrowW1 := Lib.hid (tr_row reZ RrowW1.out)
  have yZ00 := ovr_cell (W := Z) (b := bn) (o := 0) (v := I l0) (by rw [cell_of_row _ _ _ _ _ _ rZ]; rfl)
  have yZ01 := ovr_cell (W := Z) (b := bn) (o := 1) (v := I l1) (by rw [cell_of_row _ _ _ _ _ _ rZ]; rfl)
  have RrowZ0 := Lib.hid (ovr_row rZ)
  clear rZ
  have HUZ : Hid (∀ u, Below w.heap.size w (ovr Z u)) := fun u => by obtain ⟨x, hx⟩ := reZ u; rw [hx]; exact HUY.out x
  clear reZ hbZ
  obtain ⟨u3, hu3⟩ := ovr_self Z
  rw [hu3]
  clear hu3
  have hs := HS.out
  have h01 : l0 ≤ l1 := by
    have := Ht.out.asc 0 (t.length - 1) (by omega) (by omega)
    rw [Hl0.out, Hl1.out] at this
    omega
  have cp := Lib.hid fun W => part_any ⟨l0, l1⟩ a0 a1 W hs.1 hs.2.1
  have hpi := paF_in (r := ⟨l0, l1⟩) hs.1.1 hs.2.1.1 h01
  obtain ⟨⟨x0, x1⟩, hxx⟩ : ∃ q, paF ⟨l0, l1⟩ a0 a1 = q := ⟨_, rfl⟩
  rw [hxx] at cp hpi
  have cl := Lib.hid fun W => place_any ⟨x0, x1⟩ a2 W hs.2.2
  have hli := plF_in (r := ⟨x0, x1⟩) hs.2.2.1 hpi.2.1
  obtain ⟨p, hp⟩ : ∃ p, plF ⟨x0, x1⟩ a2 = p := ⟨_, rfl⟩
  rw [hp] at cl hli
  have Hpi : Hid (l0 ≤ x0 ∧ x0 ≤ x1 ∧ x1 ≤ l1 ∧ x0 ≤ p ∧ p ≤ x1) := ⟨hpi.1, hpi.2.1, hpi.2.2, hli.1, hli.2⟩
  clear hxx hp hpi hli hs h01
  go_wp2_with fail
  refine (cp.out _).mono ?_
  rintro e w1 ⟨rfl, hb1⟩
  obtain ⟨u4, rfl⟩ := ovr_next hb1
  clear hb1
  go_upto_region 5 with (refine wpList_store_fresh rfl 38 _ _ rfl #[I 0, I 0] 38 rfl #[I x0, I x1] rfl (one2 rfl rfl) rfl (by kernel_rfl) ?_)
  obtain ⟨V, hV⟩ : ∃ V, V = ((ovr Z u4).alloc (.cells #[I x0, I x1] 38)) := ⟨_, rfl⟩
  have reV : ∀ v, ∃ x, ovr V v = ovr Z x := fun v => ovr_re1 hV
  replace yW00 := tr_cell reV yW00
  replace yW01 := tr_cell reV yW01
  replace RrowW0 := Lib.hid (tr_row reV RrowW0.out)
  replace yW10 := tr_cell reV yW10
  replace yW11 := tr_cell reV yW11
  replace yW12 := tr_cell reV yW12
  replace RrowW1 := Lib.hid (tr_row reV RrowW1.out)
  replace yZ00 := tr_cell reV yZ00
  replace yZ01 := tr_cell reV yZ01
  replace RrowZ0 := Lib.hid (tr_row reV RrowZ0.out)
  have rowV0 : V.heap[(ovr Z u4).heap.size]? = some (.cells #[I x0, I x1] 38 (0, 0)) := by rw [hV]; exact heap_last _ _ _ rfl
  have yV00 := ovr_cell (W := V) (b := (ovr Z u4).heap.size) (o := 0) (v := I x0) (by rw [cell_of_row _ _ _ _ _ _ rowV0]; rfl)
  have yV01 := ovr_cell (W := V) (b := (ovr Z u4).heap.size) (o := 1) (v := I x1) (by rw [cell_of_row _ _ _ _ _ _ rowV0]; rfl)
  have RrowV0 := Lib.hid (ovr_row rowV0)
  clear rowV0
  have HBV : Hid (∀ u, Below Z.heap.size Z (ovr V u)) := fun u => by obtain ⟨x, hx⟩ := reV u; rw [hx]; exact ovr_below _ _
  have HUV : Hid (∀ u, Below w.heap.size w (ovr V u)) := fun u => by obtain ⟨x, hx⟩ := reV u; rw [hx]; exact HUZ.out x
  clear reV
  have HV := Lib.hid hV
  clear hV
  rw [← HV.out]
  obtain ⟨u5, hu5⟩ := ovr_self V
  rw [hu5]
  clear hu5
  go_wp2_with fail
  refine (cl.out _).mono ?_
  rintro e w1 ⟨rfl, hb1⟩
  obtain ⟨u6, rfl⟩ := ovr_next hb1
  clear hb1
  go_upto_region 6 with (fail)
  have hbX := ovr_below V u6
  obtain ⟨X, hX⟩ : ∃ X, X = ovr V u6 := ⟨_, rfl⟩
  rw [← hX] at hbX
  rw [← hX]
  have hX' := Lib.hid hX
  clear hX
  have hbX' := Lib.hid hbX
  have reX : ∀ v, ∃ x, ovr X v = ovr V x := fun v => ovr_reB hbX v
  replace yW00 := tr_cell reX yW00
  replace yW01 := tr_cell reX yW01
  replace RrowW0 := Lib.hid (tr_row reX RrowW0.out)
  replace yW10 := tr_cell reX yW10
  replace yW11 := tr_cell reX yW11
  replace yW12 := tr_cell reX yW12
  replace RrowW1 := Lib.hid (tr_row reX RrowW1.out)
  replace yZ00 := tr_cell reX yZ00
  replace yZ01 := tr_cell reX yZ01
  replace RrowZ0 := Lib.hid (tr_row reX RrowZ0.out)
  replace yV00 := tr_cell reX yV00
  replace yV01 := tr_cell reX yV01
  replace RrowV0 := Lib.hid (tr_row reX RrowV0.out)
  have HUX : Hid (∀ u, Below w.heap.size w (ovr X u)) := fun u => by obtain ⟨x, hx⟩ := reX u; rw [hx]; exact HUV.out x
  clear reX hbX
  have hTi : Inside t ⟨x0, x1⟩ := ⟨by rw [Hl0.out]; exact Hpi.out.1, Hpi.out.2.1, by rw [Hl1.out]; exact Hpi.out.2.2.1⟩
  have HTi := Lib.hid hTi
  have hva := va_in Ht.out hTi
  have hto := ar_holds Ht.out hTi (p := p) Hpi.out.2.2.2.1 Hpi.out.2.2.2.2
  have hvp := va_point Ht.out (p := p) (by rw [Hl0.out]; have := Hpi.out; omega) (by rw [Hl1.out]; have := Hpi.out; omega)
  have hor := val_ord t p
  have Htu := Lib.hid (tu_ar Ht.out hTi t.length (Nat.le_refl _))
  obtain ⟨⟨v0, v1⟩, hv⟩ : ∃ q, arK t ⟨x0, x1⟩ t.length = q := ⟨_, rfl⟩
  rw [hv] at hva hto Htu
  obtain ⟨⟨n0, n1⟩, ho⟩ : ∃ q, valF t p = q := ⟨_, rfl⟩
  rw [ho] at hto hvp hor
  have Ho := Lib.hid ho
  have Hvb : Hid (-1000000000001 ≤ v0 ∧ v1 ≤ 1000000000001) := by
    have h3 := ar_least Ht.out (y := ⟨-1000000000001, 1000000000001⟩) HTi.out (fun q q1 q2 => Htn_bd Ht.out (by have := HTi.out.1; simp only at this q1 q2; omega) (by have := HTi.out.2.2; simp only at this q1 q2; omega)) t.length (Nat.le_refl _)
    rw [hv] at h3
    exact h3
  have Hto : Hid (v0 ≤ n0 ∧ n1 ≤ v1 ∧ n0 ≤ n1 ∧ n1 ≤ n0 + 1) := ⟨hto.1, hto.2, hor.1, hor.2⟩
  have HwX : Hid (∀ w', Cl X w' → Below w.heap.size w w') := fun w' hw' => (below_self HUX.out).trans (hw'.le.mono (below_self HUX.out).size)
  have cv : Hid (∀ W' A' c' q, Rd W' W'.heap.size 2 A' t.length (rR t) → Calls Try.prog 33 #[.slice A' t.length c', Rng.val q] W' (RetRn W' (vaF t q))) := fun W' A' c' q h => value2_any A' t.length c' t q W' W'.heap.size rfl (by unfold maxLen; omega) (Nat.le_refl _) h
  have Hva := Lib.hid hva
  have Hvp := Lib.hid hvp
  clear hTi hva hvp hto hor hv ho
  refine wp_region_make_two (fun j => if j = 1 then some (SlO 2 t.length (rR t)) else if j = 3 then some (fun u _ => u = .tuple #[.agg #[I v0, I v1], I 0]) else if j = 7 then some (NewAt X #[I 0, I 0] 38) else none) [6] (by kernel_rfl) (by kernel_rfl) (by kernel_rfl) (by kernel_rfl) (by kernel_rfl) (by intro i hi; simp at hi; subst hi; rfl) ⟨rfl, rfl⟩ (fun c a d v w h => by cases d <;> exact h) ?_
  simp only [sleepTwo_cons, sleepTwo_two]
  repeat (refine wpG_one rfl rfl rfl ?_; intro K hK; go_big_quiet_op; go_big_quiet_on)
  refine wpG_make (SlO 2 t.length (rR t)) rfl rfl (fun w' hw' _ => ?_) (fun u hu => ?_)
  · go_simp
    exact own_growO (co.out w' (HwX.out w' hw'))
  obtain ⟨_, _, A3, d3, rfl, _, _, _⟩ := hu
  simp only [Act.put, List.setIfInBounds_toArray, List.set_cons_zero, List.set_cons_succ]
  repeat (refine wpG_one rfl rfl rfl ?_; intro K hK; go_big_quiet_op; go_big_quiet_on)
  refine wpG_make (fun u _ => u = .tuple #[.agg #[I v0, I v1], I 0]) rfl rfl (fun w' hw' hk => ?_) (fun u hu => ?_)
  · have hk1 := hk ⟨1, .data⟩ (by simp) rfl _ _ _ rfl rfl rfl (by simp) rfl
    obtain ⟨E, e, he, _, _, hr⟩ := hk1.now
    obtain ⟨rfl, _, rfl⟩ : A3 = E ∧ t.length = t.length ∧ d3 = e := by injection he with h1 h2 h3; exact ⟨h1, rfl, h3⟩
    go_simp
    have := cv.out w' _ d3 ⟨x0, x1⟩ hr
    rw [Hva.out] at this
    exact call_grow this
  obtain ⟨_, _, rfl⟩ := hu
  simp only [Act.put, List.setIfInBounds_toArray, List.set_cons_zero, List.set_cons_succ]
  repeat (refine wpG_one rfl rfl rfl ?_; intro K hK; go_big_quiet_op; go_big_quiet_on)
  refine wpG_make (NewAt X #[I 0, I 0] 38) rfl rfl (fun w' hw' _ => ?_) (fun u hu => ?_)
  · go_simp
    exact new_grow hw'
  obtain ⟨_, _, bv, rfl, _, _⟩ := hu
  simp only [Act.put, List.setIfInBounds_toArray, List.set_cons_zero, List.set_cons_succ]
  repeat (refine wpG_one rfl rfl rfl ?_; intro K hK; go_big_quiet_op; go_big_quiet_on)
  refine wpG_nil (fun w5 hw5 hG => ?_)
  have hn := (Box.now hG.2).at
  intro s t' hs ht'
  obtain rfl := Option.some.inj hs
  obtain rfl := Option.some.inj ht'
  clear hG hs ht'
  refine wp_store_row 38 _ _ rfl bv rfl _ _ hn.1 #[I v0, I v1] rfl (one2 rfl rfl) rfl (by kernel_rfl) ?_
  refine ⟨hw5.set hn.2 _, ?_⟩
  refine wp_assign _ (I 0) rfl rfl ?_
  refine ⟨hw5.set hn.2 _, ?_⟩
  simp only [Act.put, List.setIfInBounds_toArray, List.set_cons_zero, List.set_cons_succ]
  obtain ⟨Z3, hZ⟩ : ∃ Z, Z = w5.setRow bv #[I v0, I v1] := ⟨_, rfl⟩
  have rZ : Z3.heap[bv]? = some (.cells #[I v0, I v1] 38 (0, 0)) := by rw [hZ]; exact setRow_same hn.1
  have hbZ : Below X.heap.size X Z3 := by rw [hZ]; exact below_setRow hw5.le hn.2 _
  rw [← hZ]
  clear hZ hn hw5
  have reZ3 : ∀ v, ∃ x, ovr Z3 v = ovr X x := fun v => ovr_reB hbZ v
  replace yW00 := tr_cell reZ3 yW00
  replace yW01 := tr_cell reZ3 yW01
  replace RrowW0 := Lib.hid (tr_row reZ3 RrowW0.out)
  replace yW10 := tr_cell reZ3 yW10
  replace yW11 := tr_cell reZ3 yW11
  replace yW12 := tr_cell reZ3 yW12
  replace RrowW1 := Lib.hid (tr_row reZ3 RrowW1.out)
  replace yZ00 := tr_cell reZ3 yZ00
  replace yZ01 := tr_cell reZ3 yZ01
  replace RrowZ0 := Lib.hid (tr_row reZ3 RrowZ0.out)
  replace yV00 := tr_cell reZ3 yV00
  replace yV01 := tr_cell reZ3 yV01
  replace RrowV0 := Lib.hid (tr_row reZ3 RrowV0.out)
  have yZ300 := ovr_cell (W := Z3) (b := bv) (o := 0) (v := I v0) (by rw [cell_of_row _ _ _ _ _ _ rZ]; rfl)
  have yZ301 := ovr_cell (W := Z3) (b := bv) (o := 1) (v := I v1) (by rw [cell_of_row _ _ _ _ _ _ rZ]; rfl)
  have RrowZ30 := Lib.hid (ovr_row rZ)
  clear rZ
  have HUZ3 : Hid (∀ u, Below w.heap.size w (ovr Z3 u)) := fun u => by obtain ⟨x, hx⟩ := reZ3 u; rw [hx]; exact HUX.out x
  clear reZ3 hbZ
  obtain ⟨u7, hu7⟩ := ovr_self Z3
  rw [hu7]
  clear hu7
  have cvp : Hid (∀ W' A' c', Rd W' W'.heap.size 2 A' t.length (rR t) → Calls Try.prog 33 #[.slice A' t.length c', (⟨p, p⟩ : Rng).val] W' (RetRn W' (⟨n0, n1⟩, 0))) := fun W' A' c' h => by
    have := cv.out W' A' c' ⟨p, p⟩ h
    rwa [Hvp.out] at this
  have cpt := Lib.hid fun W => point_any p W
  have ci1 : Hid (∀ W', Calls Try.prog 38 #[(⟨n0, n1⟩ : Rng).val, (⟨v0, v1⟩ : Rng).val] W' fun e w' => e = .returned (.bool true) ∧ Below W'.heap.size W' w') := fun W' => by
    have := inside_any ⟨n0, n1⟩ ⟨v0, v1⟩ W'
    rwa [insB_iff.2 ⟨Hto.out.1, Hto.out.2.1, Hto.out.2.2.1⟩] at this
  have hn01 := Htn_bd Ht.out (x := p) (by rw [Hl0.out]; have := Hpi.out; omega) (by rw [Hl1.out]; have := Hpi.out; omega)
  rw [Ho.out] at hn01
  have w1 : IntKind.i64.wrap (n1 - n0) = n1 - n0 := IntWalk.i64_in _ (by have := Hto.out; simp only at hn01; omega)
  have g1 : decide (1 < n1 - n0) = false := decide_eq_false (by have := Hto.out; omega)
  clear hn01
  go_wp2_with fail
  refine (co.out _ (HUZ3.out _)).mono ?_
  rintro e w1 ⟨A4, d4, rfl, _, _, hr, hb1⟩
  obtain ⟨u8, rfl⟩ := ovr_next hb1
  have HR : Hid (∀ W', Below (ovr Z3 u8).heap.size (ovr Z3 u8) W' → Rd W' W'.heap.size 2 A4 t.length (rR t)) := fun W' h => (hr.below h).more h.size
  clear hb1 hr
  go_wp2_with fail
  refine (cpt.out _).mono ?_
  rintro e w1 ⟨rfl, hb1⟩
  have hr := HR.out _ hb1
  obtain ⟨u9, rfl⟩ := ovr_next hb1
  have HR2 := Lib.hid hr
  clear hb1 hr
  go_wp2_with fail
  refine (cvp.out _ _ _ HR2.out).mono ?_
  rintro e w1 ⟨rfl, hb1⟩
  obtain ⟨u10, rfl⟩ := ovr_next hb1
  clear hb1
  go_upto_region 8 with (refine wpList_store_fresh rfl 38 _ _ rfl #[I 0, I 0] 38 rfl #[I n0, I n1] rfl (one2 rfl rfl) rfl (by kernel_rfl) ?_)
  obtain ⟨Z4, hZ4⟩ : ∃ Z4, Z4 = ((ovr Z3 u10).alloc (.cells #[I n0, I n1] 38)) := ⟨_, rfl⟩
  have reZ4 : ∀ v, ∃ x, ovr Z4 v = ovr Z3 x := fun v => ovr_re1 hZ4
  replace yW00 := tr_cell reZ4 yW00
  replace yW01 := tr_cell reZ4 yW01
  replace RrowW0 := Lib.hid (tr_row reZ4 RrowW0.out)
  replace yW10 := tr_cell reZ4 yW10
  replace yW11 := tr_cell reZ4 yW11
  replace yW12 := tr_cell reZ4 yW12
  replace RrowW1 := Lib.hid (tr_row reZ4 RrowW1.out)
  replace yZ00 := tr_cell reZ4 yZ00
  replace yZ01 := tr_cell reZ4 yZ01
  replace RrowZ0 := Lib.hid (tr_row reZ4 RrowZ0.out)
  replace yV00 := tr_cell reZ4 yV00
  replace yV01 := tr_cell reZ4 yV01
  replace RrowV0 := Lib.hid (tr_row reZ4 RrowV0.out)
  replace yZ300 := tr_cell reZ4 yZ300
  replace yZ301 := tr_cell reZ4 yZ301
  replace RrowZ30 := Lib.hid (tr_row reZ4 RrowZ30.out)
  have rowZ40 : Z4.heap[(ovr Z3 u10).heap.size]? = some (.cells #[I n0, I n1] 38 (0, 0)) := by rw [hZ4]; exact heap_last _ _ _ rfl
  have yZ400 := ovr_cell (W := Z4) (b := (ovr Z3 u10).heap.size) (o := 0) (v := I n0) (by rw [cell_of_row _ _ _ _ _ _ rowZ40]; rfl)
  have yZ401 := ovr_cell (W := Z4) (b := (ovr Z3 u10).heap.size) (o := 1) (v := I n1) (by rw [cell_of_row _ _ _ _ _ _ rowZ40]; rfl)
  have RrowZ40 := Lib.hid (ovr_row rowZ40)
  clear rowZ40
  have HBZ4 : Hid (∀ u, Below Z3.heap.size Z3 (ovr Z4 u)) := fun u => by obtain ⟨x, hx⟩ := reZ4 u; rw [hx]; exact ovr_below _ _
  have HUZ4 : Hid (∀ u, Below w.heap.size w (ovr Z4 u)) := fun u => by obtain ⟨x, hx⟩ := reZ4 u; rw [hx]; exact HUZ3.out x
  clear reZ4
  have HZ4 := Lib.hid hZ4
  clear hZ4
  rw [← HZ4.out]
  obtain ⟨u11, hu11⟩ := ovr_self Z4
  rw [hu11]
  clear hu11
  go_wp2_with fail
  refine (ci1.out _).mono ?_
  rintro e w1 ⟨rfl, hb1⟩
  obtain ⟨u12, rfl⟩ := ovr_next hb1
  clear hb1
  go_upto_region 10 with (fail)
  have cs : Hid (∀ W', Below w.heap.size w W' → Calls Try.prog 31 #[.slice (some ⟨b, o, none⟩) t.length c] W' (RetSo W' 50 2 t.length (rR t))) := fun W' h => ownKnotsS_any (some ⟨b, o, none⟩) t.length c (rR t) W' w.heap.size (by omega) h.size (HX.out W' h).1
  go_wp2_with fail
  refine (cs.out _ (HUZ4.out _)).mono ?_
  rintro e w1 ⟨v5, rfl, hso, hb1⟩
  have hown := hso.resolve_left (fun h => by have := h.1; omega)
  obtain ⟨g, cap, rfl, hg⟩ : ∃ g cap, v5 = .slice (some ⟨g, 0, none⟩) t.length cap ∧ (ovr Z4 u12).heap.size ≤ g := by
    rcases hown.2 with ⟨rfl, h⟩ | ⟨g, cap, cur, hv, hg, _⟩
    · have := hown.1
      rw [flat_len] at this
      omega
    · exact ⟨g, cap, hv, hg⟩
  rw [← tuG_zero] at hown
  have Hown := Lib.hid hown
  have HB1 := Lib.hid hb1
  have hy := Ht.out.y
  clear hso hown hb1
  go_wp2_with fail
  go_loopw [15] (fun i wr => ∃ k : Nat, k ≤ t.length ∧ i = .int .i64 k ∧ wr.ownsRow (ovr Z4 u12).heap.size 50 2 (.slice (some ⟨g, 0, none⟩) t.length cap) t.length (flat 2 (tuG t k) t.length) ∧ Below (ovr Z4 u12).heap.size (ovr Z4 u12) wr) (fun i _ => t.length - (intOf i).toNat)
  case atStart => exact ⟨0, by omega, rfl, Hown.out, HB1.out⟩
  case round =>
    obtain ⟨k, hk, rfl, hown, hb⟩ := hrel
    rename World => X2
    by_cases hlt : k < t.length
    · have hltb : decide ((k : Int) < (t.length : Int)) = true := decide_eq_true (by omega)
      have hfz := hown.frozenAt (k * 2 + 1)
      have hcell : X2.cell? ⟨g, k * 2 + 1, none⟩ = some (I (at0 t k).hi) := by
        have := hown.cells (g := g) rfl (k * 2 + 1) _ (flat_get (tuG t k) hlt (by omega))
        rw [addr_add, Nat.zero_add] at this
        rw [this]
        unfold tuG
        rw [if_neg (fun h => absurd h.1 (by omega))]
        rfl
      obtain ⟨st1, st2⟩ := hown.stored (k * 2 + 1) (I (-(at0 t k).hi))
      rw [tuG_set t hlt] at st1
      have ng : IntKind.i64.wrap (-(at0 t k).hi) = -(at0 t k).hi := IntWalk.i64_in _ (by have := hy k hlt; omega)
      have St1 := Lib.hid st1
      have St2 : Hid (Below (ovr Z4 u12).heap.size (ovr Z4 u12) (X2.setCell ⟨g, k * 2 + 1, none⟩ (I (-(at0 t k).hi)))) := hb.trans ((Below.refl _ _).grown st2 hb.size (fun q hq => by injection hq with hq; subst hq; exact hg))
      generalize (at0 t k).hi = z at *
      clear st1 st2 hown hb
      go_wp2_with fail
      go_roundw
      case rel => exact ⟨k + 1, by omega, by go_num, St1.out, St2.out⟩
      case measure => simp [intOf]; omega
    · obtain rfl : k = t.length := by omega
      have hltb : decide ((t.length : Int) < (t.length : Int)) = false := decide_eq_false (by omega)
      have hrd : Rd X2 X2.heap.size 2 (some ⟨g, 0, none⟩) t.length (rR (tuT t)) := by
        rw [tuG_all] at hown
        obtain ⟨A9, c9, h9, _, hr9⟩ := Rd.of_own_cap hown
        obtain ⟨rfl, _, _⟩ : some ⟨g, 0, none⟩ = A9 ∧ t.length = t.length ∧ cap = c9 := by injection h9 with h1 h2 h3; exact ⟨h1, rfl, h3⟩
        exact hr9
      have hbb : Below Z4.heap.size Z4 X2 := (ovr_below Z4 u12).trans (hb.mono (ovr_below Z4 u12).size)
      have Hrd : Hid (∀ u, Rd (ovr X2 u) (ovr X2 u).heap.size 2 (some ⟨g, 0, none⟩) t.length (rR (tuT t))) := fun u => (hrd.below (ovr_below X2 u)).more (ovr_below X2 u).size
      have cvt : Hid (∀ u, Calls Try.prog 33 #[.slice (some ⟨g, 0, none⟩) t.length cap, (⟨x0, x1⟩ : Rng).val] (ovr X2 u) (RetRn (ovr X2 u) (⟨-v1, -v0⟩, 0))) := fun u => by
        have h1 := value2_any (some ⟨g, 0, none⟩) t.length cap (tuT t) ⟨x0, x1⟩ (ovr X2 u) _ (tu_len t).symm (by unfold maxLen; omega) (Nat.le_refl _) (Hrd.out u)
        have h2 : Inside (tuT t) ⟨x0, x1⟩ := by
          obtain ⟨i1, i2, i3⟩ := HTi.out
          exact ⟨by rw [tu_at (by omega)]; exact i1, i2, by rw [tu_len, tu_at (by omega)]; exact i3⟩
        rw [va_in (tu_tab Ht.out) h2, tu_len, Htu.out] at h1
        exact h1
      have hvb : -1000000000001 ≤ v0 ∧ v1 ≤ 1000000000001 ∧ v0 ≤ v1 := by
        have h3 := Hto.out
        have h4 := Hvb.out
        omega
      have w2 : IntKind.i64.wrap (-v1) = -v1 := IntWalk.i64_in _ (by omega)
      have w3 : IntKind.i64.wrap (-v0) = -v0 := IntWalk.i64_in _ (by omega)
      clear hown hb hrd hvb
      have reX2 : ∀ v, ∃ x, ovr X2 v = ovr Z4 x := fun v => ovr_reB hbb v
      replace yW00 := tr_cell reX2 yW00
      replace yW01 := tr_cell reX2 yW01
      replace RrowW0 := Lib.hid (tr_row reX2 RrowW0.out)
      replace yW10 := tr_cell reX2 yW10
      replace yW11 := tr_cell reX2 yW11
      replace yW12 := tr_cell reX2 yW12
      replace RrowW1 := Lib.hid (tr_row reX2 RrowW1.out)
      replace yZ00 := tr_cell reX2 yZ00
      replace yZ01 := tr_cell reX2 yZ01
      replace RrowZ0 := Lib.hid (tr_row reX2 RrowZ0.out)
      replace yV00 := tr_cell reX2 yV00
      replace yV01 := tr_cell reX2 yV01
      replace RrowV0 := Lib.hid (tr_row reX2 RrowV0.out)
      replace yZ300 := tr_cell reX2 yZ300
      replace yZ301 := tr_cell reX2 yZ301
      replace RrowZ30 := Lib.hid (tr_row reX2 RrowZ30.out)
      replace yZ400 := tr_cell reX2 yZ400
      replace yZ401 := tr_cell reX2 yZ401
      replace RrowZ40 := Lib.hid (tr_row reX2 RrowZ40.out)
      have HUX2 : Hid (∀ u, Below w.heap.size w (ovr X2 u)) := fun u => by obtain ⟨x, hx⟩ := reX2 u; rw [hx]; exact HUZ4.out x
      clear reX2 hbb
      obtain ⟨u13, hu13⟩ := ovr_self X2
      rw [hu13]
      clear hu13
      go_wp2_with fail
      refine (cvt.out _).mono ?_
      rintro e w1 ⟨rfl, hb1⟩
      obtain ⟨u14, rfl⟩ := ovr_next hb1
      clear hb1
      go_upto_region 16 with (refine wpList_store_fresh rfl 38 _ _ rfl #[I 0, I 0] 38 rfl #[I (-v1), I (-v0)] rfl (one2 rfl rfl) rfl (by kernel_rfl) ?_)
      obtain ⟨X3, hX3⟩ : ∃ X3, X3 = ((ovr X2 u14).alloc (.cells #[I (-v1), I (-v0)] 38)) := ⟨_, rfl⟩
      have reX3 : ∀ v, ∃ x, ovr X3 v = ovr X2 x := fun v => ovr_re1 hX3
      replace yW00 := tr_cell reX3 yW00
      replace yW01 := tr_cell reX3 yW01
      replace RrowW0 := Lib.hid (tr_row reX3 RrowW0.out)
      replace yW10 := tr_cell reX3 yW10
      replace yW11 := tr_cell reX3 yW11
      replace yW12 := tr_cell reX3 yW12
      replace RrowW1 := Lib.hid (tr_row reX3 RrowW1.out)
      replace yZ00 := tr_cell reX3 yZ00
      replace yZ01 := tr_cell reX3 yZ01
      replace RrowZ0 := Lib.hid (tr_row reX3 RrowZ0.out)
      replace yV00 := tr_cell reX3 yV00
      replace yV01 := tr_cell reX3 yV01
      replace RrowV0 := Lib.hid (tr_row reX3 RrowV0.out)
      replace yZ300 := tr_cell reX3 yZ300
      replace yZ301 := tr_cell reX3 yZ301
      replace RrowZ30 := Lib.hid (tr_row reX3 RrowZ30.out)
      replace yZ400 := tr_cell reX3 yZ400
      replace yZ401 := tr_cell reX3 yZ401
      replace RrowZ40 := Lib.hid (tr_row reX3 RrowZ40.out)
      have rowX30 : X3.heap[(ovr X2 u14).heap.size]? = some (.cells #[I (-v1), I (-v0)] 38 (0, 0)) := by rw [hX3]; exact heap_last _ _ _ rfl
      have yX300 := ovr_cell (W := X3) (b := (ovr X2 u14).heap.size) (o := 0) (v := I (-v1)) (by rw [cell_of_row _ _ _ _ _ _ rowX30]; rfl)
      have yX301 := ovr_cell (W := X3) (b := (ovr X2 u14).heap.size) (o := 1) (v := I (-v0)) (by rw [cell_of_row _ _ _ _ _ _ rowX30]; rfl)
      have RrowX30 := Lib.hid (ovr_row rowX30)
      clear rowX30
      have HBX3 : Hid (∀ u, Below X2.heap.size X2 (ovr X3 u)) := fun u => by obtain ⟨x, hx⟩ := reX3 u; rw [hx]; exact ovr_below _ _
      have HUX3 : Hid (∀ u, Below w.heap.size w (ovr X3 u)) := fun u => by obtain ⟨x, hx⟩ := reX3 u; rw [hx]; exact HUX2.out x
      clear reX3
      have HX3 := Lib.hid hX3
      clear hX3
      rw [← HX3.out]
      obtain ⟨u15, hu15⟩ := ovr_self X3
      rw [hu15]
      clear hu15
      go_upto_region 18 with (fail)
      have cw : Hid (∀ W' A' c', Rd W' W'.heap.size 2 A' t.length (rR t) → Calls Try.prog 41 #[.slice A' t.length c', y.val] W' (RetL W' (weF t y))) := fun W' A' c' h => where2_any A' t.length c' t y W' W'.heap.size rfl (by unfold maxLen; omega) (Nat.le_refl _) h
      have hwe : Hid ((rngOk y = true ∧ (weF t y).2 = 0 ∧ Runs t y (weF t y).1 l1) ∨ ((weF t y).1.length = 0 ∧ (weF t y).2 = 2)) := by
        show _ ∨ _
        unfold weF
        rcases hy2 : rngOk y with _ | _
        · right; rw [tab_iff.2 Ht.out]; exact ⟨rfl, rfl⟩
        · left; rw [tab_iff.2 Ht.out, ← Hl1.out]; exact ⟨rfl, rfl, runs_all Ht.out⟩
      obtain ⟨⟨l, z⟩, hq⟩ : ∃ q, weF t y = q := ⟨_, rfl⟩
      rw [hq] at cw hwe
      clear hq
      have hbX4 := ovr_below X3 u15
      obtain ⟨X4, hX4⟩ : ∃ X4, X4 = ovr X3 u15 := ⟨_, rfl⟩
      rw [← hX4] at hbX4
      rw [← hX4]
      have hX4' := Lib.hid hX4
      clear hX4
      have hbX4' := Lib.hid hbX4
      have reX4 : ∀ v, ∃ x, ovr X4 v = ovr X3 x := fun v => ovr_reB hbX4 v
      replace yW00 := tr_cell reX4 yW00
      replace yW01 := tr_cell reX4 yW01
      replace RrowW0 := Lib.hid (tr_row reX4 RrowW0.out)
      replace yW10 := tr_cell reX4 yW10
      replace yW11 := tr_cell reX4 yW11
      replace yW12 := tr_cell reX4 yW12
      replace RrowW1 := Lib.hid (tr_row reX4 RrowW1.out)
      replace yZ00 := tr_cell reX4 yZ00
      replace yZ01 := tr_cell reX4 yZ01
      replace RrowZ0 := Lib.hid (tr_row reX4 RrowZ0.out)
      replace yV00 := tr_cell reX4 yV00
      replace yV01 := tr_cell reX4 yV01
      replace RrowV0 := Lib.hid (tr_row reX4 RrowV0.out)
      replace yZ300 := tr_cell reX4 yZ300
      replace yZ301 := tr_cell reX4 yZ301
      replace RrowZ30 := Lib.hid (tr_row reX4 RrowZ30.out)
      replace yZ400 := tr_cell reX4 yZ400
      replace yZ401 := tr_cell reX4 yZ401
      replace RrowZ40 := Lib.hid (tr_row reX4 RrowZ40.out)
      replace yX300 := tr_cell reX4 yX300
      replace yX301 := tr_cell reX4 yX301
      replace RrowX30 := Lib.hid (tr_row reX4 RrowX30.out)
      have HUX4 : Hid (∀ u, Below w.heap.size w (ovr X4 u)) := fun u => by obtain ⟨x, hx⟩ := reX4 u; rw [hx]; exact HUX3.out x
      clear reX4 hbX4
      have HwX4 : Hid (∀ w', Cl X4 w' → Below w.heap.size w w') := fun w' hw' => (below_self HUX4.out).trans (hw'.le.mono (below_self HUX4.out).size)
      refine wp_region_make (fun j => if j = 1 then some (SlO 2 t.length (rR t)) else if j = 3 then some (SlT l z) else none) (by kernel_rfl) (by kernel_rfl) (by kernel_rfl) ?_
      repeat (refine wpG_one rfl rfl rfl ?_; intro K hK; go_big_quiet_op; go_big_quiet_on)
      refine wpG_make (SlO 2 t.length (rR t)) rfl rfl (fun w' hw' _ => ?_) (fun u hu => ?_)
      · go_simp
        exact own_growO (co.out w' (HwX4.out w' hw'))
      obtain ⟨_, _, A5, d5, rfl, _, _, _⟩ := hu
      simp only [Act.put, List.setIfInBounds_toArray, List.set_cons_zero, List.set_cons_succ]
      repeat (refine wpG_one rfl rfl rfl ?_; intro K hK; go_big_quiet_op; go_big_quiet_on)
      refine wpG_make (SlT l z) rfl rfl (fun w' hw' hk => ?_) (fun u hu => ?_)
      · have hk1 := hk ⟨1, .data⟩ (by simp) rfl _ _ _ rfl rfl rfl (by simp) rfl
        obtain ⟨E, e, he, _, _, hr⟩ := hk1.now
        obtain ⟨rfl, _, rfl⟩ : A5 = E ∧ t.length = t.length ∧ d5 = e := by injection he with h1 h2 h3; exact ⟨h1, rfl, h3⟩
        go_simp
        exact retL_growK (cw.out w' _ _ hr)
      obtain ⟨_, _, A6, d6, rfl, _⟩ := hu
      simp only [Act.put, List.setIfInBounds_toArray, List.set_cons_zero, List.set_cons_succ]
      repeat (refine wpG_one rfl rfl rfl ?_; intro K hK; go_big_quiet_op; go_big_quiet_on)
      refine wpG_nil (fun w5 hw5 hG => ?_)
      have hr6 := (Box.now hG.2).at
      have hb5 := hw5.le
      clear hw5 hG
      have HL6 : Hid (∀ W', Below w5.heap.size w5 W' → Rd W' w5.heap.size 2 A6 l.length (rR l)) := fun W' h => hr6.below h
      have hsz5 : X4.heap.size ≤ w5.heap.size := Below.size hb5
      clear hr6
      have rew5 : ∀ v, ∃ x, ovr w5 v = ovr X4 x := fun v => ovr_reB hb5 v
      replace yW00 := tr_cell rew5 yW00
      replace yW01 := tr_cell rew5 yW01
      replace RrowW0 := Lib.hid (tr_row rew5 RrowW0.out)
      replace yW10 := tr_cell rew5 yW10
      replace yW11 := tr_cell rew5 yW11
      replace yW12 := tr_cell rew5 yW12
      replace RrowW1 := Lib.hid (tr_row rew5 RrowW1.out)
      replace yZ00 := tr_cell rew5 yZ00
      replace yZ01 := tr_cell rew5 yZ01
      replace RrowZ0 := Lib.hid (tr_row rew5 RrowZ0.out)
      replace yV00 := tr_cell rew5 yV00
      replace yV01 := tr_cell rew5 yV01
      replace RrowV0 := Lib.hid (tr_row rew5 RrowV0.out)
      replace yZ300 := tr_cell rew5 yZ300
      replace yZ301 := tr_cell rew5 yZ301
      replace RrowZ30 := Lib.hid (tr_row rew5 RrowZ30.out)
      replace yZ400 := tr_cell rew5 yZ400
      replace yZ401 := tr_cell rew5 yZ401
      replace RrowZ40 := Lib.hid (tr_row rew5 RrowZ40.out)
      replace yX300 := tr_cell rew5 yX300
      replace yX301 := tr_cell rew5 yX301
      replace RrowX30 := Lib.hid (tr_row rew5 RrowX30.out)
      have HUw5 : Hid (∀ u, Below w.heap.size w (ovr w5 u)) := fun u => by obtain ⟨x, hx⟩ := rew5 u; rw [hx]; exact HUX4.out x
      clear rew5 hb5
      obtain ⟨u16, hu16⟩ := ovr_self w5
      rw [hu16]
      clear hu16
      rcases hwe.out with ⟨hyv, hz0, hruns⟩ | ⟨hl0, hz2⟩
      case inr =>
        have hz2 : z = 2 := hz2
        subst hz2
        have hl0 : l.length = 0 := hl0
        have l0b : ((l.length : Int) == 0) = true := by rw [hl0]; rfl
        have HL0 := Lib.hid hl0
        clear hl0
        go_wp2_with fail
        refine (ck.out _).mono ?_
        rintro e w1 ⟨rfl, hb1⟩
        obtain ⟨u17, rfl⟩ := ovr_next hb1
        clear hb1
        go_wp2_with fail
        go_ret
        exact ⟨rfl, HUw5.out _⟩
      have hz0 : z = 0 := hz0
      subst hz0
      have HRu : Hid (Runs t y l l1) := hruns
      have HYv := Lib.hid hyv
      have hin : hasR l p l.length = insB ⟨n0, n1⟩ y := by
        have h := has_all HRu.out (p := p) (by rw [Hl0.out]; have := Hpi.out; omega) (by have := Hpi.out; omega)
        rwa [Ho.out] at h
      have Hin := Lib.hid hin
      clear hruns hyv hin hsz5
      go_upto_region 22 with (fail)
      go_wp2_with fail
      go_loopw [19, 20] (fun h i wr => ∃ k : Nat, k ≤ l.length ∧ i = .int .i64 k ∧ h = .bool (hasR l p k) ∧ ∃ u, wr = ovr w5 u) (fun _ i _ => l.length - (intOf i).toNat)
      case atStart => exact ⟨0, by omega, rfl, rfl, u16, rfl⟩
      case round =>
        obtain ⟨k, hk, rfl, rfl, u18, rfl⟩ := hrel
        by_cases hlt : k < l.length
        · have hltb : decide ((k : Int) < (l.length : Int)) = true := decide_eq_true (by omega)
          obtain ⟨b6, o6, rfl, _, e0, e1⟩ := (HL6.out _ (ovr_below w5 u18)).rng hlt
          have hra := runs_at HRu.out hlt
          rw [Hl0.out] at hra
          have Hra := Lib.hid hra
          have hHi := hra
          have hkb : (k = 0 ∧ decide (0 < (k : Int)) = false) ∨ (0 < k ∧ decide (0 < (k : Int)) = true) := by
            rcases Nat.eq_zero_or_pos k with h | h
            · exact .inl ⟨h, decide_eq_false (by omega)⟩
            · exact .inr ⟨h, decide_eq_true (by omega)⟩
          obtain ⟨r, hr⟩ : ∃ r, at0 l k = r := ⟨_, rfl⟩
          rw [hr] at e0 e1 hra
          have Hr := Lib.hid hr
          have ci3 : Hid (∀ W', Calls Try.prog 38 #[r.val, (⟨l0, l1⟩ : Rng).val] W' fun e w' => e = .returned (.bool true) ∧ Below W'.heap.size W' w') := fun W' => by
            have := inside_any r ⟨l0, l1⟩ W'
            rwa [insB_iff.2 ⟨hra.1, hra.2.2, hra.2.1⟩] at this
          clear hr hra hHi
          go_upto_region 26 with (refine wpList_store_fresh rfl 38 _ _ rfl #[I 0, I 0] 38 rfl #[I r.lo, I r.hi] rfl (one2 rfl rfl) rfl (by kernel_rfl) ?_)
          obtain ⟨V6, hV6⟩ : ∃ V6, V6 = ((ovr w5 u18).alloc (.cells #[I r.lo, I r.hi] 38)) := ⟨_, rfl⟩
          have reV6 : ∀ v, ∃ x, ovr V6 v = ovr w5 x := fun v => ovr_re1 hV6
          replace yW00 := tr_cell reV6 yW00
          replace yW01 := tr_cell reV6 yW01
          replace RrowW0 := Lib.hid (tr_row reV6 RrowW0.out)
          replace yW10 := tr_cell reV6 yW10
          replace yW11 := tr_cell reV6 yW11
          replace yW12 := tr_cell reV6 yW12
          replace RrowW1 := Lib.hid (tr_row reV6 RrowW1.out)
          replace yZ00 := tr_cell reV6 yZ00
          replace yZ01 := tr_cell reV6 yZ01
          replace RrowZ0 := Lib.hid (tr_row reV6 RrowZ0.out)
          replace yV00 := tr_cell reV6 yV00
          replace yV01 := tr_cell reV6 yV01
          replace RrowV0 := Lib.hid (tr_row reV6 RrowV0.out)
          replace yZ300 := tr_cell reV6 yZ300
          replace yZ301 := tr_cell reV6 yZ301
          replace RrowZ30 := Lib.hid (tr_row reV6 RrowZ30.out)
          replace yZ400 := tr_cell reV6 yZ400
          replace yZ401 := tr_cell reV6 yZ401
          replace RrowZ40 := Lib.hid (tr_row reV6 RrowZ40.out)
          replace yX300 := tr_cell reV6 yX300
          replace yX301 := tr_cell reV6 yX301
          replace RrowX30 := Lib.hid (tr_row reV6 RrowX30.out)
          have rowV60 : V6.heap[(ovr w5 u18).heap.size]? = some (.cells #[I r.lo, I r.hi] 38 (0, 0)) := by rw [hV6]; exact heap_last _ _ _ rfl
          have yV600 := ovr_cell (W := V6) (b := (ovr w5 u18).heap.size) (o := 0) (v := I r.lo) (by rw [cell_of_row _ _ _ _ _ _ rowV60]; rfl)
          have yV601 := ovr_cell (W := V6) (b := (ovr w5 u18).heap.size) (o := 1) (v := I r.hi) (by rw [cell_of_row _ _ _ _ _ _ rowV60]; rfl)
          have RrowV60 := Lib.hid (ovr_row rowV60)
          clear rowV60
          have HBV6 : Hid (∀ u, Below w5.heap.size w5 (ovr V6 u)) := fun u => by obtain ⟨x, hx⟩ := reV6 u; rw [hx]; exact ovr_below _ _
          have HUV6 : Hid (∀ u, Below w.heap.size w (ovr V6 u)) := fun u => by obtain ⟨x, hx⟩ := reV6 u; rw [hx]; exact HUw5.out x
          clear reV6
          have HV6 := Lib.hid hV6
          clear hV6
          rw [← HV6.out]
          obtain ⟨u19, hu19⟩ := ovr_self V6
          rw [hu19]
          clear hu19
          clear e0 e1
          simp only [Act.put]
          go_cut [182] from 163 to 182 (fun c wx => c = .bool false ∧ ∃ u, wx = ovr V6 u)
          case first =>
            have f0 := ovr_cell (yV600 u19)
            have f1 := ovr_cell (yV601 u19)
            have f2 := ovr_cell (yZ00 u19)
            have f3 := ovr_cell (yZ01 u19)
            rcases hkb with ⟨hk0, kb⟩ | ⟨hk0, kb⟩
            · have kb2 : decide (0 < k) = false := decide_eq_false (by omega)
              clear hk0
              refine wp_region_below_lit (by kernel_rfl) (by kernel_rfl) ?_
              repeat (go_big_quiet_step (exact call_below (ci3.out _)))
              refine wpQuiet_nil ?_
              intro w' hb
              obtain ⟨u20, rfl⟩ := ovr_next hb
              go_wp2_with fail
              go_meet
              case rel => exact ⟨rfl, u20, rfl⟩
            · obtain ⟨b7, o7, h7, _, d0, d1⟩ := (HL6.out _ (HBV6.out u19)).rng (show k - 1 < l.length by omega)
              obtain ⟨rfl, rfl⟩ : b6 = b7 ∧ o6 = o7 := by injection h7 with h7; injection h7 with h1 h2; exact ⟨h1, h2⟩
              have d0 := ovr_cell d0
              have d1 := ovr_cell d1
              have gap := runs_gap HRu.out (show k - 1 < k by omega) hlt
              rw [Hr.out] at gap
              have hrb := Hra.out
              rw [Hr.out] at hrb
              have hfar := runs_far HRu.out k hlt
              rw [Hr.out, Hl0.out] at hfar
              have hx0 := Ht.out.x 0 (by have := Ht.out.n2; omega)
              have hx1 := Ht.out.x (t.length - 1) (by have := Ht.out.n2; omega)
              rw [Hl0.out] at hx0
              rw [Hl1.out] at hx1
              have kb2 : decide (0 < k) = true := decide_eq_true (by omega)
              have wk : IntKind.i64.wrap ((k : Int) - 1) = ((k - 1 : Nat) : Int) := by rw [IntWalk.i64_in _ (by omega)]; omega
              have wl : IntKind.i64.wrap (r.lo - 1) = r.lo - 1 := IntWalk.i64_in _ (by omega)
              have k1 : decide ((k - 1) < l.length) = true := decide_eq_true (by omega)
              have k2 : decide (((k - 1 : Nat) : Int) < (l.length : Int)) = true := decide_eq_true (by omega)
              have k3 : decide (0 ≤ ((k - 1 : Nat) : Int)) = true := decide_eq_true (by omega)
              have gd : decide (r.lo - 1 ≤ (at0 l (k - 1)).hi) = false := decide_eq_false (by omega)
              clear gap hrb h7 hk0 hfar hx0 hx1
              refine wp_region_below_lit (by kernel_rfl) (by kernel_rfl) ?_
              repeat (go_big_quiet_step (exact call_below (ci3.out _)))
              refine wpQuiet_nil ?_
              intro w' hb
              obtain ⟨u20, rfl⟩ := ovr_next hb
              go_wp2_with fail
              go_meet
              case rel => exact ⟨rfl, u20, rfl⟩
          obtain ⟨rfl, u20, rfl⟩ := hcut
          have Hhs : Hid (hasR l p (k + 1) = (hasR l p k || (decide (r.lo ≤ p) && decide (p ≤ r.hi)))) := by
            show _ = _
            rw [hasR, Hr.out]
          go_upto_region 28 with (fail)
          go_cut [19] from 183 to 195 (fun c wx => c = .bool (hasR l p (k + 1)) ∧ wx = ovr V6 u20)
          case first =>
            rcases hB : hasR l p k with _ | _
            · by_cases hp1 : r.lo ≤ p
              · have hd1 : decide (r.lo ≤ p) = true := decide_eq_true hp1
                have Hd : Hid (hasR l p (k + 1) = decide (p ≤ r.hi)) := by show _ = _; rw [Hhs.out, hB, hd1]; simp
                clear hp1 hB
                go_wp2_with fail
                go_meet
                case rel => exact ⟨by rw [Hd.out], rfl⟩
              · have hd1 : decide (r.lo ≤ p) = false := decide_eq_false hp1
                have Hd : Hid (hasR l p (k + 1) = false) := by show _ = _; rw [Hhs.out, hB, hd1]; simp
                clear hp1 hB
                go_wp2_with fail
                go_meet
                case rel => exact ⟨by rw [Hd.out], rfl⟩
            · have Hd : Hid (hasR l p (k + 1) = true) := by show _ = _; rw [Hhs.out, hB]; simp
              clear hB
              go_wp2_with fail
              go_meet
              case rel => exact ⟨by rw [Hd.out], rfl⟩
          obtain ⟨rfl, rfl⟩ := hcut
          go_upto_region 29 with (fail)
          have hbX6 := ovr_below V6 u20
          obtain ⟨X6, hX6⟩ : ∃ X6, X6 = ovr V6 u20 := ⟨_, rfl⟩
          rw [← hX6] at hbX6
          rw [← hX6]
          have hX6' := Lib.hid hX6
          clear hX6
          have hbX6' := Lib.hid hbX6
          have reX6 : ∀ v, ∃ x, ovr X6 v = ovr V6 x := fun v => ovr_reB hbX6 v
          replace yW00 := tr_cell reX6 yW00
          replace yW01 := tr_cell reX6 yW01
          replace RrowW0 := Lib.hid (tr_row reX6 RrowW0.out)
          replace yW10 := tr_cell reX6 yW10
          replace yW11 := tr_cell reX6 yW11
          replace yW12 := tr_cell reX6 yW12
          replace RrowW1 := Lib.hid (tr_row reX6 RrowW1.out)
          replace yZ00 := tr_cell reX6 yZ00
          replace yZ01 := tr_cell reX6 yZ01
          replace RrowZ0 := Lib.hid (tr_row reX6 RrowZ0.out)
          replace yV00 := tr_cell reX6 yV00
          replace yV01 := tr_cell reX6 yV01
          replace RrowV0 := Lib.hid (tr_row reX6 RrowV0.out)
          replace yZ300 := tr_cell reX6 yZ300
          replace yZ301 := tr_cell reX6 yZ301
          replace RrowZ30 := Lib.hid (tr_row reX6 RrowZ30.out)
          replace yZ400 := tr_cell reX6 yZ400
          replace yZ401 := tr_cell reX6 yZ401
          replace RrowZ40 := Lib.hid (tr_row reX6 RrowZ40.out)
          replace yX300 := tr_cell reX6 yX300
          replace yX301 := tr_cell reX6 yX301
          replace RrowX30 := Lib.hid (tr_row reX6 RrowX30.out)
          replace yV600 := tr_cell reX6 yV600
          replace yV601 := tr_cell reX6 yV601
          replace RrowV60 := Lib.hid (tr_row reX6 RrowV60.out)
          have HUX6 : Hid (∀ u, Below w.heap.size w (ovr X6 u)) := fun u => by obtain ⟨x, hx⟩ := reX6 u; rw [hx]; exact HUV6.out x
          clear reX6 hbX6
          have hB6 : Below w5.heap.size w5 X6 := by rw [hX6'.out]; exact HBV6.out u20
          have Hir : Hid (Inside t r) := by
            have h := Hra.out
            rw [Hr.out] at h
            exact ⟨by rw [Hl0.out]; exact h.1, h.2.1, by rw [Hl1.out]; exact h.2.2⟩
          have hva := va_in Ht.out Hir.out
          have hst : ∀ q, r.lo ≤ q → q ≤ r.hi → y.lo ≤ (valF t q).lo ∧ (valF t q).hi ≤ y.hi := fun q q1 q2 => runs_in HRu.out hlt (by rw [Hr.out]; exact q1) (by rw [Hr.out]; exact q2)
          have hle := ar_least Ht.out Hir.out hst t.length (Nat.le_refl _)
          have hord := ar_le (t := t) r t.length
          obtain ⟨⟨g0, g1⟩, hg⟩ : ∃ q, arK t r t.length = q := ⟨_, rfl⟩
          rw [hg] at hva hle hord
          have ci4 : Hid (∀ W', Calls Try.prog 38 #[(⟨g0, g1⟩ : Rng).val, y.val] W' fun e w' => e = .returned (.bool true) ∧ Below W'.heap.size W' w') := fun W' => by
            have := inside_any ⟨g0, g1⟩ y W'
            rwa [insB_iff.2 ⟨hle.1, hle.2, hord⟩] at this
          have Hva6 := Lib.hid hva
          have HB6' := Lib.hid hB6
          have HwX6 : Hid (∀ w', Cl X6 w' → Below w.heap.size w w') := fun w' hw' => (below_self HUX6.out).trans (hw'.le.mono (below_self HUX6.out).size)
          clear hva hst hle hord hg hB6
          refine wp_region_make_two (fun j => if j = 1 then some (SlO 2 t.length (rR t)) else if j = 3 then some (fun u _ => u = .tuple #[.agg #[I g0, I g1], I 0]) else if j = 7 then some (NewAt X6 #[I 0, I 0] 38) else none) [6] (by kernel_rfl) (by kernel_rfl) (by kernel_rfl) (by kernel_rfl) (by kernel_rfl) (by intro i hi; simp at hi; subst hi; rfl) ⟨rfl, rfl⟩ (fun c a d v w h => by cases d <;> exact h) ?_
          simp only [sleepTwo_cons, sleepTwo_two]
          repeat (refine wpG_one rfl rfl rfl ?_; intro K hK; go_big_quiet_op; go_big_quiet_on)
          refine wpG_make (SlO 2 t.length (rR t)) rfl rfl (fun w' hw' _ => ?_) (fun u hu => ?_)
          · go_simp
            exact own_growO (co.out w' (HwX6.out w' hw'))
          obtain ⟨_, _, A7, d7, rfl, _, _, _⟩ := hu
          simp only [Act.put, List.setIfInBounds_toArray, List.set_cons_zero, List.set_cons_succ]
          repeat (refine wpG_one rfl rfl rfl ?_; intro K hK; go_big_quiet_op; go_big_quiet_on)
          refine wpG_make (fun u _ => u = .tuple #[.agg #[I g0, I g1], I 0]) rfl rfl (fun w' hw' hk => ?_) (fun u hu => ?_)
          · have hk1 := hk ⟨1, .data⟩ (by simp) rfl _ _ _ rfl rfl rfl (by simp) rfl
            obtain ⟨E, e, he, _, _, hr⟩ := hk1.now
            obtain ⟨rfl, _, rfl⟩ : A7 = E ∧ t.length = t.length ∧ d7 = e := by injection he with h1 h2 h3; exact ⟨h1, rfl, h3⟩
            go_simp
            have := cv.out w' _ d7 r hr
            rw [Hva6.out] at this
            exact call_grow this
          obtain ⟨_, _, rfl⟩ := hu
          simp only [Act.put, List.setIfInBounds_toArray, List.set_cons_zero, List.set_cons_succ]
          repeat (refine wpG_one rfl rfl rfl ?_; intro K hK; go_big_quiet_op; go_big_quiet_on)
          refine wpG_make (NewAt X6 #[I 0, I 0] 38) rfl rfl (fun w' hw' _ => ?_) (fun u hu => ?_)
          · go_simp
            exact new_grow hw'
          obtain ⟨_, _, b22, rfl, _, _⟩ := hu
          simp only [Act.put, List.setIfInBounds_toArray, List.set_cons_zero, List.set_cons_succ]
          repeat (refine wpG_one rfl rfl rfl ?_; intro K hK; go_big_quiet_op; go_big_quiet_on)
          refine wpG_nil (fun w7 hw7 hG => ?_)
          have hn := (Box.now hG.2).at
          intro s t' hs ht'
          obtain rfl := Option.some.inj hs
          obtain rfl := Option.some.inj ht'
          clear hG hs ht'
          refine wp_store_row 38 _ _ rfl b22 rfl _ _ hn.1 #[I g0, I g1] rfl (one2 rfl rfl) rfl (by kernel_rfl) ?_
          refine ⟨hw7.set hn.2 _, ?_⟩
          refine wp_assign _ (I 0) rfl rfl ?_
          refine ⟨hw7.set hn.2 _, ?_⟩
          simp only [Act.put, List.setIfInBounds_toArray, List.set_cons_zero, List.set_cons_succ]
          obtain ⟨Z6, hZ⟩ : ∃ Z, Z = w7.setRow b22 #[I g0, I g1] := ⟨_, rfl⟩
          have rZ : Z6.heap[b22]? = some (.cells #[I g0, I g1] 38 (0, 0)) := by rw [hZ]; exact setRow_same hn.1
          have hbZ : Below X6.heap.size X6 Z6 := by rw [hZ]; exact below_setRow hw7.le hn.2 _
          rw [← hZ]
          have HB7 : Hid (∀ u, Below w5.heap.size w5 (ovr Z6 u)) := fun u => HB6'.out.trans ((hbZ.trans ((ovr_below Z6 u).mono hbZ.size)).mono HB6'.out.size)
          clear hZ hn hw7
          have reZ6 : ∀ v, ∃ x, ovr Z6 v = ovr X6 x := fun v => ovr_reB hbZ v
          replace yW00 := tr_cell reZ6 yW00
          replace yW01 := tr_cell reZ6 yW01
          replace RrowW0 := Lib.hid (tr_row reZ6 RrowW0.out)
          replace yW10 := tr_cell reZ6 yW10
          replace yW11 := tr_cell reZ6 yW11
          replace yW12 := tr_cell reZ6 yW12
          replace RrowW1 := Lib.hid (tr_row reZ6 RrowW1.out)
          replace yZ00 := tr_cell reZ6 yZ00
          replace yZ01 := tr_cell reZ6 yZ01
          replace RrowZ0 := Lib.hid (tr_row reZ6 RrowZ0.out)
          replace yV00 := tr_cell reZ6 yV00
          replace yV01 := tr_cell reZ6 yV01
          replace RrowV0 := Lib.hid (tr_row reZ6 RrowV0.out)
          replace yZ300 := tr_cell reZ6 yZ300
          replace yZ301 := tr_cell reZ6 yZ301
          replace RrowZ30 := Lib.hid (tr_row reZ6 RrowZ30.out)
          replace yZ400 := tr_cell reZ6 yZ400
          replace yZ401 := tr_cell reZ6 yZ401
          replace RrowZ40 := Lib.hid (tr_row reZ6 RrowZ40.out)
          replace yX300 := tr_cell reZ6 yX300
          replace yX301 := tr_cell reZ6 yX301
          replace RrowX30 := Lib.hid (tr_row reZ6 RrowX30.out)
          replace yV600 := tr_cell reZ6 yV600
          replace yV601 := tr_cell reZ6 yV601
          replace RrowV60 := Lib.hid (tr_row reZ6 RrowV60.out)
          have yZ600 := ovr_cell (W := Z6) (b := b22) (o := 0) (v := I g0) (by rw [cell_of_row _ _ _ _ _ _ rZ]; rfl)
          have yZ601 := ovr_cell (W := Z6) (b := b22) (o := 1) (v := I g1) (by rw [cell_of_row _ _ _ _ _ _ rZ]; rfl)
          have RrowZ60 := Lib.hid (ovr_row rZ)
          clear rZ
          have HUZ6 : Hid (∀ u, Below w.heap.size w (ovr Z6 u)) := fun u => by obtain ⟨x, hx⟩ := reZ6 u; rw [hx]; exact HUX6.out x
          clear reZ6 hbZ
          obtain ⟨u21, hu21⟩ := ovr_self Z6
          rw [hu21]
          clear hu21
          go_wp2_with fail
          refine (ci4.out _).mono ?_
          rintro e w1 ⟨rfl, hb1⟩
          obtain ⟨u22, rfl⟩ := ovr_next hb1
          clear hb1
          have cs1 : Hid (l0 < r.lo → ∀ u, Calls Try.prog 42 #[.slice (some ⟨b, o, none⟩) t.length c, I (r.lo - 1), y.val] (ovr Z6 u) fun e w' => e = .returned (.bool false) ∧ Below (ovr Z6 u).heap.size (ovr Z6 u) w') := fun h u => by
            obtain ⟨i1, i2, i3⟩ := Hir.out
            have hx := HX.out _ (HUZ6.out u)
            have hn : insB (valF t (r.lo - 1)) y = false := by
              rw [← Bool.not_eq_true, ins_st]
              have := runs_ahead HRu.out hlt (by rw [Hl0.out, Hr.out]; exact h)
              rwa [Hr.out] at this
            have := stands_any (some ⟨b, o, none⟩) c t (r.lo - 1) y (ovr Z6 u) Ht.out (by rw [Hl0.out]; omega) (by omega) (hx.1.more hx.2)
            rwa [hn] at this
          have cs2 : Hid (r.hi < l1 → ∀ u, Calls Try.prog 42 #[.slice (some ⟨b, o, none⟩) t.length c, I (r.hi + 1), y.val] (ovr Z6 u) fun e w' => e = .returned (.bool false) ∧ Below (ovr Z6 u).heap.size (ovr Z6 u) w') := fun h u => by
            obtain ⟨i1, i2, i3⟩ := Hir.out
            have hx := HX.out _ (HUZ6.out u)
            have hn : insB (valF t (r.hi + 1)) y = false := by
              rw [← Bool.not_eq_true, ins_st]
              have := runs_behind HRu.out hlt (by rw [Hr.out]; exact h)
              rwa [Hr.out] at this
            have := stands_any (some ⟨b, o, none⟩) c t (r.hi + 1) y (ovr Z6 u) Ht.out (by omega) (by rw [Hl1.out]; omega) (hx.1.more hx.2)
            rwa [hn] at this
          have hrb := Hir.out
          have hx0 := Ht.out.x 0 (by have := Ht.out.n2; omega)
          have hx1 := Ht.out.x (t.length - 1) (by have := Ht.out.n2; omega)
          have w6 : IntKind.i64.wrap (r.lo - 1) = r.lo - 1 := IntWalk.i64_in _ (by have := hrb.1; have := hrb.2; omega)
          have w7 : IntKind.i64.wrap (r.hi + 1) = r.hi + 1 := IntWalk.i64_in _ (by have := hrb.1; have := hrb.2; omega)
          have hk12 : (k : Int) ≤ 3000000000000 := by
            have hfar := runs_far HRu.out k hlt
            rw [Hr.out] at hfar
            have := hrb.2
            omega
          clear hrb hx0 hx1
          go_upto_region 32 with (fail)
          go_cut [238] from 211 to 238 (fun c wx => c = .bool false ∧ ∃ u, wx = ovr Z6 u)
          case first =>
            by_cases h1 : l0 < r.lo
            · have d1 : decide (l0 < r.lo) = true := decide_eq_true h1
              have cs1' := Lib.hid (cs1.out h1)
              clear h1
              go_wp2_with fail
              refine (cs1'.out _).mono ?_
              rintro e w1 ⟨rfl, hb1⟩
              obtain ⟨u23, rfl⟩ := ovr_next hb1
              clear hb1
              by_cases h2 : r.hi < l1
              · have d2 : decide (r.hi < l1) = true := decide_eq_true h2
                have cs2' := Lib.hid (cs2.out h2)
                clear h2
                go_wp2_with fail
                refine (cs2'.out _).mono ?_
                rintro e w1 ⟨rfl, hb1⟩
                obtain ⟨u24, rfl⟩ := ovr_next hb1
                clear hb1
                go_wp2_with fail
                go_meet
                case rel => exact ⟨rfl, u24, rfl⟩
              · have d2 : decide (r.hi < l1) = false := decide_eq_false h2
                clear h2
                go_wp2_with fail
                go_meet
                case rel => exact ⟨rfl, u23, rfl⟩
            · have d1 : decide (l0 < r.lo) = false := decide_eq_false h1
              clear h1
              by_cases h2 : r.hi < l1
              · have d2 : decide (r.hi < l1) = true := decide_eq_true h2
                have cs2' := Lib.hid (cs2.out h2)
                clear h2
                go_wp2_with fail
                refine (cs2'.out _).mono ?_
                rintro e w1 ⟨rfl, hb1⟩
                obtain ⟨u24, rfl⟩ := ovr_next hb1
                clear hb1
                go_wp2_with fail
                go_meet
                case rel => exact ⟨rfl, u24, rfl⟩
              · have d2 : decide (r.hi < l1) = false := decide_eq_false h2
                clear h2
                go_wp2_with fail
                go_meet
                case rel => exact ⟨rfl, u22, rfl⟩
          obtain ⟨rfl, u25, rfl⟩ := hcut
          go_wp2_with fail
          go_roundw
          case rel => exact ⟨k + 1, by omega, by go_num, rfl, _, ovr_of (HB7.out u25)⟩
          case measure => simp [intOf]; omega
        · obtain rfl : k = l.length := by omega
          have hltb : decide ((l.length : Int) < (l.length : Int)) = false := decide_eq_false (by omega)
          have ci2 := Lib.hid fun W => inside_any ⟨n0, n1⟩ y W
          rw [Hin.out]
          go_wp2_with fail
          refine (ci2.out _).mono ?_
          rintro e w1 ⟨rfl, hb1⟩
          obtain ⟨u19, rfl⟩ := ovr_next hb1
          clear hb1
          have hbb : (insB ⟨n0, n1⟩ y == insB ⟨n0, n1⟩ y) = true := by simp
          generalize insB ⟨n0, n1⟩ y = bb at *
          go_wp2_with fail
          refine (ck.out _).mono ?_
          rintro e w1 ⟨rfl, hb1⟩
          obtain ⟨u20, rfl⟩ := ovr_next hb1
          clear hb1
          go_wp2_with fail
          go_ret
          exact ⟨rfl, HUw5.out _⟩
end Go.Proofs.Ytmadlmmfbpmebaa
