/- The law TopSteered: its walk. -/
import Derived.Test.YtliddmhifnigdaaTq
import Derived.Test.YtliddmhifnigdaaTb
import Derived.Test.YtliddmhifnigdaaTc
import Derived.Test.YtliddmhifnigdaaRo
import Derived.Test.YtliddmhifnigdaaDl
namespace Go.Proofs.Ytliddmhifnigdaa.Un
open Go.RowKit
def WdT (m : Mdl) (zs : List Rng) (u : Int) (V : Value) (w : World) : Prop := ∃ A c l, V = .tuple #[.slice A l.length c, I (ckF m zs u)] ∧ WinR m zs u l ∧ Rd w w.heap.size 2 A l.length (rR l)
theorem win_T {w w' : World} {m : Mdl} {zs : List Rng} {u : Int} {e : Ending} (h : RetW w m zs u e w') : ∃ V, e = .returned V ∧ Below w.heap.size w w' ∧ WdT m zs u V w' := by
  obtain ⟨V, l, he, hw, ho, hb⟩ := h
  obtain ⟨A, c, rfl, _, hrd⟩ := Rd.of_rc rfl ho
  exact ⟨_, he, hb, A, c, l, rfl, hw, hrd⟩
theorem WdT.below {m : Mdl} {zs : List Rng} {u : Int} {V : Value} {w w' : World} (h : WdT m zs u V w) (hb : Below w.heap.size w w') : WdT m zs u V w' := by
  obtain ⟨A, c, l, e, hw, hr⟩ := h
  exact ⟨A, c, l, e, hw, (hr.below hb).more hb.size⟩
theorem win_grow {P : Program} {f : FuncId} {args : Array Value} {w : World} {m : Mdl} {zs : List Rng} {u : Int} (h : Calls P f args w (RetW w m zs u)) : Calls P f args w fun e w' => ∃ V, e = .returned V ∧ Le w w' ∧ Box (WdT m zs u) V w' :=
  h.mono fun _ _ h => by
    obtain ⟨V, he, hb, hw⟩ := win_T h
    exact ⟨V, he, hb, fun _ hl => hw.below hl⟩
theorem WdT.same {m : Mdl} {zs : List Rng} {u : Int} {A : Option Addr} {n c : Nat} {e : Int} {w : World} (h : WdT m zs u (.tuple #[.slice A n c, I e]) w) : ∃ l, n = l.length ∧ WinR m zs u l ∧ Rd w w.heap.size 2 A l.length (rR l) := by
  obtain ⟨A', c', l, he, hw, hr⟩ := h
  injection he with he
  simp at he
  obtain ⟨⟨rfl, h2, _⟩, _⟩ := he
  exact ⟨l, h2, hw, hr⟩
theorem ck_cases (m : Mdl) (zs : List Rng) (u : Int) : ckF m zs u = 0 ∨ ckF m zs u = 2 ∨ ckF m zs u = 5 := by
  unfold ckF
  split
  · split
    · exact .inr (.inr rfl)
    · split
      · exact .inr (.inl rfl)
      · exact .inl rfl
  · exact .inr (.inl rfl)
theorem wp_store_ia {P : Program} {o : Oper} {a : Act} {w : World} {K : Act → World → Prop} {Q : Exit → Act → World → Prop} (ty : TypeId) (x y : Operand) (ho : o.op = .store ty x y)
    (b k n m : Nat) (hx : a.eval x = .pointer (some ⟨b, k, none⟩)) (f g : Vec) (t : TypeId) (hg : w.heap[b]? = some (.cells (ia n f) t (0, 0))) (hk : k + m ≤ n) (v : Value) (hv : v.cells = ia m g) (hy : a.eval y = v) (hi : (P.info? ty).map (·.size) = some m)
    (h : K (a.put o.dst undef) (w.setRow b (ia n (ovw f k m g)))) : o.wp P a w K Q := by
  have hst := run_storeCells_at (P := P) b k t (ia m g).toList 0 (ia n f) w hg (by rw [ia_size]; simp [ia]; omega) ia_one
  rw [ovw_ia f g hk] at hst
  have hrun : (storeVar ty ⟨b, k, none⟩ v).run P w = .ok () (w.setRow b (ia n (ovw f k m g))) := by
    cases hq : P.info? ty with
    | none => simp [hq] at hi
    | some i =>
      have hs' : i.size = m := by simpa [hq] using hi
      simp only [storeVar, Sem.run_bind, sizeOf, typeInfo, hv]
      simp [hq, hs', Sem.run_bind, ia_size] at hst ⊢
      exact hst
  unfold Oper.wp execOp
  simp only [ho, hx, hy, Instr.storeAt, Instr.sureAddr, Sem.run_bind, Sem.run_pure, Result.andThen_ok, hrun]
  exact h
theorem below_row_id {w : World} {g : Nat} {cs : Array Value} {t : TypeId} (h : w.heap[g]? = some (.cells cs t (0, 0))) : Below w.heap.size (w.setRow g cs) w :=
  ⟨rfl, rfl, rfl, by rw [setRow_size]; exact Nat.le_refl _, fun k _ => by
    by_cases hk : k = g
    · subst hk; rw [setRow_same h]; exact h
    · exact (setRow_other hk).symm⟩
theorem below_row_up {Y w : World} {g : Nat} {c1 c2 : Array Value} {t : TypeId} (h : Below Y.heap.size (Y.setRow g c1) w) (hY : Y.heap[g]? = some (.cells c1 t (0, 0)) ∨ ∃ c, Y.heap[g]? = some (.cells c t (0, 0))) (hw : w.heap[g]? = some (.cells c1 t (0, 0))) : Below Y.heap.size (Y.setRow g c2) (w.setRow g c2) := by
  have hYc : ∃ c, Y.heap[g]? = some (.cells c t (0, 0)) := by rcases hY with h | h; exact ⟨_, h⟩; exact h
  obtain ⟨c, hc⟩ := hYc
  obtain ⟨h1, h2, h3, h4, h5⟩ := h
  refine ⟨h1, h2, h3, by rw [setRow_size, setRow_size]; rw [setRow_size] at h4; exact h4, fun k hk => ?_⟩
  by_cases hkg : k = g
  · subst hkg; rw [setRow_same hw, setRow_same hc]
  · rw [setRow_other hkg, setRow_other hkg, h5 k hk, setRow_other hkg]
/-- What holds while the puller's bounds are set. -/
def PkS (Y0 : World) (PB BB : Nat) (P : Vec) (r : Rng) (k : Nat) (w : World) : Prop := Below Y0.heap.size (Y0.setRow PB (ia 117 (pkR P r k))) w ∧ w.heap[BB]? = some (.cells (ia 8 (stV ⟨0, 4, fun _ => 0⟩)) 51 (0, 0))
/-- What holds while the first setting is filled. -/
def BfS (Y : World) (BB : Nat) (f : Nat → Int) (j : Nat) (w : World) : Prop := Below Y.heap.size Y w ∧ w.heap[BB]? = some (.cells (ia 8 (stV ⟨0, 4, fun i => if i < j then f i else 0⟩)) 51 (0, 0))
/-- What holds on the way. -/
def MnS (Y : World) (BB : Nat) (Q : Vec) (g h : Rng) (k : Nat) (w : World) : Prop := ∃ s, Below Y.heap.size Y w ∧ w.heap[BB]? = some (.cells (ia 8 (stV s)) 51 (0, 0)) ∧ GoodT Q s k ∧ (0 < k → (badG g || badG h) = false)
set_option maxRecDepth 100000 in
theorem within_any (x : Int) (r : Rng) (w : World) (h1 : r.lo ≤ x) (h2 : x ≤ r.hi) : Calls Try.prog 11 #[I x, r.val] w fun e w' => e = .returned (.bool true) ∧ Below w.heap.size w w' := by
  obtain ⟨lo, hi⟩ := r
  have d1 : decide (lo ≤ x) = true := decide_eq_true h1
  have d2 : decide (x ≤ hi) = true := decide_eq_true h2
  clear h1 h2
  obtain ⟨W, hW⟩ : ∃ W, W = (w.alloc (.cells #[I lo, I hi] 23)) := ⟨_, rfl⟩
  have rowW0 : W.heap[w.heap.size]? = some (.cells #[I lo, I hi] 23 (0, 0)) := by rw [hW]; exact heap_last _ _ _ rfl
  have yW00 := ovr_cell (W := W) (b := w.heap.size) (o := 0) (v := I lo) (by rw [cell_of_row _ _ _ _ _ _ rowW0]; rfl)
  have yW01 := ovr_cell (W := W) (b := w.heap.size) (o := 1) (v := I hi) (by rw [cell_of_row _ _ _ _ _ _ rowW0]; rfl)
  have RrowW0 := Lib.hid (ovr_row rowW0)
  clear rowW0
  have HUW : Hid (∀ u, Below w.heap.size w (ovr W u)) := U1 hW
  have HW := Lib.hid hW
  clear hW
  go_enter Try.func11, Try.ntmps11
  go_upto_region 1 with (fail)
  rw [← HW.out]
  obtain ⟨u0, hu0⟩ := ovr_self W
  rw [hu0]
  clear hu0
  go_wp2_with fail
  go_ret
  exact ⟨rfl, HUW.out _⟩
theorem below_selfT {w Y : World} (h : ∀ u, Below w.heap.size w (ovr Y u)) : Below w.heap.size w Y := by
  obtain ⟨v, hv⟩ := ovr_self Y
  have := h v
  rwa [← hv] at this
/-- The cells of what is asked. -/
abbrev qtA (A : Option Addr) (a : Nat) (zs : List Rng) (wt wh : Int) (g h : Rng) (Z : Option Addr) (n c : Nat) : Array Value := #[.slice A zs.length a, .int .u8 wt, .int .u8 wh, I g.lo, I g.hi, I h.lo, I h.hi, .slice Z n c]
set_option maxRecDepth 100000 in
set_option maxHeartbeats 8000000 in
theorem topSteered_any (P : Vec) (m : Mdl) (A Z : Option Addr) (a n c : Nat) (zs : List Rng) (wt wh : Int) (g h : Rng) (z : Nat → Nat → Int) (w0 : World)
    (hx : Rd w0 w0.heap.size 2 A zs.length (rR zs)) (hz : Rd w0 w0.heap.size 3 Z n (fun k j => .int .u16 (z k j))) (hzb : ∀ k, k < n → ∀ j, j < 3 → 0 ≤ z k j ∧ z k j ≤ 65535) (hwt : 0 ≤ wt ∧ wt ≤ 255) (hwh : 0 ≤ wh ∧ wh ≤ 255) :
    Calls Try.prog 3 #[.agg (ia 117 P), .agg (mdA m), .agg (qtA A a zs wt wh g h Z n c)] w0 fun e w' => e = .returned (.bool true) ∧ Below w0.heap.size w0 w' := by
  have KN := Lib.hid quiet_any
  obtain ⟨w, hw⟩ : ∃ w, w = w0.alloc (.cells (ia 117 P) 30) := ⟨_, rfl⟩
  have HP : Hid (w.heap[w0.heap.size]? = some (.cells (ia 117 P) 30 (0, 0))) := by rw [hw]; exact heap_last _ _ _ rfl
  have HPC : Hid (∀ V, Below w.heap.size w V → ∀ j, j < 117 → V.cell? ⟨w0.heap.size, 0 + j, none⟩ = some (I (P j))) := fun V hV j hj => by
    rw [Nat.zero_add, cell_of_row _ _ _ _ _ _ ((hV.block _ (Array.getElem?_eq_some_iff.1 HP.out).1).trans HP.out)]
    exact ia_get hj
  have HSZ : Hid (w.heap.size = w0.heap.size + 1) := by show _ = _; rw [hw]; simp
  have HW0 : Hid (Below w0.heap.size w0 w) := by rw [hw]; exact (Below.refl _ _).alloc (Nat.le_refl _) _
  have Hw := Lib.hid hw
  have HXI : Hid (∀ V, Below w0.heap.size w0 V → Rd V w0.heap.size 2 A zs.length (rR zs)) := fun V hV => hx.below hV
  have HZI : Hid (∀ V, Below w0.heap.size w0 V → Rd V w0.heap.size 3 Z n (fun k j => .int .u16 (z k j))) := fun V hV => hz.below hV
  have HZB := Lib.hid hzb
  have HWT := Lib.hid hwt
  have HWH := Lib.hid hwh
  clear hw hx hz hzb hwt hwh
  obtain ⟨W, hW⟩ : ∃ W, W = ((w.alloc (.cells #[I m.sc, I (m.b 0).lo, I (m.b 0).hi, I (m.b 1).lo, I (m.b 1).hi, I (m.b 2).lo, I (m.b 2).hi, I (m.b 3).lo, I (m.b 3).hi] 33)).alloc (.cells #[.slice A zs.length a, .int .u8 wt, .int .u8 wh, I g.lo, I g.hi, I h.lo, I h.hi, .slice Z n c] 41)) := ⟨_, rfl⟩
  have rowW0 : W.heap[w.heap.size]? = some (.cells #[I m.sc, I (m.b 0).lo, I (m.b 0).hi, I (m.b 1).lo, I (m.b 1).hi, I (m.b 2).lo, I (m.b 2).hi, I (m.b 3).lo, I (m.b 3).hi] 33 (0, 0)) := by rw [hW]; exact heap_before (heap_last _ _ _ rfl)
  have yW00 := ovr_cell (W := W) (b := w.heap.size) (o := 0) (v := I m.sc) (by rw [cell_of_row _ _ _ _ _ _ rowW0]; rfl)
  have yW01 := ovr_cell (W := W) (b := w.heap.size) (o := 1) (v := I (m.b 0).lo) (by rw [cell_of_row _ _ _ _ _ _ rowW0]; rfl)
  have yW02 := ovr_cell (W := W) (b := w.heap.size) (o := 2) (v := I (m.b 0).hi) (by rw [cell_of_row _ _ _ _ _ _ rowW0]; rfl)
  have yW03 := ovr_cell (W := W) (b := w.heap.size) (o := 3) (v := I (m.b 1).lo) (by rw [cell_of_row _ _ _ _ _ _ rowW0]; rfl)
  have yW04 := ovr_cell (W := W) (b := w.heap.size) (o := 4) (v := I (m.b 1).hi) (by rw [cell_of_row _ _ _ _ _ _ rowW0]; rfl)
  have yW05 := ovr_cell (W := W) (b := w.heap.size) (o := 5) (v := I (m.b 2).lo) (by rw [cell_of_row _ _ _ _ _ _ rowW0]; rfl)
  have yW06 := ovr_cell (W := W) (b := w.heap.size) (o := 6) (v := I (m.b 2).hi) (by rw [cell_of_row _ _ _ _ _ _ rowW0]; rfl)
  have yW07 := ovr_cell (W := W) (b := w.heap.size) (o := 7) (v := I (m.b 3).lo) (by rw [cell_of_row _ _ _ _ _ _ rowW0]; rfl)
  have yW08 := ovr_cell (W := W) (b := w.heap.size) (o := 8) (v := I (m.b 3).hi) (by rw [cell_of_row _ _ _ _ _ _ rowW0]; rfl)
  have RrowW0 := Lib.hid (ovr_row rowW0)
  clear rowW0
  have rowW1 : W.heap[w.heap.size + 1]? = some (.cells #[.slice A zs.length a, .int .u8 wt, .int .u8 wh, I g.lo, I g.hi, I h.lo, I h.hi, .slice Z n c] 41 (0, 0)) := by rw [hW]; exact heap_last _ _ _ (by simp)
  have yW10 := ovr_cell (W := W) (b := w.heap.size + 1) (o := 0) (v := .slice A zs.length a) (by rw [cell_of_row _ _ _ _ _ _ rowW1]; rfl)
  have yW11 := ovr_cell (W := W) (b := w.heap.size + 1) (o := 1) (v := .int .u8 wt) (by rw [cell_of_row _ _ _ _ _ _ rowW1]; rfl)
  have yW12 := ovr_cell (W := W) (b := w.heap.size + 1) (o := 2) (v := .int .u8 wh) (by rw [cell_of_row _ _ _ _ _ _ rowW1]; rfl)
  have yW13 := ovr_cell (W := W) (b := w.heap.size + 1) (o := 3) (v := I g.lo) (by rw [cell_of_row _ _ _ _ _ _ rowW1]; rfl)
  have yW14 := ovr_cell (W := W) (b := w.heap.size + 1) (o := 4) (v := I g.hi) (by rw [cell_of_row _ _ _ _ _ _ rowW1]; rfl)
  have yW15 := ovr_cell (W := W) (b := w.heap.size + 1) (o := 5) (v := I h.lo) (by rw [cell_of_row _ _ _ _ _ _ rowW1]; rfl)
  have yW16 := ovr_cell (W := W) (b := w.heap.size + 1) (o := 6) (v := I h.hi) (by rw [cell_of_row _ _ _ _ _ _ rowW1]; rfl)
  have yW17 := ovr_cell (W := W) (b := w.heap.size + 1) (o := 7) (v := .slice Z n c) (by rw [cell_of_row _ _ _ _ _ _ rowW1]; rfl)
  have RrowW1 := Lib.hid (ovr_row rowW1)
  clear rowW1
  have HUW : Hid (∀ u, Below w.heap.size w (ovr W u)) := U2 hW
  have HW := Lib.hid hW
  clear hW
  go_enter Try.func3, Try.ntmps3
  go_upto_region 1 with (fail)
  rw [← Hw.out, ← HSZ.out]
  rw [← HW.out]
  obtain ⟨u0, hu0⟩ := ovr_self W
  rw [hu0]
  clear hu0
  by_cases h1 : 6 < zs.length
  · have d1 : decide ((6 : Int) < (zs.length : Int)) = true := decide_eq_true (by omega)
    have d1' : (6 : Int) < (zs.length : Int) := by omega
    go_wp2_with fail
    refine (KN.out _).mono ?_
    rintro e w1 ⟨rfl, hb1⟩
    obtain ⟨uk, rfl⟩ := ovr_next hb1
    clear hb1
    go_wp2_with fail
    go_ret
    exact ⟨rfl, HW0.out.trans ((HUW.out uk).mono HW0.out.size)⟩
  have d1 : decide ((6 : Int) < (zs.length : Int)) = false := decide_eq_false (by omega)
  by_cases h2 : 20 < n
  · have d2 : decide ((20 : Int) < (n : Int)) = true := decide_eq_true (by omega)
    have d2' : (20 : Int) < (n : Int) := by omega
    go_wp2_with fail
    refine (KN.out _).mono ?_
    rintro e w1 ⟨rfl, hb1⟩
    obtain ⟨uk, rfl⟩ := ovr_next hb1
    clear hb1
    go_wp2_with fail
    go_ret
    exact ⟨rfl, HW0.out.trans ((HUW.out uk).mono HW0.out.size)⟩
  have d2 : decide ((20 : Int) < (n : Int)) = false := decide_eq_false (by omega)
  have HLL : Hid (zs.length ≤ 6 ∧ n ≤ 20) := by show _ ∧ _; omega
  clear h1 h2
  have CM := Lib.hid fun V => checkModel_any m V
  have CP := Lib.hid fun V => checkPuller_any P V
  rcases hm : okMdl m with _ | _
  case false =>
    rw [hm, show erA false = 2 from rfl] at CM
    clear CP hm
    go_wp2_with fail
    refine (CM.out _).mono ?_
    rintro e w1 ⟨rfl, hb1⟩
    obtain ⟨u1, rfl⟩ := ovr_next hb1
    clear hb1
    go_wp2_with fail
    refine (KN.out _).mono ?_
    rintro e w1 ⟨rfl, hb1⟩
    obtain ⟨uk, rfl⟩ := ovr_next hb1
    clear hb1
    go_wp2_with fail
    go_ret
    exact ⟨rfl, HW0.out.trans ((HUW.out uk).mono HW0.out.size)⟩
  rw [hm, show erA true = 0 from rfl] at CM
  rcases hp : okPuller P with _ | _
  case false =>
    rw [hp, show er false = 2 from rfl] at CP
    clear hm hp
    go_wp2_with fail
    refine (CM.out _).mono ?_
    rintro e w1 ⟨rfl, hb1⟩
    obtain ⟨u1, rfl⟩ := ovr_next hb1
    clear hb1
    go_wp2_with (refine wpList_load_ia_on (by first | rfl | (simp; done)) 30 _ rfl w0.heap.size 0 rfl 117 P _ (HPC.out _ (HUW.out _)) Try.underlying30 rfl (by kernel_rfl) ?_)
    refine (CP.out _).mono ?_
    rintro e w1 ⟨rfl, hb1⟩
    obtain ⟨u2, rfl⟩ := ovr_next hb1
    clear hb1
    go_wp2_with fail
    refine (KN.out _).mono ?_
    rintro e w1 ⟨rfl, hb1⟩
    obtain ⟨uk, rfl⟩ := ovr_next hb1
    clear hb1
    go_wp2_with fail
    go_ret
    exact ⟨rfl, HW0.out.trans ((HUW.out uk).mono HW0.out.size)⟩
  rw [hp, show er true = 0 from rfl] at CP
  have HOM := Lib.hid hm
  have HOP := Lib.hid hp
  clear hm hp
  go_wp2_with fail
  refine (CM.out _).mono ?_
  rintro e w1 ⟨rfl, hb1⟩
  obtain ⟨u1, rfl⟩ := ovr_next hb1
  clear hb1
  go_wp2_with (refine wpList_load_ia_on (by first | rfl | (simp; done)) 30 _ rfl w0.heap.size 0 rfl 117 P _ (HPC.out _ (HUW.out _)) Try.underlying30 rfl (by kernel_rfl) ?_)
  refine (CP.out _).mono ?_
  rintro e w1 ⟨rfl, hb1⟩
  obtain ⟨u2, rfl⟩ := ovr_next hb1
  clear hb1
  obtain ⟨v, hv⟩ : ∃ v, bits .and .u8 wt 31 = v := ⟨_, rfl⟩
  have hw2 : 0 ≤ bits .and .u8 wt 31 ∧ bits .and .u8 wt 31 ≤ 31 := by
    have := and31 ⟨wt.toNat, by have := HWT.out; omega⟩
    simp only [show ((wt.toNat : Nat) : Int) = wt by have := HWT.out; omega] at this
    exact this
  rw [hv] at hw2
  have HV := Lib.hid hw2
  clear hw2
  go_upto_region 4 with fail
  clear hv d1 d2 CM CP
  have HLZ : Hid (zs.length ≤ maxLen) := by show _ ≤ _; unfold maxLen; have := HLL.out; omega
  have CW : Hid (∀ V A' c', Rd V V.heap.size 2 A' zs.length (rR zs) → Calls Try.prog 8 #[.agg (mdA m), .slice A' zs.length c', .int .u8 v] V (RetW V m zs v)) := fun V A' c' h => window_any m A' c' zs v V V.heap.size HLZ.out (Nat.le_refl _) h HV.out.1
  obtain ⟨ck, hck⟩ : ∃ k, ckF m zs v = k := ⟨_, rfl⟩
  have HCK := Lib.hid hck
  clear hck
  obtain ⟨i4, hi4, kz0, kz1, kz2⟩ := info_parts rng_info
  have hbY := ovr_below W u2
  obtain ⟨Y, hY⟩ : ∃ Y, Y = ovr W u2 := ⟨_, rfl⟩
  rw [← hY] at hbY
  rw [← hY]
  have hY' := Lib.hid hY
  clear hY
  have hbY' := Lib.hid hbY
  have reY : ∀ v, ∃ x, ovr Y v = ovr W x := fun v => ovr_reB hbY v
  replace yW00 := tr_cell reY yW00
  replace yW01 := tr_cell reY yW01
  replace yW02 := tr_cell reY yW02
  replace yW03 := tr_cell reY yW03
  replace yW04 := tr_cell reY yW04
  replace yW05 := tr_cell reY yW05
  replace yW06 := tr_cell reY yW06
  replace yW07 := tr_cell reY yW07
  replace yW08 := tr_cell reY yW08
  replace RrowW0 := Lib.hid (tr_row reY RrowW0.out)
  replace yW10 := tr_cell reY yW10
  replace yW11 := tr_cell reY yW11
  replace yW12 := tr_cell reY yW12
  replace yW13 := tr_cell reY yW13
  replace yW14 := tr_cell reY yW14
  replace yW15 := tr_cell reY yW15
  replace yW16 := tr_cell reY yW16
  replace yW17 := tr_cell reY yW17
  replace RrowW1 := Lib.hid (tr_row reY RrowW1.out)
  have HUY : Hid (∀ u, Below w.heap.size w (ovr Y u)) := fun u => by obtain ⟨x, hx⟩ := reY u; rw [hx]; exact HUW.out x
  clear reY hbY
  have HY0 : Hid (∀ u, Below w0.heap.size w0 (ovr Y u)) := fun u => HW0.out.trans ((HUY.out u).mono HW0.out.size)
  refine Dl.wp_region_late 10 [9] (fun j => if j = 1 then some Emp else if j = 4 then some (SlAt Y.heap.size 2 zs.length (rR zs)) else if j = 6 then some (WdT m zs v) else none) (by kernel_rfl) (by kernel_rfl) (by kernel_rfl) (by kernel_rfl) [] (E := 23)
    ⟨by kernel_rfl, alloc_rng, fun j hj => by cases hj⟩ (by kernel_rfl) (fun i hi => by simp only [List.mem_cons, List.not_mem_nil, or_false] at hi; rcases hi with rfl; rfl) (fun c a d v w h => by cases d <;> exact h) ?_
  simp only [List.take_succ_cons, List.take_zero, List.drop_succ_cons, List.drop_zero]
  repeat (refine Dk.wpG_one rfl rfl rfl ?_; intro K hK; go_big_quiet_op; go_big_quiet_on)
  refine Dk.wpG_make Emp rfl rfl (fun w' hw' _ => ?_) (fun u hu => ?_)
  · go_simp
    exact emp_grow w'
  obtain ⟨_, _, e1, rfl⟩ := hu
  simp only [Act.put, List.setIfInBounds_toArray, List.set_cons_zero, List.set_cons_succ]
  repeat (refine Dk.wpG_one rfl rfl rfl ?_; intro K hK; go_big_quiet_op; go_big_quiet_on)
  refine Dk.wpG_make (SlAt Y.heap.size 2 zs.length (rR zs)) rfl rfl (fun w' hw' _ => ?_) (fun u hu => ?_)
  · obtain ⟨x, rfl⟩ := hw'
    exact app_grow _ _ 34 rfl 23 i4 _ 2 16 Try.underlying34 hi4 kz0 kz1 kz2 rfl (by decide) e1 rfl A zs.length a rfl (rR zs) ((HXI.out _ (HY0.out x)).more (HY0.out x).size) (by have := HLL.out; omega) (by decide) (ovr_below Y x).size
  obtain ⟨_, _, A2, a2, rfl, _, _, _⟩ := hu
  simp only [Act.put, List.setIfInBounds_toArray, List.set_cons_zero, List.set_cons_succ]
  repeat (refine Dk.wpG_one rfl rfl rfl ?_; intro K hK; go_big_quiet_op; go_big_quiet_on)
  refine Dk.wpG_make (WdT m zs v) rfl rfl (fun w' hw' hk => ?_) (fun u hu => ?_)
  · have hr : Rd w' w'.heap.size 2 A2 zs.length (rR zs) := by
      have hk3 := hk ⟨4, .data⟩ (by simp) rfl _ _ _ rfl rfl rfl (by simp) rfl
      obtain ⟨A', c', he, _, hr, _⟩ := hk3.now
      injection he with he1 he2 he3
      subst he1
      exact hr
    go_simp
    exact win_grow (CW.out w' A2 a2 hr)
  obtain ⟨_, _, A4, c4, l0, rfl, _, _⟩ := hu
  obtain ⟨n4, hn4⟩ : ∃ n, l0.length = n := ⟨_, rfl⟩
  rw [hn4, HCK.out]
  clear hn4
  simp only [Act.put, List.setIfInBounds_toArray, List.set_cons_zero, List.set_cons_succ]
  repeat (refine Dk.wpG_one rfl rfl rfl ?_; intro K hK; go_big_quiet_op; go_big_quiet_on)
  refine Dk.wpG_nil (fun w5 hw5 hG => ?_)
  obtain ⟨l, rfl, hwin, hrd⟩ := (Box.now hG.2).same
  clear hG
  refine Dl.wpTailH_cons (wp_assign _ (.slice A4 l.length c4) rfl rfl ⟨hw5, ?_⟩)
  refine Dl.wpTailH_cons (wp_assign _ (I ck) rfl rfl ⟨hw5, ?_⟩)
  refine Dl.wpTailH_nil ?_
  simp only [Act.put, List.setIfInBounds_toArray, List.set_cons_zero, List.set_cons_succ]
  obtain ⟨x5, rfl⟩ := hw5
  have HWI := Lib.hid hwin
  clear hwin
  have hrd' := Lib.hid hrd
  clear hrd
  have hbV := ovr_below Y x5
  obtain ⟨V, hV⟩ : ∃ V, V = ovr Y x5 := ⟨_, rfl⟩
  rw [← hV] at hbV
  rw [← hV]
  have hV' := Lib.hid hV
  clear hV
  have hbV' := Lib.hid hbV
  have reV : ∀ v, ∃ x, ovr V v = ovr Y x := fun v => ovr_reB hbV v
  replace yW00 := tr_cell reV yW00
  replace yW01 := tr_cell reV yW01
  replace yW02 := tr_cell reV yW02
  replace yW03 := tr_cell reV yW03
  replace yW04 := tr_cell reV yW04
  replace yW05 := tr_cell reV yW05
  replace yW06 := tr_cell reV yW06
  replace yW07 := tr_cell reV yW07
  replace yW08 := tr_cell reV yW08
  replace RrowW0 := Lib.hid (tr_row reV RrowW0.out)
  replace yW10 := tr_cell reV yW10
  replace yW11 := tr_cell reV yW11
  replace yW12 := tr_cell reV yW12
  replace yW13 := tr_cell reV yW13
  replace yW14 := tr_cell reV yW14
  replace yW15 := tr_cell reV yW15
  replace yW16 := tr_cell reV yW16
  replace yW17 := tr_cell reV yW17
  replace RrowW1 := Lib.hid (tr_row reV RrowW1.out)
  have HUV : Hid (∀ u, Below w.heap.size w (ovr V u)) := fun u => by obtain ⟨x, hx⟩ := reV u; rw [hx]; exact HUY.out x
  clear reV hbV
  have HR : Hid (∀ q, Below V.heap.size V q → Rd q V.heap.size 2 A4 l.length (rR l)) := fun q hq => by
    have h9 := hrd'.out
    rw [← hV'.out] at h9
    exact h9.below hq
  clear hrd'
  obtain ⟨v0, hv0⟩ := ovr_self V
  rw [hv0]
  clear hv0
  rcases ck_cases m zs v with h1 | h1 | h1
  case inr.inr =>
    exfalso
    have := HLL.out
    unfold ckF at h1
    split at h1
    · rw [if_neg (by omega)] at h1
      split at h1 <;> cases h1
    · cases h1
  case inr.inl =>
    rw [HCK.out] at h1
    subst h1
    go_wp2_with fail
    refine (KN.out _).mono ?_
    rintro e w1 ⟨rfl, hb1⟩
    obtain ⟨uk, rfl⟩ := ovr_next hb1
    clear hb1
    go_wp2_with fail
    go_ret
    exact ⟨rfl, HW0.out.trans ((HUV.out uk).mono HW0.out.size)⟩
  rw [HCK.out] at h1
  subst h1
  rcases Nat.eq_zero_or_pos l.length with hl0 | hl0
  · have hl0' : (l.length : Int) = 0 := by omega
    rw [hl0]
    go_wp2_with fail
    refine (KN.out _).mono ?_
    rintro e w1 ⟨rfl, hb1⟩
    obtain ⟨uk, rfl⟩ := ovr_next hb1
    clear hb1
    go_wp2_with fail
    go_ret
    exact ⟨rfl, HW0.out.trans ((HUV.out uk).mono HW0.out.size)⟩
  have HL0 := Lib.hid hl0
  have dl : ((l.length : Int) == 0) = false := beq_eq_false_iff_ne.2 (by omega)
  have hwo := HWI.out.ok HCK.out
  obtain ⟨i, hi⟩ : ∃ i : Nat, wh.tmod (l.length : Int) = (i : Int) ∧ i < l.length := by
    refine ⟨(wh.tmod (l.length : Int)).toNat, ?_, ?_⟩
    · have := Int.tmod_nonneg (l.length : Int) HWH.out.1
      omega
    · have h9 := Int.tmod_lt_of_pos wh (show (0 : Int) < (l.length : Int) by omega)
      have := Int.tmod_nonneg (l.length : Int) HWH.out.1
      omega
  obtain ⟨hi1, hi2⟩ := hi
  obtain ⟨r0, r1, r2, rbad⟩ := run_in hwo hi2
  obtain ⟨⟨rl, rh⟩, hr⟩ : ∃ r, at0 l i = r := ⟨_, rfl⟩
  rw [hr] at r0 r1 r2 rbad
  have HR3 : Hid (0 ≤ rl ∧ rl ≤ rh ∧ rh ≤ 1000000) := ⟨r0, r1, r2⟩
  have HBAD : Hid (∀ x, rl ≤ x → x ≤ rh → ¬ badAt m v zs x) := rbad
  obtain ⟨bl, ol, rfl, _, x0, x1⟩ := (HR.out V (Below.refl _ _)).rng hi2
  rw [hr] at x0 x1
  have yl0 := ovr_cell x0
  have yl1 := ovr_cell x1
  have kw : IntKind.i64.wrap wh = wh := IntWalk.i64_in _ (by have := HWH.out; omega)
  have kt : IntKind.i64.wrap (wh.tmod (l.length : Int)) = (i : Int) := by rw [hi1]; exact IntWalk.i64_in _ (by have := HWI.out.len; omega)
  clear hr r0 r1 r2 rbad x0 x1 hwo
  go_upto_region 8 with fail
  have hTR0 := Lib.hid (Array.getElem?_eq_some_iff.1 (RrowW1.out v0)).1
  obtain ⟨X1, hX1⟩ : ∃ X1, X1 = ((ovr V v0).alloc (.cells #[I rl, I rh] 23)) := ⟨_, rfl⟩
  have reX1 : ∀ v, ∃ x, ovr X1 v = ovr V x := fun v => ovr_re1 hX1
  replace yW00 := tr_cell reX1 yW00
  replace yW01 := tr_cell reX1 yW01
  replace yW02 := tr_cell reX1 yW02
  replace yW03 := tr_cell reX1 yW03
  replace yW04 := tr_cell reX1 yW04
  replace yW05 := tr_cell reX1 yW05
  replace yW06 := tr_cell reX1 yW06
  replace yW07 := tr_cell reX1 yW07
  replace yW08 := tr_cell reX1 yW08
  replace RrowW0 := Lib.hid (tr_row reX1 RrowW0.out)
  replace yW10 := tr_cell reX1 yW10
  replace yW11 := tr_cell reX1 yW11
  replace yW12 := tr_cell reX1 yW12
  replace yW13 := tr_cell reX1 yW13
  replace yW14 := tr_cell reX1 yW14
  replace yW15 := tr_cell reX1 yW15
  replace yW16 := tr_cell reX1 yW16
  replace yW17 := tr_cell reX1 yW17
  replace RrowW1 := Lib.hid (tr_row reX1 RrowW1.out)
  have rowX10 : X1.heap[(ovr V v0).heap.size]? = some (.cells #[I rl, I rh] 23 (0, 0)) := by rw [hX1]; exact heap_last _ _ _ rfl
  have yX100 := ovr_cell (W := X1) (b := (ovr V v0).heap.size) (o := 0) (v := I rl) (by rw [cell_of_row _ _ _ _ _ _ rowX10]; rfl)
  have yX101 := ovr_cell (W := X1) (b := (ovr V v0).heap.size) (o := 1) (v := I rh) (by rw [cell_of_row _ _ _ _ _ _ rowX10]; rfl)
  have RrowX10 := Lib.hid (ovr_row rowX10)
  clear rowX10
  have HBX1 : Hid (∀ u, Below V.heap.size V (ovr X1 u)) := fun u => by obtain ⟨x, hx⟩ := reX1 u; rw [hx]; exact ovr_below _ _
  have HUX1 : Hid (∀ u, Below w.heap.size w (ovr X1 u)) := fun u => by obtain ⟨x, hx⟩ := reX1 u; rw [hx]; exact HUV.out x
  clear reX1
  have HX1 := Lib.hid hX1
  clear hX1
  have e1 : decide (rl < 0) = false := decide_eq_false (by have := HR3.out; omega)
  have e2 : decide (rh < rl) = false := decide_eq_false (by have := HR3.out; omega)
  have e3 : decide (1000000 < rh) = false := decide_eq_false (by have := HR3.out; omega)
  rw [← HX1.out]
  obtain ⟨x1, hx1⟩ := ovr_self X1
  rw [hx1]
  clear hx1
  go_upto_region 10 with fail
  clear e1 e2 e3
  obtain ⟨TR, hTR⟩ : ∃ TR, TR = (ovr V v0).heap.size := ⟨_, rfl⟩
  have rT := RrowX10.out x1
  rw [← hTR] at rT ⊢
  have rM := RrowW0.out x1
  have rQ := RrowW1.out x1
  have bW : Below w.heap.size w (ovr X1 x1) := HUX1.out x1
  have rP : (ovr X1 x1).heap[w0.heap.size]? = some (.cells (ia 117 P) 30 (0, 0)) := (bW.block _ (Array.getElem?_eq_some_iff.1 HP.out).1).trans HP.out
  have hTR2 : w.heap.size + 1 < TR := by rw [hTR]; exact hTR0.out
  obtain ⟨Y0, hY0⟩ : ∃ Y0, Y0 = ovr X1 x1 := ⟨_, rfl⟩
  rw [← hY0] at rT rM rQ bW rP
  rw [← hY0]
  have RT := Lib.hid rT
  have RM := Lib.hid rM
  have RQ := Lib.hid rQ
  have BW := Lib.hid bW
  have RP := Lib.hid rP
  have HTR := Lib.hid hTR2
  clear rT rM rQ bW rP hTR hTR2 hY0
  go_upto_region 11 with fail
  obtain ⟨BB, hBB⟩ : ∃ BB, BB = Y0.heap.size := ⟨_, rfl⟩
  rw [← hBB]
  refine name_w fun V1 hV1 => ?_
  have rB : V1.heap[BB]? = some (.cells (ia 8 (stV ⟨0, 4, fun _ => 0⟩)) 51 (0, 0)) := by rw [hV1]; exact heap_last _ _ _ hBB
  have bV1 : Below Y0.heap.size Y0 V1 := by rw [hV1]; exact (Below.refl _ _).alloc (Nat.le_refl _) _
  clear hV1
  have HBB := Lib.hid hBB
  have HS0 : Hid (PkS Y0 w0.heap.size BB P ⟨rl, rh⟩ 0 V1) := by
    refine ⟨?_, rB⟩
    rw [pkR_zero]
    exact (below_row_id RP.out).trans bV1
  clear hBB rB bV1
  go_wp2_with fail
  go_loopw [12] (fun i wr => ∃ k : Nat, k ≤ 5 ∧ i = .int .i64 k ∧ PkS Y0 w0.heap.size BB P ⟨rl, rh⟩ k wr) (fun i _ => 5 - (intOf i).toNat)
  case atStart => exact ⟨0, by omega, rfl, HS0.out⟩
  case round =>
    obtain ⟨k, hk5, rfl, hb, hB⟩ := hrel
    have hpl : w0.heap.size < Y0.heap.size := (Array.getElem?_eq_some_iff.1 RP.out).1
    have htl : TR < Y0.heap.size := (Array.getElem?_eq_some_iff.1 RT.out).1
    have hne : TR ≠ w0.heap.size := by have := HTR.out; have := HSZ.out; omega
    have rowP : wr.heap[w0.heap.size]? = some (.cells (ia 117 (pkR P ⟨rl, rh⟩ k)) 30 (0, 0)) := (hb.block _ hpl).trans (setRow_same RP.out)
    have rowT : wr.heap[TR]? = some (.cells #[I rl, I rh] 23 (0, 0)) := (hb.block _ htl).trans ((setRow_other hne).trans RT.out)
    have HB1 := Lib.hid hb
    have HBr := Lib.hid hB
    have HRP := Lib.hid rowP
    clear hb hB rowP hne hpl htl
    by_cases hlt : k < 5
    · have d1 : decide ((k : Int) < 5) = true := decide_eq_true (by omega)
      have ywr00 := ovr_cell (W := wr) (b := TR) (o := 0) (v := I rl) (by rw [cell_of_row _ _ _ _ _ _ rowT]; rfl)
      have zwr00 : ∀ u, (ovr wr u).frozen? ⟨TR, 0, none⟩ = false := fun u => frozen_of_row _ _ _ _ _ (ovr_row rowT u)
      have ywr01 := ovr_cell (W := wr) (b := TR) (o := 1) (v := I rh) (by rw [cell_of_row _ _ _ _ _ _ rowT]; rfl)
      have zwr01 : ∀ u, (ovr wr u).frozen? ⟨TR, 1, none⟩ = false := fun u => frozen_of_row _ _ _ _ _ (ovr_row rowT u)
      have Rrowwr0 := Lib.hid (ovr_row rowT)
      clear rowT
      go_upto_region 14 with fail
      refine wp_region_seq2 6 (fun _ => none) (by kernel_rfl) (by kernel_rfl) (by kernel_rfl) (by kernel_rfl) (by kernel_rfl) ?_
      simp only [List.take_succ_cons, List.take_zero, List.drop_succ_cons, List.drop_zero]
      repeat (refine wpG_one rfl rfl rfl ?_; intro K hK; go_big_quiet_op; go_big_quiet_on)
      refine wpG_nil (fun w5 hw5 hG => ?_)
      clear hG
      obtain ⟨x5, rfl⟩ : ∃ x, w5 = ovr wr x := ⟨w5, ovr_of hw5.le⟩
      clear hw5
      have hb5 : Below wr.heap.size wr (ovr wr x5) := ovr_below wr x5
      have row5 : (ovr wr x5).heap[w0.heap.size]? = some (.cells (ia 117 (pkR P ⟨rl, rh⟩ k)) 30 (0, 0)) := (hb5.block _ (Array.getElem?_eq_some_iff.1 HRP.out).1).trans HRP.out
      have hB5 := (hb5.block _ (Array.getElem?_eq_some_iff.1 HBr.out).1).trans HBr.out
      have hB6 : Below Y0.heap.size (Y0.setRow w0.heap.size (ia 117 (pkR P ⟨rl, rh⟩ k))) (ovr wr x5) := by
        have h1 := HB1.out.size
        rw [setRow_size] at h1
        exact HB1.out.trans (hb5.mono h1)
      refine wpTailIn_cons Wd.wide (fun c h => by cases h) ?_
      refine wp_store_ia 23 _ _ rfl w0.heap.size (k * 22) 117 2 rfl (pkR P ⟨rl, rh⟩ k) (fun i => if i = 0 then rl else rh) 30 row5 (by omega) (.agg #[I rl, I rh]) rfl rfl (by kernel_rfl) ?_
      refine wpTailIn_nil ?_
      simp only [Act.put]
      have hst : ia 117 (ovw (pkR P ⟨rl, rh⟩ k) (k * 22) 2 fun i => if i = 0 then rl else rh) = ia 117 (pkR P ⟨rl, rh⟩ (k + 1)) := pkR_step P ⟨rl, rh⟩ k
      rw [hst]
      have hnew : PkS Y0 w0.heap.size BB P ⟨rl, rh⟩ (k + 1) ((ovr wr x5).setRow w0.heap.size (ia 117 (pkR P ⟨rl, rh⟩ (k + 1)))) :=
        ⟨below_row_up hB6 (.inr ⟨_, RP.out⟩) row5, (setRow_other (by have := HBB.out; have := (Array.getElem?_eq_some_iff.1 RP.out).1; omega)).trans hB5⟩
      have HNEW := Lib.hid hnew
      clear hnew hst hB6 hB5 row5 hb5
      go_wp2_with fail
      exact ⟨⟨k + 1, by omega, rfl, HNEW.out⟩, by simp [intOf]; omega⟩
    · have hk : k = 5 := by omega
      subst hk
      clear hlt hk5
      rw [show ((5 : Nat) : Int) = 5 from rfl]
      obtain ⟨Q, hQ⟩ : ∃ Q, Q = pkR P ⟨rl, rh⟩ 5 := ⟨_, rfl⟩
      have HQK : Hid (okPuller Q = true) := by show _ = _; rw [hQ]; exact pkR_ok HOP.out HR3.out
      have HQL : Hid (Q 66 = rl ∧ Q 67 = rh) := by rw [hQ]; exact ⟨pkR_lo P ⟨rl, rh⟩ (i := 3) (by omega), pkR_hi P ⟨rl, rh⟩ (i := 3) (by omega)⟩
      rw [← hQ] at HB1 HRP
      obtain ⟨Y1, hY1⟩ : ∃ Y1, Y1 = Y0.setRow w0.heap.size (ia 117 Q) := ⟨_, rfl⟩
      have rP1 : Y1.heap[w0.heap.size]? = some (.cells (ia 117 Q) 30 (0, 0)) := by rw [hY1]; exact setRow_same RP.out
      have rM1 : Y1.heap[w.heap.size]? = Y0.heap[w.heap.size]? := by rw [hY1]; exact setRow_other (by have := HSZ.out; omega)
      have rQ1 : Y1.heap[w.heap.size + 1]? = Y0.heap[w.heap.size + 1]? := by rw [hY1]; exact setRow_other (by have := HSZ.out; omega)
      have rT1 : Y1.heap[TR]? = Y0.heap[TR]? := by rw [hY1]; exact setRow_other (by have := HSZ.out; have := HTR.out; omega)
      have bY1 : Below w0.heap.size w0 Y1 := by rw [hY1]; exact below_setRow (HW0.out.trans (BW.out.mono HW0.out.size)) (Nat.le_refl _) _
      have hsz : BB = Y1.heap.size := by rw [hY1, setRow_size]; exact HBB.out
      have hb1 : Below Y1.heap.size Y1 wr := by rw [← hsz, HBB.out, hY1]; exact HB1.out
      have RP1 := Lib.hid rP1
      have RM1 := Lib.hid (rM1.trans RM.out)
      have RQ1 := Lib.hid (rQ1.trans RQ.out)
      have RT1 := Lib.hid (rT1.trans RT.out)
      have BY1 := Lib.hid bY1
      have HBS := Lib.hid hsz
      have HS1 : Hid (BfS Y1 BB (fun i => Q (66 + i * 2)) 0 wr) := ⟨hb1, by simpa using HBr.out⟩
      clear rP1 rM1 rQ1 rT1 bY1 hsz hb1 hY1 hQ HB1 HRP HBr RM RQ RT rowT
      have d1 : decide ((5 : Int) < 5) = false := rfl
      go_wp2_with fail
      clear d1
      go_loopw [13] (fun i wr => ∃ j : Nat, j ≤ 6 ∧ i = .int .i64 j ∧ BfS Y1 BB (fun i => Q (66 + i * 2)) j wr) (fun i _ => 6 - (intOf i).toNat)
      case atStart => exact ⟨0, by omega, rfl, HS1.out⟩
      case round =>
        obtain ⟨j, hj6, rfl, hb, hB⟩ := hrel
        by_cases hlt : j < 6
        · have d1 : decide ((j : Int) < 6) = true := decide_eq_true (by omega)
          have rowP := (hb.block _ (Array.getElem?_eq_some_iff.1 RP1.out).1).trans RP1.out
          have yq : wr.cell? ⟨w0.heap.size, 66 + j * 2, none⟩ = some (I (Q (66 + j * 2))) := by
            rw [cell_of_row _ _ _ _ _ _ rowP]; exact ia_get (by omega)
          have HBr := Lib.hid hB
          have HB1 := Lib.hid hb
          clear hB hb rowP
          go_wp2_with (with_reducible show wpList _ _ _ _ _ _; refine wpList_store_i rfl 3 _ _ rfl BB (2 + j) 8 rfl _ 51 HBr.out (by omega) (Q (66 + j * 2)) rfl (by kernel_rfl) ?_)
          have hb4 : Below Y1.heap.size Y1 (wr.setRow BB (ia 8 (ovw (stV ⟨0, 4, fun i => if i < j then (fun i => Q (66 + i * 2)) i else 0⟩) (2 + j) 1 fun _ => Q (66 + j * 2)))) := below_setRow HB1.out (by rw [HBS.out]; exact Nat.le_refl _) _
          refine ⟨⟨j + 1, by omega, rfl, hb4, ?_⟩, by simp [intOf]; omega⟩
          rw [st_v 0 4 (fun i => if i < j then (fun i => Q (66 + i * 2)) i else 0) (fun i => if i < j + 1 then (fun i => Q (66 + i * 2)) i else 0) j (Q (66 + j * 2)) (by rw [if_pos (by omega)]) (fun i hi => by
            by_cases h9 : i < j
            · rw [if_pos h9, if_pos (by omega)]
            · rw [if_neg h9, if_neg (by omega)])]
          exact setRow_same HBr.out
        · have hj : j = 6 := by omega
          subst hj
          clear hlt hj6
          rw [show ((6 : Nat) : Int) = 6 from rfl]
          have hs0 : ia 8 (stV ⟨0, 4, fun i => if i < 6 then (fun i => Q (66 + i * 2)) i else 0⟩) = ia 8 (stV (s0T Q)) := ia_congr fun i hi => by
            match i with
            | 0 => rfl
            | 1 => rfl
            | j + 2 => show (if j < 6 then Q (66 + j * 2) else 0) = Q (66 + j * 2); rw [if_pos (by omega)]
          rw [hs0] at hB
          have HS2 : Hid (MnS Y1 BB Q g h 0 wr) := ⟨s0T Q, hb, hB, good0 (vPul_of HQK.out), fun h => absurd h (by omega)⟩
          clear hB hb hs0 HS1
          have d1 : decide ((6 : Int) < 6) = false := rfl
          go_wp2_with fail
          clear d1
          go_loopw [14] (fun i wr => ∃ k : Nat, k ≤ n ∧ i = .int .i64 k ∧ MnS Y1 BB Q g h k wr) (fun i _ => n - (intOf i).toNat)
          case atStart => exact ⟨0, by omega, rfl, HS2.out⟩
          case round =>
            obtain ⟨k, hkn, rfl, s, hb, hB, hgd, hbg⟩ := hrel
            have rowP := (hb.block _ (Array.getElem?_eq_some_iff.1 RP1.out).1).trans RP1.out
            have rowM := (hb.block _ (Array.getElem?_eq_some_iff.1 RM1.out).1).trans RM1.out
            have rowQ := (hb.block _ (Array.getElem?_eq_some_iff.1 RQ1.out).1).trans RQ1.out
            have rowT := (hb.block _ (Array.getElem?_eq_some_iff.1 RT1.out).1).trans RT1.out
            have rowB : wr.heap[BB]? = some (.cells #[I s.t, I s.ph, I (s.v 0), I (s.v 1), I (s.v 2), I (s.v 3), I (s.v 4), I (s.v 5)] 51 (0, 0)) := hB
            have hww : Below w0.heap.size w0 wr := BY1.out.trans (hb.mono BY1.out.size)
            have HUwr : Hid (∀ u, Below w0.heap.size w0 (ovr wr u)) := fun u => hww.trans ((ovr_below wr u).mono hww.size)
            have HVwr := Lib.hid hb
            have HGD := Lib.hid hgd
            have HBG := Lib.hid hbg
            have HRB := Lib.hid hB
            clear hb hB hgd hbg HS2 hww
            by_cases hlt : k < n
            · obtain ⟨tb, tf, rfl, htb, htc⟩ := (HZI.out _ (HUwr.out wr)) (by omega)
              have HLT := Lib.hid hlt
              have hk20 : k ≤ 20 := by have := HLL.out; omega
              have d1 : decide ((k : Int) < (n : Int)) = true := decide_eq_true (by omega)
              have HPQ : Hid (∀ V, Below wr.heap.size wr V → ∀ j, j < 117 → V.cell? ⟨w0.heap.size, 0 + j, none⟩ = some (I (Q j))) := fun V hV j hj => by
                rw [Nat.zero_add, cell_of_row _ _ _ _ _ _ ((hV.block _ (Array.getElem?_eq_some_iff.1 rowP).1).trans rowP)]
                exact ia_get hj
              have HTS : Hid (∀ V, Below w0.heap.size w0 V → ∀ j, j < 3 → V.cell? ⟨tb, tf + k * 3 + j, none⟩ = some (.int .u16 (z k j))) := fun V hV j hj => by
                obtain ⟨b', o', e, _, h9⟩ := HZI.out V hV (by have := HLT.out; omega)
                injection e with e
                injection e with e1 e2
                subst e1 e2
                exact h9 k HLT.out j hj
              have ys0 : ∀ u, (ovr wr u).cell? ⟨tb, tf + k * 3, none⟩ = some (.int .u16 (z k 0)) := fun u => HTS.out _ (HUwr.out u) 0 (by omega)
              have ys1 : ∀ u, (ovr wr u).cell? ⟨tb, tf + k * 3 + 1, none⟩ = some (.int .u16 (z k 1)) := fun u => HTS.out _ (HUwr.out u) 1 (by omega)
              have ys2 : ∀ u, (ovr wr u).cell? ⟨tb, tf + k * 3 + 2, none⟩ = some (.int .u16 (z k 2)) := fun u => HTS.out _ (HUwr.out u) 2 (by omega)
              have ywr00 := ovr_cell (W := wr) (b := w.heap.size) (o := 0) (v := I m.sc) (by rw [cell_of_row _ _ _ _ _ _ rowM]; rfl)
              have zwr00 : ∀ u, (ovr wr u).frozen? ⟨w.heap.size, 0, none⟩ = false := fun u => frozen_of_row _ _ _ _ _ (ovr_row rowM u)
              have ywr01 := ovr_cell (W := wr) (b := w.heap.size) (o := 1) (v := I (m.b 0).lo) (by rw [cell_of_row _ _ _ _ _ _ rowM]; rfl)
              have zwr01 : ∀ u, (ovr wr u).frozen? ⟨w.heap.size, 1, none⟩ = false := fun u => frozen_of_row _ _ _ _ _ (ovr_row rowM u)
              have ywr02 := ovr_cell (W := wr) (b := w.heap.size) (o := 2) (v := I (m.b 0).hi) (by rw [cell_of_row _ _ _ _ _ _ rowM]; rfl)
              have zwr02 : ∀ u, (ovr wr u).frozen? ⟨w.heap.size, 2, none⟩ = false := fun u => frozen_of_row _ _ _ _ _ (ovr_row rowM u)
              have ywr03 := ovr_cell (W := wr) (b := w.heap.size) (o := 3) (v := I (m.b 1).lo) (by rw [cell_of_row _ _ _ _ _ _ rowM]; rfl)
              have zwr03 : ∀ u, (ovr wr u).frozen? ⟨w.heap.size, 3, none⟩ = false := fun u => frozen_of_row _ _ _ _ _ (ovr_row rowM u)
              have ywr04 := ovr_cell (W := wr) (b := w.heap.size) (o := 4) (v := I (m.b 1).hi) (by rw [cell_of_row _ _ _ _ _ _ rowM]; rfl)
              have zwr04 : ∀ u, (ovr wr u).frozen? ⟨w.heap.size, 4, none⟩ = false := fun u => frozen_of_row _ _ _ _ _ (ovr_row rowM u)
              have ywr05 := ovr_cell (W := wr) (b := w.heap.size) (o := 5) (v := I (m.b 2).lo) (by rw [cell_of_row _ _ _ _ _ _ rowM]; rfl)
              have zwr05 : ∀ u, (ovr wr u).frozen? ⟨w.heap.size, 5, none⟩ = false := fun u => frozen_of_row _ _ _ _ _ (ovr_row rowM u)
              have ywr06 := ovr_cell (W := wr) (b := w.heap.size) (o := 6) (v := I (m.b 2).hi) (by rw [cell_of_row _ _ _ _ _ _ rowM]; rfl)
              have zwr06 : ∀ u, (ovr wr u).frozen? ⟨w.heap.size, 6, none⟩ = false := fun u => frozen_of_row _ _ _ _ _ (ovr_row rowM u)
              have ywr07 := ovr_cell (W := wr) (b := w.heap.size) (o := 7) (v := I (m.b 3).lo) (by rw [cell_of_row _ _ _ _ _ _ rowM]; rfl)
              have zwr07 : ∀ u, (ovr wr u).frozen? ⟨w.heap.size, 7, none⟩ = false := fun u => frozen_of_row _ _ _ _ _ (ovr_row rowM u)
              have ywr08 := ovr_cell (W := wr) (b := w.heap.size) (o := 8) (v := I (m.b 3).hi) (by rw [cell_of_row _ _ _ _ _ _ rowM]; rfl)
              have zwr08 : ∀ u, (ovr wr u).frozen? ⟨w.heap.size, 8, none⟩ = false := fun u => frozen_of_row _ _ _ _ _ (ovr_row rowM u)
              have Rrowwr0 := Lib.hid (ovr_row rowM)
              clear rowM
              have ywr10 := ovr_cell (W := wr) (b := w.heap.size + 1) (o := 0) (v := .slice A zs.length a) (by rw [cell_of_row _ _ _ _ _ _ rowQ]; rfl)
              have zwr10 : ∀ u, (ovr wr u).frozen? ⟨w.heap.size + 1, 0, none⟩ = false := fun u => frozen_of_row _ _ _ _ _ (ovr_row rowQ u)
              have ywr11 := ovr_cell (W := wr) (b := w.heap.size + 1) (o := 1) (v := .int .u8 wt) (by rw [cell_of_row _ _ _ _ _ _ rowQ]; rfl)
              have zwr11 : ∀ u, (ovr wr u).frozen? ⟨w.heap.size + 1, 1, none⟩ = false := fun u => frozen_of_row _ _ _ _ _ (ovr_row rowQ u)
              have ywr12 := ovr_cell (W := wr) (b := w.heap.size + 1) (o := 2) (v := .int .u8 wh) (by rw [cell_of_row _ _ _ _ _ _ rowQ]; rfl)
              have zwr12 : ∀ u, (ovr wr u).frozen? ⟨w.heap.size + 1, 2, none⟩ = false := fun u => frozen_of_row _ _ _ _ _ (ovr_row rowQ u)
              have ywr13 := ovr_cell (W := wr) (b := w.heap.size + 1) (o := 3) (v := I g.lo) (by rw [cell_of_row _ _ _ _ _ _ rowQ]; rfl)
              have zwr13 : ∀ u, (ovr wr u).frozen? ⟨w.heap.size + 1, 3, none⟩ = false := fun u => frozen_of_row _ _ _ _ _ (ovr_row rowQ u)
              have ywr14 := ovr_cell (W := wr) (b := w.heap.size + 1) (o := 4) (v := I g.hi) (by rw [cell_of_row _ _ _ _ _ _ rowQ]; rfl)
              have zwr14 : ∀ u, (ovr wr u).frozen? ⟨w.heap.size + 1, 4, none⟩ = false := fun u => frozen_of_row _ _ _ _ _ (ovr_row rowQ u)
              have ywr15 := ovr_cell (W := wr) (b := w.heap.size + 1) (o := 5) (v := I h.lo) (by rw [cell_of_row _ _ _ _ _ _ rowQ]; rfl)
              have zwr15 : ∀ u, (ovr wr u).frozen? ⟨w.heap.size + 1, 5, none⟩ = false := fun u => frozen_of_row _ _ _ _ _ (ovr_row rowQ u)
              have ywr16 := ovr_cell (W := wr) (b := w.heap.size + 1) (o := 6) (v := I h.hi) (by rw [cell_of_row _ _ _ _ _ _ rowQ]; rfl)
              have zwr16 : ∀ u, (ovr wr u).frozen? ⟨w.heap.size + 1, 6, none⟩ = false := fun u => frozen_of_row _ _ _ _ _ (ovr_row rowQ u)
              have ywr17 := ovr_cell (W := wr) (b := w.heap.size + 1) (o := 7) (v := .slice (some ⟨tb, tf, none⟩) n c) (by rw [cell_of_row _ _ _ _ _ _ rowQ]; rfl)
              have zwr17 : ∀ u, (ovr wr u).frozen? ⟨w.heap.size + 1, 7, none⟩ = false := fun u => frozen_of_row _ _ _ _ _ (ovr_row rowQ u)
              have Rrowwr1 := Lib.hid (ovr_row rowQ)
              clear rowQ
              have ywr20 := ovr_cell (W := wr) (b := TR) (o := 0) (v := I rl) (by rw [cell_of_row _ _ _ _ _ _ rowT]; rfl)
              have zwr20 : ∀ u, (ovr wr u).frozen? ⟨TR, 0, none⟩ = false := fun u => frozen_of_row _ _ _ _ _ (ovr_row rowT u)
              have ywr21 := ovr_cell (W := wr) (b := TR) (o := 1) (v := I rh) (by rw [cell_of_row _ _ _ _ _ _ rowT]; rfl)
              have zwr21 : ∀ u, (ovr wr u).frozen? ⟨TR, 1, none⟩ = false := fun u => frozen_of_row _ _ _ _ _ (ovr_row rowT u)
              have Rrowwr2 := Lib.hid (ovr_row rowT)
              clear rowT
              have ywr30 := ovr_cell (W := wr) (b := BB) (o := 0) (v := I s.t) (by rw [cell_of_row _ _ _ _ _ _ rowB]; rfl)
              have zwr30 : ∀ u, (ovr wr u).frozen? ⟨BB, 0, none⟩ = false := fun u => frozen_of_row _ _ _ _ _ (ovr_row rowB u)
              have ywr31 := ovr_cell (W := wr) (b := BB) (o := 1) (v := I s.ph) (by rw [cell_of_row _ _ _ _ _ _ rowB]; rfl)
              have zwr31 : ∀ u, (ovr wr u).frozen? ⟨BB, 1, none⟩ = false := fun u => frozen_of_row _ _ _ _ _ (ovr_row rowB u)
              have ywr32 := ovr_cell (W := wr) (b := BB) (o := 2) (v := I (s.v 0)) (by rw [cell_of_row _ _ _ _ _ _ rowB]; rfl)
              have zwr32 : ∀ u, (ovr wr u).frozen? ⟨BB, 2, none⟩ = false := fun u => frozen_of_row _ _ _ _ _ (ovr_row rowB u)
              have ywr33 := ovr_cell (W := wr) (b := BB) (o := 3) (v := I (s.v 1)) (by rw [cell_of_row _ _ _ _ _ _ rowB]; rfl)
              have zwr33 : ∀ u, (ovr wr u).frozen? ⟨BB, 3, none⟩ = false := fun u => frozen_of_row _ _ _ _ _ (ovr_row rowB u)
              have ywr34 := ovr_cell (W := wr) (b := BB) (o := 4) (v := I (s.v 2)) (by rw [cell_of_row _ _ _ _ _ _ rowB]; rfl)
              have zwr34 : ∀ u, (ovr wr u).frozen? ⟨BB, 4, none⟩ = false := fun u => frozen_of_row _ _ _ _ _ (ovr_row rowB u)
              have ywr35 := ovr_cell (W := wr) (b := BB) (o := 5) (v := I (s.v 3)) (by rw [cell_of_row _ _ _ _ _ _ rowB]; rfl)
              have zwr35 : ∀ u, (ovr wr u).frozen? ⟨BB, 5, none⟩ = false := fun u => frozen_of_row _ _ _ _ _ (ovr_row rowB u)
              have ywr36 := ovr_cell (W := wr) (b := BB) (o := 6) (v := I (s.v 4)) (by rw [cell_of_row _ _ _ _ _ _ rowB]; rfl)
              have zwr36 : ∀ u, (ovr wr u).frozen? ⟨BB, 6, none⟩ = false := fun u => frozen_of_row _ _ _ _ _ (ovr_row rowB u)
              have ywr37 := ovr_cell (W := wr) (b := BB) (o := 7) (v := I (s.v 5)) (by rw [cell_of_row _ _ _ _ _ _ rowB]; rfl)
              have zwr37 : ∀ u, (ovr wr u).frozen? ⟨BB, 7, none⟩ = false := fun u => frozen_of_row _ _ _ _ _ (ovr_row rowB u)
              have Rrowwr3 := Lib.hid (ovr_row rowB)
              clear rowB
              clear rowP htb htc
              obtain ⟨u1, hu1⟩ := ovr_self wr
              rw [hu1]
              clear hu1
              go_upto_region 23 with fail
              clear ys0 ys1 ys2 d1
              obtain ⟨X2, hX2⟩ : ∃ X2, X2 = ((ovr wr u1).alloc (.cells #[.int .u16 (z k 0), .int .u16 (z k 1), .int .u16 (z k 2)] 53)) := ⟨_, rfl⟩
              have reX2 : ∀ v, ∃ x, ovr X2 v = ovr wr x := fun v => ovr_re1 hX2
              replace ywr00 := tr_cell reX2 ywr00
              replace zwr00 := tr_froz reX2 zwr00
              replace ywr01 := tr_cell reX2 ywr01
              replace zwr01 := tr_froz reX2 zwr01
              replace ywr02 := tr_cell reX2 ywr02
              replace zwr02 := tr_froz reX2 zwr02
              replace ywr03 := tr_cell reX2 ywr03
              replace zwr03 := tr_froz reX2 zwr03
              replace ywr04 := tr_cell reX2 ywr04
              replace zwr04 := tr_froz reX2 zwr04
              replace ywr05 := tr_cell reX2 ywr05
              replace zwr05 := tr_froz reX2 zwr05
              replace ywr06 := tr_cell reX2 ywr06
              replace zwr06 := tr_froz reX2 zwr06
              replace ywr07 := tr_cell reX2 ywr07
              replace zwr07 := tr_froz reX2 zwr07
              replace ywr08 := tr_cell reX2 ywr08
              replace zwr08 := tr_froz reX2 zwr08
              replace Rrowwr0 := Lib.hid (tr_row reX2 Rrowwr0.out)
              replace ywr10 := tr_cell reX2 ywr10
              replace zwr10 := tr_froz reX2 zwr10
              replace ywr11 := tr_cell reX2 ywr11
              replace zwr11 := tr_froz reX2 zwr11
              replace ywr12 := tr_cell reX2 ywr12
              replace zwr12 := tr_froz reX2 zwr12
              replace ywr13 := tr_cell reX2 ywr13
              replace zwr13 := tr_froz reX2 zwr13
              replace ywr14 := tr_cell reX2 ywr14
              replace zwr14 := tr_froz reX2 zwr14
              replace ywr15 := tr_cell reX2 ywr15
              replace zwr15 := tr_froz reX2 zwr15
              replace ywr16 := tr_cell reX2 ywr16
              replace zwr16 := tr_froz reX2 zwr16
              replace ywr17 := tr_cell reX2 ywr17
              replace zwr17 := tr_froz reX2 zwr17
              replace Rrowwr1 := Lib.hid (tr_row reX2 Rrowwr1.out)
              replace ywr20 := tr_cell reX2 ywr20
              replace zwr20 := tr_froz reX2 zwr20
              replace ywr21 := tr_cell reX2 ywr21
              replace zwr21 := tr_froz reX2 zwr21
              replace Rrowwr2 := Lib.hid (tr_row reX2 Rrowwr2.out)
              replace ywr30 := tr_cell reX2 ywr30
              replace zwr30 := tr_froz reX2 zwr30
              replace ywr31 := tr_cell reX2 ywr31
              replace zwr31 := tr_froz reX2 zwr31
              replace ywr32 := tr_cell reX2 ywr32
              replace zwr32 := tr_froz reX2 zwr32
              replace ywr33 := tr_cell reX2 ywr33
              replace zwr33 := tr_froz reX2 zwr33
              replace ywr34 := tr_cell reX2 ywr34
              replace zwr34 := tr_froz reX2 zwr34
              replace ywr35 := tr_cell reX2 ywr35
              replace zwr35 := tr_froz reX2 zwr35
              replace ywr36 := tr_cell reX2 ywr36
              replace zwr36 := tr_froz reX2 zwr36
              replace ywr37 := tr_cell reX2 ywr37
              replace zwr37 := tr_froz reX2 zwr37
              replace Rrowwr3 := Lib.hid (tr_row reX2 Rrowwr3.out)
              have rowX20 : X2.heap[(ovr wr u1).heap.size]? = some (.cells #[.int .u16 (z k 0), .int .u16 (z k 1), .int .u16 (z k 2)] 53 (0, 0)) := by rw [hX2]; exact heap_last _ _ _ rfl
              have yX200 := ovr_cell (W := X2) (b := (ovr wr u1).heap.size) (o := 0) (v := .int .u16 (z k 0)) (by rw [cell_of_row _ _ _ _ _ _ rowX20]; rfl)
              have yX201 := ovr_cell (W := X2) (b := (ovr wr u1).heap.size) (o := 1) (v := .int .u16 (z k 1)) (by rw [cell_of_row _ _ _ _ _ _ rowX20]; rfl)
              have yX202 := ovr_cell (W := X2) (b := (ovr wr u1).heap.size) (o := 2) (v := .int .u16 (z k 2)) (by rw [cell_of_row _ _ _ _ _ _ rowX20]; rfl)
              have RrowX20 := Lib.hid (ovr_row rowX20)
              clear rowX20
              have HBX2 : Hid (∀ u, Below wr.heap.size wr (ovr X2 u)) := fun u => by obtain ⟨x, hx⟩ := reX2 u; rw [hx]; exact ovr_below _ _
              clear reX2
              have HX2 := Lib.hid hX2
              clear hX2
              rw [← HX2.out]
              obtain ⟨u2, hu2⟩ := ovr_self X2
              rw [hu2]
              clear hu2
              have HZK : Hid (∀ j, j < 3 → 0 ≤ z k j ∧ z k j ≤ 65535) := HZB.out k HLT.out
              have HM0 := Lib.hid (tmT (HZK.out 0 (by omega)).1)
              have HM2 := Lib.hid (tmT (HZK.out 2 (by omega)).1)
              have HOK := Lib.hid (good_ok HQK.out HGD.out (by have := HLL.out; have := HLT.out; omega) HZK.out)
              have HNX := Lib.hid fun g g' => good_next HQK.out HGD.out (by have := HLL.out; have := HLT.out; omega) HZK.out g g'
              have HST := Lib.hid HGD.out.t
              have k0 : IntKind.i64.wrap (z k 1) = z k 1 := IntWalk.i64_in _ (by have := HZK.out 1 (by omega); omega)
              have k1 : IntKind.i64.wrap (s.t + 1) = s.t + 1 := IntWalk.i64_in _ (by have := HST.out; have := HLL.out; have := HLT.out; omega)
              have k2 : IntKind.i64.wrap (z k 0) = z k 0 := IntWalk.i64_in _ (by have := HZK.out 0 (by omega); omega)
              have k3 : IntKind.i64.wrap ((z k 0).tmod 100) = (z k 0).tmod 100 := IntWalk.i64_in _ (by have := HM0.out; omega)
              have k4 : IntKind.i64.wrap (s.t + 1 + (z k 0).tmod 100) = atT s (z k) := IntWalk.i64_in _ (by have := HM0.out; have := HST.out; have := HLL.out; have := HLT.out; omega)
              have k5 : IntKind.i64.wrap (z k 2) = z k 2 := IntWalk.i64_in _ (by have := HZK.out 2 (by omega); omega)
              have k6 : IntKind.i64.wrap ((z k 2).tmod 100) = (z k 2).tmod 100 := IntWalk.i64_in _ (by have := HM2.out; omega)
              have k7 : IntKind.i64.wrap (z k 1 + (z k 2).tmod 100) = z k 1 + (z k 2).tmod 100 := IntWalk.i64_in _ (by have := HM2.out; have := HZK.out 1 (by omega); omega)
              have C1 := Lib.hid fun W => steer4_any Q g h s (atT s (z k)) (xT (z k)) W HOK.out
              rcases hbad : (badG g || badG h) with _ | _
              case true =>
                have hk0 : k = 0 := by
                  rcases Nat.eq_zero_or_pos k with h0 | h0
                  · exact h0
                  · rw [HBG.out h0] at hbad; cases hbad
                subst hk0
                rw [show stR (q5 Q) g h s (atT s (z 0)) (xT (z 0)) = .tuple #[.agg #[I 0, I 0, I 0, I 0, I 0, I 0, I 0, I 0], I 2] by unfold stR; rw [hbad]; rfl] at C1
                clear hbad
                go_wp2_with (with_reducible show wpList _ _ _ _ _ _; refine wpList_load_ia rfl 30 _ rfl w0.heap.size 0 rfl 117 Q _ (HPQ.out _ (HBX2.out _)) Try.underlying30 rfl (by kernel_rfl) ?_)
                refine (C1.out _).mono ?_
                rintro e w1 ⟨rfl, hb1⟩
                obtain ⟨u3, rfl⟩ := ovr_next hb1
                clear hb1
                go_upto_region 25 with fail
                clear k0 k1 k2 k3 k4 k5 k6 k7
                obtain ⟨X3, hX3⟩ : ∃ X3, X3 = ((ovr X2 u3).alloc (.cells #[I 0, I 0, I 0, I 0, I 0, I 0, I 0, I 0] 51)) := ⟨_, rfl⟩
                have reX3 : ∀ v, ∃ x, ovr X3 v = ovr X2 x := fun v => ovr_re1 hX3
                replace ywr00 := tr_cell reX3 ywr00
                replace zwr00 := tr_froz reX3 zwr00
                replace ywr01 := tr_cell reX3 ywr01
                replace zwr01 := tr_froz reX3 zwr01
                replace ywr02 := tr_cell reX3 ywr02
                replace zwr02 := tr_froz reX3 zwr02
                replace ywr03 := tr_cell reX3 ywr03
                replace zwr03 := tr_froz reX3 zwr03
                replace ywr04 := tr_cell reX3 ywr04
                replace zwr04 := tr_froz reX3 zwr04
                replace ywr05 := tr_cell reX3 ywr05
                replace zwr05 := tr_froz reX3 zwr05
                replace ywr06 := tr_cell reX3 ywr06
                replace zwr06 := tr_froz reX3 zwr06
                replace ywr07 := tr_cell reX3 ywr07
                replace zwr07 := tr_froz reX3 zwr07
                replace ywr08 := tr_cell reX3 ywr08
                replace zwr08 := tr_froz reX3 zwr08
                replace Rrowwr0 := Lib.hid (tr_row reX3 Rrowwr0.out)
                replace ywr10 := tr_cell reX3 ywr10
                replace zwr10 := tr_froz reX3 zwr10
                replace ywr11 := tr_cell reX3 ywr11
                replace zwr11 := tr_froz reX3 zwr11
                replace ywr12 := tr_cell reX3 ywr12
                replace zwr12 := tr_froz reX3 zwr12
                replace ywr13 := tr_cell reX3 ywr13
                replace zwr13 := tr_froz reX3 zwr13
                replace ywr14 := tr_cell reX3 ywr14
                replace zwr14 := tr_froz reX3 zwr14
                replace ywr15 := tr_cell reX3 ywr15
                replace zwr15 := tr_froz reX3 zwr15
                replace ywr16 := tr_cell reX3 ywr16
                replace zwr16 := tr_froz reX3 zwr16
                replace ywr17 := tr_cell reX3 ywr17
                replace zwr17 := tr_froz reX3 zwr17
                replace Rrowwr1 := Lib.hid (tr_row reX3 Rrowwr1.out)
                replace ywr20 := tr_cell reX3 ywr20
                replace zwr20 := tr_froz reX3 zwr20
                replace ywr21 := tr_cell reX3 ywr21
                replace zwr21 := tr_froz reX3 zwr21
                replace Rrowwr2 := Lib.hid (tr_row reX3 Rrowwr2.out)
                replace ywr30 := tr_cell reX3 ywr30
                replace zwr30 := tr_froz reX3 zwr30
                replace ywr31 := tr_cell reX3 ywr31
                replace zwr31 := tr_froz reX3 zwr31
                replace ywr32 := tr_cell reX3 ywr32
                replace zwr32 := tr_froz reX3 zwr32
                replace ywr33 := tr_cell reX3 ywr33
                replace zwr33 := tr_froz reX3 zwr33
                replace ywr34 := tr_cell reX3 ywr34
                replace zwr34 := tr_froz reX3 zwr34
                replace ywr35 := tr_cell reX3 ywr35
                replace zwr35 := tr_froz reX3 zwr35
                replace ywr36 := tr_cell reX3 ywr36
                replace zwr36 := tr_froz reX3 zwr36
                replace ywr37 := tr_cell reX3 ywr37
                replace zwr37 := tr_froz reX3 zwr37
                replace Rrowwr3 := Lib.hid (tr_row reX3 Rrowwr3.out)
                replace yX200 := tr_cell reX3 yX200
                replace yX201 := tr_cell reX3 yX201
                replace yX202 := tr_cell reX3 yX202
                replace RrowX20 := Lib.hid (tr_row reX3 RrowX20.out)
                have rowX30 : X3.heap[(ovr X2 u3).heap.size]? = some (.cells #[I 0, I 0, I 0, I 0, I 0, I 0, I 0, I 0] 51 (0, 0)) := by rw [hX3]; exact heap_last _ _ _ rfl
                have yX300 := ovr_cell (W := X3) (b := (ovr X2 u3).heap.size) (o := 0) (v := I 0) (by rw [cell_of_row _ _ _ _ _ _ rowX30]; rfl)
                have yX301 := ovr_cell (W := X3) (b := (ovr X2 u3).heap.size) (o := 1) (v := I 0) (by rw [cell_of_row _ _ _ _ _ _ rowX30]; rfl)
                have yX302 := ovr_cell (W := X3) (b := (ovr X2 u3).heap.size) (o := 2) (v := I 0) (by rw [cell_of_row _ _ _ _ _ _ rowX30]; rfl)
                have yX303 := ovr_cell (W := X3) (b := (ovr X2 u3).heap.size) (o := 3) (v := I 0) (by rw [cell_of_row _ _ _ _ _ _ rowX30]; rfl)
                have yX304 := ovr_cell (W := X3) (b := (ovr X2 u3).heap.size) (o := 4) (v := I 0) (by rw [cell_of_row _ _ _ _ _ _ rowX30]; rfl)
                have yX305 := ovr_cell (W := X3) (b := (ovr X2 u3).heap.size) (o := 5) (v := I 0) (by rw [cell_of_row _ _ _ _ _ _ rowX30]; rfl)
                have yX306 := ovr_cell (W := X3) (b := (ovr X2 u3).heap.size) (o := 6) (v := I 0) (by rw [cell_of_row _ _ _ _ _ _ rowX30]; rfl)
                have yX307 := ovr_cell (W := X3) (b := (ovr X2 u3).heap.size) (o := 7) (v := I 0) (by rw [cell_of_row _ _ _ _ _ _ rowX30]; rfl)
                have RrowX30 := Lib.hid (ovr_row rowX30)
                clear rowX30
                have HBX3 : Hid (∀ u, Below X2.heap.size X2 (ovr X3 u)) := fun u => by obtain ⟨x, hx⟩ := reX3 u; rw [hx]; exact ovr_below _ _
                clear reX3
                have HX3 := Lib.hid hX3
                clear hX3
                have HU3 : Hid (∀ u, Below w0.heap.size w0 (ovr X3 u)) := below_chain (below_chain HUwr.out HBX2.out) HBX3.out
                rw [← HX3.out]
                obtain ⟨u4, hu4⟩ := ovr_self X3
                rw [hu4]
                clear hu4
                go_wp2_with fail
                refine (KN.out _).mono ?_
                rintro e w1 ⟨rfl, hb1⟩
                obtain ⟨u5, rfl⟩ := ovr_next hb1
                clear hb1
                go_wp2_with fail
                go_ret
                exact ⟨rfl, HU3.out u5⟩
              obtain ⟨s1, hs1⟩ : ∃ s1, s1 = nxSt (q5 Q) g h s (atT s (z k)) (xT (z k)) := ⟨_, rfl⟩
              rw [show stR (q5 Q) g h s (atT s (z k)) (xT (z k)) = .tuple #[s1.val, I 0] by unfold stR; rw [hbad, ← hs1]; rfl] at C1
              have HG1 : Hid (GoodT Q s1 (k + 1)) := by rw [hs1]; exact HNX.out g h
              have HBD := Lib.hid hbad
              clear hbad hs1
              go_wp2_with (with_reducible show wpList _ _ _ _ _ _; refine wpList_load_ia rfl 30 _ rfl w0.heap.size 0 rfl 117 Q _ (HPQ.out _ (HBX2.out _)) Try.underlying30 rfl (by kernel_rfl) ?_)
              refine (C1.out _).mono ?_
              rintro e w1 ⟨rfl, hb1⟩
              obtain ⟨u3, rfl⟩ := ovr_next hb1
              clear hb1
              go_upto_region 25 with fail
              clear k0 k1 k2 k3 k4 k5 k6 k7
              obtain ⟨X3, hX3⟩ : ∃ X3, X3 = ((ovr X2 u3).alloc (.cells #[I s1.t, I s1.ph, I (s1.v 0), I (s1.v 1), I (s1.v 2), I (s1.v 3), I (s1.v 4), I (s1.v 5)] 51)) := ⟨_, rfl⟩
              have reX3 : ∀ v, ∃ x, ovr X3 v = ovr X2 x := fun v => ovr_re1 hX3
              replace ywr00 := tr_cell reX3 ywr00
              replace zwr00 := tr_froz reX3 zwr00
              replace ywr01 := tr_cell reX3 ywr01
              replace zwr01 := tr_froz reX3 zwr01
              replace ywr02 := tr_cell reX3 ywr02
              replace zwr02 := tr_froz reX3 zwr02
              replace ywr03 := tr_cell reX3 ywr03
              replace zwr03 := tr_froz reX3 zwr03
              replace ywr04 := tr_cell reX3 ywr04
              replace zwr04 := tr_froz reX3 zwr04
              replace ywr05 := tr_cell reX3 ywr05
              replace zwr05 := tr_froz reX3 zwr05
              replace ywr06 := tr_cell reX3 ywr06
              replace zwr06 := tr_froz reX3 zwr06
              replace ywr07 := tr_cell reX3 ywr07
              replace zwr07 := tr_froz reX3 zwr07
              replace ywr08 := tr_cell reX3 ywr08
              replace zwr08 := tr_froz reX3 zwr08
              replace Rrowwr0 := Lib.hid (tr_row reX3 Rrowwr0.out)
              replace ywr10 := tr_cell reX3 ywr10
              replace zwr10 := tr_froz reX3 zwr10
              replace ywr11 := tr_cell reX3 ywr11
              replace zwr11 := tr_froz reX3 zwr11
              replace ywr12 := tr_cell reX3 ywr12
              replace zwr12 := tr_froz reX3 zwr12
              replace ywr13 := tr_cell reX3 ywr13
              replace zwr13 := tr_froz reX3 zwr13
              replace ywr14 := tr_cell reX3 ywr14
              replace zwr14 := tr_froz reX3 zwr14
              replace ywr15 := tr_cell reX3 ywr15
              replace zwr15 := tr_froz reX3 zwr15
              replace ywr16 := tr_cell reX3 ywr16
              replace zwr16 := tr_froz reX3 zwr16
              replace ywr17 := tr_cell reX3 ywr17
              replace zwr17 := tr_froz reX3 zwr17
              replace Rrowwr1 := Lib.hid (tr_row reX3 Rrowwr1.out)
              replace ywr20 := tr_cell reX3 ywr20
              replace zwr20 := tr_froz reX3 zwr20
              replace ywr21 := tr_cell reX3 ywr21
              replace zwr21 := tr_froz reX3 zwr21
              replace Rrowwr2 := Lib.hid (tr_row reX3 Rrowwr2.out)
              replace ywr30 := tr_cell reX3 ywr30
              replace zwr30 := tr_froz reX3 zwr30
              replace ywr31 := tr_cell reX3 ywr31
              replace zwr31 := tr_froz reX3 zwr31
              replace ywr32 := tr_cell reX3 ywr32
              replace zwr32 := tr_froz reX3 zwr32
              replace ywr33 := tr_cell reX3 ywr33
              replace zwr33 := tr_froz reX3 zwr33
              replace ywr34 := tr_cell reX3 ywr34
              replace zwr34 := tr_froz reX3 zwr34
              replace ywr35 := tr_cell reX3 ywr35
              replace zwr35 := tr_froz reX3 zwr35
              replace ywr36 := tr_cell reX3 ywr36
              replace zwr36 := tr_froz reX3 zwr36
              replace ywr37 := tr_cell reX3 ywr37
              replace zwr37 := tr_froz reX3 zwr37
              replace Rrowwr3 := Lib.hid (tr_row reX3 Rrowwr3.out)
              replace yX200 := tr_cell reX3 yX200
              replace yX201 := tr_cell reX3 yX201
              replace yX202 := tr_cell reX3 yX202
              replace RrowX20 := Lib.hid (tr_row reX3 RrowX20.out)
              have rowX30 : X3.heap[(ovr X2 u3).heap.size]? = some (.cells #[I s1.t, I s1.ph, I (s1.v 0), I (s1.v 1), I (s1.v 2), I (s1.v 3), I (s1.v 4), I (s1.v 5)] 51 (0, 0)) := by rw [hX3]; exact heap_last _ _ _ rfl
              have yX300 := ovr_cell (W := X3) (b := (ovr X2 u3).heap.size) (o := 0) (v := I s1.t) (by rw [cell_of_row _ _ _ _ _ _ rowX30]; rfl)
              have yX301 := ovr_cell (W := X3) (b := (ovr X2 u3).heap.size) (o := 1) (v := I s1.ph) (by rw [cell_of_row _ _ _ _ _ _ rowX30]; rfl)
              have yX302 := ovr_cell (W := X3) (b := (ovr X2 u3).heap.size) (o := 2) (v := I (s1.v 0)) (by rw [cell_of_row _ _ _ _ _ _ rowX30]; rfl)
              have yX303 := ovr_cell (W := X3) (b := (ovr X2 u3).heap.size) (o := 3) (v := I (s1.v 1)) (by rw [cell_of_row _ _ _ _ _ _ rowX30]; rfl)
              have yX304 := ovr_cell (W := X3) (b := (ovr X2 u3).heap.size) (o := 4) (v := I (s1.v 2)) (by rw [cell_of_row _ _ _ _ _ _ rowX30]; rfl)
              have yX305 := ovr_cell (W := X3) (b := (ovr X2 u3).heap.size) (o := 5) (v := I (s1.v 3)) (by rw [cell_of_row _ _ _ _ _ _ rowX30]; rfl)
              have yX306 := ovr_cell (W := X3) (b := (ovr X2 u3).heap.size) (o := 6) (v := I (s1.v 4)) (by rw [cell_of_row _ _ _ _ _ _ rowX30]; rfl)
              have yX307 := ovr_cell (W := X3) (b := (ovr X2 u3).heap.size) (o := 7) (v := I (s1.v 5)) (by rw [cell_of_row _ _ _ _ _ _ rowX30]; rfl)
              have RrowX30 := Lib.hid (ovr_row rowX30)
              clear rowX30
              have HBX3 : Hid (∀ u, Below X2.heap.size X2 (ovr X3 u)) := fun u => by obtain ⟨x, hx⟩ := reX3 u; rw [hx]; exact ovr_below _ _
              clear reX3
              have HX3 := Lib.hid hX3
              clear hX3
              have HU3 : Hid (∀ u, Below w0.heap.size w0 (ovr X3 u)) := below_chain (below_chain HUwr.out HBX2.out) HBX3.out
              rw [← HX3.out]
              obtain ⟨u4, hu4⟩ := ovr_self X3
              rw [hu4]
              clear hu4
              go_upto_region 28 with fail
              have hbY := ovr_below X3 u4
              obtain ⟨Y, hY⟩ : ∃ Y, Y = ovr X3 u4 := ⟨_, rfl⟩
              rw [← hY] at hbY
              rw [← hY]
              have hY' := Lib.hid hY
              clear hY
              have hbY' := Lib.hid hbY
              have reY : ∀ v, ∃ x, ovr Y v = ovr X3 x := fun v => ovr_reB hbY v
              replace ywr00 := tr_cell reY ywr00
              replace zwr00 := tr_froz reY zwr00
              replace ywr01 := tr_cell reY ywr01
              replace zwr01 := tr_froz reY zwr01
              replace ywr02 := tr_cell reY ywr02
              replace zwr02 := tr_froz reY zwr02
              replace ywr03 := tr_cell reY ywr03
              replace zwr03 := tr_froz reY zwr03
              replace ywr04 := tr_cell reY ywr04
              replace zwr04 := tr_froz reY zwr04
              replace ywr05 := tr_cell reY ywr05
              replace zwr05 := tr_froz reY zwr05
              replace ywr06 := tr_cell reY ywr06
              replace zwr06 := tr_froz reY zwr06
              replace ywr07 := tr_cell reY ywr07
              replace zwr07 := tr_froz reY zwr07
              replace ywr08 := tr_cell reY ywr08
              replace zwr08 := tr_froz reY zwr08
              replace Rrowwr0 := Lib.hid (tr_row reY Rrowwr0.out)
              replace ywr10 := tr_cell reY ywr10
              replace zwr10 := tr_froz reY zwr10
              replace ywr11 := tr_cell reY ywr11
              replace zwr11 := tr_froz reY zwr11
              replace ywr12 := tr_cell reY ywr12
              replace zwr12 := tr_froz reY zwr12
              replace ywr13 := tr_cell reY ywr13
              replace zwr13 := tr_froz reY zwr13
              replace ywr14 := tr_cell reY ywr14
              replace zwr14 := tr_froz reY zwr14
              replace ywr15 := tr_cell reY ywr15
              replace zwr15 := tr_froz reY zwr15
              replace ywr16 := tr_cell reY ywr16
              replace zwr16 := tr_froz reY zwr16
              replace ywr17 := tr_cell reY ywr17
              replace zwr17 := tr_froz reY zwr17
              replace Rrowwr1 := Lib.hid (tr_row reY Rrowwr1.out)
              replace ywr20 := tr_cell reY ywr20
              replace zwr20 := tr_froz reY zwr20
              replace ywr21 := tr_cell reY ywr21
              replace zwr21 := tr_froz reY zwr21
              replace Rrowwr2 := Lib.hid (tr_row reY Rrowwr2.out)
              replace ywr30 := tr_cell reY ywr30
              replace zwr30 := tr_froz reY zwr30
              replace ywr31 := tr_cell reY ywr31
              replace zwr31 := tr_froz reY zwr31
              replace ywr32 := tr_cell reY ywr32
              replace zwr32 := tr_froz reY zwr32
              replace ywr33 := tr_cell reY ywr33
              replace zwr33 := tr_froz reY zwr33
              replace ywr34 := tr_cell reY ywr34
              replace zwr34 := tr_froz reY zwr34
              replace ywr35 := tr_cell reY ywr35
              replace zwr35 := tr_froz reY zwr35
              replace ywr36 := tr_cell reY ywr36
              replace zwr36 := tr_froz reY zwr36
              replace ywr37 := tr_cell reY ywr37
              replace zwr37 := tr_froz reY zwr37
              replace Rrowwr3 := Lib.hid (tr_row reY Rrowwr3.out)
              replace yX200 := tr_cell reY yX200
              replace yX201 := tr_cell reY yX201
              replace yX202 := tr_cell reY yX202
              replace RrowX20 := Lib.hid (tr_row reY RrowX20.out)
              replace yX300 := tr_cell reY yX300
              replace yX301 := tr_cell reY yX301
              replace yX302 := tr_cell reY yX302
              replace yX303 := tr_cell reY yX303
              replace yX304 := tr_cell reY yX304
              replace yX305 := tr_cell reY yX305
              replace yX306 := tr_cell reY yX306
              replace yX307 := tr_cell reY yX307
              replace RrowX30 := Lib.hid (tr_row reY RrowX30.out)
              have HBY : Hid (∀ u, Below X3.heap.size X3 (ovr Y u)) := fun u => by obtain ⟨x, hx⟩ := reY u; rw [hx]; exact ovr_below _ _
              clear reY hbY
              have HUY0 : Hid (∀ u, Below w0.heap.size w0 (ovr Y u)) := below_chain HU3.out HBY.out
              have HRT : Hid (rl ≤ s1.v 0 ∧ s1.v 0 ≤ rh) := by
                have h9 := HG1.out.bd 0 (by omega)
                rw [show 66 + 0 * 2 = 66 from rfl, show 66 + 1 = 67 from rfl, HQL.out.1, HQL.out.2] at h9
                exact h9
              have HNB := Lib.hid (HBAD.out (s1.v 0) HRT.out.1 HRT.out.2)
              have CY : Hid (∀ V A' c', Rd V V.heap.size 2 A' zs.length (rR zs) → Calls Try.prog 10 #[.agg (mdA m), .slice A' zs.length c', .int .u8 v, I (s1.v 0)] V fun e w' => e = .returned (.tuple #[I (-1), I 0, I 0]) ∧ Below V.heap.size V w') := fun V A' c' hr => by
                have h9 := why_any m A' c' zs v (s1.v 0) V V.heap.size HLZ.out (Nat.le_refl _) hr
                unfold whyF at h9
                rw [if_neg (by rw [HCK.out]; decide), if_neg (by have := HRT.out; have := HR3.out; omega), whyL_none.2 HNB.out] at h9
                exact h9
              obtain ⟨i4, hi4, kz0, kz1, kz2⟩ := info_parts rng_info
              refine Dl.wp_region_late 12 [10, 11] (fun j => if j = 1 then some Emp else if j = 4 then some (SlAt Y.heap.size 2 zs.length (rR zs)) else if j = 7 then some (fun u _ => u = .tuple #[I (-1), I 0, I 0]) else none) (by kernel_rfl) (by kernel_rfl) (by kernel_rfl) (by kernel_rfl) [] (E := 23)
                ⟨by kernel_rfl, alloc_rng, fun j hj => by cases hj⟩ (by kernel_rfl) (fun i hi => by simp only [List.mem_cons, List.not_mem_nil, or_false] at hi; rcases hi with rfl | rfl <;> rfl) (fun c a d v w h => by cases d <;> exact h) ?_
              simp only [List.take_succ_cons, List.take_zero, List.drop_succ_cons, List.drop_zero]
              repeat (refine Dk.wpG_one rfl rfl rfl ?_; intro K hK; go_big_quiet_op; go_big_quiet_on)
              refine Dk.wpG_make Emp rfl rfl (fun w' hw' _ => ?_) (fun u hu => ?_)
              · go_simp
                exact emp_grow w'
              obtain ⟨_, _, e1, rfl⟩ := hu
              simp only [Act.put, List.setIfInBounds_toArray, List.set_cons_zero, List.set_cons_succ]
              repeat (refine Dk.wpG_one rfl rfl rfl ?_; intro K hK; go_big_quiet_op; go_big_quiet_on)
              refine Dk.wpG_make (SlAt Y.heap.size 2 zs.length (rR zs)) rfl rfl (fun w' hw' _ => ?_) (fun u hu => ?_)
              · obtain ⟨x, rfl⟩ := hw'
                exact app_grow _ _ 34 rfl 23 i4 _ 2 16 Try.underlying34 hi4 kz0 kz1 kz2 rfl (by decide) e1 rfl A zs.length a rfl (rR zs) ((HXI.out _ (HUY0.out x)).more (HUY0.out x).size) (by have := HLL.out; omega) (by decide) (ovr_below Y x).size
              obtain ⟨_, _, A5, a5, rfl, _, _, _⟩ := hu
              simp only [Act.put, List.setIfInBounds_toArray, List.set_cons_zero, List.set_cons_succ]
              repeat (refine Dk.wpG_one rfl rfl rfl ?_; intro K hK; go_big_quiet_op; go_big_quiet_on)
              refine Dk.wpG_make (fun u _ => u = .tuple #[I (-1), I 0, I 0]) rfl rfl (fun w' hw' hk => ?_) (fun u hu => ?_)
              · have hr : Rd w' w'.heap.size 2 A5 zs.length (rR zs) := by
                  have hk3 := hk ⟨4, .data⟩ (by simp) rfl _ _ _ rfl rfl rfl (by simp) rfl
                  obtain ⟨A', c', he, _, hr, _⟩ := hk3.now
                  injection he with he1 he2 he3
                  subst he1
                  exact hr
                go_simp
                exact call_grow (CY.out w' A5 a5 hr)
              obtain ⟨_, _, rfl⟩ := hu
              simp only [Act.put, List.setIfInBounds_toArray, List.set_cons_zero, List.set_cons_succ]
              repeat (refine Dk.wpG_one rfl rfl rfl ?_; intro K hK; go_big_quiet_op; go_big_quiet_on)
              refine Dk.wpG_nil (fun w5 hw5 _ => ?_)
              refine Dl.wpTailH_cons (wp_assign _ (I (-1)) rfl rfl ⟨hw5, ?_⟩)
              refine Dl.wpTailH_cons (wp_assign _ (I 0) rfl rfl ⟨hw5, ?_⟩)
              refine Dl.wpTailH_cons (wp_assign _ (I 0) rfl rfl ⟨hw5, ?_⟩)
              refine Dl.wpTailH_nil ?_
              simp only [Act.put, List.setIfInBounds_toArray, List.set_cons_zero, List.set_cons_succ]
              obtain ⟨x7, rfl⟩ := hw5
              have CWI := Lib.hid fun V => within_any (s1.v 0) ⟨rl, rh⟩ V HRT.out.1 HRT.out.2
              go_wp2_with fail
              refine (CWI.out _).mono ?_
              rintro e w1 ⟨rfl, hb1⟩
              obtain ⟨x8, rfl⟩ := ovr_next hb1
              clear hb1
              go_wp2_with fail
              go_loopw [23] (fun iv wr2 => ∃ (i : Nat) (x : World), i ≤ zs.length ∧ iv = .int .i64 i ∧ wr2 = ovr Y x) (fun iv _ => zs.length - (intOf iv).toNat)
              case atStart => exact ⟨0, x8, by omega, rfl, rfl⟩
              case round =>
                obtain ⟨i, x, hil, rfl, rfl⟩ := hrel
                have hi6 : i ≤ 6 := by have := HLL.out; omega
                by_cases hlz : i < zs.length
                · have d1 : decide ((i : Int) < (zs.length : Int)) = true := decide_eq_true (by omega)
                  go_upto_region 34 with fail
                  clear d1
                  have hbT := ovr_below Y x
                  obtain ⟨T, hT⟩ : ∃ T, T = ovr Y x := ⟨_, rfl⟩
                  rw [← hT] at hbT
                  rw [← hT]
                  have hT' := Lib.hid hT
                  clear hT
                  have hbT' := Lib.hid hbT
                  have reT : ∀ v, ∃ x, ovr T v = ovr Y x := fun v => ovr_reB hbT v
                  replace ywr00 := tr_cell reT ywr00
                  replace zwr00 := tr_froz reT zwr00
                  replace ywr01 := tr_cell reT ywr01
                  replace zwr01 := tr_froz reT zwr01
                  replace ywr02 := tr_cell reT ywr02
                  replace zwr02 := tr_froz reT zwr02
                  replace ywr03 := tr_cell reT ywr03
                  replace zwr03 := tr_froz reT zwr03
                  replace ywr04 := tr_cell reT ywr04
                  replace zwr04 := tr_froz reT zwr04
                  replace ywr05 := tr_cell reT ywr05
                  replace zwr05 := tr_froz reT zwr05
                  replace ywr06 := tr_cell reT ywr06
                  replace zwr06 := tr_froz reT zwr06
                  replace ywr07 := tr_cell reT ywr07
                  replace zwr07 := tr_froz reT zwr07
                  replace ywr08 := tr_cell reT ywr08
                  replace zwr08 := tr_froz reT zwr08
                  replace Rrowwr0 := Lib.hid (tr_row reT Rrowwr0.out)
                  replace ywr10 := tr_cell reT ywr10
                  replace zwr10 := tr_froz reT zwr10
                  replace ywr11 := tr_cell reT ywr11
                  replace zwr11 := tr_froz reT zwr11
                  replace ywr12 := tr_cell reT ywr12
                  replace zwr12 := tr_froz reT zwr12
                  replace ywr13 := tr_cell reT ywr13
                  replace zwr13 := tr_froz reT zwr13
                  replace ywr14 := tr_cell reT ywr14
                  replace zwr14 := tr_froz reT zwr14
                  replace ywr15 := tr_cell reT ywr15
                  replace zwr15 := tr_froz reT zwr15
                  replace ywr16 := tr_cell reT ywr16
                  replace zwr16 := tr_froz reT zwr16
                  replace ywr17 := tr_cell reT ywr17
                  replace zwr17 := tr_froz reT zwr17
                  replace Rrowwr1 := Lib.hid (tr_row reT Rrowwr1.out)
                  replace ywr20 := tr_cell reT ywr20
                  replace zwr20 := tr_froz reT zwr20
                  replace ywr21 := tr_cell reT ywr21
                  replace zwr21 := tr_froz reT zwr21
                  replace Rrowwr2 := Lib.hid (tr_row reT Rrowwr2.out)
                  replace ywr30 := tr_cell reT ywr30
                  replace zwr30 := tr_froz reT zwr30
                  replace ywr31 := tr_cell reT ywr31
                  replace zwr31 := tr_froz reT zwr31
                  replace ywr32 := tr_cell reT ywr32
                  replace zwr32 := tr_froz reT zwr32
                  replace ywr33 := tr_cell reT ywr33
                  replace zwr33 := tr_froz reT zwr33
                  replace ywr34 := tr_cell reT ywr34
                  replace zwr34 := tr_froz reT zwr34
                  replace ywr35 := tr_cell reT ywr35
                  replace zwr35 := tr_froz reT zwr35
                  replace ywr36 := tr_cell reT ywr36
                  replace zwr36 := tr_froz reT zwr36
                  replace ywr37 := tr_cell reT ywr37
                  replace zwr37 := tr_froz reT zwr37
                  replace Rrowwr3 := Lib.hid (tr_row reT Rrowwr3.out)
                  replace yX200 := tr_cell reT yX200
                  replace yX201 := tr_cell reT yX201
                  replace yX202 := tr_cell reT yX202
                  replace RrowX20 := Lib.hid (tr_row reT RrowX20.out)
                  replace yX300 := tr_cell reT yX300
                  replace yX301 := tr_cell reT yX301
                  replace yX302 := tr_cell reT yX302
                  replace yX303 := tr_cell reT yX303
                  replace yX304 := tr_cell reT yX304
                  replace yX305 := tr_cell reT yX305
                  replace yX306 := tr_cell reT yX306
                  replace yX307 := tr_cell reT yX307
                  replace RrowX30 := Lib.hid (tr_row reT RrowX30.out)
                  have HBT : Hid (∀ u, Below Y.heap.size Y (ovr T u)) := fun u => by obtain ⟨x, hx⟩ := reT u; rw [hx]; exact ovr_below _ _
                  clear reT hbT
                  have HUT0 : Hid (∀ u, Below w0.heap.size w0 (ovr T u)) := below_chain HUY0.out HBT.out
                  obtain ⟨ba, oa, rfl, _, e0, e1⟩ := (HXI.out T (below_selfT HUT0.out)).rng hlz
                  obtain ⟨⟨zl, zh⟩, hzz⟩ : ∃ q, at0 zs i = q := ⟨_, rfl⟩
                  have hgr := (ck_ok HCK.out).2.1 i hlz
                  have hsu := sure_of HV.out HNB.out hlz
                  rw [hzz] at e0 e1 hgr hsu
                  have CR : Hid (∀ V, Calls Try.prog 12 #[.agg (mdA m), .agg #[I (s1.v 0), I (s1.v 0)], .agg #[I zl, I zh]] V fun e w' => e = .returned (.tuple #[.int .u8 (regK (posB m ⟨s1.v 0, s1.v 0⟩ ⟨zl, zh⟩) 5), I 0]) ∧ Below V.heap.size V w') := fun V => by
                    have h9 := regionsX_any m ⟨s1.v 0, s1.v 0⟩ ⟨zl, zh⟩ V
                    have hsp : spanB ⟨s1.v 0, s1.v 0⟩ 0 1000000 = true := spanB_iff.2 ⟨by have := HRT.out; have := HR3.out; show 0 ≤ s1.v 0; omega, Int.le_refl _, by have := HRT.out; have := HR3.out; show s1.v 0 ≤ 1000000; omega⟩
                    unfold rgsF at h9
                    rw [HOM.out, hsp, hgr] at h9
                    exact h9
                  obtain ⟨q, hq⟩ : ∃ q, regK (posB m ⟨s1.v 0, s1.v 0⟩ ⟨zl, zh⟩) 5 = q := ⟨_, rfl⟩
                  rw [hq] at CR hsu
                  have CJ := Lib.hid fun V => judge_any q v V
                  rw [hsu] at CJ
                  have z0 := ovr_cell e0
                  have z1 := ovr_cell e1
                  clear e0 e1 hzz hgr hsu hq
                  refine Dl.wp_region_late 13 [12] (fun j => if j = 9 then some (fun u _ => u = .tuple #[.int .u8 q, I 0]) else none) (by kernel_rfl) (by kernel_rfl) (by kernel_rfl) (by kernel_rfl) [] (E := 23)
                    ⟨by kernel_rfl, alloc_rng, fun j hj => by cases hj⟩ (by kernel_rfl) (fun i hi => by simp only [List.mem_cons, List.not_mem_nil, or_false] at hi; rcases hi with rfl; rfl) (fun c a d v w h => by cases d <;> exact h) ?_
                  simp only [List.take_succ_cons, List.take_zero, List.drop_succ_cons, List.drop_zero]
                  repeat (refine Dk.wpG_one rfl rfl rfl ?_; intro K hK; go_big_quiet_op; go_big_quiet_on)
                  refine Dk.wpG_make (fun u _ => u = .tuple #[.int .u8 q, I 0]) rfl rfl (fun w' hw' _ => ?_) (fun u hu => ?_)
                  · go_simp
                    exact call_grow (CR.out w')
                  obtain ⟨_, _, rfl⟩ := hu
                  simp only [Act.put, List.setIfInBounds_toArray, List.set_cons_zero, List.set_cons_succ]
                  repeat (refine Dk.wpG_one rfl rfl rfl ?_; intro K hK; go_big_quiet_op; go_big_quiet_on)
                  refine Dk.wpG_nil (fun w5 hw5 _ => ?_)
                  refine Dl.wpTailH_cons (wp_assign _ (.int .u8 q) rfl rfl ⟨hw5, ?_⟩)
                  refine Dl.wpTailH_cons (wp_assign _ (I 0) rfl rfl ⟨hw5, ?_⟩)
                  refine Dl.wpTailH_nil ?_
                  simp only [Act.put, List.setIfInBounds_toArray, List.set_cons_zero, List.set_cons_succ]
                  obtain ⟨x9, rfl⟩ := hw5
                  go_wp2_with fail
                  refine (CJ.out _).mono ?_
                  rintro e w1 ⟨rfl, hb1⟩
                  obtain ⟨x10, rfl⟩ := ovr_next hb1
                  clear hb1
                  go_wp2_with fail
                  exact ⟨⟨i + 1, _, by omega, rfl, ovr_of (HBT.out x10)⟩, by simp [intOf]; omega⟩
                · have hi : i = zs.length := by omega
                  subst hi
                  have d1 : decide ((zs.length : Int) < (zs.length : Int)) = false := decide_eq_false (by omega)
                  have HBA : Hid (∀ u, Below wr.heap.size wr (ovr Y u)) := below_chain (below_chain HBX2.out HBX3.out) HBY.out
                  go_wp2_with (refine wpList_store_row rfl 51 _ _ rfl BB rfl _ _ (Rrowwr3.out x) #[I s1.t, I s1.ph, I (s1.v 0), I (s1.v 1), I (s1.v 2), I (s1.v 3), I (s1.v 4), I (s1.v 5)] rfl (one8 rfl rfl rfl rfl rfl rfl rfl rfl) rfl (by kernel_rfl) ?_)
                  have hfin : Below Y1.heap.size Y1 ((ovr Y x).setRow BB #[I s1.t, I s1.ph, I (s1.v 0), I (s1.v 1), I (s1.v 2), I (s1.v 3), I (s1.v 4), I (s1.v 5)]) := below_setRow (HVwr.out.trans ((HBA.out x).mono HVwr.out.size)) (by rw [HBS.out]; exact Nat.le_refl _) _
                  have hrow : ((ovr Y x).setRow BB #[I s1.t, I s1.ph, I (s1.v 0), I (s1.v 1), I (s1.v 2), I (s1.v 3), I (s1.v 4), I (s1.v 5)]).heap[BB]? = some (.cells (ia 8 (stV s1)) 51 (0, 0)) := setRow_same (Rrowwr3.out x)
                  have hms : MnS Y1 BB Q g h (k + 1) ((ovr Y x).setRow BB #[I s1.t, I s1.ph, I (s1.v 0), I (s1.v 1), I (s1.v 2), I (s1.v 3), I (s1.v 4), I (s1.v 5)]) := ⟨s1, hfin, hrow, HG1.out, fun _ => HBD.out⟩
                  have HMS := Lib.hid hms
                  clear hms hrow hfin
                  go_roundw
                  case rel => exact ⟨k + 1, HLT.out, by go_num, HMS.out⟩
                  case measure => have := HLT.out; simp [intOf]; omega
            · have hk : k = n := by omega
              subst hk
              have d1 : decide ((k : Int) < (k : Int)) = false := decide_eq_false (by omega)
              have ywr00 := ovr_cell (W := wr) (b := w.heap.size + 1) (o := 0) (v := .slice A zs.length a) (by rw [cell_of_row _ _ _ _ _ _ rowQ]; rfl)
              have zwr00 : ∀ u, (ovr wr u).frozen? ⟨w.heap.size + 1, 0, none⟩ = false := fun u => frozen_of_row _ _ _ _ _ (ovr_row rowQ u)
              have ywr01 := ovr_cell (W := wr) (b := w.heap.size + 1) (o := 1) (v := .int .u8 wt) (by rw [cell_of_row _ _ _ _ _ _ rowQ]; rfl)
              have zwr01 : ∀ u, (ovr wr u).frozen? ⟨w.heap.size + 1, 1, none⟩ = false := fun u => frozen_of_row _ _ _ _ _ (ovr_row rowQ u)
              have ywr02 := ovr_cell (W := wr) (b := w.heap.size + 1) (o := 2) (v := .int .u8 wh) (by rw [cell_of_row _ _ _ _ _ _ rowQ]; rfl)
              have zwr02 : ∀ u, (ovr wr u).frozen? ⟨w.heap.size + 1, 2, none⟩ = false := fun u => frozen_of_row _ _ _ _ _ (ovr_row rowQ u)
              have ywr03 := ovr_cell (W := wr) (b := w.heap.size + 1) (o := 3) (v := I g.lo) (by rw [cell_of_row _ _ _ _ _ _ rowQ]; rfl)
              have zwr03 : ∀ u, (ovr wr u).frozen? ⟨w.heap.size + 1, 3, none⟩ = false := fun u => frozen_of_row _ _ _ _ _ (ovr_row rowQ u)
              have ywr04 := ovr_cell (W := wr) (b := w.heap.size + 1) (o := 4) (v := I g.hi) (by rw [cell_of_row _ _ _ _ _ _ rowQ]; rfl)
              have zwr04 : ∀ u, (ovr wr u).frozen? ⟨w.heap.size + 1, 4, none⟩ = false := fun u => frozen_of_row _ _ _ _ _ (ovr_row rowQ u)
              have ywr05 := ovr_cell (W := wr) (b := w.heap.size + 1) (o := 5) (v := I h.lo) (by rw [cell_of_row _ _ _ _ _ _ rowQ]; rfl)
              have zwr05 : ∀ u, (ovr wr u).frozen? ⟨w.heap.size + 1, 5, none⟩ = false := fun u => frozen_of_row _ _ _ _ _ (ovr_row rowQ u)
              have ywr06 := ovr_cell (W := wr) (b := w.heap.size + 1) (o := 6) (v := I h.hi) (by rw [cell_of_row _ _ _ _ _ _ rowQ]; rfl)
              have zwr06 : ∀ u, (ovr wr u).frozen? ⟨w.heap.size + 1, 6, none⟩ = false := fun u => frozen_of_row _ _ _ _ _ (ovr_row rowQ u)
              have ywr07 := ovr_cell (W := wr) (b := w.heap.size + 1) (o := 7) (v := .slice Z k c) (by rw [cell_of_row _ _ _ _ _ _ rowQ]; rfl)
              have zwr07 : ∀ u, (ovr wr u).frozen? ⟨w.heap.size + 1, 7, none⟩ = false := fun u => frozen_of_row _ _ _ _ _ (ovr_row rowQ u)
              have Rrowwr0 := Lib.hid (ovr_row rowQ)
              clear rowQ
              obtain ⟨u1, hu1⟩ := ovr_self wr
              rw [hu1]
              clear hu1
              go_wp2_with fail
              refine (KN.out _).mono ?_
              rintro e w1 ⟨rfl, hb1⟩
              obtain ⟨u5, rfl⟩ := ovr_next hb1
              clear hb1
              go_wp2_with fail
              go_ret
              exact ⟨rfl, HUwr.out u5⟩
end Go.Proofs.Ytliddmhifnigdaa.Un
