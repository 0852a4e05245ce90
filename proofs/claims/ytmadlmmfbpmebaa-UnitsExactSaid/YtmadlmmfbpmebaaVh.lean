/- The contract of Where of package units. -/
import Derived.Test.YtmadlmmfbpmebaaVgb
import Derived.Sort.CutIn
import Derived.Laws.OwnMore
namespace Go.Proofs.Ytmadlmmfbpmebaa
open Go.RowKit
attribute [local go_sem] Oper.semAt_some
def weF (t : List Rng) (y : Rng) : List Rng × Int := if tabB t && rngOk y then (whL t y (pcs t (t.length - 1)), 0) else ([], 2)
/-- Ranges in new memory, and an error's number. -/
def RetL (w : World) (q : List Rng × Int) (e : Ending) (w' : World) : Prop := ∃ A n c, e = .returned (.tuple #[.slice A n c, I q.2]) ∧ n = q.1.length ∧ n ≤ c ∧ Rd w' w'.heap.size 2 A n (rR q.1) ∧ Below w.heap.size w w'
theorem own_cells {w : World} {base size n : Nat} {e : TypeId} {v : Value} {xs : List Value} (h : w.ownsRow base e size v n xs) {g : Nat} (hg : v.ownBlock = some g) : base ≤ g ∧ ∃ o, w.heap[g]? = some o ∧ o.isCells = true := by
  rcases h.2 with ⟨rfl, _⟩ | ⟨g', cap, cur, rfl, hb, hgg, _⟩
  · simp [Value.ownBlock] at hg
  · simp [Value.ownBlock] at hg
    subst hg
    exact ⟨hb, _, hgg, rfl⟩
theorem row_kept {W W' : World} {row : Option Nat} {b : Nat} {cs : Array Value} {t : TypeId} {B : Nat} (h : W.heap[b]? = some (.cells cs t (0, 0))) (hg : W.grownBy W' row) (hr : ∀ r, row = some r → B ≤ r ∧ ∃ o : Obj, W.heap[r]? = some o ∧ o.isCells = false) : W'.heap[b]? = some (.cells cs t (0, 0)) :=
  (hg.block b (Array.getElem?_eq_some_iff.1 h).1 (fun e => by
    obtain ⟨_, o, ho, hc⟩ := hr b e.symm
    rw [h] at ho; cases ho; cases hc)).trans h
theorem row_own {β : Type} (B b : Nat) (cs : Array Value) (t : TypeId) : OwnFrom B (fun (_ : β) W => W.heap[b]? = some (.cells cs t (0, 0))) := fun _ _ _ _ hs hg hr => row_kept hs hg hr
set_option maxRecDepth 100000 in
set_option maxHeartbeats 4000000 in
theorem where2_any (A : Option Addr) (n c : Nat) (t : List Rng) (y : Rng) (w : World) (B : Nat) (hn : n = t.length) (hm : n ≤ maxLen) (hB : B ≤ w.heap.size) (hx : Rd w B 2 A n (rR t)) :
    Calls Try.prog 41 #[.slice A n c, y.val] w (RetL w (weF t y)) := by
  subst hn
  have hf : Hid (weF t y = if tabB t && rngOk y then (whL t y (pcs t (t.length - 1)), 0) else ([], 2)) := rfl
  have HX : Hid (∀ W', Below w.heap.size w W' → Rd W' B 2 A t.length (rR t) ∧ B ≤ W'.heap.size) := fun W' h => ⟨hx.below (h.mono hB), Nat.le_trans hB h.size⟩
  have ct : Hid (∀ W', Rd W' B 2 A t.length (rR t) ∧ B ≤ W'.heap.size → Calls Try.prog 32 #[.slice A t.length c] W' fun e w' => e = .returned (I (ctF t)) ∧ Below W'.heap.size W' w') := fun W' h => table_any A t.length c t W' B rfl hm h.2 h.1
  have cv := Lib.hid fun W k => valid_one y W k
  have HBw := Lib.hid hB
  clear hx hB hm
  obtain ⟨W, hW⟩ : ∃ W, W = (w.alloc (.cells #[I y.lo, I y.hi] 38)) := ⟨_, rfl⟩
  have rowW0 : W.heap[w.heap.size]? = some (.cells #[I y.lo, I y.hi] 38 (0, 0)) := by rw [hW]; exact heap_last _ _ _ rfl
  have yW00 := ovr_cell (W := W) (b := w.heap.size) (o := 0) (v := I y.lo) (by rw [cell_of_row _ _ _ _ _ _ rowW0]; rfl)
  have yW01 := ovr_cell (W := W) (b := w.heap.size) (o := 1) (v := I y.hi) (by rw [cell_of_row _ _ _ _ _ _ rowW0]; rfl)
  have RrowW0 := Lib.hid (ovr_row rowW0)
  clear rowW0
  have HUW : Hid (∀ u, Below w.heap.size w (ovr W u)) := U1 hW
  have HW := Lib.hid hW
  clear hW
  rcases h1 : tabB t with _ | _
  · rw [h1] at hf
    have h2 : ctF t = 2 := by rw [ctF, h1]; rfl
    rw [h2] at ct
    clear h2
    go_enter Try.func41, Try.ntmps41
    go_upto_region 1 with (fail)
    rw [← HW.out]
    obtain ⟨u0, hu0⟩ := ovr_self W
    rw [hu0]
    clear hu0
    go_wp2_with fail
    refine (ct.out _ (HX.out _ (HUW.out _))).mono ?_
    rintro e w1 ⟨rfl, hb1⟩
    obtain ⟨u1, rfl⟩ := ovr_next hb1
    clear hb1
    go_wp2_with fail
    go_ret2
    exact ⟨none, 0, 0, by rw [hf.out]; rfl, by rw [hf.out]; rfl, Nat.le_refl _, Rd.nil, HUW.out _⟩
  have h2 : ctF t = 0 := by rw [ctF, h1]; rfl
  have Ht := Lib.hid (tab_iff.1 h1)
  rw [h1] at hf
  rw [h2] at ct
  clear h1 h2
  rcases h1 : rngOk y with _ | _
  · rw [h1] at hf cv
    go_enter Try.func41, Try.ntmps41
    go_upto_region 1 with (fail)
    rw [← HW.out]
    obtain ⟨u0, hu0⟩ := ovr_self W
    rw [hu0]
    clear hu0
    go_wp2_with fail
    refine (ct.out _ (HX.out _ (HUW.out _))).mono ?_
    rintro e w1 ⟨rfl, hb1⟩
    obtain ⟨u1, rfl⟩ := ovr_next hb1
    clear hb1
    go_wp2_with fail
    refine (cv.out _ _ rfl).mono ?_
    rintro e w1 ⟨rfl, hb1⟩
    obtain ⟨u2, rfl⟩ := ovr_next hb1
    clear hb1
    go_wp2_with fail
    go_ret2
    exact ⟨none, 0, 0, by rw [hf.out]; rfl, by rw [hf.out]; rfl, Nat.le_refl _, Rd.nil, HUW.out _⟩
  have Hy := Lib.hid h1
  rw [h1] at hf cv
  rw [if_pos (show (true && true) = true from rfl)] at hf
  clear h1
  refine (callsIn_wide (n := 5)).1 ?_
  refine callsIn_of_wp_marks Try.func41 rfl trivial ?_ rfl
  simp only [Try.ntmps41, List.size_toArray, List.length_cons, List.length_nil, Nat.reduceAdd, Nat.reduceSub, Array.replicate_succ, Array.replicate_zero, List.push_toArray, List.append_toArray, List.nil_append, List.cons_append]
  refine wpIn_wide.2 ?_
  go_upto_region 1 with (fail)
  rw [← HW.out]
  obtain ⟨u0, hu0⟩ := ovr_self W
  rw [hu0]
  clear hu0
  go_wp2_with fail
  refine (ct.out _ (HX.out _ (HUW.out _))).mono ?_
  rintro e w1 ⟨rfl, hb1⟩
  obtain ⟨u1, rfl⟩ := ovr_next hb1
  clear hb1
  go_wp2_with fail
  refine (cv.out _ _ rfl).mono ?_
  rintro e w1 ⟨rfl, hb1⟩
  obtain ⟨u2, rfl⟩ := ovr_next hb1
  clear hb1
  go_wp2_with fail
  refine (lines_any _ _ _ _).mono ?_
  rintro e w1 ⟨rfl, rfl⟩
  go_wp2_with fail
  obtain ⟨V, hV⟩ : ∃ V, V = ((ovr W u2).alloc (.cells #[.slice none 0 0] 36)).alloc (.cells #[.slice A t.length c] 44) := ⟨_, rfl⟩
  have rk : V.heap[(ovr W u2).heap.size]? = some (.cells #[.slice none 0 0] 36 (0, 0)) := by rw [hV]; exact heap_before (heap_last _ _ _ rfl)
  have rb : V.heap[(ovr W u2).heap.size + 1]? = some (.cells #[.slice A t.length c] 44 (0, 0)) := by rw [hV]; exact heap_last _ _ _ (by simp)
  have bV : Below (ovr W u2).heap.size (ovr W u2) V := by rw [hV]; exact ((Below.refl _ _).alloc (Nat.le_refl _) _).alloc (by simp) _
  have sV : V.heap.size = (ovr W u2).heap.size + 1 + 1 := by rw [hV]; simp
  have ry : V.heap[w.heap.size]? = some (.cells #[I y.lo, I y.hi] 38 (0, 0)) := (bV.block _ (Array.getElem?_eq_some_iff.1 (RrowW0.out u2)).1).trans (RrowW0.out u2)
  have sw := (HUW.out u2).size
  have slt : w.heap.size < (ovr W u2).heap.size := (Array.getElem?_eq_some_iff.1 (RrowW0.out u2)).1
  have bw : Below w.heap.size w V := (HUW.out u2).trans (bV.mono sw)
  rw [← hV]
  obtain ⟨k6, hk6⟩ : ∃ k, (ovr W u2).heap.size = k := ⟨_, rfl⟩
  rw [hk6] at rk rb sV sw slt
  have sV1 : V.heap.size ≤ k6 + 1 + 1 := by omega
  have sV2 : k6 + 1 + 1 ≤ V.heap.size := by omega
  clear sV
  rw [hk6]
  obtain ⟨kp, hkp⟩ : ∃ k, (ovr W u1).heap.size = k := ⟨_, rfl⟩
  rw [hkp]
  have hxV := HX.out V bw
  have hBw := HBw.out
  have n60 := Ht.out.n60
  have n2 := Ht.out.n2
  obtain ⟨i0, hi0, iz0, iz1, iz2⟩ := info_parts rng_info
  clear hV hk6 hkp bV yW00 yW01
  refine (wpIn_wide (n := 5)).1 ?_
  refine wpIn_rangeFunc_ownH rfl (by omega) (gf := 116) (lb := #[.pointer (some ⟨k6 + 1, 0, none⟩)]) rfl trivial (enters_of Try.func116 (by kernel_rfl) rfl)
    (lines_stops t A t.length c (k6 + 1) V.heap.size k6 B 4 V (by omega) rfl n2 (by omega) (by omega) (by omega) (by omega) (by omega) (Nat.le_refl _) (by rw [cell_of_row _ _ _ _ _ _ rb]; rfl) hxV.1)
    (fun h h' => ⟨h.1.trans h'.1, Nat.le_trans h.2 h'.2⟩) (fun W l o o' hl h _ _ => ⟨fun k hk _ => World.putObj_heap_other (by omega), by simp⟩) (Below.refl _ _) (fun _ => rfl)
    (fun pre W => (∃ v, Boxed W k6 36 v ∧ W.ownsRow V.heap.size 38 2 v (whL t y pre).length (rc (whL t y pre)) ∧ True) ∧ W.heap[w.heap.size]? = some (.cells #[I y.lo, I y.hi] 38 (0, 0)) ∧ Below w.heap.size w W ∧ V.heap.size ≤ W.heap.size)
    (fun _ _ _ => False)
    (OwnFrom.and (Own.from (holdsRow_own V.heap.size k6 36 38 2 (fun pre => (whL t y pre).length) (fun pre => rc (whL t y pre)) (fun _ _ => True)) _) (OwnFrom.and (row_own _ _ _ _) (OwnFrom.and (ownFrom_below (Nat.le_refl _) (by omega)) (fun _ _ _ _ hs hg _ => Nat.le_trans hs hg.size))))
    (fun _ _ _ _ _ hs _ _ => hs)
    ⟨⟨_, rk, ⟨rfl, .inl ⟨rfl, rfl⟩⟩, trivial⟩, ry, bw, Nat.le_refl _⟩
    (fun x a' W => ∃ Bx, W.heap[Bx]? = some (.cells #[I (at0 t x.1).lo, I (at0 t x.1).hi, I (at0 t (x.1 + 1)).lo, I (at0 t (x.1 + 1)).hi] 126 (0, 0)) ∧ V.heap.size ≤ Bx ∧
      a' = { tmps := #[.slice A t.length c, y.val, undef, .pointer (some ⟨w.heap.size, 0, none⟩), .slice none 0 0, .int .i64 0, .pointer (some ⟨k6, 0, none⟩), .pointer (some ⟨Bx, 0, none⟩), undef, undef, .slice A t.length c, I 0, .bool false, .bool false, .agg #[I y.lo, I y.hi], .slice (some ⟨kp, 0, none⟩) 1 1, .bool true, .bool false, .bool false, .slice A t.length c, .func (.func 116) #[] #[.pointer (some ⟨k6 + 1, 0, none⟩)], pcV x, undef, undef, undef, undef, undef, undef, undef, undef, undef, undef, undef, undef, undef, undef, undef, undef, undef, undef, undef, undef, undef, undef, undef, undef, undef, undef, undef, undef, undef, undef, undef, undef, undef, undef, undef, undef, undef], defers := [] })
    (fun x a' s W W' row hs hg hr => by
      obtain ⟨Bx, h1, h2, h3⟩ := hs
      exact ⟨Bx, row_kept h1 hg hr, h2, h3⟩) ?assign ?body ?done ?stop
  case assign =>
    intro l pre x W K hi hK
    obtain ⟨⟨v, h1, h2, _⟩, h3, h4, h5⟩ := hi
    have hK' := hK
    clear hK
    gi_wp2
    exact hK' _ _ ((KeepsOthers.alloc _ _).from _) ⟨fun k hk _ => Below.heap_alloc _ _ _ (by omega), by simp⟩ ⟨⟨v, h1.alloc _, h2.alloc _, trivial⟩, (Below.heap_alloc _ _ _ (Array.getElem?_eq_some_iff.1 h3).1).trans h3, h4.alloc h4.size _, by simp; omega⟩ ⟨W.heap.size, heap_last _ _ _ rfl, h5, rfl⟩
  case body =>
    rintro l pre x a' X hl _ ⟨⟨v, hv, hrow, _⟩, hry, hbw, hsX⟩ ⟨Bx, hBx, hBl, rfl⟩ hlt
    have hF := Wd.round l
    have hbd := whL_facts Ht.out Hy.out pre
    have hsn := whL_snoc t y pre x
    have hpc := pc_ok Ht.out Hy.out x
    obtain ⟨L, hL⟩ : ∃ L, whL t y pre = L := ⟨_, rfl⟩
    rw [hL] at hrow hbd hsn
    have Hnew : Hid (whL t y (pre ++ [x]) = whStep y L (at0 t x.1) (at0 t (x.1 + 1))) := hsn
    obtain ⟨xk, hxk⟩ := x
    simp only at hBx hpc
    obtain ⟨p, hp⟩ : ∃ p, at0 t xk = p := ⟨_, rfl⟩
    obtain ⟨q, hq⟩ : ∃ q, at0 t (xk + 1) = q := ⟨_, rfl⟩
    simp only [hp, hq] at hBx hpc Hnew
    obtain ⟨A', c', rfl, hc', hR⟩ := Rd.of_rc rfl hrow
    have hLn : L.length ≤ 60 := by omega
    have hwb := wh_bd hpc
    obtain ⟨r, hr⟩ : ∃ r, whF p q y = r := ⟨_, rfl⟩
    have cw := Lib.hid fun w => where_any p q y w hpc
    rw [hr] at cw hwb
    have Hst : Hid (whStep y L p q = if r.hi < r.lo then L else if L.length ≠ 0 ∧ r.lo ≤ (at0 L (L.length - 1)).hi + 1 then L.take (L.length - 1) ++ [⟨(at0 L (L.length - 1)).lo, r.hi⟩] else L ++ [r]) := by show _ = _; rw [← hr]; rfl
    have Hrow := Lib.hid hrow
    have Hv := Lib.hid hv
    have Hry := Lib.hid hry
    have HbX := Lib.hid hbw
    have HR := Lib.hid hR
    have Hbd := Lib.hid hbd
    have hv : X.heap[k6]? = some (.cells #[.slice A' L.length c'] 36 (0, 0)) := hv
    clear hL hsn hpc hr hrow hbw hR hbd hp hq
    have yX00 := ovr_cell (W := X) (b := w.heap.size) (o := 0) (v := I y.lo) (by rw [cell_of_row _ _ _ _ _ _ hry]; rfl)
    have zX00 : ∀ u, (ovr X u).frozen? ⟨w.heap.size, 0, none⟩ = false := fun u => frozen_of_row _ _ _ _ _ (ovr_row hry u)
    have yX01 := ovr_cell (W := X) (b := w.heap.size) (o := 1) (v := I y.hi) (by rw [cell_of_row _ _ _ _ _ _ hry]; rfl)
    have zX01 : ∀ u, (ovr X u).frozen? ⟨w.heap.size, 1, none⟩ = false := fun u => frozen_of_row _ _ _ _ _ (ovr_row hry u)
    have RrowX0 := Lib.hid (ovr_row hry)
    clear hry
    have yX10 := ovr_cell (W := X) (b := Bx) (o := 0) (v := I p.lo) (by rw [cell_of_row _ _ _ _ _ _ hBx]; rfl)
    have zX10 : ∀ u, (ovr X u).frozen? ⟨Bx, 0, none⟩ = false := fun u => frozen_of_row _ _ _ _ _ (ovr_row hBx u)
    have yX11 := ovr_cell (W := X) (b := Bx) (o := 1) (v := I p.hi) (by rw [cell_of_row _ _ _ _ _ _ hBx]; rfl)
    have zX11 : ∀ u, (ovr X u).frozen? ⟨Bx, 1, none⟩ = false := fun u => frozen_of_row _ _ _ _ _ (ovr_row hBx u)
    have yX12 := ovr_cell (W := X) (b := Bx) (o := 2) (v := I q.lo) (by rw [cell_of_row _ _ _ _ _ _ hBx]; rfl)
    have zX12 : ∀ u, (ovr X u).frozen? ⟨Bx, 2, none⟩ = false := fun u => frozen_of_row _ _ _ _ _ (ovr_row hBx u)
    have yX13 := ovr_cell (W := X) (b := Bx) (o := 3) (v := I q.hi) (by rw [cell_of_row _ _ _ _ _ _ hBx]; rfl)
    have zX13 : ∀ u, (ovr X u).frozen? ⟨Bx, 3, none⟩ = false := fun u => frozen_of_row _ _ _ _ _ (ovr_row hBx u)
    have RrowX1 := Lib.hid (ovr_row hBx)
    clear hBx
    have yX20 := ovr_cell (W := X) (b := k6) (o := 0) (v := .slice A' L.length c') (by rw [cell_of_row _ _ _ _ _ _ hv]; rfl)
    have zX20 : ∀ u, (ovr X u).frozen? ⟨k6, 0, none⟩ = false := fun u => frozen_of_row _ _ _ _ _ (ovr_row hv u)
    have RrowX2 := Lib.hid (ovr_row hv)
    clear hv
    obtain ⟨v0, hv0⟩ := ovr_self X
    have HX0 := Lib.hid hv0
    rw [hv0]
    clear hv0
    gi_wp2
    refine ⟨trivial, (hF.calls (cw.out _)).mono ?_⟩
    rintro e w1 ⟨rfl, hb1⟩
    obtain ⟨v1, rfl⟩ := ovr_next hb1
    clear hb1
    have HUX : Hid (∀ u, Below w.heap.size w (ovr X u)) := fun u => HbX.out.trans ((ovr_below X u).mono HbX.out.size)
    gi_upto_region 7 with (fail)
    obtain ⟨Z, hZ⟩ : ∃ Z, Z = ((ovr X v1).alloc (.cells #[I r.lo, I r.hi] 38)) := ⟨_, rfl⟩
    have reZ : ∀ v, ∃ x, ovr Z v = ovr X x := fun v => ovr_re1 hZ
    replace yX00 := tr_cell reZ yX00
    replace zX00 := tr_froz reZ zX00
    replace yX01 := tr_cell reZ yX01
    replace zX01 := tr_froz reZ zX01
    replace RrowX0 := Lib.hid (tr_row reZ RrowX0.out)
    replace yX10 := tr_cell reZ yX10
    replace zX10 := tr_froz reZ zX10
    replace yX11 := tr_cell reZ yX11
    replace zX11 := tr_froz reZ zX11
    replace yX12 := tr_cell reZ yX12
    replace zX12 := tr_froz reZ zX12
    replace yX13 := tr_cell reZ yX13
    replace zX13 := tr_froz reZ zX13
    replace RrowX1 := Lib.hid (tr_row reZ RrowX1.out)
    replace yX20 := tr_cell reZ yX20
    replace zX20 := tr_froz reZ zX20
    replace RrowX2 := Lib.hid (tr_row reZ RrowX2.out)
    have rowZ0 : Z.heap[(ovr X v1).heap.size]? = some (.cells #[I r.lo, I r.hi] 38 (0, 0)) := by rw [hZ]; exact heap_last _ _ _ rfl
    have yZ00 := ovr_cell (W := Z) (b := (ovr X v1).heap.size) (o := 0) (v := I r.lo) (by rw [cell_of_row _ _ _ _ _ _ rowZ0]; rfl)
    have yZ01 := ovr_cell (W := Z) (b := (ovr X v1).heap.size) (o := 1) (v := I r.hi) (by rw [cell_of_row _ _ _ _ _ _ rowZ0]; rfl)
    have RrowZ0 := Lib.hid (ovr_row rowZ0)
    clear rowZ0
    have HBZ : Hid (∀ u, Below X.heap.size X (ovr Z u)) := fun u => by obtain ⟨x, hx⟩ := reZ u; rw [hx]; exact ovr_below _ _
    have HUZ : Hid (∀ u, Below w.heap.size w (ovr Z u)) := fun u => by obtain ⟨x, hx⟩ := reZ u; rw [hx]; exact HUX.out x
    clear reZ
    have HZ := Lib.hid hZ
    clear hZ
    rw [← HZ.out]
    obtain ⟨v2, hv2⟩ := ovr_self Z
    rw [hv2]
    clear hv2
    have fin1 : Hid (∀ W', Below X.heap.size X W' → KeepsFrom V.heap.size X W' ∧ KpL V.heap.size k6 X W' ∧ (∃ v, Boxed W' k6 36 v ∧ W'.ownsRow V.heap.size 38 2 v L.length (rc L) ∧ True) ∧ W'.heap[w.heap.size]? = some (.cells #[I y.lo, I y.hi] 38 (0, 0)) ∧ Below w.heap.size w W' ∧ V.heap.size ≤ W'.heap.size) := fun W' hb =>
      ⟨⟨hb.size, fun k o _ hk _ => (hb.block k (Array.getElem?_eq_some_iff.1 hk).1).trans hk⟩, ⟨KpX.of_below hb hsX, hb.size⟩, ⟨_, (hb.block _ Hv.out.lt).trans Hv.out, own_below Hrow.out hb, trivial⟩, (hb.block _ (Array.getElem?_eq_some_iff.1 Hry.out).1).trans Hry.out, HbX.out.trans (hb.mono HbX.out.size), Nat.le_trans hsX hb.size⟩
    by_cases h1 : r.hi < r.lo
    · have h1b : decide (r.hi < r.lo) = true := decide_eq_true h1
      rw [if_pos h1] at Hst
      clear h1
      gi_wp2
      have hfin := fin1.out _ (HBZ.out v2)
      rw [← Hst.out, ← Hnew.out] at hfin
      rw [← HX0.out]
      exact hfin
    have h1b : decide (r.hi < r.lo) = false := decide_eq_false h1
    rw [if_neg h1] at Hst
    have k6X : k6 < X.heap.size := Hv.out.lt
    have s1 : IntKind.i64.wrap ((L.length : Int) - 1) = (L.length : Int) - 1 := IntWalk.i64_in _ (by omega)
    clear h1
    gi_upto_region 10 with (fail)
    have hbZ2 := ovr_below Z v2
    obtain ⟨Z2, hZ2⟩ : ∃ Z2, Z2 = ovr Z v2 := ⟨_, rfl⟩
    rw [← hZ2] at hbZ2
    rw [← hZ2]
    clear hZ2
    have hbZ2' := Lib.hid hbZ2
    have reZ2 : ∀ v, ∃ x, ovr Z2 v = ovr Z x := fun v => ovr_reB hbZ2 v
    replace yX00 := tr_cell reZ2 yX00
    replace zX00 := tr_froz reZ2 zX00
    replace yX01 := tr_cell reZ2 yX01
    replace zX01 := tr_froz reZ2 zX01
    replace RrowX0 := Lib.hid (tr_row reZ2 RrowX0.out)
    replace yX10 := tr_cell reZ2 yX10
    replace zX10 := tr_froz reZ2 zX10
    replace yX11 := tr_cell reZ2 yX11
    replace zX11 := tr_froz reZ2 zX11
    replace yX12 := tr_cell reZ2 yX12
    replace zX12 := tr_froz reZ2 zX12
    replace yX13 := tr_cell reZ2 yX13
    replace zX13 := tr_froz reZ2 zX13
    replace RrowX1 := Lib.hid (tr_row reZ2 RrowX1.out)
    replace yX20 := tr_cell reZ2 yX20
    replace zX20 := tr_froz reZ2 zX20
    replace RrowX2 := Lib.hid (tr_row reZ2 RrowX2.out)
    replace yZ00 := tr_cell reZ2 yZ00
    replace yZ01 := tr_cell reZ2 yZ01
    replace RrowZ0 := Lib.hid (tr_row reZ2 RrowZ0.out)
    have HUZ2 : Hid (∀ u, Below w.heap.size w (ovr Z2 u)) := fun u => by obtain ⟨x, hx⟩ := reZ2 u; rw [hx]; exact HUZ.out x
    clear reZ2 hbZ2
    have HB2 : Hid (∀ u, Below X.heap.size X (ovr Z2 u)) := fun u => by
      have h := HBZ.out Z2
      obtain ⟨x, hx⟩ : ∃ x, ovr Z2 u = ovr Z x := ⟨_, ovr_of (hbZ2'.out.trans ((ovr_below Z2 u).mono hbZ2'.out.size))⟩
      rw [hx]; exact HBZ.out x
    have hsz2 := (HB2.out Z2).size
    rcases Nat.eq_zero_or_pos L.length with hn0 | hn0
    · rw [if_neg (by omega)] at Hst
      have s2 : decide ((0 : Int) ≤ (L.length : Int) - 1) = false := decide_eq_false (by omega)
      have s3 : decide ((1 : Int) ≤ (L.length : Int)) = false := decide_eq_false (by omega)
      have s4 : ¬ (1 : Int) ≤ (L.length : Int) := by omega
      have s5 : ¬ 1 ≤ L.length := by omega
      have s6 : decide (1 ≤ L.length) = false := decide_eq_false (by omega)
      have Hn0 := Lib.hid hn0
      clear hn0
      refine wpIn_region_seq 14 hF  (fun _ => none) (by kernel_rfl) (by kernel_rfl) (by kernel_rfl) (by kernel_rfl) (by kernel_rfl) ?_
      simp only [List.take_succ_cons, List.take_zero, List.drop_succ_cons, List.drop_zero]
      repeat (first | (refine wpG_one rfl rfl rfl ?_; intro K hK; go_big_quiet_op; go_big_quiet_on) | (refine wpG_skip rfl ?_; simp only [Act.put, List.setIfInBounds_toArray, List.set_cons_zero, List.set_cons_succ]))
      refine wpG_nil (fun w5 hw5 hG => ?_)
      clear hG
      obtain ⟨v3, rfl⟩ : ∃ q, w5 = ovr Z2 q := ⟨w5, ovr_of hw5.le⟩
      clear hw5
      refine wpTailIn_nil ?_
      have hle := HB2.out v3
      have hown := own_below Hrow.out hle
      have hrc := Lib.hid (rc_app L r)
      have hsz3 := hle.size
      have hkq : Hid ((ovr Z2 v3).heap[k6]? = some (.cells #[.slice A' L.length c'] 36 (0, 0))) := (hle.block _ k6X).trans Hv.out
      have hz0 := fin1.out _ hle
      have Hz0 := Lib.hid hz0
      have HLE := Lib.hid hle
      clear hz0 hle s1 s2 s3 s4 s5 s6
      gi_wp2_with (gi_at_builtin; refine wpListIn_append_own _ rfl _ _ 36 rfl V.heap.size 38 i0 _ 2 16 Try.underlying36 hi0 iz0 iz1 iz2 rfl (by decide) _ L.length (rc L) rfl (hown.alloc _) ⟨(ovr Z2 v3).heap.size, 0, none⟩ 1 1 [I r.lo, I r.hi] rfl (by rfl) (news_lit (cs := #[I r.lo, I r.hi]) (heap_last _ _ _ rfl)) ?h1 ?h63 ?hby ?hba ?_)
      case h1 => simp [Value.oneCell']
      case h63 => unfold maxLen; omega
      case hby => omega
      case hba => first | omega | (simp; omega)
      intro v' w2 own3 hg2 _
      obtain ⟨g', cap', rfl⟩ := ownsRow_succ own3
      have gsz := hg2.size
      rw [World.size_alloc] at gsz
      have hlt0 : k6 < (ovr Z2 v3).heap.size := by omega
      have hne : some k6 ≠ (Value.slice A' L.length c').ownBlock := fun e => by have := (hown.lt k6 e.symm).1; omega
      have hq2 : w2.heap[k6]? = some (.cells #[.slice A' L.length c'] 36 (0, 0)) := (hg2.block k6 (by simp; omega) hne).trans ((Below.heap_alloc _ _ _ hlt0).trans hkq.out)
      have cq := cell_of_row _ _ 0 _ _ _ hq2
      have zq := frozen_of_row _ _ 0 _ _ hq2
      have hgr : ∀ k, k < (ovr Z2 v3).heap.size → some k ≠ (Value.slice A' L.length c').ownBlock → w2.heap[k]? = (ovr Z2 v3).heap[k]? := fun k hk hne => (hg2.block k (by simp; omega) hne).trans (Below.heap_alloc _ _ _ hk)
      have hcells : ∀ gg, (Value.slice A' L.length c').ownBlock = some gg → V.heap.size ≤ gg ∧ ∃ o, (ovr Z2 v3).heap[gg]? = some o ∧ o.isCells = true := fun gg hg => own_cells hown hg
      have fin8 : Hid (KeepsFrom V.heap.size X (w2.setCell ⟨k6, 0, none⟩ (.slice (some ⟨g', 0, none⟩) (L.length + 1) cap')) ∧ KpL V.heap.size k6 X (w2.setCell ⟨k6, 0, none⟩ (.slice (some ⟨g', 0, none⟩) (L.length + 1) cap')) ∧ (∃ v, Boxed (w2.setCell ⟨k6, 0, none⟩ (.slice (some ⟨g', 0, none⟩) (L.length + 1) cap')) k6 36 v ∧ (w2.setCell ⟨k6, 0, none⟩ (.slice (some ⟨g', 0, none⟩) (L.length + 1) cap')).ownsRow V.heap.size 38 2 v (whL t y (pre ++ [⟨xk, hxk⟩])).length (rc (whL t y (pre ++ [⟨xk, hxk⟩]))) ∧ True) ∧ (w2.setCell ⟨k6, 0, none⟩ (.slice (some ⟨g', 0, none⟩) (L.length + 1) cap')).heap[w.heap.size]? = some (.cells #[I y.lo, I y.hi] 38 (0, 0)) ∧ Below w.heap.size w (w2.setCell ⟨k6, 0, none⟩ (.slice (some ⟨g', 0, none⟩) (L.length + 1) cap')) ∧ V.heap.size ≤ (w2.setCell ⟨k6, 0, none⟩ (.slice (some ⟨g', 0, none⟩) (L.length + 1) cap')).heap.size) := by
        show _ ∧ _
        obtain ⟨f1, f2, _, f4, f5, f6⟩ := Hz0.out
        have hB8 : Below w.heap.size w w2 := (f5.alloc f5.size _).grown hg2 (by simp; omega) (fun g hg => by have := (hown.lt g hg).1; omega)
        refine ⟨⟨by simp; omega, fun k o hk ho hc => ?_⟩, ⟨fun k hk hkq6 => ?_, by simp; omega⟩, ⟨.slice (some ⟨g', 0, none⟩) (L.length + 1) cap', ?_, ?_, trivial⟩, ?_, hB8.setCell (p := ⟨k6, 0, none⟩) (by show w.heap.size ≤ k6; omega) _, by simp; omega⟩
        · have h3 := f1.same k o hk ho hc
          have hkl := (Array.getElem?_eq_some_iff.1 h3).1
          rw [heap_setCell_other _ _ _ _ (by show k ≠ k6; omega), hgr k hkl (fun e => by
            obtain ⟨_, o', ho', hc'⟩ := hcells k e.symm
            rw [h3] at ho'; cases ho'; rw [hc] at hc'; cases hc')]
          exact h3
        · rw [heap_setCell_other _ _ _ _ (by show k ≠ k6; omega), hgr k (by omega) (fun e => by have := (hcells k e.symm).1; omega)]
          exact f2.1 k hk hkq6
        · exact heap_setCell_same _ _ 0 _ _ _ hq2
        · refine ownsRow_setCell_below ?_ (show k6 < V.heap.size by omega) _
          rw [Hnew.out, Hst.out, hrc.out]
          simpa using own3
        · rw [heap_setCell_other _ _ _ _ (by show w.heap.size ≠ k6; omega), hgr _ (by omega) (fun e => by have := (hcells _ e.symm).1; omega)]
          exact f4
      clear hq2 hgr hcells gsz hg2 own3 hown
      gi_wp2
      rw [← HX0.out]
      exact fin8.out
    · obtain ⟨g, c2, e, gB, gl⟩ : ∃ g c2, (.slice A' L.length c' : Value) = .slice (some ⟨g, 0, none⟩) L.length c2 ∧ V.heap.size ≤ g ∧ g < X.heap.size := by
        rcases Hrow.out.2 with ⟨h, hnil⟩ | ⟨g, cap, cur, h, hb, hg, _⟩
        · exfalso; injection h with _ h2; omega
        · exact ⟨g, cap, h, hb, (Array.getElem?_eq_some_iff.1 hg).1⟩
      injection e with e1 e2 e3
      subst e1
      clear e2 e3
      obtain ⟨b', o', hA, hcc⟩ := rng_all HR.out hn0
      (injection hA with ea; injection ea with ea1 ea2; subst ea1 ea2)
      have hce := (hcc (L.length - 1) (by omega)).2
      rw [Nat.zero_add] at hce
      obtain ⟨z, hz⟩ : ∃ z, at0 L (L.length - 1) = z := ⟨_, rfl⟩
      have hzb := Hbd.out.1 (L.length - 1) (by omega)
      rw [hz] at hce hzb Hst
      have e1 : ∀ u, (ovr Z2 u).cell? ⟨g, (L.length - 1) * 2 + 1, none⟩ = some (I z.hi) := fun u => ((HB2.out u).cell (p := ⟨g, _, none⟩) gl).trans hce
      have s2 : (0 : Int) ≤ (L.length : Int) - 1 := by omega
      have s3 : (1 : Int) ≤ (L.length : Int) := by omega
      have s4 : ((L.length : Int) - 1).toNat = L.length - 1 := by omega
      have s5 : (L.length : Int) - 1 < (L.length : Int) := by omega
      have s6 : decide (1 ≤ L.length) = true := decide_eq_true (by omega)
      have s7 : IntKind.i64.wrap (z.hi + 1) = z.hi + 1 := IntWalk.i64_in _ (by omega)
      have s8 : 0 < L.length := hn0
      have Hn0 := Lib.hid hn0
      clear hcc hce hn0
      by_cases h2 : r.lo ≤ z.hi + 1
      · rw [if_pos ⟨by omega, h2⟩] at Hst
        have h2b : decide (r.lo ≤ z.hi + 1) = true := decide_eq_true h2
        clear h2
        refine wpIn_region_seq 14 hF  (fun _ => none) (by kernel_rfl) (by kernel_rfl) (by kernel_rfl) (by kernel_rfl) (by kernel_rfl) ?_
        simp only [List.take_succ_cons, List.take_zero, List.drop_succ_cons, List.drop_zero]
        repeat (first | (refine wpG_one rfl rfl rfl ?_; intro K hK; go_big_quiet_op; go_big_quiet_on) | (refine wpG_skip rfl ?_; simp only [Act.put, List.setIfInBounds_toArray, List.set_cons_zero, List.set_cons_succ]))
        refine wpG_nil (fun w5 hw5 hG => ?_)
        clear hG
        obtain ⟨v3, rfl⟩ : ∃ q, w5 = ovr Z2 q := ⟨w5, ovr_of hw5.le⟩
        clear hw5
        refine wpTailIn_nil ?_
        have hle := HB2.out v3
        have hown := own_below Hrow.out hle
        have zf := hown.frozenAt ((L.length - 1) * 2 + 1)
        have hst := hown.stored ((L.length - 1) * 2 + 1) (I r.hi)
        have Hst2 := Lib.hid hst
        have hz0 := fin1.out _ hle
        have hcells := own_cells hown (g := g) rfl
        have Hz0 := Lib.hid hz0
        have Hcells := Lib.hid hcells
        have hlen : Hid ((whL t y (pre ++ [⟨xk, hxk⟩])).length = L.length ∧ rc (whL t y (pre ++ [⟨xk, hxk⟩])) = (rc L).set ((L.length - 1) * 2 + 1) (I r.hi)) := by
          show _ ∧ _
          have := rc_set (l := L) (by omega) r.hi
          rw [hz] at this
          rw [Hnew.out, Hst.out]
          exact ⟨by simp; omega, this⟩
        have finB : Hid (KeepsFrom V.heap.size X ((ovr Z2 v3).setCell ⟨g, (L.length - 1) * 2 + 1, none⟩ (I r.hi)) ∧ KpL V.heap.size k6 X ((ovr Z2 v3).setCell ⟨g, (L.length - 1) * 2 + 1, none⟩ (I r.hi)) ∧ (∃ v, Boxed ((ovr Z2 v3).setCell ⟨g, (L.length - 1) * 2 + 1, none⟩ (I r.hi)) k6 36 v ∧ World.ownsRow ((ovr Z2 v3).setCell ⟨g, (L.length - 1) * 2 + 1, none⟩ (I r.hi)) V.heap.size 38 2 v (whL t y (pre ++ [⟨xk, hxk⟩])).length (rc (whL t y (pre ++ [⟨xk, hxk⟩])))) ∧ (((ovr Z2 v3).setCell ⟨g, (L.length - 1) * 2 + 1, none⟩ (I r.hi))).heap[w.heap.size]? = some (.cells #[I y.lo, I y.hi] 38 (0, 0)) ∧ Below w.heap.size w ((ovr Z2 v3).setCell ⟨g, (L.length - 1) * 2 + 1, none⟩ (I r.hi)) ∧ V.heap.size ≤ (((ovr Z2 v3).setCell ⟨g, (L.length - 1) * 2 + 1, none⟩ (I r.hi))).heap.size) := by
          show _ ∧ _
          obtain ⟨f1, f2, _, f4, f5, f6⟩ := Hz0.out
          have hgk : g ≠ k6 := by omega
          refine ⟨f1.trans ((KeepsOthers.setCell _ _ _).from _), ⟨fun k hk hkq6 => (heap_setCell_other _ _ _ _ (by show k ≠ g; omega)).trans (f2.1 k hk hkq6), by have := f2.2; simpa using this⟩, ⟨.slice (some ⟨g, 0, none⟩) L.length c', (heap_setCell_other _ _ _ _ (by show k6 ≠ g; omega)).trans (((HB2.out v3).block _ k6X).trans Hv.out), ?_⟩, (heap_setCell_other _ _ _ _ (by show w.heap.size ≠ g; omega)).trans f4, f5.setCell (p := ⟨g, _, none⟩) (by show w.heap.size ≤ g; omega) _, by simpa using f6⟩
          rw [hlen.out.1, hlen.out.2]
          exact Hst2.out.1
        clear hz0 hle hcells hown hst hz
        gi_wp2
        rw [← HX0.out]
        first
        | exact finB.out
        | (obtain ⟨f1, f2, ⟨v9, f3, f7⟩, f4⟩ := finB.out; exact ⟨f1, f2, ⟨v9, f3, f7, trivial⟩, f4⟩)
      · rw [if_neg (fun h => h2 h.2)] at Hst
        have h2b : decide (r.lo ≤ z.hi + 1) = false := decide_eq_false h2
        clear h2 hz
        refine wpIn_region_seq 14 hF  (fun _ => none) (by kernel_rfl) (by kernel_rfl) (by kernel_rfl) (by kernel_rfl) (by kernel_rfl) ?_
        simp only [List.take_succ_cons, List.take_zero, List.drop_succ_cons, List.drop_zero]
        repeat (first | (refine wpG_one rfl rfl rfl ?_; intro K hK; go_big_quiet_op; go_big_quiet_on) | (refine wpG_skip rfl ?_; simp only [Act.put, List.setIfInBounds_toArray, List.set_cons_zero, List.set_cons_succ]))
        refine wpG_nil (fun w5 hw5 hG => ?_)
        clear hG
        obtain ⟨v3, rfl⟩ : ∃ q, w5 = ovr Z2 q := ⟨w5, ovr_of hw5.le⟩
        clear hw5 e1 s7 s8
        refine wpTailIn_nil ?_
        have hle := HB2.out v3
        have hown := own_below Hrow.out hle
        have hrc := Lib.hid (rc_app L r)
        have hsz3 := hle.size
        have hkq : Hid ((ovr Z2 v3).heap[k6]? = some (.cells #[.slice (some ⟨g, 0, none⟩) L.length c'] 36 (0, 0))) := (hle.block _ k6X).trans Hv.out
        have hz0 := fin1.out _ hle
        have Hz0 := Lib.hid hz0
        have HLE := Lib.hid hle
        clear hz0 hle s1 s2 s3 s4 s5 s6
        gi_wp2_with (gi_at_builtin; refine wpListIn_append_own _ rfl _ _ 36 rfl V.heap.size 38 i0 _ 2 16 Try.underlying36 hi0 iz0 iz1 iz2 rfl (by decide) _ L.length (rc L) rfl (hown.alloc _) ⟨(ovr Z2 v3).heap.size, 0, none⟩ 1 1 [I r.lo, I r.hi] rfl (by rfl) (news_lit (cs := #[I r.lo, I r.hi]) (heap_last _ _ _ rfl)) ?h1 ?h63 ?hby ?hba ?_)
        case h1 => simp [Value.oneCell']
        case h63 => unfold maxLen; omega
        case hby => omega
        case hba => first | omega | (simp; omega)
        intro v' w2 own3 hg2 _
        obtain ⟨g', cap', rfl⟩ := ownsRow_succ own3
        have gsz := hg2.size
        rw [World.size_alloc] at gsz
        have hlt0 : k6 < (ovr Z2 v3).heap.size := by omega
        have hne : some k6 ≠ (Value.slice (some ⟨g, 0, none⟩) L.length c').ownBlock := fun e => by have := (hown.lt k6 e.symm).1; omega
        have hq2 : w2.heap[k6]? = some (.cells #[.slice (some ⟨g, 0, none⟩) L.length c'] 36 (0, 0)) := (hg2.block k6 (by simp; omega) hne).trans ((Below.heap_alloc _ _ _ hlt0).trans hkq.out)
        have cq := cell_of_row _ _ 0 _ _ _ hq2
        have zq := frozen_of_row _ _ 0 _ _ hq2
        have hgr : ∀ k, k < (ovr Z2 v3).heap.size → some k ≠ (Value.slice (some ⟨g, 0, none⟩) L.length c').ownBlock → w2.heap[k]? = (ovr Z2 v3).heap[k]? := fun k hk hne => (hg2.block k (by simp; omega) hne).trans (Below.heap_alloc _ _ _ hk)
        have hcells : ∀ gg, (Value.slice (some ⟨g, 0, none⟩) L.length c').ownBlock = some gg → V.heap.size ≤ gg ∧ ∃ o, (ovr Z2 v3).heap[gg]? = some o ∧ o.isCells = true := fun gg hg => own_cells hown hg
        have fin8 : Hid (KeepsFrom V.heap.size X (w2.setCell ⟨k6, 0, none⟩ (.slice (some ⟨g', 0, none⟩) (L.length + 1) cap')) ∧ KpL V.heap.size k6 X (w2.setCell ⟨k6, 0, none⟩ (.slice (some ⟨g', 0, none⟩) (L.length + 1) cap')) ∧ (∃ v, Boxed (w2.setCell ⟨k6, 0, none⟩ (.slice (some ⟨g', 0, none⟩) (L.length + 1) cap')) k6 36 v ∧ (w2.setCell ⟨k6, 0, none⟩ (.slice (some ⟨g', 0, none⟩) (L.length + 1) cap')).ownsRow V.heap.size 38 2 v (whL t y (pre ++ [⟨xk, hxk⟩])).length (rc (whL t y (pre ++ [⟨xk, hxk⟩]))) ∧ True) ∧ (w2.setCell ⟨k6, 0, none⟩ (.slice (some ⟨g', 0, none⟩) (L.length + 1) cap')).heap[w.heap.size]? = some (.cells #[I y.lo, I y.hi] 38 (0, 0)) ∧ Below w.heap.size w (w2.setCell ⟨k6, 0, none⟩ (.slice (some ⟨g', 0, none⟩) (L.length + 1) cap')) ∧ V.heap.size ≤ (w2.setCell ⟨k6, 0, none⟩ (.slice (some ⟨g', 0, none⟩) (L.length + 1) cap')).heap.size) := by
          show _ ∧ _
          obtain ⟨f1, f2, _, f4, f5, f6⟩ := Hz0.out
          have hB8 : Below w.heap.size w w2 := (f5.alloc f5.size _).grown hg2 (by simp; omega) (fun g hg => by have := (hown.lt g hg).1; omega)
          refine ⟨⟨by simp; omega, fun k o hk ho hc => ?_⟩, ⟨fun k hk hkq6 => ?_, by simp; omega⟩, ⟨.slice (some ⟨g', 0, none⟩) (L.length + 1) cap', ?_, ?_, trivial⟩, ?_, hB8.setCell (p := ⟨k6, 0, none⟩) (by show w.heap.size ≤ k6; omega) _, by simp; omega⟩
          · have h3 := f1.same k o hk ho hc
            have hkl := (Array.getElem?_eq_some_iff.1 h3).1
            rw [heap_setCell_other _ _ _ _ (by show k ≠ k6; omega), hgr k hkl (fun e => by
              obtain ⟨_, o', ho', hc'⟩ := hcells k e.symm
              rw [h3] at ho'; cases ho'; rw [hc] at hc'; cases hc')]
            exact h3
          · rw [heap_setCell_other _ _ _ _ (by show k ≠ k6; omega), hgr k (by omega) (fun e => by have := (hcells k e.symm).1; omega)]
            exact f2.1 k hk hkq6
          · exact heap_setCell_same _ _ 0 _ _ _ hq2
          · refine ownsRow_setCell_below ?_ (show k6 < V.heap.size by omega) _
            rw [Hnew.out, Hst.out, hrc.out]
            simpa using own3
          · rw [heap_setCell_other _ _ _ _ (by show w.heap.size ≠ k6; omega), hgr _ (by omega) (fun e => by have := (hcells _ e.symm).1; omega)]
            exact f4
        clear hq2 hgr hcells gsz hg2 own3 hown
        gi_wp2
        rw [← HX0.out]
        exact fin8.out
  case done =>
    rintro D ys X hD rfl ⟨⟨v, hv, hrow, _⟩, hry, hbw, hsX⟩ hK
    obtain ⟨A', c', rfl, hc', hR⟩ := Rd.of_rc rfl hrow
    have hcv := hv.cell
    have hown := ownsRow_putObj hrow (.deferred none) hK rfl
    obtain ⟨A2, c2, he, hc2, hR2⟩ := Rd.of_rc rfl hown
    have HR2 := Lib.hid hR2
    have HE : Hid (A' = A2 ∧ c' = c2) := by show _ ∧ _; injection he with h1 h2 h3; exact ⟨h1, h3⟩
    have HBW : Hid (Below w.heap.size w (X.putObj D (.deferred none))) := hbw.grown (grownBy_putObj' X D _) hbw.size (fun k e => by cases e; omega)
    have HK := Lib.hid hK
    have HC := Lib.hid hc'
    clear hR hrow hown hR2 he hc2 hry hbw hv hK hc'
    go_wp2_with fail
    refine ⟨by simp, .inl ⟨_, _, rfl, run_takeDeferred HK.out, ?_⟩⟩
    exact ⟨_, results_tmp2 rfl _ _ _, A', _, c', by rw [hf.out]; rfl, by rw [hf.out], HC.out, by rw [hf.out, HE.out.1]; exact HR2.out, HBW.out⟩
  case stop =>
    rintro D c' pre X _ _ h _
    exact h.elim
end Go.Proofs.Ytmadlmmfbpmebaa
