/- The contracts of around and Value of package units. -/
import Derived.Test.YtmadlmmfbpmebaaVb
namespace Go.Proofs.Ytmadlmmfbpmebaa
open Go.RowKit
def RetRow (w : World) (k : Nat) (r : Rng) (e : Ending) (w' : World) : Prop := e = .returned (.tuple #[]) ∧ w'.heap[k]? = some (.cells #[I r.lo, I r.hi] 38 (0, 0)) ∧ Below k w w'
set_option maxRecDepth 100000 in
set_option maxHeartbeats 2000000 in
theorem around1_any (y r : Rng) (k : Nat) (w : World) (hr : w.heap[k]? = some (.cells #[I y.lo, I y.hi] 38 (0, 0))) :
    Calls Try.prog 115 #[r.val, .pointer (some ⟨k, 0, none⟩)] w (RetRow w k (huF y r)) := by
  have hk := (Array.getElem?_eq_some_iff.1 hr).1
  have HK := Lib.hid hk
  clear hk
  have yw00 := ovr_cell (W := w) (b := k) (o := 0) (v := I y.lo) (by rw [cell_of_row _ _ _ _ _ _ hr]; rfl)
  have zw00 : ∀ u, (ovr w u).frozen? ⟨k, 0, none⟩ = false := fun u => frozen_of_row _ _ _ _ _ (ovr_row hr u)
  have yw01 := ovr_cell (W := w) (b := k) (o := 1) (v := I y.hi) (by rw [cell_of_row _ _ _ _ _ _ hr]; rfl)
  have zw01 : ∀ u, (ovr w u).frozen? ⟨k, 1, none⟩ = false := fun u => frozen_of_row _ _ _ _ _ (ovr_row hr u)
  have Rroww0 := Lib.hid (ovr_row hr)
  clear hr
  obtain ⟨W, hW⟩ : ∃ W, W = (w.alloc (.cells #[I r.lo, I r.hi] 38)) := ⟨_, rfl⟩
  have reW : ∀ v, ∃ x, ovr W v = ovr w x := fun v => ⟨_, ovr_of (U1 hW v)⟩
  replace yw00 := tr_cell reW yw00
  replace zw00 := tr_froz reW zw00
  replace yw01 := tr_cell reW yw01
  replace zw01 := tr_froz reW zw01
  replace Rroww0 := Lib.hid (tr_row reW Rroww0.out)
  have rowW0 : W.heap[w.heap.size]? = some (.cells #[I r.lo, I r.hi] 38 (0, 0)) := by rw [hW]; exact heap_last _ _ _ rfl
  have yW00 := ovr_cell (W := W) (b := w.heap.size) (o := 0) (v := I r.lo) (by rw [cell_of_row _ _ _ _ _ _ rowW0]; rfl)
  have yW01 := ovr_cell (W := W) (b := w.heap.size) (o := 1) (v := I r.hi) (by rw [cell_of_row _ _ _ _ _ _ rowW0]; rfl)
  have RrowW0 := Lib.hid (ovr_row rowW0)
  clear rowW0
  have HUW : Hid (∀ u, Below w.heap.size w (ovr W u)) := U1 hW
  have HW := Lib.hid hW
  clear hW
  go_enter Try.func115, Try.ntmps115
  go_upto_region 1 with (fail)
  rw [← HW.out]
  obtain ⟨u0, hu0⟩ := ovr_self W
  rw [hu0]
  clear hu0
  go_wp2_with (refine wpList_store_row rfl 38 _ _ rfl (k) rfl _ _ (Rroww0.out _) _ rfl (one2 rfl rfl) rfl (by kernel_rfl) ?_)
  go_end0
  exact ⟨rfl, setRow_same (Rroww0.out _), below_setRow ((HUW.out _).mono (by have := HK.out; omega)) (Nat.le_refl _) _⟩
def inX (x : Rng) (k : Rng) : Bool := decide (x.lo < k.lo) && decide (k.lo < x.hi)
def arK (t : List Rng) (x : Rng) : Nat → Rng
  | 0 => huF (valF t x.lo) (valF t x.hi) | k + 1 => if inX x (at0 t k) then huF (arK t x k) ⟨(at0 t k).hi, (at0 t k).hi⟩ else arK t x k
def Inside (t : List Rng) (x : Rng) : Prop := (at0 t 0).lo ≤ x.lo ∧ x.lo ≤ x.hi ∧ x.hi ≤ (at0 t (t.length - 1)).lo
set_option maxRecDepth 100000 in
set_option maxHeartbeats 4000000 in
theorem around_any (A : Option Addr) (n c : Nat) (t : List Rng) (x : Rng) (w : World) (B : Nat) (hn : n = t.length) (ht : Tab t) (hi : Inside t x) (hB : B ≤ w.heap.size) (hx : Rd w B 2 A n (rR t)) :
    Calls Try.prog 84 #[.slice A n c, x.val] w fun e w' => e = .returned ((arK t x t.length).val) ∧ Below w.heap.size w w' := by
  subst hn
  have HX : Hid (∀ W', Below w.heap.size w W' → Rd W' B 2 A t.length (rR t) ∧ B ≤ W'.heap.size) := fun W' h => ⟨hx.below (h.mono hB), Nat.le_trans hB h.size⟩
  have cv : Hid (∀ z W', (at0 t 0).lo ≤ z ∧ z ≤ (at0 t (t.length - 1)).lo → Rd W' B 2 A t.length (rR t) ∧ B ≤ W'.heap.size → Calls Try.prog 114 #[.slice A t.length c, I z] W' fun e w' => e = .returned ((valF t z).val) ∧ Below W'.heap.size W' w') := fun z W' hz h => value_any A t.length c t z W' B rfl ht hz.1 hz.2 h.2 h.1
  have ln : t.length ≤ 60 := ht.n60
  have I1 : Hid ((at0 t 0).lo ≤ x.lo ∧ x.lo ≤ (at0 t (t.length - 1)).lo) := ⟨hi.1, Int.le_trans hi.2.1 hi.2.2⟩
  have I2 : Hid ((at0 t 0).lo ≤ x.hi ∧ x.hi ≤ (at0 t (t.length - 1)).lo) := ⟨Int.le_trans hi.1 hi.2.1, hi.2.2⟩
  clear hx hB ht hi
  obtain ⟨W, hW⟩ : ∃ W, W = ((w.alloc (.cells #[I x.lo, I x.hi] 38)).alloc (.cells #[I 0, I 0] 38)) := ⟨_, rfl⟩
  have rowW0 : W.heap[w.heap.size]? = some (.cells #[I x.lo, I x.hi] 38 (0, 0)) := by rw [hW]; exact heap_before (heap_last _ _ _ rfl)
  have yW00 := ovr_cell (W := W) (b := w.heap.size) (o := 0) (v := I x.lo) (by rw [cell_of_row _ _ _ _ _ _ rowW0]; rfl)
  have yW01 := ovr_cell (W := W) (b := w.heap.size) (o := 1) (v := I x.hi) (by rw [cell_of_row _ _ _ _ _ _ rowW0]; rfl)
  have RrowW0 := Lib.hid (ovr_row rowW0)
  clear rowW0
  have rowW1 : W.heap[w.heap.size + 1]? = some (.cells #[I 0, I 0] 38 (0, 0)) := by rw [hW]; exact heap_last _ _ _ (by simp)
  have yW10 := ovr_cell (W := W) (b := w.heap.size + 1) (o := 0) (v := I 0) (by rw [cell_of_row _ _ _ _ _ _ rowW1]; rfl)
  have yW11 := ovr_cell (W := W) (b := w.heap.size + 1) (o := 1) (v := I 0) (by rw [cell_of_row _ _ _ _ _ _ rowW1]; rfl)
  have RrowW1 := Lib.hid (ovr_row rowW1)
  clear rowW1
  have HUW : Hid (∀ u, Below w.heap.size w (ovr W u)) := U2 hW
  have HW := Lib.hid hW
  clear hW
  go_enter Try.func84, Try.ntmps84
  go_upto_region 1 with (fail)
  rw [← HW.out]
  obtain ⟨u0, hu0⟩ := ovr_self W
  rw [hu0]
  clear hu0
  go_wp2_with fail
  refine (cv.out _ _ I1.out (HX.out _ (HUW.out _))).mono ?_
  rintro e w1 ⟨rfl, hb1⟩
  obtain ⟨u1, rfl⟩ := ovr_next hb1
  clear hb1
  obtain ⟨v1, hv1⟩ : ∃ v, valF t x.lo = v := ⟨_, rfl⟩
  obtain ⟨v2, hv2⟩ : ∃ v, valF t x.hi = v := ⟨_, rfl⟩
  rw [hv1]
  have Hv : Hid (arK t x 0 = huF v1 v2) := by show _ = _; rw [← hv1, ← hv2]; rfl
  have cw : Hid (∀ W', Rd W' B 2 A t.length (rR t) ∧ B ≤ W'.heap.size → Calls Try.prog 114 #[.slice A t.length c, I x.hi] W' fun e w' => e = .returned (v2.val) ∧ Below W'.heap.size W' w') := fun W' h => by have := cv.out x.hi W' I2.out h; rwa [hv2] at this
  clear hv1 hv2 cv
  go_upto_region 2 with (fail)
  obtain ⟨V, hV⟩ : ∃ V, V = (ovr W u1).alloc (.cells #[I v1.lo, I v1.hi] 38) := ⟨_, rfl⟩
  have rV : V.heap[(ovr W u1).heap.size]? = some (.cells #[I v1.lo, I v1.hi] 38 (0, 0)) := by rw [hV]; exact heap_last _ _ _ rfl
  have bV : Below W.heap.size W V := by rw [hV]; exact (ovr_below W u1).alloc (ovr_below W u1).size _
  have sk := (ovr_below W u1).size
  rw [← hV]
  obtain ⟨kx, hkx⟩ : ∃ kx, (ovr W u1).heap.size = kx := ⟨_, rfl⟩
  rw [hkx] at rV sk
  rw [hkx]
  have SK := Lib.hid sk
  have bV0 := Lib.hid bV
  clear hV hkx sk
  have reV : ∀ v, ∃ x, ovr V v = ovr W x := fun v => ovr_reB bV v
  have SW_yW00 := Lib.hid yW00
  replace yW00 := tr_cell reV yW00
  have SW_yW01 := Lib.hid yW01
  replace yW01 := tr_cell reV yW01
  have SW_RrowW0 := Lib.hid RrowW0.out
  replace RrowW0 := Lib.hid (tr_row reV RrowW0.out)
  have SW_yW10 := Lib.hid yW10
  replace yW10 := tr_cell reV yW10
  have SW_yW11 := Lib.hid yW11
  replace yW11 := tr_cell reV yW11
  have SW_RrowW1 := Lib.hid RrowW1.out
  replace RrowW1 := Lib.hid (tr_row reV RrowW1.out)
  have yV00 := ovr_cell (W := V) (b := kx) (o := 0) (v := I v1.lo) (by rw [cell_of_row _ _ _ _ _ _ rV]; rfl)
  have yV01 := ovr_cell (W := V) (b := kx) (o := 1) (v := I v1.hi) (by rw [cell_of_row _ _ _ _ _ _ rV]; rfl)
  have RrowV0 := Lib.hid (ovr_row rV)
  clear rV
  have HUV : Hid (∀ u, Below w.heap.size w (ovr V u)) := fun u => by obtain ⟨x, hx⟩ := reV u; rw [hx]; exact HUW.out x
  clear reV bV
  obtain ⟨u2, hu2⟩ := ovr_self V
  rw [hu2]
  clear hu2
  go_wp2_with fail
  refine (cw.out _ (HX.out _ (HUV.out _))).mono ?_
  rintro e w1 ⟨rfl, hb1⟩
  obtain ⟨u3, rfl⟩ := ovr_next hb1
  clear hb1
  have HBV : Hid (∀ u, Below W.heap.size W (ovr V u)) := fun u => bV0.out.trans ((ovr_below V u).mono bV0.out.size)
  go_wp2_with fail
  refine (around1_any v1 v2 kx _ (RrowV0.out _)).mono ?_
  rintro e w1 ⟨rfl, hr, hb⟩
  rw [← Hv.out] at hr
  have HR1 := Lib.hid hr
  have HB1 := Lib.hid ((HBV.out u3).trans (hb.mono SK.out))
  clear hr hb yV00 yV01 yW00 yW01 yW10 yW11
  go_wp2_with fail
  go_loopw [22] (fun i wr => ∃ k : Nat, k ≤ t.length ∧ i = .int .i64 k ∧ wr.heap[kx]? = some (.cells #[I (arK t x k).lo, I (arK t x k).hi] 38 (0, 0)) ∧ Below W.heap.size W wr) (fun i _ => t.length - (intOf i).toNat)
  case atStart => exact ⟨0, by omega, rfl, HR1.out, HB1.out⟩
  case round =>
    obtain ⟨k, hk, rfl, hr, hb⟩ := hrel
    rename World => X
    obtain ⟨z, hz⟩ : ∃ z, arK t x k = z := ⟨_, rfl⟩
    rw [hz] at hr
    have Hz := Lib.hid hz
    clear hz
    have hbX := Lib.hid hb
    by_cases hlt : k < t.length
    · skip
      have reX : ∀ v, ∃ x, ovr X v = ovr W x := fun v => ovr_reB hb v
      have yW00 := SW_yW00.out
      replace yW00 := tr_cell reX yW00
      have yW01 := SW_yW01.out
      replace yW01 := tr_cell reX yW01
      have RrowW0 := SW_RrowW0
      replace RrowW0 := Lib.hid (tr_row reX RrowW0.out)
      have yW10 := SW_yW10.out
      replace yW10 := tr_cell reX yW10
      have yW11 := SW_yW11.out
      replace yW11 := tr_cell reX yW11
      have RrowW1 := SW_RrowW1
      replace RrowW1 := Lib.hid (tr_row reX RrowW1.out)
      have yX00 := ovr_cell (W := X) (b := kx) (o := 0) (v := I z.lo) (by rw [cell_of_row _ _ _ _ _ _ hr]; rfl)
      have yX01 := ovr_cell (W := X) (b := kx) (o := 1) (v := I z.hi) (by rw [cell_of_row _ _ _ _ _ _ hr]; rfl)
      have RrowX0 := Lib.hid (ovr_row hr)
      clear hr
      have HUX : Hid (∀ u, Below w.heap.size w (ovr X u)) := fun u => by obtain ⟨x, hx⟩ := reX u; rw [hx]; exact HUW.out x
      clear reX hb
      have kb : decide ((k : Int) < (t.length : Int)) = true := decide_eq_true (by omega)
      obtain ⟨u, hu⟩ := ovr_self X
      obtain ⟨b, o, rfl, _, e0, e1⟩ := (HX.out _ (HUX.out u)).1.rng hlt
      rw [hu]
      clear hu
      have hs : Hid (arK t x (k + 1) = if inX x (at0 t k) then huF z ⟨(at0 t k).hi, (at0 t k).hi⟩ else z) := by show _ = _; rw [← Hz.out]; rfl
      obtain ⟨y, hy⟩ : ∃ y, at0 t k = y := ⟨_, rfl⟩
      rw [hy] at e0 e1 hs
      clear hy
      go_upto_region 7 with (fail)
      clear e0 e1
      obtain ⟨Y, hY⟩ : ∃ Y, Y = ((ovr X u).alloc (.cells #[I y.lo, I y.hi] 50)) := ⟨_, rfl⟩
      have reY : ∀ v, ∃ x, ovr Y v = ovr X x := fun v => ovr_re1 hY
      replace yW00 := tr_cell reY yW00
      replace yW01 := tr_cell reY yW01
      replace RrowW0 := Lib.hid (tr_row reY RrowW0.out)
      replace yW10 := tr_cell reY yW10
      replace yW11 := tr_cell reY yW11
      replace RrowW1 := Lib.hid (tr_row reY RrowW1.out)
      replace yX00 := tr_cell reY yX00
      replace yX01 := tr_cell reY yX01
      replace RrowX0 := Lib.hid (tr_row reY RrowX0.out)
      have rowY0 : Y.heap[(ovr X u).heap.size]? = some (.cells #[I y.lo, I y.hi] 50 (0, 0)) := by rw [hY]; exact heap_last _ _ _ rfl
      have yY00 := ovr_cell (W := Y) (b := (ovr X u).heap.size) (o := 0) (v := I y.lo) (by rw [cell_of_row _ _ _ _ _ _ rowY0]; rfl)
      have yY01 := ovr_cell (W := Y) (b := (ovr X u).heap.size) (o := 1) (v := I y.hi) (by rw [cell_of_row _ _ _ _ _ _ rowY0]; rfl)
      have RrowY0 := Lib.hid (ovr_row rowY0)
      clear rowY0
      have HBY : Hid (∀ u, Below X.heap.size X (ovr Y u)) := fun u => by obtain ⟨x, hx⟩ := reY u; rw [hx]; exact ovr_below _ _
      have HUY : Hid (∀ u, Below w.heap.size w (ovr Y u)) := fun u => by obtain ⟨x, hx⟩ := reY u; rw [hx]; exact HUX.out x
      clear reY
      have HY := Lib.hid hY
      clear hY
      rw [← HY.out]
      obtain ⟨u4, hu4⟩ := ovr_self Y
      rw [hu4]
      clear hu4
      have HBY : Hid (∀ u, Below W.heap.size W (ovr Y u)) := fun v => by
        obtain ⟨q, hq⟩ := ovr_re1 (v := v) HY.out
        rw [hq]
        exact hbX.out.trans ((ovr_below X q).mono hbX.out.size)
      rcases h1 : decide (x.lo < y.lo) with _ | _
      · have hs2 : Hid (arK t x (k + 1) = z) := by show _ = _; rw [hs.out, inX, h1]; rfl
        go_wp2_with fail
        go_roundw
        case rel => exact ⟨k + 1, by omega, by go_num, by rw [hs2.out]; exact RrowX0.out _, HBY.out _⟩
        case measure => simp [intOf]; omega
      rcases h2 : decide (y.lo < x.hi) with _ | _
      · have hs2 : Hid (arK t x (k + 1) = z) := by show _ = _; rw [hs.out, inX, h1, h2]; rfl
        go_wp2_with fail
        go_roundw
        case rel => exact ⟨k + 1, by omega, by go_num, by rw [hs2.out]; exact RrowX0.out _, HBY.out _⟩
        case measure => simp [intOf]; omega
      · have hs2 : Hid (arK t x (k + 1) = huF z ⟨y.hi, y.hi⟩) := by show _ = _; rw [hs.out, inX, h1, h2]; rfl
        go_wp2_with fail
        refine (around1_any z ⟨y.hi, y.hi⟩ kx _ (RrowX0.out _)).mono ?_
        rintro e w1 ⟨rfl, hr, hb⟩
        rw [← hs2.out] at hr
        have HR1 := Lib.hid hr
        have HB1 := Lib.hid ((HBY.out u4).trans (hb.mono SK.out))
        clear hr hb
        go_wp2_with fail
        go_roundw
        case rel => exact ⟨k + 1, by omega, by go_num, HR1.out, HB1.out⟩
        case measure => simp [intOf]; omega
    · obtain rfl : k = t.length := by omega
      have reX : ∀ v, ∃ x, ovr X v = ovr W x := fun v => ovr_reB hb v
      have yW00 := SW_yW00.out
      replace yW00 := tr_cell reX yW00
      have yW01 := SW_yW01.out
      replace yW01 := tr_cell reX yW01
      have RrowW0 := SW_RrowW0
      replace RrowW0 := Lib.hid (tr_row reX RrowW0.out)
      have yW10 := SW_yW10.out
      replace yW10 := tr_cell reX yW10
      have yW11 := SW_yW11.out
      replace yW11 := tr_cell reX yW11
      have RrowW1 := SW_RrowW1
      replace RrowW1 := Lib.hid (tr_row reX RrowW1.out)
      have yX00 := ovr_cell (W := X) (b := kx) (o := 0) (v := I z.lo) (by rw [cell_of_row _ _ _ _ _ _ hr]; rfl)
      have yX01 := ovr_cell (W := X) (b := kx) (o := 1) (v := I z.hi) (by rw [cell_of_row _ _ _ _ _ _ hr]; rfl)
      have RrowX0 := Lib.hid (ovr_row hr)
      clear hr
      have HUX : Hid (∀ u, Below w.heap.size w (ovr X u)) := fun u => by obtain ⟨x, hx⟩ := reX u; rw [hx]; exact HUW.out x
      clear reX hb
      obtain ⟨u, hu⟩ := ovr_self X
      rw [hu]
      clear hu
      go_wp2_with (refine wpList_store_row rfl 38 _ _ rfl (w.heap.size + 1) rfl _ _ (RrowW1.out _) _ rfl (one2 rfl rfl) rfl (by kernel_rfl) ?_)
      refine bodyPost_ret (results_cell_only rfl _ _ (w.heap.size + 1) 38 _ (0, 0) _ rfl (setRow_same (RrowW1.out _)) Try.underlying38 rfl (by kernel_rfl)) rfl ?_
      exact ⟨by rw [Hz.out], below_setRow (HUX.out _) (by omega) _⟩
end Go.Proofs.Ytmadlmmfbpmebaa
