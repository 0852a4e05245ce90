/- Steer of package pull, in the body. -/
import Derived.Test.YtliddmhifnigdaaTa
namespace Go.Proofs.Ytliddmhifnigdaa.Un
open Go.RowKit
open Go.ChangeMaps (setBlock)
attribute [local go_sem] Oper.semAt_some
theorem six_get (v : Nat → Int) {k : Nat} (hk : k < 6) : (#[I (v 0), I (v 1), I (v 2), I (v 3), I (v 4), I (v 5)] : Array Value)[k]? = some (I (v k)) := by
  match k, hk with
  | 0, _ => rfl
  | 1, _ => rfl
  | 2, _ => rfl
  | 3, _ => rfl
  | 4, _ => rfl
  | 5, _ => rfl
/-- The setting whose first k gauges were brought within their limits. -/
def mxS (p : Vec) (g h : Rng) (s : Stg) (at_ : Int) (x : Rng) (k : Nat) : Nat → Int := fun j => if j < k then (nxSt p g h s at_ x).v j else xSt s (twF p x) g h true true j
theorem mxS_other (p : Vec) (g h : Rng) (s : Stg) (at_ : Int) (x : Rng) (k j : Nat) (hj : j ≠ k) : mxS p g h s at_ x (k + 1) j = mxS p g h s at_ x k j := by
  unfold mxS
  by_cases hjk : j < k
  · rw [if_pos (by omega), if_pos hjk]
  · rw [if_neg (by omega), if_neg hjk]
set_option maxRecDepth 100000 in
set_option maxHeartbeats 4000000 in
theorem steer4_any (P : Vec) (g h : Rng) (s : Stg) (at_ : Int) (x : Rng) (w0 : World) (hk : StOk4 P s at_ x) :
    Calls Try.prog 9 #[.agg (ia 117 P), .agg (gnArr g h), s.val, I at_, x.val] w0 fun e w' => e = .returned (stR (q5 P) g h s at_ x) ∧ Below w0.heap.size w0 w' := by
  obtain ⟨p, hp⟩ : ∃ p, p = q5 P := ⟨_, rfl⟩
  have H22 : Hid (∀ j, j < 22 → p j = P (66 + j)) := fun j hj => by rw [hp]; exact q5_lt P hj
  have H112 : Hid (p 112 = P 112 ∧ p 113 = P 113) := by rw [hp]; exact ⟨q5_ge P (by omega), q5_ge P (by omega)⟩
  have HQB4 : Hid (∀ k, k < 6 → p (k * 2) ≤ s.v k ∧ s.v k ≤ p (k * 2 + 1)) := fun k hk6 => by rw [H22.out _ (by omega), H22.out _ (by omega)]; exact hk.bd k hk6
  rw [← hp]
  clear hp
  have hvp := vPul_of hk.pul
  have c1 := Lib.hid fun W => checkPuller_any P W
  have c2 := Lib.hid fun W => isSetting_any s W
  rw [hk.pul] at c1
  rw [hk.set] at c2
  have c3 : Hid (∀ (W : World) (b : Nat) (t : TypeId), W.heap[b]? = some (.cells #[I s.t] t (0, 0)) → Calls Try.prog 20 #[I 100000, .slice (some ⟨b, 0, none⟩) 1 1] W fun e w' => e = .returned (.bool true) ∧ Below W.heap.size W w') := fun W b t hb => by
    have := in_any (some ⟨b, 0, none⟩) 1 1 [s.t] 100000 W rfl (by decide) (Rd_new hb 1 1 0 (rI [s.t]) (all1 (all1 rfl)))
    rw [show inB 100000 [s.t] = true by rw [inB_iff]; have := hk.t; simp; omega] at this
    exact this
  have c4 : Hid (∀ (W : World) (b : Nat) (t : TypeId), W.heap[b]? = some (.cells #[I g.lo, I g.hi, I h.lo, I h.hi] t (0, 0)) → Calls Try.prog 28 #[.slice (some ⟨b, 0, none⟩) 2 2] W fun e w' => e = .returned (.bool (!(badG g || badG h))) ∧ Below W.heap.size W w') := fun W b t hb => by
    have := isGain_any (some ⟨b, 0, none⟩) 2 2 [g, h] W rfl (by decide) (Rd_new hb 2 2 0 (rR [g, h]) (all2 (all2 rfl rfl) (all2 rfl rfl)))
    simpa using this
  have c5 : Hid (∀ (W : World) (b : Nat) (t : TypeId), W.heap[b]? = some (.cells #[I x.lo, I x.hi] t (0, 0)) → Calls Try.prog 19 #[I 1000000, .slice (some ⟨b, 0, none⟩) 1 1] W fun e w' => e = .returned (.bool true) ∧ Below W.heap.size W w') := fun W b t hb => by
    have := isRange_any (some ⟨b, 0, none⟩) 1 1 [x] 1000000 W rfl (by decide) (Rd_new hb 2 1 0 (rR [x]) (all1 (all2 rfl rfl)))
    rw [hk.rng] at this
    exact this
  obtain ⟨w, hw⟩ : ∃ w, w = w0.alloc (.cells (ia 117 P) 30) := ⟨_, rfl⟩
  have HP : Hid (∀ V, Below w.heap.size w V → ∀ j, j < 117 → V.cell? ⟨w0.heap.size, j, none⟩ = some (I (P j))) := fun V hV j hj => by
    have h0 : w.heap[w0.heap.size]? = some (.cells (ia 117 P) 30 (0, 0)) := by rw [hw]; exact heap_last _ _ _ rfl
    rw [cell_of_row _ _ _ _ _ _ ((hV.block _ (Array.getElem?_eq_some_iff.1 h0).1).trans h0)]
    exact ia_get hj
  have hsz : w.heap.size = w0.heap.size + 1 := by rw [hw]; simp
  have HSZ := Lib.hid hsz
  clear hsz
  have Hw := Lib.hid hw
  clear hw
  obtain ⟨W, hW⟩ : ∃ W, W = ((((w.alloc (.cells #[I g.lo, I g.hi, I h.lo, I h.hi] 38)).alloc (.cells #[I s.t, I s.ph, I (s.v 0), I (s.v 1), I (s.v 2), I (s.v 3), I (s.v 4), I (s.v 5)] 51)).alloc (.cells #[I x.lo, I x.hi] 23)).alloc (.cells #[I 0, I 0, I 0, I 0, I 0, I 0, I 0, I 0] 51)) := ⟨_, rfl⟩
  have rowW0 : W.heap[w.heap.size]? = some (.cells #[I g.lo, I g.hi, I h.lo, I h.hi] 38 (0, 0)) := by rw [hW]; exact heap_before (heap_before (heap_before (heap_last _ _ _ rfl)))
  have yW00 := ovr_cell (W := W) (b := w.heap.size) (o := 0) (v := I g.lo) (by rw [cell_of_row _ _ _ _ _ _ rowW0]; rfl)
  have yW01 := ovr_cell (W := W) (b := w.heap.size) (o := 1) (v := I g.hi) (by rw [cell_of_row _ _ _ _ _ _ rowW0]; rfl)
  have yW02 := ovr_cell (W := W) (b := w.heap.size) (o := 2) (v := I h.lo) (by rw [cell_of_row _ _ _ _ _ _ rowW0]; rfl)
  have yW03 := ovr_cell (W := W) (b := w.heap.size) (o := 3) (v := I h.hi) (by rw [cell_of_row _ _ _ _ _ _ rowW0]; rfl)
  have RrowW0 := Lib.hid (ovr_row rowW0)
  clear rowW0
  have rowW1 : W.heap[w.heap.size + 1]? = some (.cells #[I s.t, I s.ph, I (s.v 0), I (s.v 1), I (s.v 2), I (s.v 3), I (s.v 4), I (s.v 5)] 51 (0, 0)) := by rw [hW]; exact heap_before (heap_before (heap_last _ _ _ (by simp)))
  have yW10 := ovr_cell (W := W) (b := w.heap.size + 1) (o := 0) (v := I s.t) (by rw [cell_of_row _ _ _ _ _ _ rowW1]; rfl)
  have yW11 := ovr_cell (W := W) (b := w.heap.size + 1) (o := 1) (v := I s.ph) (by rw [cell_of_row _ _ _ _ _ _ rowW1]; rfl)
  have yW12 := ovr_cell (W := W) (b := w.heap.size + 1) (o := 2) (v := I (s.v 0)) (by rw [cell_of_row _ _ _ _ _ _ rowW1]; rfl)
  have yW13 := ovr_cell (W := W) (b := w.heap.size + 1) (o := 3) (v := I (s.v 1)) (by rw [cell_of_row _ _ _ _ _ _ rowW1]; rfl)
  have yW14 := ovr_cell (W := W) (b := w.heap.size + 1) (o := 4) (v := I (s.v 2)) (by rw [cell_of_row _ _ _ _ _ _ rowW1]; rfl)
  have yW15 := ovr_cell (W := W) (b := w.heap.size + 1) (o := 5) (v := I (s.v 3)) (by rw [cell_of_row _ _ _ _ _ _ rowW1]; rfl)
  have yW16 := ovr_cell (W := W) (b := w.heap.size + 1) (o := 6) (v := I (s.v 4)) (by rw [cell_of_row _ _ _ _ _ _ rowW1]; rfl)
  have yW17 := ovr_cell (W := W) (b := w.heap.size + 1) (o := 7) (v := I (s.v 5)) (by rw [cell_of_row _ _ _ _ _ _ rowW1]; rfl)
  have RrowW1 := Lib.hid (ovr_row rowW1)
  clear rowW1
  have rowW2 : W.heap[w.heap.size + 1 + 1]? = some (.cells #[I x.lo, I x.hi] 23 (0, 0)) := by rw [hW]; exact heap_before (heap_last _ _ _ (by simp))
  have yW20 := ovr_cell (W := W) (b := w.heap.size + 1 + 1) (o := 0) (v := I x.lo) (by rw [cell_of_row _ _ _ _ _ _ rowW2]; rfl)
  have yW21 := ovr_cell (W := W) (b := w.heap.size + 1 + 1) (o := 1) (v := I x.hi) (by rw [cell_of_row _ _ _ _ _ _ rowW2]; rfl)
  have RrowW2 := Lib.hid (ovr_row rowW2)
  clear rowW2
  have rowW3 : W.heap[w.heap.size + 1 + 1 + 1]? = some (.cells #[I 0, I 0, I 0, I 0, I 0, I 0, I 0, I 0] 51 (0, 0)) := by rw [hW]; exact heap_last _ _ _ (by simp)
  have yW30 := ovr_cell (W := W) (b := w.heap.size + 1 + 1 + 1) (o := 0) (v := I 0) (by rw [cell_of_row _ _ _ _ _ _ rowW3]; rfl)
  have yW31 := ovr_cell (W := W) (b := w.heap.size + 1 + 1 + 1) (o := 1) (v := I 0) (by rw [cell_of_row _ _ _ _ _ _ rowW3]; rfl)
  have yW32 := ovr_cell (W := W) (b := w.heap.size + 1 + 1 + 1) (o := 2) (v := I 0) (by rw [cell_of_row _ _ _ _ _ _ rowW3]; rfl)
  have yW33 := ovr_cell (W := W) (b := w.heap.size + 1 + 1 + 1) (o := 3) (v := I 0) (by rw [cell_of_row _ _ _ _ _ _ rowW3]; rfl)
  have yW34 := ovr_cell (W := W) (b := w.heap.size + 1 + 1 + 1) (o := 4) (v := I 0) (by rw [cell_of_row _ _ _ _ _ _ rowW3]; rfl)
  have yW35 := ovr_cell (W := W) (b := w.heap.size + 1 + 1 + 1) (o := 5) (v := I 0) (by rw [cell_of_row _ _ _ _ _ _ rowW3]; rfl)
  have yW36 := ovr_cell (W := W) (b := w.heap.size + 1 + 1 + 1) (o := 6) (v := I 0) (by rw [cell_of_row _ _ _ _ _ _ rowW3]; rfl)
  have yW37 := ovr_cell (W := W) (b := w.heap.size + 1 + 1 + 1) (o := 7) (v := I 0) (by rw [cell_of_row _ _ _ _ _ _ rowW3]; rfl)
  have RrowW3 := Lib.hid (ovr_row rowW3)
  clear rowW3
  have HUW : Hid (∀ u, Below w.heap.size w (ovr W u)) := U4 hW
  have HW := Lib.hid hW
  clear hW
  go_enter Try.func9, Try.ntmps9
  go_upto_region 1 with (fail)
  rw [← Hw.out, ← HSZ.out]
  rw [← HW.out]
  obtain ⟨u0, hu0⟩ := ovr_self W
  rw [hu0]
  clear hu0
  go_wp2_with (refine wpList_load_ia rfl 30 _ rfl w0.heap.size 0 rfl 117 P _ (fun j hj => by rw [Nat.zero_add]; exact HP.out _ (HUW.out _) j hj) Try.underlying30 rfl (by kernel_rfl) ?_)
  refine (c1.out _).mono ?_
  rintro e w1 ⟨rfl, hb1⟩
  obtain ⟨u1, rfl⟩ := ovr_next hb1
  clear hb1
  go_wp2_with fail
  refine (c2.out _).mono ?_
  rintro e w1 ⟨rfl, hb1⟩
  obtain ⟨u2, rfl⟩ := ovr_next hb1
  clear hb1
  go_wp2_with fail
  refine (c3.out _ _ _ (heap_last _ _ _ rfl)).mono ?_
  rintro e w1 ⟨rfl, hb1⟩
  have hb2 : Below (ovr W u2).heap.size (ovr W u2) w1 := ((Below.refl _ _).alloc (Nat.le_refl _) _).trans (hb1.mono (by simp))
  obtain ⟨u3, rfl⟩ := ovr_next hb2
  clear hb1 hb2
  go_wp2_with fail
  refine (c4.out _ _ _ (heap_last _ _ _ rfl)).mono ?_
  rintro e w1 ⟨rfl, hb1⟩
  have hb2 : Below (ovr W u3).heap.size (ovr W u3) w1 := ((Below.refl _ _).alloc (Nat.le_refl _) _).trans (hb1.mono (by simp))
  obtain ⟨u4, rfl⟩ := ovr_next hb2
  clear hb1 hb2
  rcases hg : (badG g || badG h) with _ | _
  case true =>
    have hf : Hid (stR p g h s at_ x = .tuple #[.agg #[I 0, I 0, I 0, I 0, I 0, I 0, I 0, I 0], I 2]) := by show _ = _; unfold stR; rw [hg]; rfl
    clear hg
    have hW0 : Below w0.heap.size w0 w := by rw [Hw.out]; exact (Below.refl _ _).alloc (Nat.le_refl _) _
    have HW0 := Lib.hid hW0
    clear hW0
    go_wp2_with (refine wpList_store_row rfl 51 _ _ rfl (w.heap.size + 1 + 1 + 1) rfl _ _ (RrowW3.out _) _ rfl (one8 rfl rfl rfl rfl rfl rfl rfl rfl) rfl (by kernel_rfl) ?_)
    refine bodyPost_ret (results_cell_tmp rfl _ _ (w.heap.size + 1 + 1 + 1) 51 _ (0, 0) _ rfl (setRow_same (RrowW3.out _)) Try.underlying51 rfl (by kernel_rfl)) rfl ?_
    exact ⟨by rw [hf.out]; rfl, HW0.out.trans ((below_setRow (HUW.out _) (by omega) _).mono (by rw [HSZ.out]; omega))⟩
  have hf : Hid (stR p g h s at_ x = .tuple #[(nxSt p g h s at_ x).val, I 0]) := by show _ = _; unfold stR; rw [hg]; rfl
  have hG : -1000000 ≤ g.lo ∧ g.lo ≤ 1000000 ∧ 1 ≤ g.hi ∧ g.hi ≤ 1000000 := badG_not.1 (by rw [Bool.or_eq_false_iff] at hg; exact hg.1)
  have hH : -1000000 ≤ h.lo ∧ h.lo ≤ 1000000 ∧ 1 ≤ h.hi ∧ h.hi ≤ 1000000 := badG_not.1 (by rw [Bool.or_eq_false_iff] at hg; exact hg.2)
  have hx1 : 0 ≤ x.lo ∧ x.lo ≤ x.hi ∧ x.hi ≤ 1000000 := (rangeB_iff 1000000 [x]).1 hk.rng x (by simp)
  have hlim : 0 ≤ p 112 ∧ p 112 ≤ p 113 ∧ p 113 ≤ 1000000 := by rw [H112.out.1, H112.out.2]; exact hvp.lim
  have ht := hk.t
  have t1 : decide (at_ ≤ s.t) = false := decide_eq_false (by omega)
  have t2 : decide (100000 < at_) = false := decide_eq_false (by omega)
  have q1 : IntKind.i64.wrap (x.lo + x.hi) = x.lo + x.hi := IntWalk.i64_in _ (by omega)
  have q2 : IntKind.i64.wrap (p 112 + p 113) = p 112 + p 113 := IntWalk.i64_in _ (by omega)
  have q3 : IntKind.i64.wrap (x.lo + x.hi - (p 112 + p 113)) = twF p x := IntWalk.i64_in _ (by omega)
  have e112 : ∀ u, (ovr W u).cell? ⟨w0.heap.size, 112, none⟩ = some (I (p 112)) := fun u => by rw [H112.out.1]; exact HP.out _ (HUW.out u) 112 (by omega)
  have e113 : ∀ u, (ovr W u).cell? ⟨w0.heap.size, 113, none⟩ = some (I (p 113)) := fun u => by rw [H112.out.2]; exact HP.out _ (HUW.out u) 113 (by omega)
  have HG := Lib.hid hG
  have HH := Lib.hid hH
  have HX1 := Lib.hid hx1
  have HT := Lib.hid ht
  have HLIM := Lib.hid hlim
  clear hg hG hH hx1 hlim ht
  go_wp2_with fail
  refine (c5.out _ _ _ (heap_last _ _ _ rfl)).mono ?_
  rintro e w1 ⟨rfl, hb1⟩
  have hb2 : Below (ovr W u4).heap.size (ovr W u4) w1 := ((Below.refl _ _).alloc (Nat.le_refl _) _).trans (hb1.mono (by simp))
  obtain ⟨u5, rfl⟩ := ovr_next hb2
  clear hb1 hb2
  go_upto_region 6 with (fail)
  clear e112 e113 t1 t2 q1 q2 q3 c1 c2 c3 c4 c5
  have hbX := ovr_below W u5
  obtain ⟨X, hX⟩ : ∃ X, X = ovr W u5 := ⟨_, rfl⟩
  rw [← hX] at hbX
  rw [← hX]
  have hX' := Lib.hid hX
  clear hX
  have hbX' := Lib.hid hbX
  have reX : ∀ v, ∃ x, ovr X v = ovr W x := fun v => ovr_reB hbX v
  replace yW00 := tr_cell reX yW00
  replace yW01 := tr_cell reX yW01
  replace yW02 := tr_cell reX yW02
  replace yW03 := tr_cell reX yW03
  replace RrowW0 := Lib.hid (tr_row reX RrowW0.out)
  replace yW10 := tr_cell reX yW10
  replace yW11 := tr_cell reX yW11
  replace yW12 := tr_cell reX yW12
  replace yW13 := tr_cell reX yW13
  replace yW14 := tr_cell reX yW14
  replace yW15 := tr_cell reX yW15
  replace yW16 := tr_cell reX yW16
  replace yW17 := tr_cell reX yW17
  replace RrowW1 := Lib.hid (tr_row reX RrowW1.out)
  replace yW20 := tr_cell reX yW20
  replace yW21 := tr_cell reX yW21
  replace RrowW2 := Lib.hid (tr_row reX RrowW2.out)
  replace yW30 := tr_cell reX yW30
  replace yW31 := tr_cell reX yW31
  replace yW32 := tr_cell reX yW32
  replace yW33 := tr_cell reX yW33
  replace yW34 := tr_cell reX yW34
  replace yW35 := tr_cell reX yW35
  replace yW36 := tr_cell reX yW36
  replace yW37 := tr_cell reX yW37
  replace RrowW3 := Lib.hid (tr_row reX RrowW3.out)
  have HUX : Hid (∀ u, Below w.heap.size w (ovr X u)) := fun u => by obtain ⟨x, hx⟩ := reX u; rw [hx]; exact HUW.out x
  clear reX hbX
  obtain ⟨u6, hu6⟩ := ovr_self X
  rw [hu6]
  clear hu6
  go_upto_region 7 with (fail)
  obtain ⟨N, hN⟩ : ∃ N, N = (ovr X u6).heap.size := ⟨_, rfl⟩
  rw [← hN]
  refine name_w fun V hV => ?_
  have rN : V.heap[N]? = some (.cells (ia 8 (stV s)) 51 (0, 0)) := by rw [hV, hN]; exact heap_last _ _ _ rfl
  have bV : Below X.heap.size X V := by rw [hV]; exact (ovr_below X u6).alloc (ovr_below X u6).size _
  have hNX : Hid (X.heap.size ≤ N) := by rw [hN]; exact (ovr_below X u6).size
  clear hV hN
  obtain ⟨v0, rfl⟩ : ∃ u, V = ovr X u := ⟨V, ovr_of bV⟩
  clear bV
  have RN := Lib.hid rN
  clear rN
  go_upto_region 8 with (refine wpList_store_i rfl 3 _ _ rfl N 0 8 rfl (stV s) 51 RN.out (by omega) at_ rfl (by kernel_rfl) ?_)
  refine name_w fun V hV => ?_
  have rN : V.heap[N]? = some (.cells (ia 8 (stV ⟨at_, s.ph, s.v⟩)) 51 (0, 0)) := by rw [hV, ← st_at]; exact setRow_same RN.out
  have bV : Below X.heap.size X V := by rw [hV]; exact below_setRow (ovr_below X v0) hNX.out _
  clear hV RN
  obtain ⟨v1, rfl⟩ : ∃ u, V = ovr X u := ⟨V, ovr_of bV⟩
  clear bV
  obtain ⟨S, hS⟩ : ∃ S, S = (ovr X v1).heap.size := ⟨_, rfl⟩
  have hNS : N < S := by rw [hS]; exact (Array.getElem?_eq_some_iff.1 rN).1
  have hSX : X.heap.size ≤ S := by rw [hS]; exact (ovr_below X v1).size
  obtain ⟨V2, hV2⟩ : ∃ V2, V2 = (ovr X v1).alloc (.map #[] 0) := ⟨_, rfl⟩
  have m2 : V2.heap[S]? = some (.map #[] 0) := by rw [hV2]; exact heap_last _ _ _ hS
  have rN2 : V2.heap[N]? = some (.cells (ia 8 (stV ⟨at_, s.ph, s.v⟩)) 51 (0, 0)) := by rw [hV2]; exact heap_before rN
  have b2 : Below X.heap.size X V2 := by rw [hV2]; exact (ovr_below X v1).alloc (ovr_below X v1).size _
  obtain ⟨v2, rfl⟩ : ∃ u, V2 = ovr X u := ⟨V2, ovr_of b2⟩
  obtain ⟨V3, hV3⟩ : ∃ V3, V3 = setBlock (ovr X v2) S (.map (#[].push ⟨I 0, .agg #[I g.lo, I g.hi], 0⟩) (0 + 1)) := ⟨_, rfl⟩
  have m3 : V3.heap[S]? = some (.map (#[].push ⟨I 0, .agg #[I g.lo, I g.hi], 0⟩) (0 + 1)) := by rw [hV3]; exact setBlock_same m2
  have rN3 : V3.heap[N]? = some (.cells (ia 8 (stV ⟨at_, s.ph, s.v⟩)) 51 (0, 0)) := by rw [hV3]; exact (setBlock_other (by omega)).trans rN2
  have b3 : Below X.heap.size X V3 := by rw [hV3]; exact below_setBlock (ovr_below X v2) hSX _
  obtain ⟨v3, rfl⟩ : ∃ u, V3 = ovr X u := ⟨V3, ovr_of b3⟩
  obtain ⟨V4, hV4⟩ : ∃ V4, V4 = setBlock (ovr X v3) S (.map ((#[].push ⟨I 0, .agg #[I g.lo, I g.hi], 0⟩).push ⟨I 1, .agg #[I h.lo, I h.hi], 0 + 1⟩) (0 + 1 + 1)) := ⟨_, rfl⟩
  have m4 : V4.heap[S]? = some (.map (gE g h) 2) := by rw [hV4]; exact setBlock_same m3
  have rN4 : V4.heap[N]? = some (.cells (ia 8 (stV ⟨at_, s.ph, s.v⟩)) 51 (0, 0)) := by rw [hV4]; exact (setBlock_other (by omega)).trans rN3
  have b4 : Below X.heap.size X V4 := by rw [hV4]; exact below_setBlock (ovr_below X v3) hSX _
  obtain ⟨v4, rfl⟩ : ∃ u, V4 = ovr X u := ⟨V4, ovr_of b4⟩
  obtain ⟨r, hr⟩ : ∃ r, r = (ovr X v4).heap.size := ⟨_, rfl⟩
  obtain ⟨V5, hV5⟩ : ∃ V5, V5 = (ovr X v4).alloc (.mapIter (some S) 2 #[] 2) := ⟨_, rfl⟩
  have m5 : V5.heap[S]? = some (.map (gE g h) 2) := by rw [hV5]; exact heap_before m4
  have rN5 : V5.heap[N]? = some (.cells (ia 8 (stV ⟨at_, s.ph, s.v⟩)) 51 (0, 0)) := by rw [hV5]; exact heap_before rN4
  have i5 : V5.heap[r]? = some (.mapIter (some S) 2 #[] 2) := by rw [hV5]; exact heap_last _ _ _ hr
  have b5 : Below X.heap.size X V5 := by rw [hV5]; exact (ovr_below X v4).alloc (ovr_below X v4).size _
  have hSr : S < r := by rw [hr]; exact (Array.getElem?_eq_some_iff.1 m4).1
  obtain ⟨v5, rfl⟩ : ∃ u, V5 = ovr X u := ⟨V5, ovr_of b5⟩
  have hu1 : (Instr.mapUpdate 98 (.map (some S)) (I 0) (.agg #[I g.lo, I g.hi])).run Try.prog (ovr X v2) = .ok () (ovr X v3) := by
    rw [hV3]; exact run_upd 3 36 Try.underlying98 Try.underlying3 _ _ m2 0 _ (by kernel_rfl)
  have hu2 : (Instr.mapUpdate 98 (.map (some S)) (I 1) (.agg #[I h.lo, I h.hi])).run Try.prog (ovr X v3) = .ok () (ovr X v4) := by
    rw [hV4]; exact run_upd 3 36 Try.underlying98 Try.underlying3 _ _ m3 1 _ (by kernel_rfl)
  have HS := Lib.hid hS
  have HV2 := Lib.hid hV2
  have HV3 := Lib.hid hV3
  have HV4 := Lib.hid hV4
  have HV5 := Lib.hid hV5
  have HR := Lib.hid hr
  have M2 := Lib.hid m2
  have M3 := Lib.hid m3
  have M4 := Lib.hid m4
  have M5 := Lib.hid m5
  have I5 := Lib.hid i5
  have RN5 := Lib.hid rN5
  have HNS := Lib.hid hNS
  have HSX := Lib.hid hSX
  have HSR := Lib.hid hSr
  clear hS hV2 hV3 hV4 hV5 hr m2 m3 m4 m5 i5 rN rN2 rN3 rN4 rN5 hNS hSX hSr b2 b3 b4 b5
  go_wp2_with (first | (refine wpList_makeMap rfl 98 rfl ?_; rw [← HV2.out, ← HS.out]) | (refine wpList_rangeMap rfl 98 _ rfl S rfl 3 36 Try.underlying98 _ _ M4.out ?_; rw [← HV5.out, ← HR.out]))
  have HK := Lib.hid hk
  have HVP := Lib.hid hvp
  clear hk hvp hu1 hu2
  simp only [Act.put, List.setIfInBounds_toArray, List.set_cons_zero, List.set_cons_succ]
  go_loopw [] (fun wr => ∃ (a b : Bool) (seen : Array Nat) (u : World), wr = ovr X u ∧ (ovr X u).heap[N]? = some (.cells (ia 8 (stV ⟨at_, s.ph, xSt s (twF p x) g h a b⟩)) 51 (0, 0)) ∧ (ovr X u).heap[S]? = some (.map (gE g h) 2) ∧ (ovr X u).heap[r]? = some (.mapIter (some S) 2 seen 2) ∧ seen.contains 0 = a ∧ seen.contains 1 = b) (fun wr => (leftOf (gE g h) (wr.iterSeen r)).size)
  case atStart =>
    refine ⟨false, false, #[], v5, rfl, ?_, M5.out, I5.out, by simp, by simp⟩
    rw [RN5.out]
    congr 1
    congr 1
    refine ia_congr fun i _ => ?_
    match i with
    | 0 => rfl
    | 1 => rfl
    | k + 2 => show s.v k = xSt s _ g h false false k; unfold xSt; simp
  case round =>
    obtain ⟨a, b, seen, u, rfl, hN, hS, hR, ha, hb⟩ := hrel
    have hold : ∀ e ∈ (gE g h).toList, e.born < 2 := by
      intro e he
      simp [gE] at he
      rcases he with rfl | rfl <;> simp
    have hnd : ((gE g h).toList.map (·.born)).Nodup := by simp [gE]
    rcases run_next_at (P := Try.prog) (ovr X u) 0 r S 2 2 seen (gE g h) 2 hR hS hold (Nat.le_refl _) with ⟨h0, hrun⟩ | ⟨e, he, w1, hw1, hrun⟩
    · have hal := all_seen (gE g h) seen h0
      have ha1 : a = true := by rw [← ha]; exact hal ⟨I 0, .agg #[I g.lo, I g.hi], 0⟩ (by simp [gE])
      have hb1 : b = true := by rw [← hb]; exact hal ⟨I 1, .agg #[I h.lo, I h.hi], 1⟩ (by simp [gE])
      subst ha1 hb1
      have Hrun := Lib.hid hrun
      have HN := Lib.hid hN
      clear hold hnd hrun h0 hal ha hb hS hR hN
      go_upto_region 13 with (refine wpList_next1 rfl _ rfl r rfl _ _ Hrun.out ?_)
      have yph : ∀ u, (ovr X u).cell? ⟨w.heap.size + 1, 1, none⟩ = some (I 4) := fun u => by rw [yW11 u, HK.out.ph]
      clear yW11
      have hld : ∀ j, j < 22 → (ovr X u).cell? ⟨w0.heap.size, 66 + j, none⟩ = some (I (p j)) := fun j hj => by rw [H22.out j hj]; exact HP.out _ (HUX.out _) (66 + j) (by omega)
      have HLD := Lib.hid hld
      clear hld
      go_upto_region 14 with (with_reducible show wpList _ _ _ _ _ _; first | (refine wpList_load_ia rfl 27 _ rfl w0.heap.size 66 rfl 22 p _ HLD.out Try.underlying27 rfl (by kernel_rfl) ?_) | (refine wpList_store_fresh rfl 27 _ _ rfl _ _ rfl _ rfl ia_one (by simp [ia_size]) (by kernel_rfl) ?_))
      obtain ⟨B, hBd⟩ : ∃ B, B = (ovr X u).heap.size := ⟨_, rfl⟩
      rw [← hBd]
      refine name_w fun V hV => ?_
      have rB : V.heap[B]? = some (.cells (ia 22 p) 27 (0, 0)) := by rw [hV]; exact heap_last _ _ _ hBd
      have rN : V.heap[N]? = some (.cells (ia 8 (stV ⟨at_, s.ph, xSt s (twF p x) g h true true⟩)) 51 (0, 0)) := by rw [hV]; exact heap_before HN.out
      have hNB : N < B := by rw [hBd]; exact (Array.getElem?_eq_some_iff.1 HN.out).1
      have bV : Below X.heap.size X V := by rw [hV]; exact (ovr_below X u).alloc (ovr_below X u).size _
      have hBX : X.heap.size ≤ B := by rw [hBd]; exact (ovr_below X u).size
      clear hV hBd
      obtain ⟨va, rfl⟩ : ∃ u, V = ovr X u := ⟨V, ovr_of bV⟩
      clear bV
      have RB := Lib.hid rB
      have RNa := Lib.hid rN
      have HNB := Lib.hid hNB
      have HBX := Lib.hid hBX
      clear rB rN hNB hBX
      go_wp2_with fail
      go_loopw [122] (fun i wr => ∃ (k : Nat) (u : World), k ≤ 6 ∧ i = .int .i64 k ∧ wr = ovr X u ∧ (ovr X u).heap[N]? = some (.cells (ia 8 (stV ⟨at_, s.ph, mxS p g h s at_ x k⟩)) 51 (0, 0)) ∧ (ovr X u).heap[B]? = some (.cells (ia 22 p) 27 (0, 0))) (fun i _ => 6 - (intOf i).toNat)
      case atStart =>
        refine ⟨0, va, by omega, rfl, rfl, ?_, RB.out⟩
        rw [RNa.out, show mxS p g h s at_ x 0 = xSt s (twF p x) g h true true from rfl]
      case round =>
        obtain ⟨k, ub, hk6, rfl, rfl, hN, hB⟩ := hrel
        by_cases hlt : k < 6
        · have d1 : decide ((k : Int) < 6) = true := decide_eq_true (by omega)
          go_upto_region 17 with (with_reducible show wpList _ _ _ _ _ _; refine wpList_index_one rfl 25 _ _ rfl #[I (s.v 0), I (s.v 1), I (s.v 2), I (s.v 3), I (s.v 4), I (s.v 5)] rfl k rfl 6 3 _ Try.underlying25 hlt Try.underlying3 rfl (by kernel_rfl) (I (s.v k)) (six_get s.v hlt) ?_)
          have RBb := Lib.hid hB
          have RNb := Lib.hid hN
          clear hN hB
          have yr : ∀ j, j < 22 → ∀ u, (ovr (ovr X ub) u).cell? ⟨B, j, none⟩ = some (I (p j)) := fun j hj u => by
            rw [cell_of_row _ _ _ _ _ _ (ovr_row RBb.out u)]; exact ia_get hj
          have y0 := yr (12 + k) (by omega)
          have y1 := tr_cell (ovr_reB (ovr_below X ub)) yW10
          obtain ⟨V, hV⟩ : ∃ V, V = ovr X ub := ⟨_, rfl⟩
          rw [← hV] at y0 y1
          rw [← hV]
          have bV : Below X.heap.size X V := by rw [hV]; exact ovr_below _ _
          have nV : V.heap[N]? = some (.cells (ia 8 (stV ⟨at_, s.ph, mxS p g h s at_ x k⟩)) 51 (0, 0)) := by rw [hV]; exact RNb.out
          have bB : V.heap[B]? = some (.cells (ia 22 p) 27 (0, 0)) := by rw [hV]; exact RBb.out
          clear hV RNb RBb yr
          have HRM := Lib.hid (HVP.out.rm 3 (by omega) k hlt)
          have HBD := Lib.hid (HQB4.out k hlt)
          have HSV := Lib.hid (((okSet_iff s).1 HK.out.set).2 k hlt)
          have f1 : 0 ≤ p (12 + k) * (at_ - s.t) ∧ p (12 + k) * (at_ - s.t) ≤ 1000000 * 100000 := by
            have h1 := HRM.out
            rw [show 3 * 22 + 12 + k = 66 + (12 + k) by omega, ← H22.out (12 + k) (by omega)] at h1
            have h2 := HT.out
            exact ⟨Int.mul_nonneg h1.1 (by omega), Int.mul_le_mul h1.2 (by omega) (by omega) (by omega)⟩
          have k1 : IntKind.i64.wrap (at_ - s.t) = at_ - s.t := IntWalk.i64_in _ (by have := HT.out; omega)
          obtain ⟨far, hfar⟩ : ∃ far, far = p (12 + k) * (at_ - s.t) := ⟨_, rfl⟩
          rw [← hfar] at f1
          have k2 : IntKind.i64.wrap (p (12 + k) * (at_ - s.t)) = far := by rw [hfar]; exact IntWalk.i64_in _ (by rw [← hfar]; omega)
          have HF := Lib.hid f1
          have HFA := Lib.hid hfar
          clear f1 hfar
          refine wp_region_below_lit (by kernel_rfl) (by kernel_rfl) ?_
          repeat (go_big_quiet_step (fail))
          refine wpQuiet_nil ?_
          intro V2 hb2
          have bV2 : Below X.heap.size X V2 := bV.trans (hb2.mono bV.size)
          have nV2 : V2.heap[N]? = some (.cells (ia 8 (stV ⟨at_, s.ph, mxS p g h s at_ x k⟩)) 51 (0, 0)) := (hb2.block _ (Array.getElem?_eq_some_iff.1 nV).1).trans nV
          have bB2 : V2.heap[B]? = some (.cells (ia 22 p) 27 (0, 0)) := (hb2.block _ (Array.getElem?_eq_some_iff.1 bB).1).trans bB
          clear y0 y1 k1 k2 nV bB hb2 bV
          have yr : ∀ j, j < 22 → ∀ u, (ovr V2 u).cell? ⟨B, j, none⟩ = some (I (p j)) := fun j hj u => by
            rw [cell_of_row _ _ _ _ _ _ (ovr_row bB2 u)]; exact ia_get hj
          have y0 := yr (k * 2) (by omega)
          have y1 := yr (k * 2 + 1) (by omega)
          have k1 : IntKind.i64.wrap (s.v k - far) = s.v k - far := IntWalk.i64_in _ (by have := HSV.out; have := HF.out; omega)
          have k2 : IntKind.i64.wrap (s.v k + far) = s.v k + far := IntWalk.i64_in _ (by have := HSV.out; have := HF.out; omega)
          have NV2 := Lib.hid nV2
          have BB2 := Lib.hid bB2
          have BV2 := Lib.hid bV2
          clear nV2 bB2 bV2 yr
          go_upto_region 18 with fail
          refine wp_region_below_lit (by kernel_rfl) (by kernel_rfl) ?_
          repeat (go_big_quiet_step (fail))
          refine wpQuiet_nil ?_
          intro V3 hb3
          have bV3 : Below X.heap.size X V3 := BV2.out.trans (hb3.mono BV2.out.size)
          have nV3 : V3.heap[N]? = some (.cells (ia 8 (stV ⟨at_, s.ph, mxS p g h s at_ x k⟩)) 51 (0, 0)) := (hb3.block _ (Array.getElem?_eq_some_iff.1 NV2.out).1).trans NV2.out
          have bB3 : V3.heap[B]? = some (.cells (ia 22 p) 27 (0, 0)) := (hb3.block _ (Array.getElem?_eq_some_iff.1 BB2.out).1).trans BB2.out
          clear y0 y1 k1 k2 hb3
          obtain ⟨lo, hlo⟩ : ∃ lo, lo = max (s.v k - far) (p (k * 2)) := ⟨_, rfl⟩
          obtain ⟨hi, hhi⟩ : ∃ hi, hi = min (s.v k + far) (p (k * 2 + 1)) := ⟨_, rfl⟩
          rw [← hlo, ← hhi]
          have hle : lo ≤ hi := by have := HBD.out; have := HF.out; omega
          have g0 : decide (hi < lo) = false := decide_eq_false (by omega)
          have g1 : ¬ hi < lo := by omega
          have hnx : min (max (mxS p g h s at_ x k k) lo) hi = (nxSt p g h s at_ x).v k := by
            rw [hlo, hhi, HFA.out]
            show min (max (if k < k then _ else xSt s (twF p x) g h true true k) _) _ = _
            rw [if_neg (Nat.lt_irrefl k)]
            rfl
          have z2 : V3.cell? ⟨N, 2 + k, none⟩ = some (I (mxS p g h s at_ x k k)) := by
            rw [cell_of_row _ _ _ _ _ _ nV3, ia_get (by omega), Nat.add_comm 2 k]; rfl
          have NV3 := Lib.hid nV3
          have BB3 := Lib.hid bB3
          have BV3 := Lib.hid bV3
          have HNX' := Lib.hid hnx
          clear nV3 bB3 bV3 hlo hhi hle hnx
          go_wp2_with (with_reducible show wpList _ _ _ _ _ _; refine wpList_store_i rfl 3 _ _ rfl N (2 + k) 8 rfl _ 51 NV3.out (by omega) (min (max (mxS p g h s at_ x k k) lo) hi) rfl (by kernel_rfl) ?_)
          have bV4 : Below X.heap.size X (V3.setRow N (ia 8 (ovw (stV ⟨at_, s.ph, mxS p g h s at_ x k⟩) (2 + k) 1 fun _ => min (max (mxS p g h s at_ x k k) lo) hi))) := below_setRow BV3.out hNX.out _
          refine ⟨⟨k + 1, _, by omega, rfl, ovr_of bV4, ?_, ?_⟩, ?_⟩
          · rw [← ovr_of bV4, HNX'.out, ← st_v at_ s.ph (mxS p g h s at_ x k) (mxS p g h s at_ x (k + 1)) k ((nxSt p g h s at_ x).v k) (by unfold mxS; rw [if_pos (by omega)]) (mxS_other p g h s at_ x k)]
            exact setRow_same NV3.out
          · rw [← ovr_of bV4]; exact (setRow_other (by have := HNB.out; omega)).trans BB3.out
          · simp [intOf]; omega
        · have hk : k = 6 := by omega
          subst hk
          have hmx : ia 8 (stV ⟨at_, s.ph, mxS p g h s at_ x 6⟩) = ia 8 (stV (nxSt p g h s at_ x)) := ia_congr fun i hi => by
            match i with
            | 0 => rfl
            | 1 => rfl
            | j + 2 => show mxS p g h s at_ x 6 j = _; unfold mxS; rw [if_pos (by omega)]; rfl
          rw [hmx] at hN
          have hld : ∀ j, j < 8 → (ovr X ub).cell? ⟨N, 0 + j, none⟩ = some (I (stV (nxSt p g h s at_ x) j)) := fun j hj => by
            rw [Nat.zero_add, cell_of_row _ _ _ _ _ _ hN]; exact ia_get hj
          have HLD2 := Lib.hid hld
          have hW0 : Below w0.heap.size w0 w := by rw [Hw.out]; exact (Below.refl _ _).alloc (Nat.le_refl _) _
          have HW0 := Lib.hid hW0
          clear hN hB hld hmx hW0
          go_wp2_with (with_reducible show wpList _ _ _ _ _ _; first | (refine wpList_load_ia rfl 51 _ rfl N 0 rfl 8 (stV (nxSt p g h s at_ x)) _ HLD2.out Try.underlying51 rfl (by kernel_rfl) ?_) | (refine wpList_store_row rfl 51 _ _ rfl (w.heap.size + 1 + 1 + 1) rfl _ _ (RrowW3.out _) _ rfl ia_one (by simp [ia_size]) (by kernel_rfl) ?_))
          refine bodyPost_ret (results_cell_tmp rfl _ _ (w.heap.size + 1 + 1 + 1) 51 _ (0, 0) _ rfl (setRow_same (RrowW3.out _)) Try.underlying51 rfl (by kernel_rfl)) rfl ?_
          exact ⟨by rw [hf.out]; rfl, HW0.out.trans ((below_setRow (HUX.out _) (by omega) _).mono (by rw [HSZ.out]; omega))⟩
    · obtain ⟨hem, hes⟩ := mem_left he
      have hls := left_shrinks (gE g h) seen e he
      have hwh : w1.heap = (ovr X u).heap := by rcases hw1 with rfl | rfl <;> rfl
      have hw1b : Below X.heap.size X w1 := by
        rcases hw1 with rfl | rfl
        · exact ovr_below X u
        · exact (ovr_below X u).drew
      have hem2 := hem
      simp only [gE, List.mem_cons, List.not_mem_nil, or_false] at hem2
      rcases hem2 with rfl | rfl
      · skip
        have hab := ha
        rw [hes] at hab
        subst hab
        obtain ⟨Y, hY⟩ : ∃ Y, Y = setBlock w1 r (.mapIter (some S) 2 (seen.push 0) 2) := ⟨_, rfl⟩
        have rY : Y.heap[r]? = some (.mapIter (some S) 2 (seen.push 0) 2) := by rw [hY]; exact setBlock_same (by rw [hwh]; exact hR)
        have sY : Y.heap[S]? = some (.map (gE g h) 2) := by rw [hY, setBlock_other (by have := HSR.out; omega), hwh]; exact hS
        have nY : Y.heap[N]? = some (.cells (ia 8 (stV ⟨at_, s.ph, xSt s (twF p x) g h false b⟩)) 51 (0, 0)) := by rw [hY, setBlock_other (by have := HSR.out; have := HNS.out; omega), hwh]; exact hN
        have bY : Below X.heap.size X Y := by rw [hY]; exact below_setBlock hw1b (by have := HSR.out; have := HSX.out; omega) _
        have Hrun : Hid ((Instr.next (.pointer (some ⟨r, 0, none⟩)) false 0).run Try.prog (ovr X u) = .ok (.tuple #[.bool true, I 0, .agg #[I g.lo, I g.hi]]) Y) := by rw [hY]; exact hrun
        clear hY hrun hw1 hw1b hwh
        obtain ⟨y, rfl⟩ : ∃ v, Y = ovr X v := ⟨Y, ovr_of bY⟩
        have RY := Lib.hid rY
        have SY := Lib.hid sY
        have NY := Lib.hid nY
        have HEM := Lib.hid hem
        have HND := Lib.hid hnd
        have HLS := Lib.hid hls
        have HSE := Lib.hid hes
        have HUR := Lib.hid hR
        clear rY sY nY hem hnd hls hes bY hold hN hS hR he
        obtain ⟨T, hT⟩ : ∃ T, T = (ovr X y).heap.size := ⟨_, rfl⟩
        have HT2 := Lib.hid hT
        clear hT
        go_upto_region 11 with (first | (refine wpList_next1 rfl _ rfl r rfl _ _ Hrun.out ?_) | (refine wpList_entryMap rfl _ rfl r S 2 2 seen (gE g h) _ rfl RY.out SY.out HEM.out HND.out ?_))
        rw [← HT2.out]
        refine name_w fun V hV => ?_
        have qT : V.heap[T]? = some (.cells #[I g.lo, I g.hi] 36 (0, 0)) := by rw [hV]; exact heap_last _ _ _ HT2.out
        have rV : V.heap[r]? = some (.mapIter (some S) 2 (seen.push 0) 2) := by rw [hV]; exact heap_before RY.out
        have sV : V.heap[S]? = some (.map (gE g h) 2) := by rw [hV]; exact heap_before SY.out
        have nV : V.heap[N]? = some (.cells (ia 8 (stV ⟨at_, s.ph, xSt s (twF p x) g h false b⟩)) 51 (0, 0)) := by rw [hV]; exact heap_before NY.out
        have bV : Below X.heap.size X V := by rw [hV]; exact (ovr_below X y).alloc (ovr_below X y).size _
        clear hV Hrun RY SY NY
        obtain ⟨v, rfl⟩ : ∃ u, V = ovr X u := ⟨V, ovr_of bV⟩
        clear bV
        have z0 : (ovr X v).cell? ⟨T, 0, none⟩ = some (I g.lo) := by rw [cell_of_row _ _ _ _ _ _ qT]; rfl
        have z1 : (ovr X v).cell? ⟨T, 1, none⟩ = some (I g.hi) := by rw [cell_of_row _ _ _ _ _ _ qT]; rfl
        have k1 : IntKind.i64.wrap (2 * g.hi) = 2 * g.hi := IntWalk.i64_in _ (by have := HG.out; omega)
        have hq : mdN (twF p x) g = (mdF (twF p x) g.lo (2 * g.hi) 3).1 := rfl
        have cM := muldiv_any (twF p x) g.lo (2 * g.hi) 3 (ovr X v) (by have := HX1.out; have := HLIM.out; unfold twF; omega) (by have := HG.out; omega) (by omega)
        obtain ⟨⟨n1, n2, n3⟩, hq1⟩ : ∃ q, mdF (twF p x) g.lo (2 * g.hi) 3 = q := ⟨_, rfl⟩
        have hqb := mdF_small (twF p x) g.lo (2 * g.hi) 3
        rw [hq1] at cM hq hqb
        have HQ := Lib.hid hq
        have HQB := Lib.hid hqb
        have CM := Lib.hid cM
        have RV := Lib.hid rV
        have SV := Lib.hid sV
        have NV := Lib.hid nV
        clear hq hqb cM hq1 rV sV nV qT
        go_wp2_with fail
        refine CM.out.mono ?_
        rintro e5 w5 ⟨rfl, hb5⟩
        have r5 : w5.heap[r]? = some (.mapIter (some S) 2 (seen.push 0) 2) := (hb5.block _ (Array.getElem?_eq_some_iff.1 RV.out).1).trans RV.out
        have s5 : w5.heap[S]? = some (.map (gE g h) 2) := (hb5.block _ (Array.getElem?_eq_some_iff.1 SV.out).1).trans SV.out
        have n5 : w5.heap[N]? = some (.cells (ia 8 (stV ⟨at_, s.ph, xSt s (twF p x) g h false b⟩)) 51 (0, 0)) := (hb5.block _ (Array.getElem?_eq_some_iff.1 NV.out).1).trans NV.out
        obtain ⟨v6, rfl⟩ := ovr_next hb5
        clear hb5 z0 z1 k1 CM RV SV NV
        have z2 : (ovr X v6).cell? ⟨N, 2 + 0, none⟩ = some (I (s.v 0)) := by
          rw [cell_of_row _ _ _ _ _ _ n5, ia_get (by omega)]
          show some (I (xSt s (twF p x) g h false b 0)) = _
          unfold xSt
          simp
        have k2 : IntKind.i64.wrap (s.v 0 + n1) = s.v 0 + n1 := IntWalk.i64_in _ (by have := HQB.out; have := ((okSet_iff s).1 HK.out.set).2 0 (by omega); omega)
        have R5 := Lib.hid r5
        have S5 := Lib.hid s5
        have N5 := Lib.hid n5
        clear r5 s5 n5
        go_wp2_with (refine wpList_store_i rfl 3 _ _ rfl N (2 + 0) 8 rfl _ 51 N5.out (by omega) (s.v 0 + n1) rfl (by kernel_rfl) ?_)
        simp only [Act.put]
        go_roundw
        case rel =>
          have hbb : Below X.heap.size X ((ovr X v6).setRow N (ia 8 (ovw (stV ⟨at_, s.ph, xSt s (twF p x) g h false b⟩) (2 + 0) 1 fun _ => s.v 0 + n1))) := below_setRow (ovr_below X v6) hNX.out _
          refine ⟨true, b, seen.push 0, _, ovr_of hbb, ?_, ?_, ?_, ?_, ?_⟩
          · rw [← ovr_of hbb, ← st_v at_ s.ph (xSt s (twF p x) g h false b) (xSt s (twF p x) g h true b) 0 (s.v 0 + n1) (by unfold xSt; simp [HQ.out]) (fun j hj => by unfold xSt; simp [hj])]
            exact setRow_same N5.out
          · rw [← ovr_of hbb]; exact (setRow_other (by have := HNS.out; omega)).trans S5.out
          · rw [← ovr_of hbb]; exact (setRow_other (by have := HNS.out; have := HSR.out; omega)).trans R5.out
          · rw [contains_push, ha]; simp
          · rw [contains_push, hb]; simp
        case measure =>
          rw [iter_at ((setRow_other (by have := HNS.out; have := HSR.out; omega)).trans R5.out), iter_at HUR.out]
          exact HLS.out
      · skip
        have hab := hb
        rw [hes] at hab
        subst hab
        obtain ⟨Y, hY⟩ : ∃ Y, Y = setBlock w1 r (.mapIter (some S) 2 (seen.push 1) 2) := ⟨_, rfl⟩
        have rY : Y.heap[r]? = some (.mapIter (some S) 2 (seen.push 1) 2) := by rw [hY]; exact setBlock_same (by rw [hwh]; exact hR)
        have sY : Y.heap[S]? = some (.map (gE g h) 2) := by rw [hY, setBlock_other (by have := HSR.out; omega), hwh]; exact hS
        have nY : Y.heap[N]? = some (.cells (ia 8 (stV ⟨at_, s.ph, xSt s (twF p x) g h a false⟩)) 51 (0, 0)) := by rw [hY, setBlock_other (by have := HSR.out; have := HNS.out; omega), hwh]; exact hN
        have bY : Below X.heap.size X Y := by rw [hY]; exact below_setBlock hw1b (by have := HSR.out; have := HSX.out; omega) _
        have Hrun : Hid ((Instr.next (.pointer (some ⟨r, 0, none⟩)) false 0).run Try.prog (ovr X u) = .ok (.tuple #[.bool true, I 1, .agg #[I h.lo, I h.hi]]) Y) := by rw [hY]; exact hrun
        clear hY hrun hw1 hw1b hwh
        obtain ⟨y, rfl⟩ : ∃ v, Y = ovr X v := ⟨Y, ovr_of bY⟩
        have RY := Lib.hid rY
        have SY := Lib.hid sY
        have NY := Lib.hid nY
        have HEM := Lib.hid hem
        have HND := Lib.hid hnd
        have HLS := Lib.hid hls
        have HSE := Lib.hid hes
        have HUR := Lib.hid hR
        clear rY sY nY hem hnd hls hes bY hold hN hS hR he
        obtain ⟨T, hT⟩ : ∃ T, T = (ovr X y).heap.size := ⟨_, rfl⟩
        have HT2 := Lib.hid hT
        clear hT
        go_upto_region 11 with (first | (refine wpList_next1 rfl _ rfl r rfl _ _ Hrun.out ?_) | (refine wpList_entryMap rfl _ rfl r S 2 2 seen (gE g h) _ rfl RY.out SY.out HEM.out HND.out ?_))
        rw [← HT2.out]
        refine name_w fun V hV => ?_
        have qT : V.heap[T]? = some (.cells #[I h.lo, I h.hi] 36 (0, 0)) := by rw [hV]; exact heap_last _ _ _ HT2.out
        have rV : V.heap[r]? = some (.mapIter (some S) 2 (seen.push 1) 2) := by rw [hV]; exact heap_before RY.out
        have sV : V.heap[S]? = some (.map (gE g h) 2) := by rw [hV]; exact heap_before SY.out
        have nV : V.heap[N]? = some (.cells (ia 8 (stV ⟨at_, s.ph, xSt s (twF p x) g h a false⟩)) 51 (0, 0)) := by rw [hV]; exact heap_before NY.out
        have bV : Below X.heap.size X V := by rw [hV]; exact (ovr_below X y).alloc (ovr_below X y).size _
        clear hV Hrun RY SY NY
        obtain ⟨v, rfl⟩ : ∃ u, V = ovr X u := ⟨V, ovr_of bV⟩
        clear bV
        have z0 : (ovr X v).cell? ⟨T, 0, none⟩ = some (I h.lo) := by rw [cell_of_row _ _ _ _ _ _ qT]; rfl
        have z1 : (ovr X v).cell? ⟨T, 1, none⟩ = some (I h.hi) := by rw [cell_of_row _ _ _ _ _ _ qT]; rfl
        have k1 : IntKind.i64.wrap (2 * h.hi) = 2 * h.hi := IntWalk.i64_in _ (by have := HH.out; omega)
        have hq : mdN (twF p x) h = (mdF (twF p x) h.lo (2 * h.hi) 3).1 := rfl
        have cM := muldiv_any (twF p x) h.lo (2 * h.hi) 3 (ovr X v) (by have := HX1.out; have := HLIM.out; unfold twF; omega) (by have := HH.out; omega) (by omega)
        obtain ⟨⟨n1, n2, n3⟩, hq1⟩ : ∃ q, mdF (twF p x) h.lo (2 * h.hi) 3 = q := ⟨_, rfl⟩
        have hqb := mdF_small (twF p x) h.lo (2 * h.hi) 3
        rw [hq1] at cM hq hqb
        have HQ := Lib.hid hq
        have HQB := Lib.hid hqb
        have CM := Lib.hid cM
        have RV := Lib.hid rV
        have SV := Lib.hid sV
        have NV := Lib.hid nV
        clear hq hqb cM hq1 rV sV nV qT
        go_wp2_with fail
        refine CM.out.mono ?_
        rintro e5 w5 ⟨rfl, hb5⟩
        have r5 : w5.heap[r]? = some (.mapIter (some S) 2 (seen.push 1) 2) := (hb5.block _ (Array.getElem?_eq_some_iff.1 RV.out).1).trans RV.out
        have s5 : w5.heap[S]? = some (.map (gE g h) 2) := (hb5.block _ (Array.getElem?_eq_some_iff.1 SV.out).1).trans SV.out
        have n5 : w5.heap[N]? = some (.cells (ia 8 (stV ⟨at_, s.ph, xSt s (twF p x) g h a false⟩)) 51 (0, 0)) := (hb5.block _ (Array.getElem?_eq_some_iff.1 NV.out).1).trans NV.out
        obtain ⟨v6, rfl⟩ := ovr_next hb5
        clear hb5 z0 z1 k1 CM RV SV NV
        have z2 : (ovr X v6).cell? ⟨N, 2 + 1, none⟩ = some (I (s.v 1)) := by
          rw [cell_of_row _ _ _ _ _ _ n5, ia_get (by omega)]
          show some (I (xSt s (twF p x) g h a false 1)) = _
          unfold xSt
          simp
        have k2 : IntKind.i64.wrap (s.v 1 + n1) = s.v 1 + n1 := IntWalk.i64_in _ (by have := HQB.out; have := ((okSet_iff s).1 HK.out.set).2 1 (by omega); omega)
        have R5 := Lib.hid r5
        have S5 := Lib.hid s5
        have N5 := Lib.hid n5
        clear r5 s5 n5
        go_wp2_with (refine wpList_store_i rfl 3 _ _ rfl N (2 + 1) 8 rfl _ 51 N5.out (by omega) (s.v 1 + n1) rfl (by kernel_rfl) ?_)
        simp only [Act.put]
        go_roundw
        case rel =>
          have hbb : Below X.heap.size X ((ovr X v6).setRow N (ia 8 (ovw (stV ⟨at_, s.ph, xSt s (twF p x) g h a false⟩) (2 + 1) 1 fun _ => s.v 1 + n1))) := below_setRow (ovr_below X v6) hNX.out _
          refine ⟨a, true, seen.push 1, _, ovr_of hbb, ?_, ?_, ?_, ?_, ?_⟩
          · rw [← ovr_of hbb, ← st_v at_ s.ph (xSt s (twF p x) g h a false) (xSt s (twF p x) g h a true) 1 (s.v 1 + n1) (by unfold xSt; simp [HQ.out]) (fun j hj => by unfold xSt; simp [hj])]
            exact setRow_same N5.out
          · rw [← ovr_of hbb]; exact (setRow_other (by have := HNS.out; omega)).trans S5.out
          · rw [← ovr_of hbb]; exact (setRow_other (by have := HNS.out; have := HSR.out; omega)).trans R5.out
          · rw [contains_push, ha]; simp
          · rw [contains_push, hb]; simp
        case measure =>
          rw [iter_at ((setRow_other (by have := HNS.out; have := HSR.out; omega)).trans R5.out), iter_at HUR.out]
          exact HLS.out
end Go.Proofs.Ytliddmhifnigdaa.Un
