/- The reference's Window and Windows. -/
import Derived.Test.YtljjpidigckheaaSap
import Derived.Test.YtljjpidigckheaaRff
import Derived.Test.YtljjpidigckheaaQas2
import Derived.Test.YtljjpidigckheaaKfq
namespace Go.Proofs.Ytljjpidigckheaa.Un
open Go.RowKit
def wsL (x : Sht) (X y p n : Nat) : List Rng := (List.range n).map fun k => at0 x.s (wAt x.w.toNat p X y k)
theorem wsL_len (x : Sht) (X y p n : Nat) : (wsL x X y p n).length = n := by simp [wsL]
theorem wsL_snoc (x : Sht) (X y p n : Nat) : wsL x X y p (n + 1) = wsL x X y p n ++ [at0 x.s (wAt x.w.toNat p X y n)] := by
 unfold wsL
 rw [List.range_succ, List.map_append]
 rfl
theorem wsL_at {x : Sht} {X y p n k : Nat} (hk : k < n) : at0 (wsL x X y p n) k = at0 x.s (wAt x.w.toNat p X y k) := by
 unfold wsL at0
 rw [List.getD_eq_getElem?_getD, List.getElem?_map, List.getElem?_range hk]
 rfl
def wsX (x : Sht) (X y p q : Nat) : Sht := ⟨(p : Int), (q : Int), ⟨0, 0⟩, wsL x X y p (p * q)⟩
theorem wAt_lt {W H p q X y k : Nat} (hx : X + p ≤ W) (hy : y + q ≤ H) (hp : 0 < p) (hk : k < p * q) : wAt W p X y k < W * H := by
 have := win_at (h := q) hx hy hp (rePt (wAt W p X y) 0 0 (gPt p k)) (List.mem_map.2 ⟨_, gPt_mem hk, rfl⟩)
 exact this
theorem ws_ok {x : Sht} {X y p q : Nat} (ho : okSh x = true) (hp : 2 ≤ p) (hq : 2 ≤ q) (hx : X + p ≤ x.w.toNat) (hy : y + q ≤ x.h.toNat) : okSh (wsX x X y p q) = true := by
 obtain ⟨h1, h2, h3, h4, h5⟩ := okSh_iff.1 ho
 refine (okSh_yes ⟨by show (2 : Int) ≤ (p : Int); omega, by show (p : Int) ≤ 6; omega, by show (2 : Int) ≤ (q : Int); omega, by show (q : Int) ≤ 6; omega, ?_⟩ fun k hk => ?_).trans rfl
 · show ((wsL x X y p (p * q)).length : Int) = (p : Int) * (q : Int)
   rw [wsL_len]
   exact Int.natCast_mul p q
 · change k < (wsL x X y p (p * q)).length at hk
   rw [wsL_len] at hk
   show spn9 (at0 (wsL x X y p (p * q)) k) _ _ = true
   rw [wsL_at hk]
   have hl := wAt_lt hx hy (by omega) hk
   have e : x.s.length = x.w.toNat * x.h.toNat := by
    obtain ⟨a, ha⟩ : ∃ a : Nat, x.w = (a : Int) := ⟨x.w.toNat, by omega⟩
    obtain ⟨b, hb⟩ : ∃ b : Nat, x.h = (b : Int) := ⟨x.h.toNat, by omega⟩
    rw [ha, hb] at h3 ⊢
    have : ((a * b : Nat) : Int) = (a : Int) * (b : Int) := Int.natCast_mul a b
    show x.s.length = a * b
    omega
   rw [← e] at hl
   exact spn9_iff.2 (all9_at h4 hl)
theorem ws_flat {x : Sht} {X y p q : Nat} {nx : Nat} (hnx : x.w.toNat - p + 1 = nx) (hX : X < nx) : (ff9 (wsX x X y p q) true).1 = wnF x p q (y * nx + X) := by
 show ds9 (fl9 (gridL p (wsL x X y p (p * q)).length) (at0 (wsL x X y p (p * q))) true) = _
 unfold wnF
 rw [hnx, Nat.mul_comm y nx, Nat.mul_add_mod, Nat.mod_eq_of_lt hX, Nat.mul_add_div (by omega), Nat.div_eq_of_lt hX, Nat.add_zero, win_flat, wsL_len]
 exact flat_same grid_at (fun k hk => wsL_at hk) true
abbrev shZ : Array Value := #[I 0, I 0, I 0, I 0, .slice none 0 0]
set_option maxRecDepth 100000 in
set_option maxHeartbeats 8000000 in
theorem refWindow_any (x : Sht) (A : Option Addr) (n : Nat) (X y p q WW HH : Nat) (w : World) (B : Nat) (hW : x.w = (WW : Int) ∧ WW ≤ 6) (hH : HH ≤ 6) (hl : x.s.length = WW * HH) (hX : X + p ≤ WW) (hy : y + q ≤ HH) (hp : 2 ≤ p ∧ 2 ≤ q) (hB : B ≤ w.heap.size) (hx : Rd w B 2 A x.s.length (rR x.s)) :
 Calls Try.prog 72 #[.agg (shA x A n), I (X : Int), I (y : Int), I (p : Int), I (q : Int)] w (RetOs w (wsX x X y p q)) := by
 have HRD : Hid (∀ V, Below w.heap.size w V → Rd V B 2 A x.s.length (rR x.s)) := fun V hV => hx.below (hV.mono hB)
 have HL := Lib.hid hl
 have HXY : Hid ((X + p ≤ WW ∧ y + q ≤ HH) ∧ (2 ≤ p ∧ 2 ≤ q) ∧ WW ≤ 6 ∧ HH ≤ 6) := ⟨⟨hX, hy⟩, hp, hW.2, hH⟩
 have HXW := Lib.hid hW.1
 have hp6 : p ≤ 6 := by omega
 have hq6 : q ≤ 6 := by omega
 have hx6 : X ≤ 6 := by omega
 have hy6 : y ≤ 6 := by omega
 have hpq : p * q ≤ 36 := Nat.mul_le_mul hp6 hq6
 have HPQ := Lib.hid hpq
 obtain ⟨i3, hi3, jz0, jz1, jz2⟩ := info_parts rng9_info
 clear hx hB hl hX hy hp hW hH hpq
 obtain ⟨W, hW⟩ : ∃ W, W = ((w.alloc (.cells #[I x.w, I x.h, I x.c.lo, I x.c.hi, .slice A x.s.length n] 37)).alloc (.cells #[I 0, I 0, I 0, I 0, .slice none 0 0] 37)) := ⟨_, rfl⟩
 have rowW0 : W.heap[w.heap.size]? = some (.cells #[I x.w, I x.h, I x.c.lo, I x.c.hi, .slice A x.s.length n] 37 (0, 0)) := by rw [hW]; exact heap_before (heap_last _ _ _ rfl)
 have yW00 := ovr_cell (W := W) (b := w.heap.size) (o := 0) (v := I x.w) (by rw [cell_of_row _ _ _ _ _ _ rowW0]; rfl)
 have yW01 := ovr_cell (W := W) (b := w.heap.size) (o := 1) (v := I x.h) (by rw [cell_of_row _ _ _ _ _ _ rowW0]; rfl)
 have yW02 := ovr_cell (W := W) (b := w.heap.size) (o := 2) (v := I x.c.lo) (by rw [cell_of_row _ _ _ _ _ _ rowW0]; rfl)
 have yW03 := ovr_cell (W := W) (b := w.heap.size) (o := 3) (v := I x.c.hi) (by rw [cell_of_row _ _ _ _ _ _ rowW0]; rfl)
 have yW04 := ovr_cell (W := W) (b := w.heap.size) (o := 4) (v := .slice A x.s.length n) (by rw [cell_of_row _ _ _ _ _ _ rowW0]; rfl)
 have RrowW0 := Lib.hid (ovr_row rowW0)
 clear rowW0
 have rowW1 : W.heap[w.heap.size + 1]? = some (.cells #[I 0, I 0, I 0, I 0, .slice none 0 0] 37 (0, 0)) := by rw [hW]; exact heap_last _ _ _ (by simp)
 have yW10 := ovr_cell (W := W) (b := w.heap.size + 1) (o := 0) (v := I 0) (by rw [cell_of_row _ _ _ _ _ _ rowW1]; rfl)
 have yW11 := ovr_cell (W := W) (b := w.heap.size + 1) (o := 1) (v := I 0) (by rw [cell_of_row _ _ _ _ _ _ rowW1]; rfl)
 have yW12 := ovr_cell (W := W) (b := w.heap.size + 1) (o := 2) (v := I 0) (by rw [cell_of_row _ _ _ _ _ _ rowW1]; rfl)
 have yW13 := ovr_cell (W := W) (b := w.heap.size + 1) (o := 3) (v := I 0) (by rw [cell_of_row _ _ _ _ _ _ rowW1]; rfl)
 have yW14 := ovr_cell (W := W) (b := w.heap.size + 1) (o := 4) (v := .slice none 0 0) (by rw [cell_of_row _ _ _ _ _ _ rowW1]; rfl)
 have RrowW1 := Lib.hid (ovr_row rowW1)
 clear rowW1
 have HUW : Hid (∀ u, Below w.heap.size w (ovr W u)) := U2 hW
 have HW := Lib.hid hW
 clear hW
 go_enter Try.func72, Try.ntmps72
 go_upto_region 1 with (fail)
 rw [← HW.out]
 obtain ⟨u0, hu0⟩ := ovr_self W
 rw [hu0]
 clear hu0
 have S0 : Hid (StL w [(w.heap.size + 1, shZ, 37), (w.heap.size, shA x A n, 37)] (ovr W u0)) := ⟨HUW.out u0, fun y hy => by
  rcases List.mem_cons.1 hy with rfl | hy
  · exact RrowW1.out u0
  rcases List.mem_cons.1 hy with rfl | hy
  · exact RrowW0.out u0
  cases hy⟩
 refine name_w fun V hV => ?_
 rw [← hV] at S0
 clear hV HUW RrowW0 RrowW1
 go_upto_region 2 with fail
 have hpl := lt_of_row S0.out.hd
 obtain ⟨PS, hPS⟩ : ∃ q, q = V.heap.size := ⟨_, rfl⟩
 have HPS : Hid (w.heap.size + 1 < PS) := by show _ < _; rw [hPS]; exact hpl
 obtain ⟨W5, hW5⟩ : ∃ U, U = V.alloc (.cells #[I (p : Int), I (q : Int), I 0, I 0, .slice none 0 0] 37) := ⟨_, rfl⟩
 have S5 : Hid (StL w [(PS, #[I (p : Int), I (q : Int), I 0, I 0, .slice none 0 0], 37), (w.heap.size + 1, shZ, 37), (w.heap.size, shA x A n, 37)] W5) := by
  refine StL.cons (S0.out.below (by rw [hW5]; exact (Below.refl _ _).alloc (Nat.le_refl _) _)) ?_
  rw [hW5]
  exact heap_last _ _ _ hPS
 rw [← hPS, ← hW5]
 clear hPS hW5 S0 hpl
 have S6 : Hid (SfL w W5.heap.size PS (I (p : Int)) (I (q : Int)) (I 0) (I 0) (wsL x X y p (0 * p)) (.slice none 0 0) [(w.heap.size + 1, shZ, 37), (w.heap.size, shA x A n, 37)] W5) := by
  rw [Nat.zero_mul]
  exact SfL.start S5.out (by have := HPS.out; omega) (fun x hx => by
   have := HPS.out
   rcases List.mem_cons.1 hx with rfl | hx
   · show w.heap.size + 1 ≠ PS; omega
   rcases List.mem_cons.1 hx with rfl | hx
   · show w.heap.size ≠ PS; omega
   cases hx)
 clear S5
 go_wp2_with fail
 go_loopw [12] (fun jv wr => ∃ (j : Nat) (v : Value), j ≤ q ∧ jv = .int .i64 j ∧ SfL w W5.heap.size PS (I (p : Int)) (I (q : Int)) (I 0) (I 0) (wsL x X y p (j * p)) v [(w.heap.size + 1, shZ, 37), (w.heap.size, shA x A n, 37)] wr) (fun jv _ => q - (intOf jv).toNat)
 case atStart => exact ⟨0, _, Nat.zero_le _, rfl, S6.out⟩
 case round =>
  obtain ⟨j, v, hj, rfl, hst⟩ := hrel
  rename World => Y0
  have SJ := Lib.hid hst
  clear hst S6
  by_cases hlt : j < q
  case neg =>
   obtain rfl : j = q := by omega
   have ki : decide ((j : Int) < (j : Int)) = false := decide_eq_false (by omega)
   have hown := SJ.out.own
   rw [wsL_len, Nat.mul_comm] at hown
   obtain ⟨A5, c5, rfl, hn5, hc5, hrd5⟩ := Rd.of_own_max hown
   have S7 := Lib.hid SJ.out.all
   have HR7 := Lib.hid (And.intro (And.intro hn5 hc5) hown)
   have HBW : Hid (w.heap.size + 1 < W5.heap.size) := Nat.lt_trans HPS.out SJ.out.ql.2.1
   clear hown hrd5 SJ hlt hj hn5 hc5
   go_wp2_with (first | (with_reducible show wpList _ _ _ _ _ _; refine wpList_load_row9 rfl 37 _ rfl PS rfl _ _ _ _ S7.out.hd Try.underlying37 rfl (by kernel_rfl) ?_) | (with_reducible show wpList _ _ _ _ _ _; refine wpList_store_row rfl 37 _ _ rfl (w.heap.size + 1) rfl _ _ S7.out.tail.hd #[I (p : Int), I (j : Int), I 0, I 0, .slice A5 (p * j) c5] rfl (by simp [Value.oneCell']) rfl (by kernel_rfl) ?_))
   refine bodyPost_ret (results_cell_only rfl _ _ (w.heap.size + 1) 37 _ (0, 0) _ rfl (setRow_same (S7.out.tail.hd)) Try.underlying37 rfl (by kernel_rfl)) rfl ?_
   have hbs := below_setRow (w := Y0) S7.out.1 (show w.heap.size ≤ w.heap.size + 1 by omega) #[I (p : Int), I (j : Int), I 0, I 0, .slice A5 (p * j) c5]
   refine ⟨A5, c5, by unfold shA wsX; simp only [wsL_len], by show (wsL x X y p (p * j)).length ≤ c5 ∧ _; rw [wsL_len]; exact HR7.out.1, ?_, hbs⟩
   show Rd _ _ 2 A5 (wsL x X y p (p * j)).length (rR (wsL x X y p (p * j)))
   rw [wsL_len]
   have hgw : Y0.grownBy (Y0.setRow (w.heap.size + 1) #[I (p : Int), I (j : Int), I 0, I 0, .slice A5 (p * j) c5]) (some (w.heap.size + 1)) := ⟨rfl, rfl, rfl, by rw [setRow_size]; exact Nat.le_refl _, fun k _ hk => Go.Proofs.Ytljjpidigckheaa.setRow_other (fun e => hk (by rw [e]))⟩
   obtain ⟨_, _, e1, _, _, r1⟩ := Rd.of_own_max (own_other HR7.out.2 hgw (fun b hb e => by have := (HR7.out.2.lt b hb).1; have := HBW.out; injection e with e; omega))
   injection e1 with e1a e1b e1c
   subst e1a
   exact r1
  have HLT := Lib.hid hlt
  have ki : decide ((j : Int) < (q : Int)) = true := decide_eq_true (by omega)
  have kij : decide (j < q) = true := decide_eq_true hlt
  have hj6 : j ≤ 6 := by omega
  clear hlt hj
  go_wp2_with fail
  go_loopw [13] (fun iv wr => ∃ (i : Nat) (v : Value), i ≤ p ∧ iv = .int .i64 i ∧ SfL w W5.heap.size PS (I (p : Int)) (I (q : Int)) (I 0) (I 0) (wsL x X y p (j * p + i)) v [(w.heap.size + 1, shZ, 37), (w.heap.size, shA x A n, 37)] wr) (fun iv _ => p - (intOf iv).toNat)
  case atStart => exact ⟨0, _, Nat.zero_le _, rfl, SJ.out⟩
  case round =>
   obtain ⟨i, v, hi, rfl, hst⟩ := hrel
   rename World => Y
   have S := Lib.hid hst
   clear hst SJ
   by_cases hli : i < p
   case neg =>
        obtain rfl : i = p := by omega
        have ki2 : decide ((i : Int) < (i : Int)) = false := decide_eq_false (by omega)
        clear hli hi
        go_wp2_with fail
        go_roundw
        case rel => exact ⟨j + 1, _, HLT.out, by go_num, by rw [Nat.succ_mul]; exact S.out⟩
        case measure => have := HLT.out; simp [intOf]; omega
   have HLI := Lib.hid hli
   have ki2 : decide ((i : Int) < (p : Int)) = true := decide_eq_true (by omega)
   have kii : decide (i < p) = true := decide_eq_true hli
   have hi6 : i ≤ 6 := by omega
   obtain ⟨k, hk⟩ : ∃ k, k = j * p + i := ⟨_, rfl⟩
   have hkd : k / p = j ∧ k % p = i := by
        rw [hk, Nat.mul_comm]
        exact ⟨by rw [Nat.mul_add_div (by omega), Nat.div_eq_of_lt hli]; rfl, by rw [Nat.mul_add_mod, Nat.mod_eq_of_lt hli]⟩
   have hkl : k < p * q := by
        have h1 := Nat.mul_le_mul_right p (show j + 1 ≤ q from HLT.out)
        rw [Nat.succ_mul] at h1
        rw [hk, Nat.mul_comm p q]
        omega
   have hwt := wAt_lt (W := WW) (H := HH) HXY.out.1.1 HXY.out.1.2 (by have := HXY.out; omega) hkl
   rw [← HL.out] at hwt
   have hxw := HXW.out
   have eW : x.w.toNat = WW := by rw [hxw]; rfl
   obtain ⟨r, hr⟩ : ∃ r, at0 x.s (wAt x.w.toNat p X y k) = r := ⟨_, rfl⟩
   have HNX : Hid (wsL x X y p (j * p + (i + 1)) = wsL x X y p (j * p + i) ++ [r]) := by show _ = _; rw [← Nat.add_assoc, ← hk, wsL_snoc, hr]
   rw [eW] at hr
   obtain ⟨d, hd⟩ : ∃ d, wAt WW p X y k = d := ⟨_, rfl⟩
   have hd2 : d = (y + j) * WW + X + i := by rw [← hd]; unfold wAt; rw [hkd.1, hkd.2]
   rw [hd] at hr hwt
   obtain ⟨m, hm⟩ : ∃ m, m = (y + j) * WW := ⟨_, rfl⟩
   have hm100 : m ≤ 100 := by rw [hm]; exact Nat.le_trans (Nat.mul_le_mul (show y + j ≤ 12 by omega) HXY.out.2.2.1) (by omega)
   have hmi : ((y : Int) + (j : Int)) * x.w = (m : Int) := by rw [hxw, hm, Int.natCast_mul, Int.natCast_add]
   have k1 : IntKind.i64.wrap ((y : Int) + (j : Int)) = (y : Int) + (j : Int) := IntWalk.i64_in _ (by omega)
   have k2 : IntKind.i64.wrap (((y : Int) + (j : Int)) * x.w) = (m : Int) := (congrArg _ hmi).trans (IntWalk.i64_in _ (by omega))
   have k3 : IntKind.i64.wrap ((m : Int) + (X : Int)) = (m : Int) + (X : Int) := IntWalk.i64_in _ (by omega)
   have k4 : IntKind.i64.wrap ((m : Int) + (X : Int) + (i : Int)) = (d : Int) := (IntWalk.i64_in _ (by omega)).trans (by omega)
   obtain ⟨xb, xo, hxA, _, g0, g1⟩ := (HRD.out Y S.out.st.1).rng hwt
   rw [hr] at g0 g1
   have HTL : Hid ((wsL x X y p (j * p + i)).length ≤ 36) := by show _ ≤ _; rw [wsL_len, ← hk]; have := HPQ.out; omega
   obtain ⟨VA, vn, vc, rfl⟩ := own_slice S.out.own
   have f4 : ∀ u, (ovr Y u).cell? ⟨PS, 4, none⟩ = some (.slice VA vn vc) := cell_row9 S.out.row (j := 4) rfl
   have f5 : ∀ u, (ovr Y u).cell? ⟨w.heap.size, 0, none⟩ = some (I x.w) := cell_row9 (S.out.st.tail.hd) (j := 0) rfl
   have f6 : ∀ u, (ovr Y u).cell? ⟨w.heap.size, 4, none⟩ = some (.slice A x.s.length n) := cell_row9 (S.out.st.tail.hd) (j := 4) rfl
   rw [hxA] at f6
   clear hr hk hkd hkl hxw eW hd hd2 hm hmi hi hxA
   go_upto_region 8 with fail
   have v1 := ovr_cell g0
   have v2 := ovr_cell g1
   clear g0 g1
   refine wp_region_seq2 17 (fun j => if j = 16 then some (SlN Y #[I r.lo, I r.hi] 24 1) else none) (by kernel_rfl) (by kernel_rfl) (by kernel_rfl) (by kernel_rfl) (by kernel_rfl) ?_
   simp only [List.take_succ_cons, List.take_zero, List.drop_succ_cons, List.drop_zero]
   repeat (first | (refine wpG_one rfl rfl rfl ?_; intro K hK; go_big_quiet_op; go_big_quiet_on) | (refine wpG_skip rfl ?_; simp only [Act.put, List.setIfInBounds_toArray, List.set_cons_zero, List.set_cons_succ]))
   refine wpG_make (SlN Y #[I r.lo, I r.hi] 24 1) rfl rfl (fun w' hw' hk => ?_) (fun u hu => ?_)
   · go_simp
     exact sln_grow hw'
   obtain ⟨_, _, SB, rfl, _, _⟩ := hu
   simp only [Act.put, List.setIfInBounds_toArray, List.set_cons_zero, List.set_cons_succ]
   repeat (first | (refine wpG_one rfl rfl rfl ?_; intro K hK; go_big_quiet_op; go_big_quiet_on) | (refine wpG_skip rfl ?_; simp only [Act.put, List.setIfInBounds_toArray, List.set_cons_zero, List.set_cons_succ]))
   refine wpG_nil (fun w5 hw5 hG => ?_)
   have hB1 := hG.2.now.at
   have S5 := Lib.hid (S.out.below hw5.le)
   clear hG hw5 S v1 v2 f4 f5 f6 k1 k2 k3 k4
   refine wpTailIn_cons Wd.wide (by intro c h; cases h) ?_
   refine wp_app_own _ _ 35 rfl W5.heap.size 24 i3 _ 2 16 Try.underlying35 hi3 jz0 jz1 jz2 rfl (by decide) _ _ _ rfl S5.out.own ⟨SB, 0, none⟩ 1 [I r.lo, I r.hi] rfl rfl (news_lit hB1.1) (by simp [Value.oneCell']) (by have := HTL.out; omega) (by decide) S5.out.ql.2.2 (fun v2 w6 hO2 hg6 _ => ?_)
   obtain ⟨SA, sn, sc, rfl⟩ := own_slice hO2
   have hfin := S5.out.next (r := r) hO2 hg6
   have z2 : w6.cell? ⟨PS, 4, none⟩ = some (.slice VA vn vc) := by rw [cell_of_row _ _ _ _ _ _ hfin.1]; rfl
   have f2 := frozen_of_row _ _ 4 _ _ hfin.1
   have HFIN := Lib.hid hfin.2
   clear hO2 hg6 hB1 hfin S5
   refine wpTailIn_cons Wd.wide (by intro c h; cases h) ?_
   unfold Oper.wp
   go_simp
   refine wpTailIn_cons Wd.wide (by intro c h; cases h) ?_
   unfold Oper.wp
   go_simp
   refine wpTailIn_nil ?_
   (try simp only [Act.put, List.setIfInBounds_toArray, List.set_cons_zero, List.set_cons_succ])
   go_wp2_with fail
   go_roundw
   case rel => exact ⟨i + 1, _, HLI.out, by go_num, by rw [HNX.out]; exact HFIN.out⟩
   case measure => have := HLI.out; simp [intOf]; omega
theorem own_lit0 {w : World} {base b : Nat} {e : TypeId} {sz : Nat} (h : w.heap[b]? = some (.cells #[] e (0, 0))) (hb : base ≤ b) : w.ownsRow base e sz (.slice (some ⟨b, 0, none⟩) 0 0) 0 [] :=
 ⟨by simp, .inr ⟨b, 0, #[], rfl, hb, h, Nat.le_refl _, Nat.zero_le _, by simp, by simp⟩⟩
set_option maxRecDepth 100000 in
set_option maxHeartbeats 8000000 in
theorem refWindows_any (x : Sht) (WI HI : Int) (A : Option Addr) (n : Nat) (w : World) (B : Nat) (hm : x.s.length ≤ maxLen) (hB : B ≤ w.heap.size) (hx : Rd w B 2 A x.s.length (rR x.s)) (hbd : (-9223372036854775808 ≤ WI ∧ WI ≤ 9223372036854775807) ∧ -9223372036854775808 ≤ HI ∧ HI ≤ 9223372036854775807) :
 Calls Try.prog 37 #[.agg (shA x A n), I WI, I HI] w (RetWn w (wnX x WI HI) (wnE x WI HI)) := by
 have HRD : Hid (∀ V, Below w.heap.size w V → Rd V B 2 A x.s.length (rR x.s) ∧ B ≤ V.heap.size) := fun V hV => ⟨hx.below (hV.mono hB), Nat.le_trans hB hV.size⟩
 have HM := Lib.hid hm
 have hE : Hid (wnE x WI HI = if okSh x then (if 2 ≤ WI ∧ WI ≤ x.w ∧ 2 ≤ HI ∧ HI ≤ x.h then 0 else 3) else 2) := rfl
 have hX : Hid (∀ er : Int, wnE x WI HI = er → wnX x WI HI = if er = 0 then wnL x WI.toNat HI.toNat ((x.h.toNat - HI.toNat + 1) * (x.w.toNat - WI.toNat + 1)) else []) := fun er h => by unfold wnX; rw [h]
 clear hx hB hm
 obtain ⟨W, hW⟩ : ∃ W, W = (w.alloc (.cells #[I x.w, I x.h, I x.c.lo, I x.c.hi, .slice A x.s.length n] 37)) := ⟨_, rfl⟩
 have rowW0 : W.heap[w.heap.size]? = some (.cells #[I x.w, I x.h, I x.c.lo, I x.c.hi, .slice A x.s.length n] 37 (0, 0)) := by rw [hW]; exact heap_last _ _ _ rfl
 have yW00 := ovr_cell (W := W) (b := w.heap.size) (o := 0) (v := I x.w) (by rw [cell_of_row _ _ _ _ _ _ rowW0]; rfl)
 have yW01 := ovr_cell (W := W) (b := w.heap.size) (o := 1) (v := I x.h) (by rw [cell_of_row _ _ _ _ _ _ rowW0]; rfl)
 have yW02 := ovr_cell (W := W) (b := w.heap.size) (o := 2) (v := I x.c.lo) (by rw [cell_of_row _ _ _ _ _ _ rowW0]; rfl)
 have yW03 := ovr_cell (W := W) (b := w.heap.size) (o := 3) (v := I x.c.hi) (by rw [cell_of_row _ _ _ _ _ _ rowW0]; rfl)
 have yW04 := ovr_cell (W := W) (b := w.heap.size) (o := 4) (v := .slice A x.s.length n) (by rw [cell_of_row _ _ _ _ _ _ rowW0]; rfl)
 have RrowW0 := Lib.hid (ovr_row rowW0)
 clear rowW0
 have HUW : Hid (∀ u, Below w.heap.size w (ovr W u)) := U1 hW
 have HW := Lib.hid hW
 clear hW
 go_enter Try.func37, Try.ntmps37
 go_upto_region 1 with (fail)
 rw [← HW.out]
 obtain ⟨u0, hu0⟩ := ovr_self W
 rw [hu0]
 clear hu0
 have CS : Hid (∀ V, Below w.heap.size w V → Calls Try.prog 25 #[.agg #[I x.w, I x.h, I x.c.lo, I x.c.hi, .slice A x.s.length n]] V fun e w' => e = .returned (.bool (okSh x)) ∧ Below V.heap.size V w') := fun V hV => refSheet_any x A n V B (HRD.out V hV).2 (HRD.out V hV).1 HM.out
 rcases ho : okSh x with _ | _
 · rw [ho] at CS
   go_wp2_with fail
   refine (CS.out _ (HUW.out u0)).mono ?_
   rintro e w1 ⟨rfl, hb1⟩
   obtain ⟨u1, rfl⟩ := ovr_next hb1
   clear hb1
   rw [ho] at hE
   have h2 : wnE x WI HI = 2 := hE.out
   have h3 := hX.out 2 h2
   have H2 := Lib.hid (And.intro h2 h3)
   clear h2 h3 hE hX
   go_wp2_with fail
   go_ret2
   rw [H2.out.1, H2.out.2]
   exact ⟨_, rfl, World.ownsRow_nil _ _ _ _, HUW.out _⟩
 rw [ho] at CS
 go_wp2_with fail
 refine (CS.out _ (HUW.out u0)).mono ?_
 rintro e w1 ⟨rfl, hb1⟩
 obtain ⟨u1, rfl⟩ := ovr_next hb1
 clear hb1
 by_cases hc : 2 ≤ WI ∧ WI ≤ x.w ∧ 2 ≤ HI ∧ HI ≤ x.h
 case neg =>
  have h2 : wnE x WI HI = 3 := by rw [hE.out, ho]; simp only [if_true]; rw [if_neg hc]
  have h3 := hX.out 3 h2
  have H2 := Lib.hid (And.intro h2 h3)
  clear h2 h3 hE hX
  by_cases h1 : 2 ≤ WI
  case neg =>
   have d1 : decide (WI < 2) = true := decide_eq_true (by omega)
   clear hc
   go_wp2_with fail
   go_ret2
   rw [H2.out.1, H2.out.2]
   exact ⟨_, rfl, World.ownsRow_nil _ _ _ _, HUW.out _⟩
  have d1 : decide (WI < 2) = false := decide_eq_false (by omega)
  by_cases h2 : WI ≤ x.w
  case neg =>
   have d2 : decide (x.w < WI) = true := decide_eq_true (by omega)
   clear hc
   go_wp2_with fail
   go_ret2
   rw [H2.out.1, H2.out.2]
   exact ⟨_, rfl, World.ownsRow_nil _ _ _ _, HUW.out _⟩
  have d2 : decide (x.w < WI) = false := decide_eq_false (by omega)
  by_cases h3 : 2 ≤ HI
  case neg =>
   have d3 : decide (HI < 2) = true := decide_eq_true (by omega)
   clear hc
   go_wp2_with fail
   go_ret2
   rw [H2.out.1, H2.out.2]
   exact ⟨_, rfl, World.ownsRow_nil _ _ _ _, HUW.out _⟩
  have d3 : decide (HI < 2) = false := decide_eq_false (by omega)
  have d4 : decide (x.h < HI) = true := decide_eq_true (by omega)
  clear hc
  go_wp2_with fail
  go_ret2
  rw [H2.out.1, H2.out.2]
  exact ⟨_, rfl, World.ownsRow_nil _ _ _ _, HUW.out _⟩
 have h2 : wnE x WI HI = 0 := by rw [hE.out, ho]; simp only [if_true]; rw [if_pos hc]
 have h3 := hX.out 0 h2
 have H2 := Lib.hid (And.intro h2 h3)
 clear h2 h3 hE hX
 obtain ⟨c1, c2, c3, c4⟩ := hc
 have d1 : decide (WI < 2) = false := decide_eq_false (by omega)
 have d2 : decide (x.w < WI) = false := decide_eq_false (by omega)
 have d3 : decide (HI < 2) = false := decide_eq_false (by omega)
 have d4 : decide (x.h < HI) = false := decide_eq_false (by omega)
 obtain ⟨WW, HH, eW, eH, bW, bH, eL⟩ := sh_nat ho
 obtain ⟨p, rfl⟩ : ∃ p : Nat, WI = (p : Int) := ⟨WI.toNat, by omega⟩
 obtain ⟨q, rfl⟩ : ∃ p : Nat, HI = (p : Int) := ⟨HI.toNat, by omega⟩
 obtain ⟨nx, hnx⟩ : ∃ k, k = WW - p + 1 := ⟨_, rfl⟩
 obtain ⟨ny, hny⟩ : ∃ k, k = HH - q + 1 := ⟨_, rfl⟩
 have HEW := Lib.hid (And.intro eW (And.intro eH eL))
 have HWH := Lib.hid (And.intro bW bH)
 have HPQ : Hid ((2 ≤ p ∧ p ≤ WW) ∧ 2 ≤ q ∧ q ≤ HH) := ⟨⟨by omega, by omega⟩, by omega, by omega⟩
 have HNN := Lib.hid (And.intro hnx hny)
 have HXX := Lib.hid (And.intro (show nx ≤ 5 by omega) (show ny ≤ 5 by omega))
 have HO := Lib.hid ho
 clear eW eH eL bW bH c1 c2 c3 c4 hnx hny ho hbd
 go_upto_region 5 with fail
 have S5 : Hid (StL w [(w.heap.size, shA x A n, 37)] (ovr W u1)) := ⟨HUW.out u1, fun y hy => by
  rcases List.mem_cons.1 hy with rfl | hy
  · exact RrowW0.out u1
  cases hy⟩
 refine name_w fun V0 hV0 => ?_
 rw [← hV0] at S5
 clear hV0 HUW RrowW0 d1 d2 d3 d4 CS
 go_upto_region 6 with fail
 have HB0 : Hid (BW w x A n (wnL x p q (0 * nx)) (.slice (some ⟨V0.heap.size, 0, none⟩) 0 0) (V0.alloc (.cells #[] 49))) := by
  rw [Nat.zero_mul]
  have hb : Below V0.heap.size V0 (V0.alloc (.cells #[] 49)) := (Below.refl _ _).alloc (Nat.le_refl _) _
  have h6 := S5.out.below hb
  exact ⟨own_lit0 (heap_last _ _ _ rfl) S5.out.1.size, fun b h => by
   have h2 : V0.heap.size = b := by simpa [Value.ownBlock] using h
   have := lt_of_row S5.out.hd
   omega, h6.hd, h6.1⟩
 refine name_w fun V1 hV1 => ?_
 rw [← hV1] at HB0
 obtain ⟨QL, hQL⟩ : ∃ q, q = V0.heap.size := ⟨_, rfl⟩
 rw [← hQL] at HB0 ⊢
 clear hV1 hQL S5
 go_wp2_with fail
 go_loopw [9, 8] (fun yv v wr => ∃ y : Nat, y ≤ ny ∧ yv = .int .i64 y ∧ BW w x A n (wnL x p q (y * nx)) v wr) (fun yv _ _ => ny - (intOf yv).toNat)
 case atStart => exact ⟨0, Nat.zero_le _, rfl, HB0.out⟩
 case round =>
  obtain ⟨y, hy, rfl, hbw⟩ := hrel
  rename World => V
  have HB := Lib.hid hbw
  clear hbw HB0
  have r3 := HB.out.r3
  have y1 := cell_of_row _ _ 1 _ _ _ r3
  change _ = some (I x.h) at y1
  have hyq : y ≤ 5 ∧ q ≤ 6 := by have := HXX.out; have := HWH.out; have := HPQ.out; omega
  have k3 : IntKind.i64.wrap ((y : Int) + (q : Int)) = (y : Int) + (q : Int) := IntWalk.i64_in _ (by omega)
  clear hyq r3
  by_cases hlt : y < ny
  case neg =>
   obtain rfl : y = ny := by omega
   have ki : decide ((y : Int) + (q : Int) ≤ x.h) = false := decide_eq_false (by have := HNN.out; have := HEW.out; have := HPQ.out; omega)
   clear hy hlt
   go_wp2_with fail
   go_ret2
   rw [H2.out.1, H2.out.2]
   obtain ⟨eW, eH, eL⟩ := HEW.out
   rw [if_pos (by trivial), eW, eH]
   have e : (Int.toNat (HH : Int) - Int.toNat (q : Int) + 1) * (Int.toNat (WW : Int) - Int.toNat (p : Int) + 1) = y * nx := by
        rw [HNN.out.1, HNN.out.2]
        rfl
   rw [e]
   exact ⟨_, rfl, HB.out.own, HB.out.bw⟩
  have HLT := Lib.hid hlt
  have hy5 : y ≤ 5 := by have := HXX.out; omega
  have ki : decide ((y : Int) + (q : Int) ≤ x.h) = true := decide_eq_true (by have := HNN.out; have := HEW.out; have := HPQ.out; omega)
  clear hy hlt
  go_wp2_with fail
  clear y1 ki k3
  go_loopw [10, 8] (fun xv v wr => ∃ X : Nat, X ≤ nx ∧ xv = .int .i64 X ∧ BW w x A n (wnL x p q (y * nx + X)) v wr) (fun xv _ _ => nx - (intOf xv).toNat)
  case atStart => exact ⟨0, Nat.zero_le _, rfl, HB.out⟩
  case round =>
   obtain ⟨X, hX, rfl, hbw⟩ := hrel
   rename World => V
   have HC := Lib.hid hbw
   clear hbw HB
   have r3 := HC.out.r3
   have y0 := cell_of_row _ _ 0 _ _ _ r3
   change _ = some (I x.w) at y0
   have hyq : X ≤ 5 ∧ p ≤ 6 := by have := HXX.out; have := HWH.out; have := HPQ.out; omega
   have k3 : IntKind.i64.wrap ((X : Int) + (p : Int)) = (X : Int) + (p : Int) := IntWalk.i64_in _ (by omega)
   clear hyq r3
   by_cases hlt : X < nx
   case neg =>
        obtain rfl : X = nx := by omega
        have ki2 : decide ((X : Int) + (p : Int) ≤ x.w) = false := decide_eq_false (by have := HNN.out; have := HEW.out; have := HPQ.out; omega)
        clear hX hlt
        go_wp2_with fail
        go_roundw
        case rel => exact ⟨y + 1, HLT.out, by go_num, by rw [Nat.succ_mul]; exact HC.out⟩
        case measure => have := HLT.out; simp [intOf]; omega
   have HLX := Lib.hid hlt
   have hX5 : X ≤ 5 := by have := HXX.out; omega
   have ki2 : decide ((X : Int) + (p : Int) ≤ x.w) = true := decide_eq_true (by have := HNN.out; have := HEW.out; have := HPQ.out; omega)
   clear hX hlt
   have CW : Hid (Calls Try.prog 72 #[.agg (shA x A n), I (X : Int), I (y : Int), I (p : Int), I (q : Int)] V (RetOs V (wsX x X y p q))) := by
        obtain ⟨eW, eH, eL⟩ := HEW.out
        exact refWindow_any x A n X y p q WW HH V B ⟨eW, HWH.out.1.2⟩ HWH.out.2.2 eL (by have := HNN.out; have := HLX.out; have := HPQ.out; omega) (by have := HNN.out; have := HLT.out; have := HPQ.out; omega) ⟨HPQ.out.1.1, HPQ.out.2.1⟩ (HRD.out V HC.out.bw).2 (HRD.out V HC.out.bw).1
   have HWO : Hid (okSh (wsX x X y p q) = true ∧ (ff9 (wsX x X y p q) true).1 = wnF x p q (y * nx + X)) := by
        obtain ⟨eW, eH, eL⟩ := HEW.out
        exact ⟨ws_ok HO.out HPQ.out.1.1 HPQ.out.2.1 (by have := HNN.out; have := HLX.out; have := HPQ.out; omega) (by have := HNN.out; have := HLT.out; have := HPQ.out; omega), ws_flat (by have := HNN.out; omega) HLX.out⟩
   go_upto_region 12 with fail
   clear y0 ki2 k3
   have S7 : Hid (StL w [(w.heap.size, shA x A n, 37)] V) := ⟨HC.out.bw, fun y hy => by
        rcases List.mem_cons.1 hy with rfl | hy
        · exact HC.out.r3
        cases hy⟩
   go_wp2_with (with_reducible show wpList _ _ _ _ _ _; refine wpList_load_row9 rfl 37 _ rfl w.heap.size rfl (shA x A n) _ _ _ S7.out.hd Try.underlying37 rfl (by kernel_rfl) ?_)
   refine CW.out.mono ?_
   rintro e V2 ⟨A2, c2, rfl, h2, hr2, hb2⟩
   have CF := Lib.hid (refFlatness_any (wsX x X y p q) A2 c2 V2 V2.heap.size HWO.out.1 (Nat.le_refl _) hr2)
   rw [HWO.out.2] at CF
   obtain ⟨d, hd⟩ : ∃ d, wnF x p q (y * nx + X) = d := ⟨_, rfl⟩
   have HPD := Lib.hid hd
   obtain ⟨d1, hd1⟩ : ∃ d, (ff9 (wsX x X y p q) false).1 = d := ⟨_, rfl⟩
   rw [hd, hd1] at CF
   have HS2 := Lib.hid (HC.out.below hb2)
   clear hd hd1 h2 hr2 hb2 CW S7 HWO HC
   go_wp2_with fail
   refine CF.out.mono ?_
   rintro e V3 ⟨rfl, hb3⟩
   have HS3 := Lib.hid (HS2.out.below hb3)
   clear hb3 CF HS2
   go_upto_region 13 with fail
   obtain ⟨QC, hQC⟩ : ∃ q, q = V3.heap.size + 1 := ⟨_, rfl⟩
   obtain ⟨Z, hZ⟩ : ∃ Z, Z = (V3.alloc (.cells #[I d1.n, I d1.d] 49)).alloc (.cells #[I d.n, I d.d] 49) := ⟨_, rfl⟩
   have hbZ : Below V3.heap.size V3 Z := by rw [hZ]; exact ((Below.refl _ _).alloc (Nat.le_refl _) _).alloc (by simp) _
   have rz : Z.heap[QC]? = some (.cells #[I d.n, I d.d] 49 (0, 0)) := by rw [hZ]; exact heap_last _ _ _ (by simp [hQC])
   have z0 : Z.cell? ⟨QC, 0, none⟩ = some (I d.n) := (cell_of_row _ _ 0 _ _ _ rz).trans rfl
   have z1 : Z.cell? ⟨QC, 1, none⟩ = some (I d.d) := (cell_of_row _ _ 1 _ _ _ rz).trans rfl
   have HS4 := Lib.hid ((HS3.out.below hbZ).below (U := Z.alloc (.cells #[I d.n, I d.d] 49)) ((Below.refl _ _).alloc (Nat.le_refl _) _))
   rw [← hQC, ← hZ]
   clear hZ hQC hbZ HS3 rz
   obtain ⟨i0, hi0, iz0, iz1, iz2⟩ := info_parts frac_info9
   obtain ⟨l, hl⟩ : ∃ l, wnL x p q (y * nx + X) = l := ⟨_, rfl⟩
   have HLN : Hid (wnL x p q (y * nx + X + 1) = l ++ [d]) := by show _ = _; rw [wnL_snoc, hl, HPD.out]
   have hll : l.length ≤ 36 := by
        rw [← hl, wnL_len]
        have := HXX.out
        have := Nat.mul_le_mul (show y ≤ 5 by omega) (show nx ≤ 5 by omega)
        omega
   rw [hl] at HS4
   clear hl
   go_wp2_with (with_reducible show wpList _ _ _ (⟨some 64, _, _, _, _, _⟩ :: _) _ _; refine Hid.out ?_)
   refine Lib.hid ?_
   refine wpList_append_own_at _ rfl _ _ 67 rfl w.heap.size 49 i0 _ 2 16 Try.underlying67 hi0 iz0 iz1 iz2 rfl (by decide) _ l.length (flat 2 (rFr l) l.length) rfl HS4.out.own ⟨Z.heap.size, 0, none⟩ 1 1 [I d.n, I d.d] rfl rfl (cells_row (heap_last _ _ _ rfl)) (by simp [Value.oneCell']) (by unfold maxLen; omega) (by omega) HS4.out.bw.size (fun v' w' a1 a2 a3 a4 => ?_)
   simp only [Act.put, List.setIfInBounds_toArray, List.set_cons_zero, List.set_cons_succ]
   go_wp2_with fail
   go_roundw
   case rel =>
        refine ⟨X + 1, HLX.out, by go_num, ?_⟩
        rw [← Nat.add_assoc, HLN.out]
        exact HS4.out.next a1 a2 a4
   case measure => have := HLX.out; simp [intOf]; omega
end Go.Proofs.Ytljjpidigckheaa.Un
