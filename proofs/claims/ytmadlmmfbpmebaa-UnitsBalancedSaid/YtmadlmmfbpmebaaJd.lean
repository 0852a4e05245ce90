/- The contract of Balance of the reference of chapter 1. -/
import Derived.Test.YtmadlmmfbpmebaaJb
import Derived.Test.YtmadlmmfbpmebaaJo
import Derived.Test.YtmadlmmfbpmebaaSqf
namespace Go.Proofs.Ytmadlmmfbpmebaa
open Go.RowKit
theorem addK_part {xs : List Rng} (h : ∀ j, j < xs.length → rngOk (at0 xs j) = true) : ∀ n, n ≤ xs.length → ∀ k, k < n → (at0 xs k).hi - (at0 xs k).lo ≤ (addK xs n).2 - (addK xs n).1
  | 0, _, k, hk => absurd hk (by omega)
  | n + 1, hn, k, hk => by
    have h1 := (rngOk_iff.1 (h n (by omega))).2.2
    have h2 := addK_bd h n (by omega)
    simp only [addK]
    rcases Nat.lt_or_ge k n with h3 | h3
    · have := addK_part h n (by omega) k h3
      omega
    · obtain rfl : k = n := by omega
      omega
/-- What the reference leaves for a part. -/
def naR (q : Int × Int) (r x : Rng) : Rng := ⟨max x.lo (r.lo - (q.2 - x.hi)), min x.hi (r.hi - (q.1 - x.lo))⟩
theorem naR_eq {q : Int × Int} {r x : Rng} (h : x.hi - x.lo ≤ q.2 - q.1) : naR q r x = naF q.1 q.2 (cuF ⟨q.1, q.2⟩ r) x := by
  unfold naR naF cuF
  simp only [Rng.mk.injEq]
  omega
theorem cu_empty {q : Int × Int} {r : Rng} (h : q.1 ≤ q.2) (hr : r.lo ≤ r.hi) : ((cuF ⟨q.1, q.2⟩ r).hi < (cuF ⟨q.1, q.2⟩ r).lo) ↔ (r.hi < q.1 ∨ q.2 < r.lo) := by
  unfold cuF
  simp only
  omega
theorem SoC.set {e : TypeId} {sz B n : Nat} {l : List Value} {v : Value} {w : World} (h : SoC e sz B n l v w) {q : Nat} (hq : q < B) (cs : Array Value) : SoC e sz B n l v (w.setRow q cs) := by
  rcases h with h | ⟨h1, h2 | ⟨g, cap, cur, hv, hg, hh, r⟩⟩
  · exact .inl h
  · exact .inr ⟨h1, .inl h2⟩
  · exact .inr ⟨h1, .inr ⟨g, cap, cur, hv, hg, by rw [setRow_other (by omega)]; exact hh, r⟩⟩
theorem SoC.at {e : TypeId} {sz B n m c : Nat} {A : Option Addr} {g : Nat → Nat → Value} {w : World} (h : SoC e sz B n (flat sz g n) (.slice A m c) w) : m = n ∧ n ≤ c ∧ c ≤ maxLen ∧ Rd w w.heap.size sz A n g := by
  obtain ⟨A', c', e, h1, h2, h3⟩ := h.rd
  injection e with e1 e2 e3
  subst e1 e2 e3
  exact ⟨rfl, h1, h2, h3⟩
theorem mk_congr {α β : Type} [Inhabited α] {f f' : α → β} {xs : List α} : ∀ k : Nat, (∀ j, j < k → f (at0 xs j) = f' (at0 xs j)) → mk f xs k = mk f' xs k
  | 0, _ => rfl
  | k + 1, h => by rw [mk_succ, mk_succ, mk_congr k (fun j hj => h j (by omega)), h k (by omega)]
/-- A new block of a slice of one element. -/
def SlNew (w0 : World) (cs : Array Value) (t : TypeId) (u : Value) (w : World) : Prop := ∃ b, u = .slice (some ⟨b, 0, none⟩) 1 1 ∧ w.heap[b]? = some (.cells cs t (0, 0)) ∧ w0.heap.size ≤ b
theorem slnew_grow {w0 w : World} {cs : Array Value} {t : TypeId} (h : Cl w0 w) : Le w (w.alloc (.cells cs t)) ∧ Box (SlNew w0 cs t) (.slice (some ⟨w.heap.size, 0, none⟩) 1 1) (w.alloc (.cells cs t)) :=
  ⟨(Below.refl _ _).alloc (Nat.le_refl _) _, fun _ h2 => ⟨_, rfl, (h2.block _ (by simp)).trans (heap_alloc_new w _), h.le.size⟩⟩
theorem SlNew.at {w0 w : World} {cs : Array Value} {t : TypeId} {b : Nat} (h : SlNew w0 cs t (.slice (some ⟨b, 0, none⟩) 1 1) w) : w.heap[b]? = some (.cells cs t (0, 0)) ∧ w0.heap.size ≤ b := by
  obtain ⟨b', e, h1, h2⟩ := h
  have : b = b' := by injection e with e1; injection e1 with e2; injection e2
  subst this
  exact ⟨h1, h2⟩
set_option maxRecDepth 100000 in
set_option maxHeartbeats 4000000 in
theorem refBalance_any (A : Option Addr) (c : Nat) (xs : List Rng) (r : Rng) (w : World) (B : Nat) (hm : xs.length ≤ maxLen) (hB : B ≤ w.heap.size) (hx : Rd w B 2 A xs.length (rR xs)) :
    Calls Try.prog 29 #[.slice A xs.length c, r.val] w (RetB w (baF xs r)) := by
  have hf : Hid (baF xs r = if chk xs = 0 then (if rngOk r then (if (cuF ⟨(addK xs xs.length).1, (addK xs xs.length).2⟩ r).hi < (cuF ⟨(addK xs xs.length).1, (addK xs xs.length).2⟩ r).lo then ([], ⟨0, 0⟩, 7)
    else (mk (naF (addK xs xs.length).1 (addK xs xs.length).2 (cuF ⟨(addK xs xs.length).1, (addK xs xs.length).2⟩ r)) xs xs.length, cuF ⟨(addK xs xs.length).1, (addK xs xs.length).2⟩ r, 0)) else ([], ⟨0, 0⟩, 2)) else ([], ⟨0, 0⟩, chk xs)) := rfl
  have HX : Hid (∀ W', Below w.heap.size w W' → Rd W' B 2 A xs.length (rR xs) ∧ B ≤ W'.heap.size) := fun W' h => ⟨hx.below (h.mono hB), Nat.le_trans hB h.size⟩
  have cc : Hid (∀ W', Rd W' B 2 A xs.length (rR xs) ∧ B ≤ W'.heap.size → Calls Try.prog 81 #[.slice A xs.length c] W' fun e w' => e = .returned (I (chk xs)) ∧ Below W'.heap.size W' w') := fun W' h => refList_any A c xs W' B hm h.2 h.1
  have cv := Lib.hid fun W => refRange_any r W
  obtain ⟨i0, hi0, iz0, iz1, iz2⟩ := info_parts rng_info
  clear hx hB hm
  obtain ⟨W, hW⟩ : ∃ W, W = ((w.alloc (.cells #[I r.lo, I r.hi] 38)).alloc (.cells #[I 0, I 0] 38)) := ⟨_, rfl⟩
  have rowW0 : W.heap[w.heap.size]? = some (.cells #[I r.lo, I r.hi] 38 (0, 0)) := by rw [hW]; exact heap_before (heap_last _ _ _ rfl)
  have yW00 := ovr_cell (W := W) (b := w.heap.size) (o := 0) (v := I r.lo) (by rw [cell_of_row _ _ _ _ _ _ rowW0]; rfl)
  have yW01 := ovr_cell (W := W) (b := w.heap.size) (o := 1) (v := I r.hi) (by rw [cell_of_row _ _ _ _ _ _ rowW0]; rfl)
  have RrowW0 := Lib.hid (ovr_row rowW0)
  clear rowW0
  have rowW1 : W.heap[w.heap.size + 1]? = some (.cells #[I 0, I 0] 38 (0, 0)) := by rw [hW]; exact heap_last _ _ _ (by simp)
  have yW10 := ovr_cell (W := W) (b := w.heap.size + 1) (o := 0) (v := I 0) (by rw [cell_of_row _ _ _ _ _ _ rowW1]; rfl)
  have yW11 := ovr_cell (W := W) (b := w.heap.size + 1) (o := 1) (v := I 0) (by rw [cell_of_row _ _ _ _ _ _ rowW1]; rfl)
  have RrowW1 := Lib.hid (ovr_row rowW1)
  clear rowW1
  have HUW : Hid (∀ u, Below w.heap.size w (ovr W u)) := U2 hW
  have HW := Lib.hid hW
  clear hW
  by_cases h0 : chk xs = 0
  case neg =>
    rw [if_neg h0] at hf
    have h0b : (chk xs == 0) = false := by simpa using h0
    have h0c : (chk xs != 0) = true := by simpa using h0
    clear h0
    go_enter Try.func29, Try.ntmps29
    go_upto_region 1 with (fail)
    rw [← HW.out]
    obtain ⟨u0, hu0⟩ := ovr_self W
    rw [hu0]
    clear hu0
    go_wp2_with fail
    refine (cc.out _ (HX.out _ (HUW.out _))).mono ?_
    rintro e w1 ⟨rfl, hb1⟩
    obtain ⟨u1, rfl⟩ := ovr_next hb1
    clear hb1
    go_wp2_with (refine wpList_store_row rfl 38 _ _ rfl (w.heap.size + 1) rfl _ _ (RrowW1.out _) _ rfl (one2 rfl rfl) rfl (by kernel_rfl) ?_)
    refine bodyPost_ret (results_tmp_cell_tmp rfl _ _ (w.heap.size + 1) 38 _ (0, 0) _ rfl (setRow_same (RrowW1.out _)) Try.underlying38 rfl (by kernel_rfl)) rfl ?_
    exact ⟨none, 0, 0, by rw [hf.out]; rfl, by rw [hf.out]; rfl, Nat.le_refl _, Rd.nil, below_setRow (HUW.out _) (by omega) _⟩
  have hl := chk_ok h0
  rw [if_pos h0] at hf
  have cd : Hid (∀ W', Rd W' B 2 A xs.length (rR xs) ∧ B ≤ W'.heap.size → Calls Try.prog 81 #[.slice A xs.length c] W' fun e w' => e = .returned (I 0) ∧ Below W'.heap.size W' w') := fun W' h => by have := cc.out W' h; rwa [h0] at this
  have HL := Lib.hid hl
  clear h0 hl cc
  rcases hv : rngOk r with _ | _ <;> (rw [hv] at hf cv)
  · go_enter Try.func29, Try.ntmps29
    go_upto_region 1 with (fail)
    rw [← HW.out]
    obtain ⟨u0, hu0⟩ := ovr_self W
    rw [hu0]
    clear hu0
    go_wp2_with fail
    refine (cd.out _ (HX.out _ (HUW.out _))).mono ?_
    rintro e w1 ⟨rfl, hb1⟩
    obtain ⟨u1, rfl⟩ := ovr_next hb1
    clear hb1
    go_wp2_with fail
    refine (cv.out _).mono ?_
    rintro e w1 ⟨rfl, hb1⟩
    obtain ⟨u2, rfl⟩ := ovr_next hb1
    clear hb1
    go_wp2_with (refine wpList_store_row rfl 38 _ _ rfl (w.heap.size + 1) rfl _ _ (RrowW1.out _) _ rfl (one2 rfl rfl) rfl (by kernel_rfl) ?_)
    refine bodyPost_ret (results_tmp_cell_tmp rfl _ _ (w.heap.size + 1) 38 _ (0, 0) _ rfl (setRow_same (RrowW1.out _)) Try.underlying38 rfl (by kernel_rfl)) rfl ?_
    exact ⟨none, 0, 0, by rw [hf.out]; rfl, by rw [hf.out]; rfl, Nat.le_refl _, Rd.nil, below_setRow (HUW.out _) (by omega) _⟩
  rw [if_pos rfl] at hf
  have Hv := Lib.hid (rngOk_iff.1 hv)
  have hlen := HL.out.1
  clear hv
  go_enter Try.func29, Try.ntmps29
  go_upto_region 1 with (fail)
  rw [← HW.out]
  obtain ⟨u0, hu0⟩ := ovr_self W
  rw [hu0]
  clear hu0
  go_wp2_with fail
  refine (cd.out _ (HX.out _ (HUW.out _))).mono ?_
  rintro e w1 ⟨rfl, hb1⟩
  obtain ⟨u1, rfl⟩ := ovr_next hb1
  clear hb1
  go_wp2_with fail
  refine (cv.out _).mono ?_
  rintro e w1 ⟨rfl, hb1⟩
  obtain ⟨u2, rfl⟩ := ovr_next hb1
  clear hb1
  go_upto_region 7 with (fail)
  obtain ⟨qb, hqb⟩ : ∃ qb, (ovr W u2).heap.size = qb := ⟨_, rfl⟩
  rw [hqb]
  have hal : Below (ovr W u2).heap.size (ovr W u2) ((ovr W u2).alloc (.cells #[] 38)) := (Below.refl _ _).alloc (Nat.le_refl _) _
  obtain ⟨u3, hu3⟩ := ovr_next hal
  rw [hu3]
  clear hal hu3 hqb
  go_wp2_with fail
  go_loopw [9, 10, 11] (fun s t i wr => ∃ k : Nat, k ≤ xs.length ∧ i = .int .i64 k ∧ s = I (addK xs k).1 ∧ t = I (addK xs k).2 ∧ ∃ u, wr = ovr W u) (fun _ _ i _ => xs.length - (intOf i).toNat)
  case atStart => exact ⟨0, by omega, rfl, rfl, rfl, u3, rfl⟩
  case round =>
    obtain ⟨k, hk, rfl, rfl, rfl, u, rfl⟩ := hrel
    by_cases hlt : k < xs.length
    · obtain ⟨b, o, rfl, _, e0, e1⟩ := (HX.out _ (HUW.out u)).1.rng hlt
      have e01 := ovr_cell e0
      have e11 := ovr_cell e1
      have bd := addK_bd (fun j => rngs_at HL.out.2) k hk
      have bd1 := addK_bd (fun j => rngs_at HL.out.2) (k + 1) hlt
      have hs : Hid (addK xs (k + 1) = ((addK xs k).1 + (at0 xs k).lo, (addK xs k).2 + (at0 xs k).hi)) := rfl
      rw [hs.out] at bd1
      obtain ⟨p, hp⟩ : ∃ p, addK xs k = p := ⟨_, rfl⟩
      obtain ⟨q, hq⟩ : ∃ q, at0 xs k = q := ⟨_, rfl⟩
      rw [hp, hq] at hs bd1
      rw [hp] at bd
      rw [hp]
      rw [hq] at e0 e1 e01 e11
      have c1 : IntKind.i64.wrap (p.1 + q.lo) = p.1 + q.lo := IntWalk.i64_in _ (by simp only at bd1; omega)
      have c2 : IntKind.i64.wrap (p.2 + q.hi) = p.2 + q.hi := IntWalk.i64_in _ (by simp only at bd1; omega)
      clear bd bd1 hp hq
      go_upto_region 11 with (fail)
      refine wp_region_below_lit (by kernel_rfl) (by kernel_rfl) ?_
      repeat (go_big_quiet_step (fail))
      refine wpQuiet_nil ?_
      intro w1 hb1
      obtain ⟨u4, rfl⟩ := ovr_next hb1
      clear hb1 e0 e1 e01 e11
      go_wp2_with fail
      go_roundw
      case rel => exact ⟨k + 1, by omega, by go_num, by rw [hs.out], by rw [hs.out], u4, rfl⟩
      case measure => simp [intOf]; omega
    · obtain rfl : k = xs.length := by omega
      have hqd := addK_bd (fun j => rngs_at HL.out.2) xs.length (Nat.le_refl _)
      have hpt := addK_part (fun j => rngs_at HL.out.2) xs.length (Nat.le_refl _)
      obtain ⟨q, hq⟩ : ∃ q, addK xs xs.length = q := ⟨_, rfl⟩
      rw [hq] at hf hqd hpt
      rw [hq]
      clear hq
      have Hpt := Lib.hid hpt
      have hce := Lib.hid (cu_empty (q := q) (r := r) hqd.2.1 Hv.out.2.2)
      clear hpt
      by_cases h2 : r.hi < q.1 ∨ q.2 < r.lo
      · rw [if_pos (hce.out.2 h2)] at hf
        have h3 : (decide (r.hi < q.1) = true) ∨ (decide (r.hi < q.1) = false ∧ decide (q.2 < r.lo) = true) := by simp only [decide_eq_true_eq, decide_eq_false_iff_not]; omega
        clear h2
        rcases h3 with h3 | ⟨h3, h4⟩
        all_goals
          go_wp2_with (refine wpList_store_row rfl 38 _ _ rfl (w.heap.size + 1) rfl _ _ (RrowW1.out _) _ rfl (one2 rfl rfl) rfl (by kernel_rfl) ?_)
          refine bodyPost_ret (results_tmp_cell_tmp rfl _ _ (w.heap.size + 1) 38 _ (0, 0) _ rfl (setRow_same (RrowW1.out _)) Try.underlying38 rfl (by kernel_rfl)) rfl ?_
          exact ⟨none, 0, 0, by rw [hf.out]; rfl, by rw [hf.out]; rfl, Nat.le_refl _, Rd.nil, below_setRow (HUW.out _) (by omega) _⟩
      rw [if_neg (fun h => h2 (hce.out.1 h))] at hf
      have h3 : decide (r.hi < q.1) = false := decide_eq_false (by omega)
      have h4 : decide (q.2 < r.lo) = false := decide_eq_false (by omega)
      have Hqd := Lib.hid hqd
      clear h2 hce hqd
      go_wp2_with fail
      go_loopw [8, 12] (fun v i wr => ∃ k : Nat, k ≤ xs.length ∧ i = .int .i64 k ∧ SoC 38 2 W.heap.size k (rc (mk (naR q r) xs k)) v wr ∧ ∃ u, wr = ovr W u) (fun _ i _ => xs.length - (intOf i).toNat)
      case atStart => exact ⟨0, by omega, rfl, .inl ⟨rfl, rfl, qb, rfl⟩, u, rfl⟩
      case round =>
        obtain ⟨k, hk, rfl, hso, u5, rfl⟩ := hrel
        by_cases hlt : k < xs.length
        · have hpk := Hpt.out k hlt
          have hrr := rngOk_iff.1 (rngs_at HL.out.2 hlt)
          have hq2 := Hqd.out
          have hv2 := Hv.out
          have HSo := Lib.hid hso
          obtain ⟨b, o, rfl, _, e0, e1⟩ := (HX.out _ (HUW.out u5)).1.rng hlt
          have e01 := ovr_cell e0
          have e11 := ovr_cell e1
          obtain ⟨x, hx⟩ : ∃ x, at0 xs k = x := ⟨_, rfl⟩
          have hmk : Hid (rc (mk (naR q r) xs (k + 1)) = rc (mk (naR q r) xs k) ++ [I (naR q r x).lo, I (naR q r x).hi]) := by show _ = _; rw [mk_succ, hx, rc_app]
          rw [hx] at e0 e1 e01 e11 hrr
          have c1 : IntKind.i64.wrap (q.1 - x.lo) = q.1 - x.lo := IntWalk.i64_in _ (by omega)
          have c2 : IntKind.i64.wrap (q.2 - x.hi) = q.2 - x.hi := IntWalk.i64_in _ (by omega)
          have c3 : IntKind.i64.wrap (r.lo - (q.2 - x.hi)) = r.lo - (q.2 - x.hi) := IntWalk.i64_in _ (by omega)
          have c4 : IntKind.i64.wrap (r.hi - (q.1 - x.lo)) = r.hi - (q.1 - x.lo) := IntWalk.i64_in _ (by omega)
          have HXx := Lib.hid hx
          clear hx hpk hrr hq2 hv2 hso
          go_upto_region 17 with (fail)
          refine wp_region_below_lit (by kernel_rfl) (by kernel_rfl) ?_
          repeat (go_big_quiet_step (fail))
          refine wpQuiet_nil ?_
          intro w1 hb1
          have hso6 := HSo.out.over hb1
          obtain ⟨u6, rfl⟩ := ovr_next hb1
          clear hb1 e0 e1 e01 e11
          go_upto_region 18 with (fail)
          have hbY := ovr_below W u6
          obtain ⟨Y, hY⟩ : ∃ Y, Y = ovr W u6 := ⟨_, rfl⟩
          rw [← hY] at hbY
          rw [← hY]
          have hY' := Lib.hid hY
          clear hY
          have hbY' := Lib.hid hbY
          have reY : ∀ v, ∃ x, ovr Y v = ovr W x := fun v => ovr_reB hbY v
          replace yW00 := tr_cell reY yW00
          replace yW01 := tr_cell reY yW01
          replace RrowW0 := Lib.hid (tr_row reY RrowW0.out)
          replace yW10 := tr_cell reY yW10
          replace yW11 := tr_cell reY yW11
          replace RrowW1 := Lib.hid (tr_row reY RrowW1.out)
          have HUY : Hid (∀ u, Below w.heap.size w (ovr Y u)) := fun u => by obtain ⟨x, hx⟩ := reY u; rw [hx]; exact HUW.out x
          clear reY hbY
          rw [← hY'.out] at hso6
          have HSo6 := Lib.hid hso6
          have hbY : Below w.heap.size w Y := below_self HUY.out
          obtain ⟨b', o', hA, _, e0, e1⟩ := (HX.out _ hbY).1.rng hlt
          (injection hA with ea; injection ea with ea1 ea2; subst ea1 ea2)
          rw [HXx.out] at e0 e1
          have e01 := ovr_cell e0
          have e11 := ovr_cell e1
          have hWY := hbY'.out
          clear hso6 hbY
          refine wp_region_seq2 23 (fun j => if j = 22 then some (SlNew Y #[I (max x.lo (r.lo - (q.2 - x.hi))), I (min x.hi (r.hi - (q.1 - x.lo)))] 38) else none) (by kernel_rfl) (by kernel_rfl) (by kernel_rfl) (by kernel_rfl) (by kernel_rfl) ?_
          simp only [List.take_succ_cons, List.take_zero, List.drop_succ_cons, List.drop_zero]
          repeat (refine wpG_one rfl rfl rfl ?_; intro K hK; go_big_quiet_op; go_big_quiet_on)
          refine wpG_make (SlNew Y #[I (max x.lo (r.lo - (q.2 - x.hi))), I (min x.hi (r.hi - (q.1 - x.lo)))] 38) rfl rfl (fun w' hw' _ => ?_) (fun u hu => ?_)
          · go_simp
            exact slnew_grow hw'
          obtain ⟨_, _, bn, rfl, _, _⟩ := hu
          simp only [Act.put, List.setIfInBounds_toArray, List.set_cons_zero, List.set_cons_succ]
          refine wpG_nil (fun w5 hw5 hG => ?_)
          have hn := (Box.now hG.2).at
          obtain ⟨u7, rfl⟩ : ∃ z, w5 = ovr Y z := ⟨w5, ovr_of hw5.le⟩
          clear hG hw5
          refine wpTailIn_cons Wd.wide (by intro c h; cases h) ?_
          refine wp_app_soc _ _ 36 rfl 38 i0 _ 2 16 Try.underlying36 hi0 iz0 iz1 iz2 rfl (by decide) W.heap.size k (rc (mk (naR q r) xs k)) _ rfl (HSo6.out.over (ovr_below Y u7)) ⟨bn, 0, none⟩ 1 [I (max x.lo (r.lo - (q.2 - x.hi))), I (min x.hi (r.hi - (q.1 - x.lo)))] rfl rfl (news_lit hn.1) (by simp [Value.oneCell']) (Nat.le_trans hWY.size (ovr_below Y u7).size) (by omega) (by decide) ?_
          intro v' w2 hso2 hb2
          have hb3 : Below W.heap.size W w2 := hWY.trans (((ovr_below Y u7).mono hWY.size).trans hb2)
          have hso3 : Hid (SoC 38 2 W.heap.size (k + 1) (rc (mk (naR q r) xs (k + 1))) v' w2) := by show SoC _ _ _ _ _ _ _; rw [hmk.out]; exact hso2
          have HB3 := Lib.hid hb3
          clear hso2 hb2 hb3 hn e0 e1 e01 e11 hWY
          refine wpTailIn_cons Wd.wide (by intro c h; cases h) ?_
          refine wp_assign _ v' rfl rfl ?_
          refine wpTailIn_nil ?_
          simp only [Act.put, List.setIfInBounds_toArray, List.set_cons_zero, List.set_cons_succ]
          go_wp2_with fail
          go_roundw
          case rel => exact ⟨k + 1, by omega, by go_num, hso3.out, w2, ovr_of HB3.out⟩
          case measure => simp [intOf]; omega
        · obtain rfl : k = xs.length := by omega
          have he : mk (naR q r) xs xs.length = mk (naF q.1 q.2 (cuF ⟨q.1, q.2⟩ r)) xs xs.length := mk_congr _ (fun j hj => naR_eq (Hpt.out j hj))
          rw [he, rc_flat, mk_len] at hso
          obtain ⟨A', c', rfl, _, _, _⟩ := hso.rd
          have HSo := Lib.hid hso
          clear hso he
          go_upto_region 19 with (fail)
          have hbY := ovr_below W u5
          obtain ⟨Y, hY⟩ : ∃ Y, Y = ovr W u5 := ⟨_, rfl⟩
          rw [← hY] at hbY
          rw [← hY]
          have hY' := Lib.hid hY
          clear hY
          have hbY' := Lib.hid hbY
          have reY : ∀ v, ∃ x, ovr Y v = ovr W x := fun v => ovr_reB hbY v
          replace yW00 := tr_cell reY yW00
          replace yW01 := tr_cell reY yW01
          replace RrowW0 := Lib.hid (tr_row reY RrowW0.out)
          replace yW10 := tr_cell reY yW10
          replace yW11 := tr_cell reY yW11
          replace RrowW1 := Lib.hid (tr_row reY RrowW1.out)
          have HUY : Hid (∀ u, Below w.heap.size w (ovr Y u)) := fun u => by obtain ⟨x, hx⟩ := reY u; rw [hx]; exact HUW.out x
          clear reY hbY
          rw [← hY'.out] at HSo
          refine wp_region_seq 11 (fun _ => none) (by kernel_rfl) (by kernel_rfl) (by kernel_rfl) (by kernel_rfl) ?_
          simp only [List.take_succ_cons, List.take_zero, List.drop_succ_cons, List.drop_zero]
          repeat (first | (refine wpG_one rfl rfl rfl ?_; intro K hK; go_big_quiet_op; go_big_quiet_on) | (refine wpG_skip rfl ?_; simp only [Act.put, List.setIfInBounds_toArray, List.set_cons_zero, List.set_cons_succ]))
          refine wpG_nil (fun w5 hw5 hG => ?_)
          clear hG
          obtain ⟨u6, rfl⟩ : ∃ x, w5 = ovr Y x := ⟨w5, ovr_of hw5.le⟩
          clear hw5
          refine wpTail_cons ?_
          refine wp_store_row 38 _ _ rfl (w.heap.size + 1) rfl _ _ (RrowW1.out _) _ rfl (one2 rfl rfl) rfl (by kernel_rfl) ?_
          refine wpTail_cons ?_
          refine wp_assign _ (I 0) rfl rfl ?_
          refine wpTail_nil ?_
          simp only [Act.put, List.setIfInBounds_toArray, List.set_cons_zero, List.set_cons_succ]
          go_wp2_with fail
          refine bodyPost_ret (results_tmp_cell_tmp rfl _ _ (w.heap.size + 1) 38 _ (0, 0) _ rfl (setRow_same (RrowW1.out _)) Try.underlying38 rfl (by kernel_rfl)) rfl ?_
          have hW2 : w.heap.size + 1 < W.heap.size := by rw [HW.out]; simp
          have hfin := ((HSo.out.over (ovr_below Y u6)).set hW2 #[I (max q.1 r.lo), I (min q.2 r.hi)]).at
          exact ⟨A', xs.length, c', by rw [hf.out]; rfl, by rw [hf.out]; exact (mk_len _ _ _).symm, hfin.2.1, by rw [hf.out]; exact hfin.2.2.2, below_setRow (HUY.out _) (by omega) _⟩
end Go.Proofs.Ytmadlmmfbpmebaa
