/- The walk of the law UnitsAddUp. -/
import Derived.Test.YtmadlmmfbpmebaaJy
import Derived.Test.YtmadlmmfbpmebaaJd
namespace Go.Proofs.Ytmadlmmfbpmebaa
open Go.RowKit
theorem po_err {n : Int} {ws l : List Int} {z : Int} (h : poF n ws = (l, z)) (hz : z ≠ 0) : l.length = 0 := by
  unfold poF at h
  split at h
  · injection h with h1 _; rw [← h1]; rfl
  · split at h
    · split at h
      · injection h with h1 _; rw [← h1]; rfl
      · split at h
        · injection h with h1 _; rw [← h1]; rfl
        · injection h with _ h2; exact absurd h2.symm hz
    · injection h with h1 _; rw [← h1]; rfl
theorem md_down {n S al : Int} (hn : numB n = true) (hS : numB S = true) (ha : 1 ≤ al ∧ al ≤ 1000000000000000) (hU : numB (n * S / al) = true) : mdF n S al 1 = (n * S / al, n * S % al, 0) := by
  have hr : rnd (n * S) al 1 = (n * S / al, n * S % al) := rnd_no (by omega)
  unfold mdF
  rw [if_neg (by omega), if_neg (by rw [hn, hS]; simp; omega), hr, if_pos hU]
theorem flat_take (ws : List Int) {k : Nat} (h : k ≤ ws.length) : flat 1 (rI ws) k = (ws.take k).map fun x => I x := by
  rw [ints_flat, show (ws.take k).length = k by simp; omega]
  refine flat_congr fun j hj i _ => ?_
  show I _ = I _
  rw [at0_get (by omega), at0_get (by simp; omega)]
  simp
theorem flat_drop (ws : List Int) {k : Nat} (h : k ≤ ws.length) : flat 1 (fun j _ => I (at0 ws (k + j))) (ws.length - k) = (ws.drop k).map fun x => I x := by
  rw [ints_flat, show (ws.drop k).length = ws.length - k by simp]
  refine flat_congr fun j hj i _ => ?_
  show I _ = I _
  rw [at0_get (by omega), at0_get (by simp; omega)]
  simp
theorem news_drop {w : World} {B b o : Nat} {ws : List Int} (h : Rd w B 1 (some ⟨b, o, none⟩) ws.length (rI ws)) {k : Nat} (hk : k ≤ ws.length) : ∀ j u, ((ws.drop k).map fun x => I x)[j]? = some u → w.cell? ((⟨b, o + k, none⟩ : Addr).add j) = some u := by
  intro j u hu
  have hj : j < ws.length - k := by have := (List.getElem?_eq_some_iff.1 hu).1; simp at this; omega
  obtain ⟨b', o', hA, _, e0⟩ := h.int (show k + j < ws.length by omega)
  (injection hA with ea; injection ea with ea1 ea2; subst ea1 ea2)
  rw [addr_add, show o + k + j = o + (k + j) by omega, e0, at0_get (by omega), ← hu]
  have : k + j < ws.length := by omega
  simp [this]
def SoF (e : TypeId) (sz B n : Nat) (l : List Value) (u : Value) (w : World) : Prop := SoC e sz B n l u w
theorem so_grow {P : Program} {f : FuncId} {args : Array Value} {w : World} {e : TypeId} {sz n B : Nat} {g : Nat → Nat → Value} (hB : B ≤ w.heap.size) (h : Calls P f args w (RetSo w e sz n g)) : Calls P f args w fun en w' => ∃ u, en = .returned u ∧ Le w w' ∧ Box (SoF e sz B n (flat sz g n)) u w' :=
  h.mono fun _ _ ⟨u, he, hs, hb⟩ => ⟨u, he, hb, fun _ hl => (hs.base hB).over hl⟩
set_option maxRecDepth 100000 in
set_option maxHeartbeats 8000000 in
theorem unitsAddUp_any (n : Int) (A : Option Addr) (c : Nat) (ws : List Int) (k8 : Int) (w : World) (_ : -9223372036854775808 ≤ n ∧ n ≤ 9223372036854775807) (hc : ws.length ≤ c) (hm : c ≤ maxLen) (hx : Rd w w.heap.size 1 A ws.length (rI ws))
    (_ : ∀ j, j < ws.length → -9223372036854775808 ≤ at0 ws j ∧ at0 ws j ≤ 9223372036854775807) (hk8 : 0 ≤ k8 ∧ k8 ≤ 255) :
    Calls Try.prog 8 #[I n, .slice A ws.length c, .int .u8 k8] w fun e w' => e = .returned (.bool true) ∧ Below w.heap.size w w' := by
  have ck := Lib.hid fun W => known_any W
  obtain ⟨i0, hi0, iz0, iz1, iz2⟩ := info_parts intK_info
  by_cases hl : 100 < ws.length
  · have hb : decide (100 < (ws.length : Int)) = true := decide_eq_true (by omega)
    clear hx hc hm hl hk8
    go_enter Try.func8, Try.ntmps8
    go_wp2_with fail
    refine (ck.out _).mono ?_
    rintro e w1 ⟨rfl, hb1⟩
    have HB := Lib.hid hb1
    clear hb1
    go_wp2_with fail
    go_ret
    exact ⟨rfl, HB.out⟩
  have hb : decide (100 < (ws.length : Int)) = false := decide_eq_false (by omega)
  have hl100 : ws.length ≤ 100 := by omega
  have co := Lib.hid (ownInts_any A ws.length c (rI ws) w w.heap.size (by omega) (Nat.le_refl _) hx)
  have cp : Hid (∀ W' A' c', Rd W' W'.heap.size 1 A' ws.length (rI ws) → Calls Try.prog 24 #[I n, .slice A' ws.length c'] W' (RetI W' (poF n ws))) := fun W' A' c' h => portions_any A' ws.length c' n ws W' W'.heap.size rfl (by unfold maxLen; omega) (Nat.le_refl _) h
  obtain ⟨⟨l, z⟩, hq⟩ : ∃ q, poF n ws = q := ⟨_, rfl⟩
  have Hq := Lib.hid hq
  rw [hq] at cp
  have HC := Lib.hid (And.intro hc hm)
  clear hq hl hc hm
  go_enter Try.func8, Try.ntmps8
  go_wp2_with fail
  refine co.out.mono ?_
  rintro e X0 ⟨A', c', rfl, _, _, h3, hb0⟩
  have Cp := Lib.hid (cp.out X0 A' c' h3)
  have HB0 := Lib.hid hb0
  clear h3 hb0 cp co
  go_wp2_with fail
  refine Cp.out.mono ?_
  rintro e X1 ⟨A1, n1, d1, rfl, rfl, _, hr1, hb1⟩
  have hb01 := HB0.out.trans (hb1.mono HB0.out.size)
  have HB1 := Lib.hid hb01
  have hxx := hx.below hb01
  clear hb1 Cp hx
  by_cases hz : z = 0
  case neg =>
    have hl0 := po_err Hq.out hz
    have z1 : (z == 0) = false := by simpa using hz
    have z2 : (z != 0) = true := by simpa using hz
    have l1 : ((l.length : Int) == 0) = true := by rw [hl0]; rfl
    have Hl0 := Lib.hid hl0
    clear hz hl0 hr1 hxx hb01
    go_wp2_with fail
    refine (ck.out _).mono ?_
    rintro e w2 ⟨rfl, hb2⟩
    have HB2 := Lib.hid (HB1.out.trans (hb2.mono HB1.out.size))
    clear hb2
    go_wp2_with fail
    go_ret
    exact ⟨rfl, HB2.out⟩
  subst hz
  obtain ⟨p1, p2, _, p4, p5⟩ := po_ok Hq.out
  have hll : l.length = ws.length := by rw [p5, parL_len]
  obtain ⟨al, hal⟩ : ∃ al, sumK ws ws.length = al := ⟨_, rfl⟩
  rw [hal] at p4 p5
  have HX : Hid (∀ W', Below X1.heap.size X1 W' → Rd W' w.heap.size 1 A ws.length (rI ws) ∧ Rd W' X1.heap.size 1 A1 ws.length (rI l) ∧ w.heap.size ≤ W'.heap.size ∧ X1.heap.size ≤ W'.heap.size) := fun W' h =>
    ⟨hxx.below (h.mono hb01.size), by rw [hll] at hr1; exact hr1.below h, Nat.le_trans hb01.size h.size, h.size⟩
  have Hal := Lib.hid hal
  have Hn := Lib.hid p1
  have Hno := Lib.hid p2
  have Ha := Lib.hid p4
  have Hl := Lib.hid p5
  have Hpa : Hid (∀ j, j < ws.length → at0 l j = upF2 n al ws (j + 1) - upF2 n al ws j) := fun j hj => by rw [Hl.out, parL_at hj]; rfl
  have Hmo : Hid (∀ j k, j ≤ k → k ≤ ws.length → upF2 n al ws j ≤ upF2 n al ws k) := fun j k h1 h2 => up_mono Hn.out.1 Ha.out.1 Hno.out h1 h2
  have Hub : Hid (∀ j, j ≤ ws.length → 0 ≤ upF2 n al ws j ∧ upF2 n al ws j ≤ n) := fun j hj => by
    have h1 := sumK_bd Hno.out j hj
    have h2 := sumK_mono Hno.out ws.length (Nat.le_refl _) j hj
    rw [Hal.out] at h2
    have := upF2_bd (ws := ws) Hn.out Ha.out.1 h1.1 h2
    exact ⟨this.1, this.2.1⟩
  have Hue : Hid (upF2 n al ws ws.length = n) := by show upF2 n al ws ws.length = n; unfold upF2; rw [Hal.out]; exact Int.mul_ediv_cancel _ (by have := Ha.out; omega)
  clear hxx hr1 p1 p2 p4 p5 hal hb01
  obtain ⟨u0, hu0⟩ := ovr_self X1
  have H0 := Lib.hid hu0
  rw [hll]
  clear hu0 hll
  have l1 : ((ws.length : Int) != (ws.length : Int)) = false := by simp
  go_wp2_with fail
  go_loopw [9, 12] (fun s i wr => ∃ k : Nat, k ≤ ws.length ∧ i = .int .i64 k ∧ s = I (sumK ws k) ∧ ∃ u, wr = ovr X1 u) (fun _ i _ => ws.length - (intOf i).toNat)
  case atStart => exact ⟨0, by omega, rfl, rfl, u0, H0.out⟩
  case round =>
    obtain ⟨k, hk, rfl, rfl, u, rfl⟩ := hrel
    by_cases hlt : k < ws.length
    · have hltb : decide ((k : Int) < (ws.length : Int)) = true := decide_eq_true (by omega)
      obtain ⟨b, o, rfl, _, e0⟩ := (HX.out _ (ovr_below X1 u)).1.int hlt
      have hs : Hid (sumK ws (k + 1) = sumK ws k + at0 ws k) := rfl
      have hb1 := sumK_bd Hno.out (k + 1) hlt
      rw [hs.out] at hb1
      have c1 : IntKind.i64.wrap (sumK ws k + at0 ws k) = sumK ws k + at0 ws k := IntWalk.i64_in _ (by omega)
      generalize at0 ws k = x at *
      clear hb1
      go_wp2_with fail
      go_roundw
      case rel => exact ⟨k + 1, by omega, by go_num, by rw [hs.out], u, rfl⟩
      case measure => simp [intOf]; omega
    · obtain rfl : k = ws.length := by omega
      have hltb : decide ((ws.length : Int) < (ws.length : Int)) = false := decide_eq_false (by omega)
      rw [Hal.out]
      go_wp2_with fail
      go_loopw [10, 11, 13] (fun p s i wr => ∃ k : Nat, k ≤ ws.length ∧ i = .int .i64 k ∧ p = I (upF2 n al ws k) ∧ s = I (sumK ws k) ∧ ∃ u, wr = ovr X1 u) (fun _ _ i _ => ws.length - (intOf i).toNat)
      case atStart => exact ⟨0, by omega, rfl, by unfold upF2 sumK; simp, rfl, u, rfl⟩
      case round =>
        obtain ⟨k, hk, rfl, rfl, rfl, u1, rfl⟩ := hrel
        by_cases hlt : k < ws.length
        · have hltb : decide ((k : Int) < (ws.length : Int)) = true := decide_eq_true (by omega)
          obtain ⟨b, o, hA, _, e0⟩ := (HX.out _ (ovr_below X1 u1)).1.int hlt
          obtain ⟨b', o', hA', _, e1⟩ := (HX.out _ (ovr_below X1 u1)).2.1.int hlt
          have hs : Hid (sumK ws (k + 1) = sumK ws k + at0 ws k) := rfl
          have hb1 := sumK_bd Hno.out (k + 1) hlt
          have hb0 := sumK_bd Hno.out k hk
          have hm1 := sumK_mono Hno.out ws.length (Nat.le_refl _) (k + 1) hlt
          rw [Hal.out] at hm1
          have hxb := noP_at Hno.out hlt
          have hpa := Hpa.out k hlt
          have hmo := Hmo.out k (k + 1) (by omega) hlt
          have hu1 := Hub.out (k + 1) hlt
          have hu0 := Hub.out k hk
          have hn := Hn.out
          have ha := Ha.out
          have hmd := md_down (n := n) (S := sumK ws (k + 1)) (al := al) (numB_iff.2 (by omega)) (numB_iff.2 (by omega)) ha (numB_iff.2 (by show _ ∧ upF2 n al ws (k + 1) ≤ _; have : 0 ≤ upF2 n al ws (k + 1) := hu1.1; unfold upF2 at this ⊢; unfold upF2 at hu1; omega))
          have cm := Lib.hid fun W => muldiv_any n (sumK ws (k + 1)) al 1 W (by omega) (by omega) (by omega)
          rw [hmd] at cm
          have hz0 : at0 ws k = 0 → upF2 n al ws (k + 1) = upF2 n al ws k := fun h => by unfold upF2; rw [hs.out, h, Int.add_zero]
          obtain ⟨U1, hU1⟩ : ∃ U, upF2 n al ws (k + 1) = U := ⟨_, rfl⟩
          have hU1' : n * sumK ws (k + 1) / al = U1 := hU1
          rw [hU1'] at cm
          obtain ⟨S1, hS1⟩ : ∃ S, sumK ws (k + 1) = S := ⟨_, rfl⟩
          rw [hU1] at hpa hmo hu1 hz0
          rw [hS1] at hs hb1 hm1 cm
          have HU1 := Lib.hid hU1
          have HS1 := Lib.hid hS1
          generalize upF2 n al ws k = U0 at *
          generalize sumK ws k = S0 at *
          generalize at0 ws k = x at *
          generalize at0 l k = y at *
          generalize n * S1 % al = R at *
          subst hA
          have f0 := ovr_cell e0
          subst hA'
          have f1 := ovr_cell e1
          have y1 : decide (y < 0) = false := decide_eq_false (by omega)
          have y2 : decide (n < y) = false := decide_eq_false (by omega)
          have c1 : IntKind.i64.wrap (U0 + y) = U1 := by rw [IntWalk.i64_in _ (by omega)]; omega
          have c2 : IntKind.i64.wrap (S0 + x) = S1 := by rw [IntWalk.i64_in _ (by have := hs.out; omega)]; exact hs.out.symm
          have u1n : (U1 != U1) = false := by simp
          have hxy : ((x == 0) = true ∧ (y != 0) = false) ∨ (x == 0) = false := by
            rcases hx0 : (x == 0) with _ | _
            · exact .inr rfl
            · have := hz0 (by simpa using hx0)
              exact .inl ⟨rfl, by simp; omega⟩
          clear hpa hmo hu1 hu0 hn ha hmd hz0 hU1 hU1' hS1 hb1 hb0 hm1 hxb hs
          rcases hxy with ⟨x1, x2⟩ | x1
          all_goals
            go_upto_region 18 with (fail)
            refine wp_region_below_lit (by kernel_rfl) (by kernel_rfl) ?_
            repeat (go_big_quiet_step (fail))
            refine wpQuiet_nil ?_
            intro w1 hb1
            obtain ⟨u2, rfl⟩ := ovr_next hb1
            clear hb1 e0 e1 f0 f1
            go_wp2_with fail
            refine (cm.out _).mono ?_
            rintro e w1 ⟨rfl, hb1⟩
            obtain ⟨u3, rfl⟩ := ovr_next hb1
            clear hb1
            go_wp2_with fail
            go_roundw
            case rel => exact ⟨k + 1, by omega, by go_num, by rw [HU1.out], by rw [HS1.out], u3, rfl⟩
            case measure => simp [intOf]; omega
        · obtain rfl : k = ws.length := by omega
          have hltb : decide ((ws.length : Int) < (ws.length : Int)) = false := decide_eq_false (by omega)
          rw [Hue.out]
          have nn : (n != n) = false := by simp
          obtain ⟨K, hK⟩ : ∃ K : Nat, k8 = K := ⟨k8.toNat, by omega⟩
          subst hK
          have k1 : IntKind.i64.wrap (K : Int) = (K : Int) := IntWalk.i64_in _ (by omega)
          have k2 : IntKind.i64.wrap ((K : Int) + 1) = ((K + 1 : Nat) : Int) := by rw [IntWalk.i64_in _ (by omega)]; rfl
          by_cases hkl : ws.length ≤ K + 1
          · have hkb : decide ((ws.length : Int) ≤ ((K + 1 : Nat) : Int)) = true := decide_eq_true (by omega)
            go_wp2_with fail
            refine (ck.out _).mono ?_
            rintro e w2 ⟨rfl, hb2⟩
            have HB2 := Lib.hid (HB1.out.trans (((ovr_below X1 u1).trans (hb2.mono (ovr_below X1 u1).size)).mono HB1.out.size))
            clear hb2
            go_wp2_with fail
            go_ret
            exact ⟨rfl, HB2.out⟩
          have hkb : decide ((ws.length : Int) ≤ ((K + 1 : Nat) : Int)) = false := decide_eq_false (by omega)
          go_upto_region 27 with (fail)
          have hK1 : K + 1 < ws.length := by omega
          obtain ⟨b, o, rfl, _, e0⟩ := (HX.out _ (ovr_below X1 u1)).1.int (show K < ws.length by omega)
          obtain ⟨b', o', hA, _, e1⟩ := (HX.out _ (ovr_below X1 u1)).1.int hK1
          (injection hA with ea; injection ea with ea1 ea2; subst ea1 ea2)
          have hY := ovr_below X1 u1
          obtain ⟨Y, hYe⟩ : ∃ Y, Y = ovr X1 u1 := ⟨_, rfl⟩
          rw [← hYe] at e0 e1 hY ⊢
          clear hYe
          have f0 := ovr_cell e0
          have f1 := ovr_cell e1
          have hwK := noP_at Hno.out (show K < ws.length by omega)
          have hwK1 := noP_at Hno.out hK1
          have c1 : IntKind.i64.wrap (at0 ws K + at0 ws (K + 1)) = at0 ws K + at0 ws (K + 1) := IntWalk.i64_in _ (by omega)
          have HK := Lib.hid hK1
          have kc : (K : Int) ≤ (c : Int) := by have := HC.out; omega
          have kn : (0 : Int) ≤ (K : Int) := by omega
          have c0 : ¬ c = 0 := by have := HC.out; omega
          have HY := Lib.hid hY
          clear e0 e1 hwK hwK1 hkl hlt hK1 hY
          have co : Hid (∀ W', Le Y W' → Calls Try.prog 23 #[.slice (some ⟨b, o, none⟩) K c] W' (RetSo W' 3 1 K (rI ws))) := fun W' h => ownIntsS_any (some ⟨b, o, none⟩) K c (rI ws) W' w.heap.size (by have := HK.out; omega) (by have := (HX.out W' (HY.out.trans (h.mono HY.out.size))).2.2.1; exact this) ((HX.out W' (HY.out.trans (h.mono HY.out.size))).1.cap (by have := HK.out; omega))
          refine wp_region_seq2 15 (fun j => if j = 3 then some (SoF 3 1 Y.heap.size K (flat 1 (rI ws) K)) else if j = 14 then some (SlNew Y #[I (at0 ws K + at0 ws (K + 1))] 3) else none) (by kernel_rfl) (by kernel_rfl) (by kernel_rfl) (by kernel_rfl) (by kernel_rfl) ?_
          simp only [List.take_succ_cons, List.take_zero, List.drop_succ_cons, List.drop_zero]
          repeat (refine wpG_one rfl rfl rfl ?_; intro K' hK'; go_big_quiet_op; go_big_quiet_on)
          refine wpG_make (SoF 3 1 Y.heap.size K (flat 1 (rI ws) K)) rfl rfl (fun w' hw' _ => ?_) (fun v1 _ => ?_)
          · go_simp
            exact so_grow hw'.le.size (co.out w' hw'.le)
          simp only [Act.put, List.setIfInBounds_toArray, List.set_cons_zero, List.set_cons_succ]
          repeat (refine wpG_one rfl rfl rfl ?_; intro K' hK'; go_big_quiet_op; go_big_quiet_on)
          refine wpG_make (SlNew Y #[I (at0 ws K + at0 ws (K + 1))] 3) rfl rfl (fun w' hw' _ => ?_) (fun u hu => ?_)
          · go_simp
            exact slnew_grow hw'
          obtain ⟨_, _, bn, rfl, _, _⟩ := hu
          simp only [Act.put, List.setIfInBounds_toArray, List.set_cons_zero, List.set_cons_succ]
          refine wpG_nil (fun w5 hw5 hG => ?_)
          have hn := (Box.now hG.2).at
          have hso : SoC 3 1 Y.heap.size K (flat 1 (rI ws) K) v1 w5 := Box.now hG.1.2
          rw [flat_take ws (by have := HK.out; omega)] at hso
          have hb5 := hw5.le
          clear hG hw5 f0 f1 c1 kc kn c0 co
          have hbY := HY.out
          refine wpTailIn_cons Wd.wide (by intro c h; cases h) ?_
          refine wp_app_soc _ _ 30 rfl 3 i0 _ 1 8 Try.underlying30 hi0 iz0 iz1 iz2 rfl (by decide) Y.heap.size K ((ws.take K).map fun x => I x) _ rfl hso ⟨bn, 0, none⟩ 1 [I (at0 ws K + at0 ws (K + 1))] rfl rfl (news_lit hn.1) (by simp [Value.oneCell']) hb5.size (by have := HK.out; omega) (by decide) ?_
          intro v' w2 hso2 hb2
          have hb3 : Below X1.heap.size X1 w2 := hbY.trans ((Below.trans hb5 hb2).mono hbY.size)
          have hso3 : SoC 3 1 X1.heap.size (K + 1) ((ws.take K ++ [at0 ws K + at0 ws (K + 1)]).map fun x => I x) v' w2 := by rw [List.map_append]; exact hso2.base hbY.size
          clear hso2 hso hb2 hn hbY hb5 HY
          refine wpTailIn_cons Wd.wide (by intro c h; cases h) ?_
          refine wp_assign _ v' rfl rfl ?_
          refine wpTailIn_nil ?_
          simp only [Act.put, List.setIfInBounds_toArray, List.set_cons_zero, List.set_cons_succ]
          replace hso3 := hso3.resolve_left (by intro h; cases h.1)
          obtain ⟨L1, hL1⟩ : ∃ L1, ((ws.take K ++ [at0 ws K + at0 ws (K + 1)]).map fun x => I x) = L1 := ⟨_, rfl⟩
          rw [hL1] at hso3
          have HL1 := Lib.hid hL1
          have HS3 := Lib.hid hso3
          clear hL1
          have HB3 := Lib.hid hb3
          clear hso3 hb3
          go_upto_region 28 with (fail)
          have hK1 := HK.out
          have k3 : IntKind.i64.wrap ((K : Int) + 2) = ((K + 2 : Nat) : Int) := by rw [IntWalk.i64_in _ (by omega)]; rfl
          have k4 : (0 : Int) ≤ ((K + 2 : Nat) : Int) := by omega
          have k5 : ((K + 2 : Nat) : Int) ≤ (ws.length : Int) := by omega
          clear hK1
          have hx2 := (HX.out w2 HB3.out).1
          have hsz2 := (HX.out w2 HB3.out).2.2.2
          have hnw : ∃ ad : Addr, ∃ cc : Nat, ∃ L2 : List Value, L2 = ((ws.drop (K + 2)).map fun x => I x) ∧ L2.length = ws.length - (K + 2) ∧ (∀ u ∈ L2, u.oneCell' = true) ∧ (if c = K + 2 then (some ⟨b, o, none⟩ : Option Addr) else some ⟨b, o + (K + 2), none⟩) = some ad ∧ c - (K + 2) = cc ∧ ∀ j u, L2[j]? = some u → w2.cell? (ad.add j) = some u := by
            have := HK.out
            have hcc := HC.out
            by_cases hcK : c = K + 2
            · exact ⟨_, _, _, rfl, by simp, by intro u hu; obtain ⟨x, _, rfl⟩ := List.mem_map.1 hu; rfl, if_pos hcK, rfl, fun j u hu => by rw [List.drop_eq_nil_of_le (by omega)] at hu; cases hu⟩
            · exact ⟨_, _, _, rfl, by simp, by intro u hu; obtain ⟨x, _, rfl⟩ := List.mem_map.1 hu; rfl, if_neg hcK, rfl, news_drop hx2 (by omega)⟩
          have HK2 := HK
          clear hx2
          have HX2 : Hid (∀ W' A' c', Rd W' W'.heap.size 1 A' (ws.length - 1) (rI (joW ws K)) → Calls Try.prog 24 #[I n, .slice A' (ws.length - 1) c'] W' (RetI W' (parL n al (joW ws K) (ws.length - 1), 0))) := fun W' A' c' h => by
            have := portions_any A' (ws.length - 1) c' n (joW ws K) W' W'.heap.size (joW_len HK.out).symm (by have := HC.out; omega) (Nat.le_refl _) h
            rw [joW_po HK.out Hq.out, Hal.out] at this
            exact this
          have LJ : Hid (∀ j, j < ws.length - 1 → at0 (parL n al (joW ws K) (ws.length - 1)) j = if j = K then at0 l K + at0 l (K + 1) else if K < j then at0 l (j + 1) else at0 l j) := fun j hj => by
            have h1 := HK.out
            have h2 : ∀ i, i < ws.length → at0 l i = parF n al ws i := fun i hi => by rw [Hl.out, parL_at hi]
            rw [parL_at hj, joW_par HK.out (by omega), h2 K (by omega), h2 (K + 1) h1, h2 (j + 1) (by omega), h2 j (by omega)]
          have k6 : IntKind.i64.wrap ((ws.length : Int) - 1) = ((ws.length - 1 : Nat) : Int) := by have := HK.out; rw [IntWalk.i64_in _ (by omega)]; omega
          have l2 : (((ws.length - 1 : Nat) : Int) != ((ws.length - 1 : Nat) : Int)) = false := by simp
          by_cases hcK : c = K + 2
          all_goals
            first
              | (rw [if_pos hcK] at hnw
                 obtain ⟨_, cc, L2, hL2, hlen2, hone2, had, rfl, hnews⟩ := hnw
                 have HL2 := Lib.hid hL2
                 clear hL2
                 (injection had with had; subst had)
                 go_wp2_with (at_builtin; go_loud (refine wpList_append_own _ rfl _ _ 30 rfl X1.heap.size 3 i0 _ 1 8 Try.underlying30 hi0 iz0 iz1 iz2 rfl (by decide) v' (K + 1) _ rfl HS3.out ⟨b, o, none⟩ (ws.length - (K + 2)) _ L2 rfl (by rw [hlen2, Nat.mul_one]) hnews hone2 (by have := HK.out; have := HC.out; omega) (by have := HK.out; have := HC.out; unfold maxLen at this; omega) hsz2 ?_)))
              | (rw [if_neg hcK] at hnw
                 obtain ⟨_, cc, L2, hL2, hlen2, hone2, had, rfl, hnews⟩ := hnw
                 have HL2 := Lib.hid hL2
                 clear hL2
                 (injection had with had; subst had)
                 go_wp2_with (at_builtin; go_loud (refine wpList_append_own _ rfl _ _ 30 rfl X1.heap.size 3 i0 _ 1 8 Try.underlying30 hi0 iz0 iz1 iz2 rfl (by decide) v' (K + 1) _ rfl HS3.out ⟨b, o + (K + 2), none⟩ (ws.length - (K + 2)) _ L2 rfl (by rw [hlen2, Nat.mul_one]) hnews hone2 (by have := HK.out; have := HC.out; omega) (by have := HK.out; have := HC.out; unfold maxLen at this; omega) hsz2 ?_)))
            intro v2 w3 hown3 hgr3 _
            have hb3 : Below X1.heap.size X1 w3 := HB3.out.trans ((Below.refl _ _).grown hgr3 hsz2 (fun g hg => (HS3.out.lt g hg).1))
            have he : L1 ++ L2 = flat 1 (rI (joW ws K)) (ws.length - 1) := by rw [← HL1.out, HL2.out, ← List.map_append, ← joW_len HK.out, ← ints_flat]; rfl
            rw [he, show K + 1 + (ws.length - (K + 2)) = ws.length - 1 by have := HK.out; omega] at hown3
            obtain ⟨A3, c3, rfl, _, _, hr3⟩ := Rd.of_own_max hown3
            have Cp2 := Lib.hid (HX2.out w3 A3 c3 hr3)
            have HB4 := Lib.hid hb3
            clear hb3 hr3 hown3 hgr3 he hnews hone2 hlen2 hsz2 hcK HX2 k3 k4 k5
            go_wp2_with fail
            refine Cp2.out.mono ?_
            rintro e w4 ⟨A4, n4, d4, rfl, hn4, _, hr4, hb4⟩
            rw [show n4 = ws.length - 1 by rw [hn4]; exact parL_len _ _ _ _] at hr4 ⊢
            obtain ⟨l4, hl4⟩ : ∃ l4, parL n al (joW ws K) (ws.length - 1) = l4 := ⟨_, rfl⟩
            have LJ' := LJ
            rw [hl4] at LJ' hr4
            have HX4 : Hid (∀ u, Below X1.heap.size X1 (ovr w4 u) ∧ Rd (ovr w4 u) w4.heap.size 1 A4 (ws.length - 1) (rI l4)) := fun u =>
              ⟨HB4.out.trans ((hb4.trans ((ovr_below w4 u).mono hb4.size)).mono HB4.out.size), hr4.below (ovr_below w4 u)⟩
            clear hn4 hr4 hb4 hl4 Cp2
            obtain ⟨u4, hu4⟩ := ovr_self w4
            have H4 := Lib.hid hu4
            clear hu4
            go_upto_region 31 with (fail)
            rw [H4.out]
            go_wp2_with fail
            go_loopw [20] (fun i wr => ∃ j : Nat, j ≤ ws.length - 1 ∧ i = .int .i64 j ∧ ∃ u, wr = ovr w4 u) (fun i _ => ws.length - 1 - (intOf i).toNat)
            case atStart => exact ⟨0, by omega, rfl, u4, rfl⟩
            case round =>
              obtain ⟨j, hj, rfl, u5, rfl⟩ := hrel
              by_cases hjl : j < ws.length - 1
              · have hjb : decide ((j : Int) < ((ws.length - 1 : Nat) : Int)) = true := decide_eq_true (by omega)
                have hK1 := HK.out
                have hq := LJ'.out j hjl
                obtain ⟨hbx, hr4⟩ := HX4.out u5
                obtain ⟨b4, o4, rfl, _, g4⟩ := hr4.int hjl
                have hr1 := (HX.out _ hbx).2.1
                obtain ⟨b1, o1, hA1, _, g0⟩ := hr1.int (show j < ws.length by omega)
                obtain ⟨b5, o5, hA5, _, g1⟩ := hr1.int (show j + 1 < ws.length by omega)
                obtain ⟨b6, o6, hA6, _, g2⟩ := hr1.int (show K < ws.length by omega)
                obtain ⟨b7, o7, hA7, _, g3⟩ := hr1.int hK1
                rw [hA1] at hA5 hA6 hA7
                (injection hA5 with ea; injection ea with ea1 ea2; subst ea1 ea2)
                (injection hA6 with ea; injection ea with ea1 ea2; subst ea1 ea2)
                (injection hA7 with ea; injection ea with ea1 ea2; subst ea1 ea2)
                subst hA1
                have hsb : IntKind.i64.wrap (at0 l K + at0 l (K + 1)) = at0 l K + at0 l (K + 1) := IntWalk.i64_in _ (by
                  have h1 := Hpa.out K (by omega)
                  have h2 := Hpa.out (K + 1) hK1
                  have h3 := Hub.out K (by omega)
                  have h4 := Hub.out (K + 1 + 1) (by omega)
                  have h5 := Hn.out
                  omega)
                have g4 : ∀ u, (ovr w4 u).cell? ⟨b4, o4 + j, none⟩ = some (I (at0 l4 j)) := fun u => by
                  obtain ⟨b', o', hA', _, g'⟩ := (HX4.out u).2.int hjl
                  (injection hA' with ea; injection ea with ea1 ea2; subst ea1 ea2)
                  exact g'
                have kj : IntKind.i64.wrap ((j : Int) + 1) = ((j + 1 : Nat) : Int) := by rw [IntWalk.i64_in _ (by omega)]; rfl
                have kk : IntKind.i64.wrap ((K : Int) + 1) = ((K + 1 : Nat) : Int) := by rw [IntWalk.i64_in _ (by omega)]; rfl
                clear hbx hr4 hr1
                rcases Nat.lt_trichotomy j K with h | h | h
                · have e1 : ((j : Int) == (K : Int)) = false := by simp; omega
                  have e2 : decide ((K : Int) < (j : Int)) = false := decide_eq_false (by omega)
                  have n2 : decide (K < j) = false := decide_eq_false (by omega)
                  have n1 : ¬ j = K := by omega
                  have n3 : ¬ K < j := by omega
                  rw [if_neg (by omega), if_neg (by omega)] at hq
                  have f0 := ovr_cell g0
                  generalize at0 l j = y0 at *
                  generalize at0 l4 j = y4 at *
                  subst hq
                  have e3 : (y4 != y4) = false := by simp
                  clear f0 g1 g2 g3 h hK1 hsb kk kj
                  go_wp2_with fail
                  go_roundw
                  case rel => exact ⟨j + 1, by omega, by go_num, u5, rfl⟩
                  case measure => simp [intOf]; omega
                · subst h
                  have e1 : ((j : Int) == (j : Int)) = true := by simp
                  have e2 : decide ((j : Int) < (j : Int)) = false := decide_eq_false (by omega)
                  rw [if_pos rfl] at hq
                  have f0 := ovr_cell g0
                  have f1 := ovr_cell g1
                  generalize at0 l j = y0 at *
                  generalize at0 l (j + 1) = y1 at *
                  generalize at0 l4 j = y4 at *
                  subst hq
                  have e3 : (y0 + y1 != y0 + y1) = false := by simp
                  clear g2 g3 hK1
                  go_upto_region 36 with (fail)
                  refine wp_region_below_lit (by kernel_rfl) (by kernel_rfl) ?_
                  repeat (go_big_quiet_step (fail))
                  refine wpQuiet_nil ?_
                  intro w1 hb1
                  obtain ⟨u6, rfl⟩ := ovr_next hb1
                  clear hb1 g0 g1
                  go_wp2_with fail
                  go_roundw
                  case rel => exact ⟨j + 1, by omega, by go_num, u6, rfl⟩
                  case measure => simp [intOf]; omega
                · have e1 : ((j : Int) == (K : Int)) = false := by simp; omega
                  have e2 : decide ((K : Int) < (j : Int)) = true := decide_eq_true (by omega)
                  have n2 : decide (K < j) = true := decide_eq_true h
                  have n1 : ¬ j = K := by omega
                  have n3 : K < j := h
                  rw [if_neg (by omega), if_pos h] at hq
                  have f0 := ovr_cell g0
                  have f1 := ovr_cell g1
                  generalize at0 l j = y0 at *
                  generalize at0 l (j + 1) = y1 at *
                  generalize at0 l4 j = y4 at *
                  subst hq
                  have e3 : (y4 != y4) = false := by simp
                  clear f0 f1 g2 g3 h hK1 hsb kk
                  go_wp2_with fail
                  go_roundw
                  case rel => exact ⟨j + 1, by omega, by go_num, u5, rfl⟩
                  case measure => simp [intOf]; omega
              · obtain rfl : j = ws.length - 1 := by omega
                have hjb : decide (((ws.length - 1 : Nat) : Int) < ((ws.length - 1 : Nat) : Int)) = false := decide_eq_false (by omega)
                go_wp2_with fail
                refine (ck.out _).mono ?_
                rintro e w2 ⟨rfl, hb2⟩
                have hbx := (HX4.out u5).1
                have HB2 := Lib.hid (HB1.out.trans ((hbx.trans (hb2.mono hbx.size)).mono HB1.out.size))
                clear hb2 hbx
                go_wp2_with fail
                go_ret
                exact ⟨rfl, HB2.out⟩
end Go.Proofs.Ytmadlmmfbpmebaa
