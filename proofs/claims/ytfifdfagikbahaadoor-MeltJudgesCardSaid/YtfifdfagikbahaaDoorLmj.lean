/- The walk of the law MeltJudges. -/
import Derived.Test.YtfifdfagikbahaaDoorGra
import Derived.Test.YtfifdfagikbahaaDoorFo5
namespace Go.Proofs.YtfifdfagikbahaaDoor
open Go.RowKit
attribute [local go_sem] Oper.semAt_some
theorem JdF.un {m : Mlt} {l : List Stp} {s : Int} {t : Rng} {u : Value} {w : World} (h : JdF m l s t u w) : ∃ A n c, u = .tuple #[.slice A n c, I (jgE m l s t)] ∧ (jgE m l s t ≠ 0 → n = 0) ∧ (jgE m l s t = 0 → n = fzK l l.length) := by
  rcases h with ⟨h0, rfl⟩ | ⟨h0, A, c, rfl, _, _, _⟩
  · exact ⟨none, 0, 0, rfl, fun _ => rfl, fun h => absurd h h0⟩
  · exact ⟨A, _, c, by rw [h0], fun h => absurd h0 h, fun _ => rfl⟩
theorem JdF.at {m : Mlt} {l : List Stp} {s : Int} {t : Rng} {A : Option Addr} {n c : Nat} {x : Value} {w : World} (h0 : jgE m l s t = 0) (h : JdF m l s t (.tuple #[.slice A n c, x]) w) : Rd w w.heap.size 1 A n (gdV m l s.toNat t) := by
  rcases h with ⟨h1, _⟩ | ⟨_, A', c', he, _, _, hr⟩
  · exact absurd h0 h1
  · have e : some (Value.slice A n c) = some (.slice A' (fzK l l.length) c') := congrArg (fun v : Value => match v with | Value.tuple a => a[0]? | _ => none) he
    simp only [Option.some.injEq, Value.slice.injEq] at e
    obtain ⟨rfl, rfl, rfl⟩ := e
    exact hr
theorem run_sl (sl : Value) (R : Nat → Int) (W : World) : (Instr.field 35 (.agg (runArr sl R)) 0).run Tryd.prog W = .ok sl W := by kernel_rfl
/-- A species, a target, a slice. -/
abbrev aimArr (s : Int) (t : Rng) (ms : Int) (ct : Nat → Int) : Array Value := #[I s, I t.lo, I t.hi, I ms, I (ct 0), I (ct 1), I (ct 2), I (ct 3), I (ct 4), I (ct 5)]
theorem aim_at {W : World} {q : Nat} {ty : TypeId} {s : Int} {t : Rng} {ms : Int} {ct : Nat → Int} (h : W.heap[q]? = some (.cells (aimArr s t ms ct) ty (0, 0))) {k : Nat} (hk : k < 3) : W.cell? ⟨q, 4 + k * 2, none⟩ = some (I (ct (k * 2))) ∧ W.cell? ⟨q, 4 + k * 2 + 1, none⟩ = some (I (ct (k * 2 + 1))) := by
  rw [cell_of_row _ _ _ _ _ _ h, cell_of_row _ _ _ _ _ _ h]
  match k, hk with
  | 0, _ => exact ⟨rfl, rfl⟩
  | 1, _ => exact ⟨rfl, rfl⟩
  | 2, _ => exact ⟨rfl, rfl⟩
set_option maxRecDepth 100000 in
set_option maxHeartbeats 8000000 in
theorem meltJudges_any (m : Mlt) (A : Option Addr) (c : Nat) (l : List Stp) (s : Int) (t : Rng) (ms : Int) (ct : Nat → Int) (w : World) (hG : Glob w) (hx : Rd w w.heap.size 8 A l.length (rT l)) (hk : ∀ j, j < l.length → 0 ≤ (at0 l j).kd ∧ (at0 l j).kd ≤ 255) (hn : l.length ≤ maxLen) :
    Calls Tryd.prog 10 #[.agg (mltArr m), .slice A l.length c, .agg (aimArr s t ms ct)] w fun e w' => e = .returned (.bool true) ∧ Below w.heap.size w w' := by
  obtain ⟨W, hW⟩ : ∃ W, W = (w.alloc (.cells (mltArr m) 27)).alloc (.cells (aimArr s t ms ct) 81) := ⟨_, rfl⟩
  have hb0 : Below w.heap.size w W := by rw [hW]; exact ((Below.refl _ _).alloc (Nat.le_refl _) _).alloc (by simp) _
  have r0 : W.heap[w.heap.size]? = some (.cells (mltArr m) 27 (0, 0)) := by rw [hW]; exact heap_before (heap_last _ _ _ rfl)
  have r1 : W.heap[w.heap.size + 1]? = some (.cells (aimArr s t ms ct) 81 (0, 0)) := by rw [hW]; exact heap_last _ _ _ (by simp)
  have sW : w.heap.size + 2 = W.heap.size := by rw [hW]; simp
  have HW := Lib.hid hW
  have HY : Hid (∀ W', Below W.heap.size W W' → W'.heap[w.heap.size]? = some (.cells (mltArr m) 27 (0, 0)) ∧ W'.heap[w.heap.size + 1]? = some (.cells (aimArr s t ms ct) 81 (0, 0)) ∧ Rd W' w.heap.size 8 A l.length (rT l) ∧ Glob W' ∧ Below w.heap.size w W') := fun W' h => by
    have h' := hb0.trans (h.mono hb0.size)
    exact ⟨(h.block _ (by omega)).trans r0, (h.block _ (by omega)).trans r1, hx.below h', hG.below h', h'⟩
  have Hk := Lib.hid hk
  have Hn := Lib.hid hn
  have H0 : Hid (Below W.heap.size W W) := Below.refl _ _
  have hsW : w.heap.size ≤ W.heap.size := by omega
  clear hW hb0 r0 r1 hG hx hk hn sW
  go_enter Tryd.func10, Tryd.ntmps10
  go_upto_region 1 with (fail)
  rw [← HW.out]
  by_cases h60 : 60 < l.length
  · as_aux_lemma =>
      have d1 : decide (60 < (l.length : Int)) = true := decide_eq_true (by omega)
      clear h60
      go_wp2_with fail
      refine (known_any W (HY.out W H0.out).2.2.2.1).mono ?_
      rintro e wk ⟨rfl, hbk⟩
      have HK : Hid (Below W.heap.size W wk) := Below.trans H0.out (hbk.mono (Below.size H0.out))
      clear hbk
      go_wp2_with fail
      go_ret
      exact ⟨rfl, (HY.out wk HK.out).2.2.2.2⟩
  have d1 : decide (60 < (l.length : Int)) = false := decide_eq_false (by omega)
  have hl60 : l.length ≤ 60 := by omega
  clear h60
  -- the concentration
  obtain ⟨qq, hqq⟩ : ∃ q, cnA (ct (s.toNat * 2)) (ct (s.toNat * 2 + 1)) ms s = q := ⟨_, rfl⟩
  have pc := concentration_any ms ct s W
  rw [hqq] at pc
  have Hqq := Lib.hid hqq
  clear hqq
  obtain ⟨q1, q2, q3⟩ := qq
  have Pc := Lib.hid pc
  clear pc
  simp only at Pc
  have x := fun k v h => row_cl (HY.out W H0.out).2.1 k v h
  have x0 := x 0 _ rfl
  have x3 := x 3 _ rfl
  have x4 := x 4 _ rfl
  have x5 := x 5 _ rfl
  have x6 := x 6 _ rfl
  have x7 := x 7 _ rfl
  have x8 := x 8 _ rfl
  have x9 := x 9 _ rfl
  clear x
  go_wp2_with fail
  refine Pc.out.mono ?_
  rintro e X ⟨rfl, hbX⟩
  have HX := Lib.hid hbX
  have zX := hbX.size
  clear hbX x0 x3 x4 x5 x6 x7 x8 x9 Pc
  go_upto_region 4 with (fail)
  refine name_w fun V hV => ?_
  try simp only [Act.put]
  obtain ⟨rb, hrb⟩ : ∃ q, X.heap.size = q := ⟨_, rfl⟩
  have rV : V.heap[rb]? = some (.cells #[I q1, I q2] 23 (0, 0)) := by rw [hV, ← hrb]; exact heap_last _ _ _ rfl
  have bV : Below W.heap.size W V := by rw [hV]; exact HX.out.alloc zX _
  have HV := Lib.hid bV
  have HrV := Lib.hid rV
  have zV := bV.size
  have hrl := (Array.getElem?_eq_some_iff.1 rV).1
  rw [hrb]
  clear hV bV rV HX zX hrb
  have x := fun k v h => ovr_cell (row_cl (HY.out V HV.out).2.1 k v h)
  have x0 := x 0 _ rfl
  have x1 := x 1 _ rfl
  have x2 := x 2 _ rfl
  have x3 := x 3 _ rfl
  clear x
  have y := fun k v h => ovr_cell (row_cl (HY.out V HV.out).1 k v h)
  have y0 := y 0 _ rfl
  have y1 := y 1 _ rfl
  have y2 := y 2 _ rfl
  have y3 := y 3 _ rfl
  have y4 := y 4 _ rfl
  have y5 := y 5 _ rfl
  have y6 := y 6 _ rfl
  clear y
  refine wp_region_make (fun j => if j = 2 then some (OlF 8 l.length (rT l)) else if j = 7 then some (JdF m l s t) else none) (by kernel_rfl) (by kernel_rfl) (by kernel_rfl) ?_
  repeat (refine wpG_one rfl rfl rfl ?_; intro K hK; go_big_quiet_op; go_big_quiet_on)
  refine wpG_make (OlF 8 l.length (rT l)) rfl rfl (fun w' hw' _ => ?_) (fun u hu => ?_)
  · go_simp
    exact olF_grow (ownSteps_any A l.length c (rT l) w' w.heap.size (by omega) (by have := hw'.le.size; omega) (HY.out w' (HV.out.trans (hw'.le.mono zV))).2.2.1)
  obtain ⟨_, _, A1, c1, rfl, _, _, _⟩ := hu
  simp only [Act.put, List.setIfInBounds_toArray, List.set_cons_zero, List.set_cons_succ]
  repeat (refine wpG_one rfl rfl rfl ?_; intro K hK; go_big_quiet_op; go_big_quiet_on)
  refine wpG_make (JdF m l s t) rfl rfl (fun w' hw' hk => ?_) (fun u hu => ?_)
  · obtain ⟨b1, e1, he1, _, _, hr1⟩ := (hk ⟨2, .data⟩ (by simp) rfl _ _ _ rfl rfl rfl (by simp) rfl).now
    obtain ⟨rfl, rfl⟩ : A1 = b1 ∧ c1 = e1 := by simp at he1; exact he1
    go_simp
    exact judge_grow m A1 c1 l s t w' (HY.out w' (HV.out.trans (hw'.le.mono zV))).2.2.2.1 hr1 Hk.out Hn.out
  obtain ⟨_, _, hu⟩ := hu
  obtain ⟨Sg, n, cg, rfl, hn0, hnf⟩ := JdF.un hu
  clear hu
  simp only [Act.put, List.setIfInBounds_toArray, List.set_cons_zero, List.set_cons_succ]
  repeat (refine wpG_one rfl rfl rfl ?_; intro K hK; go_big_quiet_op; go_big_quiet_on)
  refine wpG_nil (fun Z hZ hG5 => ?_)
  have HJ : Hid (jgE m l s t = 0 → Rd Z Z.heap.size 1 Sg n (gdV m l s.toNat t)) := fun h0 => JdF.at h0 (Box.now hG5.2)
  have bZ : Below V.heap.size V Z := hZ.le
  have HQ : Hid (∀ X', Below Z.heap.size Z X' → X'.heap[rb]? = some (.cells #[I q1, I q2] 23 (0, 0)) ∧ Below W.heap.size W X') := fun X' h => by
    have hb := bZ.trans (h.mono bZ.size)
    exact ⟨(hb.block rb hrl).trans HrV.out, HV.out.trans (hb.mono zV)⟩
  have HZ : Hid (Below Z.heap.size Z Z) := Below.refl _ _
  have Hn0 := Lib.hid hn0
  have Hnf := Lib.hid hnf
  clear hG5 hZ bZ HrV hrl HV zV x0 x1 x2 x3 y0 y1 y2 y3 y4 y5 y6 hn0 hnf
  try simp only [Act.put]
  obtain ⟨je, hje⟩ : ∃ q, jgE m l s t = q := ⟨_, rfl⟩
  rw [hje]
  have Hje := Lib.hid hje
  clear hje
  obtain ⟨sb, hsb⟩ : ∃ b, spB s = b := ⟨_, rfl⟩
  have Hsb := Lib.hid hsb
  have x := fun k v h => id (row_cl (HY.out Z (HQ.out _ HZ.out).2).2.1 k v h)
  have x0 := x 0 _ rfl
  have x1 := x 1 _ rfl
  have x2 := x 2 _ rfl
  have x3 := x 3 _ rfl
  clear x
  go_upto_region 5 with (fail)
  go_cut [11] from 39 to 46 (fun c wx => c = .bool sb ∧ wx = Z)
  case first =>
    unfold spB at hsb
    by_cases a1 : 0 ≤ s
    · have e1 : decide (0 ≤ s) = true := decide_eq_true a1
      by_cases a2 : s ≤ 2
      · have e2 : decide (s ≤ 2) = true := decide_eq_true a2
        rw [e1, e2] at hsb
        have Hb : Hid (sb = true) := hsb.symm
        clear hsb a1 a2
        go_wp2_with fail
        go_meet
        case rel => exact ⟨by rw [Hb.out], rfl⟩
      · have e2 : decide (s ≤ 2) = false := decide_eq_false a2
        rw [e1, e2] at hsb
        have Hb : Hid (sb = false) := hsb.symm
        clear hsb a1 a2
        go_wp2_with fail
        go_meet
        case rel => exact ⟨by rw [Hb.out], rfl⟩
    · have e1 : decide (0 ≤ s) = false := decide_eq_false a1
      rw [e1] at hsb
      have Hb : Hid (sb = false) := hsb.symm
      clear hsb a1
      go_wp2_with fail
      go_meet
      case rel => exact ⟨by rw [Hb.out], rfl⟩
  obtain ⟨rfl, hwc⟩ := hcut
  rw [hwc]
  clear hwc hsb
  go_upto_block 0 with (fail)
  go_cut [12] (fun s12 wx => Below Z.heap.size Z wx)
  case first =>
    as_aux_lemma =>
      have t0 := row_cl (HQ.out Z HZ.out).1 0 _ rfl
      have t1 := row_cl (HQ.out Z HZ.out).1 1 _ rfl
      rcases sb with _ | _
      · obtain ⟨rfl, rfl, rfl⟩ : q1 = 0 ∧ q2 = 0 ∧ q3 = 7 := by
          have := Hqq.out
          unfold cnA at this
          rw [Hsb.out, if_neg (by decide)] at this
          simp at this
          omega
        go_wp2_with fail
        go_meet
        case rel => exact Below.refl _ _
      · obtain ⟨k, rfl⟩ : ∃ k : Nat, s = k := ⟨s.toNat, by have hs := Hsb.out; unfold spB at hs; simp only [Bool.and_eq_true, decide_eq_true_eq] at hs; omega⟩
        have hk3 : k < 3 := by have hs := Hsb.out; unfold spB at hs; simp only [Bool.and_eq_true, decide_eq_true_eq] at hs; omega
        have hkn : decide (k < 3) = true := decide_eq_true hk3
        have hki : decide ((k : Int) < 3) = true := decide_eq_true (by omega)
        have hk0 : decide (0 ≤ (k : Int)) = true := decide_eq_true (by omega)
        have hq := Hqq.out
        unfold cnA at hq
        rw [if_pos Hsb.out, Int.toNat_natCast] at hq
        obtain ⟨a1, a2⟩ := aim_at (HY.out Z (HQ.out Z HZ.out).2).2.1 hk3
        obtain ⟨lo, hlo⟩ : ∃ q, ct (k * 2) = q := ⟨_, rfl⟩
        obtain ⟨hi, hhi⟩ : ∃ q, ct (k * 2 + 1) = q := ⟨_, rfl⟩
        rw [hlo] at a1 hq
        rw [hhi] at a2 hq
        have pr : Hid (∀ X, Calls Tryd.prog 22 #[.agg #[I lo, I hi], I 1000000000000] X fun e w' => e = .returned (.bool (rgB ⟨lo, hi⟩ 1000000000000)) ∧ Below X.heap.size X w') := fun X => refRange_any ⟨lo, hi⟩ _ X
        have Hlh : Hid (ct (k * 2) = lo ∧ ct (k * 2 + 1) = hi) := ⟨hlo, hhi⟩
        clear hlo hhi
        by_cases g1 : ms < 1
        · have f1 : decide (ms < 1) = true := decide_eq_true g1
          obtain ⟨rfl, rfl, rfl⟩ : q1 = 0 ∧ q2 = 0 ∧ q3 = 2 := by
            rw [show wiB ms 1 1000000000 = false by unfold wiB; rw [show decide (1 ≤ ms) = false from decide_eq_false (by omega)]; rfl, if_neg (by simp)] at hq
            simp at hq
            omega
          clear hq g1
          go_wp2_with fail
          go_meet
          case rel => exact Below.refl _ _
        have f1 : decide (ms < 1) = false := decide_eq_false g1
        by_cases g2 : 1000000000 < ms
        · have f2 : decide (1000000000 < ms) = true := decide_eq_true g2
          obtain ⟨rfl, rfl, rfl⟩ : q1 = 0 ∧ q2 = 0 ∧ q3 = 2 := by
            rw [show wiB ms 1 1000000000 = false by unfold wiB; rw [show decide (ms ≤ 1000000000) = false from decide_eq_false (by omega), Bool.and_false], if_neg (by simp)] at hq
            simp at hq
            omega
          clear hq g1 g2
          go_wp2_with fail
          go_meet
          case rel => exact Below.refl _ _
        have f2 : decide (1000000000 < ms) = false := decide_eq_false g2
        rw [show wiB ms 1 1000000000 = true by unfold wiB; rw [show decide (ms ≤ 1000000000) = true from decide_eq_true (by omega), show decide (1 ≤ ms) = true from decide_eq_true (by omega)]; rfl, Bool.true_and] at hq
        have hms : Hid (1 ≤ ms ∧ ms ≤ 1000000000) := by show _ ∧ _; omega
        clear g1 g2
        by_cases g3 : rgB ⟨lo, hi⟩ 1000000000000 = true
        case neg =>
          have g4 : rgB ⟨lo, hi⟩ 1000000000000 = false := by simpa using g3
          rw [g4] at pr
          obtain ⟨rfl, rfl, rfl⟩ : q1 = 0 ∧ q2 = 0 ∧ q3 = 2 := by
            rw [if_neg g3] at hq
            simp at hq
            omega
          clear hq g3 g4
          go_wp2_with fail
          refine (pr.out _).mono ?_
          rintro e X1 ⟨rfl, hb1⟩
          have H1 := Lib.hid hb1
          have t0 := row_cl (HQ.out X1 hb1).1 0 _ rfl
          have t1 := row_cl (HQ.out X1 hb1).1 1 _ rfl
          clear hb1
          go_wp2_with fail
          go_meet
          case rel => exact H1.out
        rw [if_pos g3] at hq
        rw [g3] at pr
        have hr := rgB_iff.1 g3
        simp only at hr
        have cc : Hid (∀ X, Calls Tryd.prog 36 #[.agg #[I lo, I hi], I ms] X fun e w' => e = .returned (.agg #[I (lo * 1000000 / ms), I (upF hi 1000000 ms)]) ∧ Below X.heap.size X w') := fun X => refConc_any lo hi ms X (by omega) hms.out
        unfold cnF at hq
        obtain ⟨v1, h1⟩ : ∃ v, lo * 1000000 / ms = v := ⟨_, rfl⟩
        obtain ⟨v2, h2⟩ : ∃ v, upF hi 1000000 ms = v := ⟨_, rfl⟩
        simp only [h1, h2] at cc hq
        clear h1 h2 hr g3
        have Hq := Lib.hid hq
        clear hq t0 t1
        go_wp2_with fail
        refine (pr.out _).mono ?_
        rintro e X1 ⟨rfl, hb1⟩
        have H1 := Lib.hid hb1
        have z1 := hb1.size
        clear hb1 a1 a2 x0 x1 x2 x3
        go_upto_region 6 with (fail)
        have b0 := ovr_cell (row_cl (HY.out X1 (HQ.out X1 H1.out).2).2.1 0 _ rfl)
        have b1 := ovr_cell (row_cl (HY.out X1 (HQ.out X1 H1.out).2).2.1 3 _ rfl)
        have bb := aim_at (HY.out X1 (HQ.out X1 H1.out).2).2.1 hk3
        have b2 := ovr_cell bb.1
        have b3 := ovr_cell bb.2
        rw [Hlh.out.1] at b2
        rw [Hlh.out.2] at b3
        clear bb
        refine wp_region_seq2 11 (fun j => if j = 9 then some (fun u _ => u = .agg #[I v1, I v2]) else if j = 10 then some (NewAt X1 #[I 0, I 0] 23) else none) (by kernel_rfl) (by kernel_rfl) (by kernel_rfl) (by kernel_rfl) (by kernel_rfl) ?_
        simp only [List.take_succ_cons, List.take_zero, List.drop_succ_cons, List.drop_zero]
        repeat (refine wpG_one rfl rfl rfl ?_; intro K hK; go_big_quiet_op; go_big_quiet_on)
        refine wpG_make (fun u _ => u = .agg #[I v1, I v2]) rfl rfl (fun w' hw' _ => ?_) (fun u hu => ?_)
        · go_simp
          exact call_grow (cc.out w')
        obtain ⟨_, _, rfl⟩ := hu
        simp only [Act.put, List.setIfInBounds_toArray, List.set_cons_zero, List.set_cons_succ]
        repeat (refine wpG_one rfl rfl rfl ?_; intro K hK; go_big_quiet_op; go_big_quiet_on)
        refine wpG_make (NewAt X1 #[I 0, I 0] 23) rfl rfl (fun w' hw' _ => ?_) (fun u hu => ?_)
        · go_simp
          exact new_grow hw'
        obtain ⟨_, _, bn, rfl, _, _⟩ := hu
        simp only [Act.put, List.setIfInBounds_toArray, List.set_cons_zero, List.set_cons_succ]
        refine wpG_nil (fun w5 hw5 hG => ?_)
        have hn := (Box.now hG.2).at
        clear hG
        refine wpTailIn_cons Wd.wide (by intro c h; cases h) ?_
        refine wp_store_row 23 _ _ rfl bn rfl _ _ hn.1 #[I v1, I v2] rfl (one2 rfl rfl) rfl (by kernel_rfl) ?_
        refine wpTailIn_nil ?_
        simp only [Act.put]
        obtain ⟨X5, hX5⟩ : ∃ Y, Y = w5.setRow bn #[I v1, I v2] := ⟨_, rfl⟩
        have b5 : Below X1.heap.size X1 X5 := by rw [hX5]; exact below_setRow hw5.le hn.2 _
        have r5 : X5.heap[bn]? = some (.cells #[I v1, I v2] 23 (0, 0)) := by rw [hX5]; exact setRow_same hn.1
        have H5 : Hid (Below Z.heap.size Z X5) := H1.out.trans (b5.mono z1)
        rw [← hX5]
        have c0 := row_cl r5 0 _ rfl
        have c1 := row_cl r5 1 _ rfl
        clear hX5 b5 r5 hn hw5 b0 b1 b2 b3
        by_cases hle : v2 ≤ 1000000000000000
        · have f3 : decide (1000000000000000 < v2) = false := decide_eq_false (by omega)
          obtain ⟨rfl, rfl, rfl⟩ : v1 = q1 ∧ v2 = q2 ∧ 0 = q3 := by
            have := Hq.out
            rw [if_pos hle] at this
            simpa using this
          clear hle
          have t0 := row_cl (HQ.out X5 H5.out).1 0 _ rfl
          have t1 := row_cl (HQ.out X5 H5.out).1 1 _ rfl
          go_wp2_with fail
          go_meet
          case rel => exact H5.out
        · have f3 : decide (1000000000000000 < v2) = true := decide_eq_true (by omega)
          obtain ⟨rfl, rfl, rfl⟩ : 0 = q1 ∧ 0 = q2 ∧ 10 = q3 := by
            have := Hq.out
            rw [if_neg hle] at this
            simpa using this
          clear hle
          have t0 := row_cl (HQ.out X5 H5.out).1 0 _ rfl
          have t1 := row_cl (HQ.out X5 H5.out).1 1 _ rfl
          go_wp2_with fail
          go_meet
          case rel => exact H5.out
  rename World => Y
  have HYZ := Lib.hid hcut
  clear hcut
  have HYW : Hid (Below W.heap.size W Y) := (HQ.out Y HYZ.out).2
  have zY := HYZ.out.size
  have zYW := HYW.out.size
  have y := fun k v h => id (row_cl (HY.out Y HYW.out).1 k v h)
  have y0 := y 0 _ rfl
  have y1 := y 1 _ rfl
  have y2 := y 2 _ rfl
  have y3 := y 3 _ rfl
  have y4 := y 4 _ rfl
  have y5 := y 5 _ rfl
  have y6 := y 6 _ rfl
  clear y
  go_upto_region 18 with (fail)
  go_wp2_with fail
  refine (refCheck_any m A c l Y w.heap.size (by omega) (HY.out Y HYW.out).2.2.1 Hk.out Hn.out).mono ?_
  rintro e Y1 ⟨rfl, hb⟩
  have HY1 : Hid (Below Z.heap.size Z Y1) := HYZ.out.trans (hb.mono zY)
  have HW1 : Hid (Below W.heap.size W Y1) := (HQ.out Y1 HY1.out).2
  have z1 := HY1.out.size
  clear hb y0 y1 y2 y3 y4 y5 y6 HYZ HYW zY zYW
  have hje := Hje.out
  unfold jgE at hje
  by_cases h0 : ckF m l = 0
  case neg =>
    as_aux_lemma =>
      rw [if_neg h0] at hje
      rw [hje]
      have hnz := Hn0.out (by rw [Hje.out, ← hje]; exact h0)
      subst hnz
      have e1 : (je == 0) = false := by rw [← hje]; simpa using h0
      have e2 : (je != 0) = true := by rw [← hje]; simpa using h0
      have e3 : (je == je) = true := by simp
      clear hje h0
      go_wp2_with fail
      refine (known_any Y1 (HY.out Y1 HW1.out).2.2.2.1).mono ?_
      rintro e wk ⟨rfl, hbk⟩
      have HK : Hid (Below W.heap.size W wk) := Below.trans HW1.out (hbk.mono (Below.size HW1.out))
      clear hbk
      go_wp2_with fail
      go_ret
      exact ⟨rfl, (HY.out wk HK.out).2.2.2.2⟩
  rw [if_pos h0] at hje
  rw [h0]
  rcases sb with _ | _
  · as_aux_lemma =>
      rw [if_neg (by rw [Hsb.out]; decide)] at hje
      subst hje
      have hnz := Hn0.out (by rw [Hje.out]; decide)
      subst hnz
      clear h0
      go_wp2_with fail
      refine (known_any Y1 (HY.out Y1 HW1.out).2.2.2.1).mono ?_
      rintro e wk ⟨rfl, hbk⟩
      have HK : Hid (Below W.heap.size W wk) := Below.trans HW1.out (hbk.mono (Below.size HW1.out))
      clear hbk
      go_wp2_with fail
      go_ret
      exact ⟨rfl, (HY.out wk HK.out).2.2.2.2⟩
  rw [if_pos Hsb.out] at hje
  have pr : Hid (∀ X, Calls Tryd.prog 22 #[.agg #[I t.lo, I t.hi], I 1000000000000] X fun e w' => e = .returned (.bool (rgB t 1000000000000)) ∧ Below X.heap.size X w') := fun X => refRange_any t _ X
  have t0 := row_cl (HY.out Y1 HW1.out).2.1 1 _ rfl
  have t1 := row_cl (HY.out Y1 HW1.out).2.1 2 _ rfl
  by_cases hr : rgB t 1000000000000 = true
  case neg =>
    as_aux_lemma =>
      have hr1 : rgB t 1000000000000 = false := by simpa using hr
      rw [if_neg hr] at hje
      subst hje
      have hnz := Hn0.out (by rw [Hje.out]; decide)
      subst hnz
      rw [hr1] at pr
      clear h0 hr hr1
      go_wp2_with fail
      refine (pr.out _).mono ?_
      rintro e Y2 ⟨rfl, hb⟩
      have HW2 : Hid (Below W.heap.size W Y2) := HW1.out.trans (hb.mono HW1.out.size)
      clear hb t0 t1
      go_wp2_with fail
      refine (known_any Y2 (HY.out Y2 HW2.out).2.2.2.1).mono ?_
      rintro e wk ⟨rfl, hbk⟩
      have HK : Hid (Below W.heap.size W wk) := Below.trans HW2.out (hbk.mono (Below.size HW2.out))
      clear hbk
      go_wp2_with fail
      go_ret
      exact ⟨rfl, (HY.out wk HK.out).2.2.2.2⟩
  rw [if_pos hr] at hje
  subst hje
  have Hr := Lib.hid hr
  rw [hr] at pr
  have Hck := Lib.hid h0
  have hnf := Hnf.out Hje.out
  obtain ⟨fz, hfz⟩ : ∃ q, fzK l l.length = q := ⟨_, rfl⟩
  have Hfz := Lib.hid hfz
  rw [hfz] at hnf
  subst hnf
  have Hv : Hid (Vld m l) := vld_of h0
  clear h0 hr hfz
  go_wp2_with fail
  refine (pr.out _).mono ?_
  rintro e Y2 ⟨rfl, hb⟩
  have HY2 : Hid (Below Z.heap.size Z Y2) := HY1.out.trans (hb.mono z1)
  have HW2 : Hid (Below W.heap.size W Y2) := (HQ.out Y2 HY2.out).2
  have z2 := HY2.out.size
  have z2W := HW2.out.size
  clear hb t0 t1 HY1 HW1 z1 pr
  have y := fun k v h => id (row_cl (HY.out Y2 HW2.out).1 k v h)
  have y0 := y 0 _ rfl
  have y1 := y 1 _ rfl
  have y2 := y 2 _ rfl
  have y3 := y 3 _ rfl
  have y4 := y 4 _ rfl
  have y5 := y 5 _ rfl
  have y6 := y 6 _ rfl
  clear y
  go_upto_region 25 with (fail)
  go_wp2_with fail
  refine (refPredict_any m A c l Y2 w.heap.size (by omega) (HY.out Y2 HW2.out).2.2.1 Hck.out).mono ?_
  rintro e Y3 ⟨u, rfl, hb, S', d', rfl, hd1, hd2, hsl⟩
  rw [Hfz.out] at hd1 hsl ⊢
  have HY3 : Hid (Below Z.heap.size Z Y3) := HY2.out.trans (hb.mono z2)
  have HW3 : Hid (Below W.heap.size W Y3) := (HQ.out Y3 HY3.out).2
  have Hsl := Lib.hid hsl.rd
  clear hb hsl y0 y1 y2 y3 y4 y5 y6 HY2 HW2 z2 z2W
  have HR : Hid (∀ X', Below Y3.heap.size Y3 X' → Rd X' X'.heap.size 7 S' n (fun i j => I (prS m l i j)) ∧ Rd X' X'.heap.size 1 Sg n (gdV m l s.toNat t) ∧ Below W.heap.size W X') := fun X' h => by
    have hb := HY3.out.trans (h.mono HY3.out.size)
    exact ⟨(Hsl.out.below h).more h.size, ((HJ.out Hje.out).below hb).more hb.size, (HQ.out X' hb).2⟩
  obtain ⟨k, rfl⟩ : ∃ k : Nat, s = k := ⟨s.toNat, by have hs := Hsb.out; unfold spB at hs; simp only [Bool.and_eq_true, decide_eq_true_eq] at hs; omega⟩
  have hk3 : k < 3 := by have hs := Hsb.out; unfold spB at hs; simp only [Bool.and_eq_true, decide_eq_true_eq] at hs; omega
  have hkn : decide (k < 3) = true := decide_eq_true hk3
  have hki : decide ((k : Int) < 3) = true := decide_eq_true (by omega)
  have hk0 : decide (0 ≤ (k : Int)) = true := decide_eq_true (by omega)
  have hfl := run_sl (.slice S' n d') (prR m l)
  have hn60 : n ≤ 60 := by have := fzK_le l l.length; have := Hfz.out; omega
  go_upto_region 26 with (fail)
  clear hfl
  go_wp2_with fail
  go_loopw [15] (fun i wr => ∃ j : Nat, j ≤ n ∧ i = .int .i64 j ∧ Below Y3.heap.size Y3 wr) (fun i _ => n - (intOf i).toNat)
  case atStart => exact ⟨0, Nat.zero_le _, rfl, Below.refl _ _⟩
  case round =>
    rename World => X6
    obtain ⟨j, hj, rfl, hb6⟩ := hrel
    have H6 := Lib.hid hb6
    have z6 := hb6.size
    clear hb6
    have q := HR.out X6 H6.out
    by_cases hlt : j < n
    · have hji : decide ((j : Int) < (n : Int)) = true := decide_eq_true (by omega)
      have hjn : decide (j < n) = true := decide_eq_true hlt
      have hj0 : decide (0 ≤ (j : Int)) = true := decide_eq_true (by omega)
      go_upto_region 31 with (fail)
      have x := fun k v h => ovr_cell (row_cl (HY.out X6 q.2.2).2.1 k v h)
      have x0 := x 0 _ rfl
      have x1 := x 1 _ rfl
      have x2 := x 2 _ rfl
      have x3 := x 3 _ rfl
      clear x
      have hbd := sl_bd Hv.out (show j < fzK l l.length by rw [Hfz.out]; exact hlt) hk3
      obtain ⟨sb', so, rfl, _, hsc⟩ := q.1 (by omega)
      obtain ⟨gb, go', rfl, _, hgc⟩ := q.2.1 (by omega)
      have hg0 := hgc j hlt 0 (by omega)
      unfold gdV at hg0
      rw [Int.toNat_natCast] at hg0
      have z0 := hsc j hlt 0 (by omega)
      have z1 := hsc j hlt (1 + k * 2) (by omega)
      have z2 := hsc j hlt (1 + k * 2 + 1) (by omega)
      simp only at z0 z1 z2
      obtain ⟨c0, e0⟩ : ∃ q, prS m l j 0 = q := ⟨_, rfl⟩
      obtain ⟨c1, e1⟩ : ∃ q, prS m l j (1 + k * 2) = q := ⟨_, rfl⟩
      obtain ⟨c2, e2⟩ : ∃ q, prS m l j (1 + k * 2 + 1) = q := ⟨_, rfl⟩
      rw [e0] at hbd hg0 z0
      rw [e1] at hbd hg0 z1
      rw [e2] at hbd hg0 z2
      clear e0 e1 e2 hsc hgc
      have cg' : Hid (∀ X, Calls Tryd.prog 37 #[.agg #[I c1, I c2], I c0, .agg #[I t.lo, I t.hi]] X fun e w' => e = .returned (.int .u8 (gdF c1 c2 c0 t)) ∧ Below X.heap.size X w') := fun X => refGrade_any c1 c2 c0 t X (by omega) (by omega) (by omega) Hr.out
      obtain ⟨gg, hgg⟩ : ∃ q, gdF c1 c2 c0 t = q := ⟨_, rfl⟩
      simp only [hgg] at cg' hg0
      have v0 := ovr_cell (show X6.cell? ⟨sb', so + j * 7, none⟩ = some (I c0) from z0)
      have v1 := ovr_cell (show X6.cell? ⟨sb', so + j * 7 + 1 + k * 2, none⟩ = some (I c1) by rw [show so + j * 7 + 1 + k * 2 = so + j * 7 + (1 + k * 2) by omega]; exact z1)
      have v2 := ovr_cell (show X6.cell? ⟨sb', so + j * 7 + 1 + k * 2 + 1, none⟩ = some (I c2) by rw [show so + j * 7 + 1 + k * 2 + 1 = so + j * 7 + (1 + k * 2 + 1) by omega]; exact z2)
      have v3 := ovr_cell (show X6.cell? ⟨gb, go' + j, none⟩ = some (.int .u8 gg) by rw [show go' + j = go' + j * 1 + 0 by omega]; exact hg0)
      have eg : (gg != gg) = false := by simp
      clear z0 z1 z2 hg0 hgg hbd q
      refine wp_region_below_lit (by kernel_rfl) (by kernel_rfl) ?_
      repeat (go_big_quiet_step ((go_at_call 37; exact call_below (cg'.out _))))
      refine wpQuiet_nil ?_
      intro X7 hb7
      have H7 : Hid (Below Y3.heap.size Y3 X7) := H6.out.trans (hb7.mono z6)
      clear hb7 v0 v1 v2 v3 eg x0 x1 x2 x3
      go_wp2_with fail
      go_roundw
      case rel => exact ⟨j + 1, hlt, by go_num, H7.out⟩
      case measure => simp [intOf]; omega
    · obtain rfl : j = n := by omega
      have hji : decide ((j : Int) < (j : Int)) = false := decide_eq_false (by omega)
      have HW6 := Lib.hid q.2.2
      clear q
      go_wp2_with fail
      refine (known_any X6 (HY.out X6 HW6.out).2.2.2.1).mono ?_
      rintro e wk ⟨rfl, hbk⟩
      have HK : Hid (Below W.heap.size W wk) := Below.trans HW6.out (hbk.mono (Below.size HW6.out))
      clear hbk
      go_wp2_with fail
      go_ret
      exact ⟨rfl, (HY.out wk HK.out).2.2.2.2⟩
end Go.Proofs.YtfifdfagikbahaaDoor
