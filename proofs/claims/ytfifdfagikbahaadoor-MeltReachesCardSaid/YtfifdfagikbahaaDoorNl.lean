/- Equal runs and equal steps are found equal; a copy of steps. -/
import Derived.Test.YtfifdfagikbahaaDoorNk
import Derived.ChangeKeysEq
namespace Go.Proofs.YtfifdfagikbahaaDoor
open Go.RowKit
attribute [local go_sem] Oper.semAt_some
theorem eqR_9999 (a b : Int) (W : World) : (Op.equalIn 9999 23 (.agg #[I a, I b]) (.agg #[I a, I b])).run Tryd.prog W = .ok true W := by
  go_simp
theorem eqI_9999 (xs : Array Value) (i : Nat) (a b : Int) (h : (part 23 xs (i * 2)).run Tryd.prog = fun w => .ok (.agg #[I a, I b]) w) (rest : List Nat) (W : World) : (Op.eqItems 9999 23 2 xs xs (i :: rest)).run Tryd.prog W = (Op.eqItems 9999 23 2 xs xs rest).run Tryd.prog W := by
  simp only [Op.eqItems, Sem.run_bind, h, eqR_9999, Result.andThen_ok]
  simp
theorem eqB_10000 (b : Nat → Int) (W : World) : (Op.equalIn 10000 25 (.agg #[I (b 0), I (b 1), I (b 2), I (b 3), I (b 4), I (b 5)]) (.agg #[I (b 0), I (b 1), I (b 2), I (b 3), I (b 4), I (b 5)])).run Tryd.prog W = .ok true W := by
  have hinfo : (Tryd.prog.info? 23).map (fun i => i.size) = some 2 := by kernel_rfl
  obtain ⟨i, hi, hs⟩ := Option.map_eq_some_iff.1 hinfo
  rw [run_equalIn_array (P := Tryd.prog) W 9999 _ _ Tryd.underlying25 hi]
  have hc : Tryd.prog.cellsOf 23 = 2 := by unfold Program.cellsOf; rw [hi]; exact hs
  simp only [hc, show List.range 3 = [0, 1, 2] from rfl]
  rw [eqI_9999 _ 0 (b 0) (b 1) (by funext w; kernel_rfl), eqI_9999 _ 1 (b 2) (b 3) (by funext w; kernel_rfl), eqI_9999 _ 2 (b 4) (b 5) (by funext w; kernel_rfl)]
  rfl
theorem eqR_9998 (a b : Int) (W : World) : (Op.equalIn 9998 23 (.agg #[I a, I b]) (.agg #[I a, I b])).run Tryd.prog W = .ok true W := by
  go_simp
theorem eqI_9998 (xs : Array Value) (i : Nat) (a b : Int) (h : (part 23 xs (i * 2)).run Tryd.prog = fun w => .ok (.agg #[I a, I b]) w) (rest : List Nat) (W : World) : (Op.eqItems 9998 23 2 xs xs (i :: rest)).run Tryd.prog W = (Op.eqItems 9998 23 2 xs xs rest).run Tryd.prog W := by
  simp only [Op.eqItems, Sem.run_bind, h, eqR_9998, Result.andThen_ok]
  simp
theorem eqB_9999 (b : Nat → Int) (W : World) : (Op.equalIn 9999 25 (.agg #[I (b 0), I (b 1), I (b 2), I (b 3), I (b 4), I (b 5)]) (.agg #[I (b 0), I (b 1), I (b 2), I (b 3), I (b 4), I (b 5)])).run Tryd.prog W = .ok true W := by
  have hinfo : (Tryd.prog.info? 23).map (fun i => i.size) = some 2 := by kernel_rfl
  obtain ⟨i, hi, hs⟩ := Option.map_eq_some_iff.1 hinfo
  rw [run_equalIn_array (P := Tryd.prog) W 9998 _ _ Tryd.underlying25 hi]
  have hc : Tryd.prog.cellsOf 23 = 2 := by unfold Program.cellsOf; rw [hi]; exact hs
  simp only [hc, show List.range 3 = [0, 1, 2] from rfl]
  rw [eqI_9998 _ 0 (b 0) (b 1) (by funext w; kernel_rfl), eqI_9998 _ 1 (b 2) (b 3) (by funext w; kernel_rfl), eqI_9998 _ 2 (b 4) (b 5) (by funext w; kernel_rfl)]
  rfl
attribute [local go_sem] eqB_10000 eqB_9999
theorem eqM (m : Mlt) (W : World) : (Op.equalIn 10000 27 (.agg #[I m.ms, I (m.ct 0), I (m.ct 1), I (m.ct 2), I (m.ct 3), I (m.ct 4), I (m.ct 5)]) (.agg #[I m.ms, I (m.ct 0), I (m.ct 1), I (m.ct 2), I (m.ct 3), I (m.ct 4), I (m.ct 5)])).run Tryd.prog W = .ok true W := by
  have h := eqB_9999 m.ct W
  go_simp
theorem eqF (m : Mlt) (W : World) : (Op.equalIn 10000 60 (.agg #[I m.ms, I (m.ct 0), I (m.ct 1), I (m.ct 2), I (m.ct 3), I (m.ct 4), I (m.ct 5)]) (.agg #[I m.ms, I (m.ct 0), I (m.ct 1), I (m.ct 2), I (m.ct 3), I (m.ct 4), I (m.ct 5)])).run Tryd.prog W = .ok true W := by
  have h := eqB_9999 m.ct W
  go_simp
theorem eqS (x : Stp) (W : World) : (Op.equalIn 10000 58 (.agg (stpArr x)) (.agg (stpArr x))).run Tryd.prog W = .ok true W := by
  have h := eqB_9999 x.b W
  go_simp
theorem stp_info : (Tryd.prog.info? 58).map (fun i => (i.zero, i.size, i.bytes)) = some (some (.agg #[.int .u8 0, I 0, I 0, I 0, I 0, I 0, I 0, I 0]), 8, 64) := by kernel_rfl
theorem ownSteps_any (A : Option Addr) (n c : Nat) (g : Nat → Nat → Value) (w : World) (B : Nat) (hn : n ≤ 1000) (hB : B ≤ w.heap.size) (hx : Rd w B 8 A n g) : Calls Tryd.prog 13 #[.slice A n c] w (RetLc w 8 n g) := by
  obtain ⟨i0, hi0, iz0, iz1, iz2⟩ := info_parts stp_info
  have HX := Lib.hid hx
  have HB := Lib.hid hB
  have HN := Lib.hid hn
  clear hx hB hn
  go_enter Tryd.func13, Tryd.ntmps13
  go_wp2_with (at_builtin; go_loud (refine wpList_app_lit rfl _ _ 28 rfl 58 i0 _ 8 64 Tryd.underlying28 hi0 iz0 iz1 iz2 rfl (by decide) _ rfl A n c rfl g ?hr ?hn (by decide) ?_))
  case hr => exact (HX.out.alloc HB.out _).more (by have := HB.out; simp; omega)
  case hn => have := HN.out; omega
  intro A' c' w' h1 h2 h3 h4
  have H4 : Hid (Below w.heap.size w w') := ((Below.refl _ _).alloc (Nat.le_refl _) _).trans (h4.mono (by omega))
  clear h4
  go_wp2_with fail
  go_ret
  exact ⟨A', c', rfl, h1, h2, h3, H4.out⟩
set_option maxHeartbeats 1000000 in
theorem sameSteps_any (A A' : Option Addr) (c c' : Nat) (l : List Stp) (w : World) (hl : l.length ≤ 1000) (hx : Rd w w.heap.size 8 A l.length (rT l)) (hy : Rd w w.heap.size 8 A' l.length (rT l)) : Calls Tryd.prog 17 #[.slice A l.length c, .slice A' l.length c'] w fun e w' => e = .returned (.bool true) ∧ Below w.heap.size w w' := by
  have HX := Lib.hid hx
  have HY := Lib.hid hy
  clear hx hy
  go_enter Tryd.func17, Tryd.ntmps17
  go_wp2_with fail
  go_loopw [5] (fun i wr => ∃ k : Nat, k ≤ l.length ∧ i = .int .i64 k ∧ Below w.heap.size w wr) (fun i _ => l.length - (intOf i).toNat)
  case atStart => exact ⟨0, by omega, rfl, Below.refl _ _⟩
  case round =>
    rename World => X0
    obtain ⟨k, hk, rfl, hbw⟩ := hrel
    have Hbw := Lib.hid hbw
    clear hbw
    by_cases hlt : k < l.length
    · have hki : decide ((k : Int) < (l.length : Int)) = true := decide_eq_true (by omega)
      have hkn : decide (k < l.length) = true := decide_eq_true hlt
      have hk0 : decide (0 ≤ (k : Int)) = true := decide_eq_true (by omega)
      obtain ⟨b, o, rfl, _, x0, x1, x2, x3, x4, x5, x6, x7⟩ := (HX.out.below Hbw.out).stp hlt
      obtain ⟨b', o', rfl, _, z0, z1, z2, z3, z4, z5, z6, z7⟩ := (HY.out.below Hbw.out).stp hlt
      obtain ⟨x, hxx⟩ : ∃ x, at0 l k = x := ⟨_, rfl⟩
      rw [hxx] at x0 x1 x2 x3 x4 x5 x6 x7 z0 z1 z2 z3 z4 z5 z6 z7
      have x0 := ovr_cell x0
      have x1 := ovr_cell x1
      have x2 := ovr_cell x2
      have x3 := ovr_cell x3
      have x4 := ovr_cell x4
      have x5 := ovr_cell x5
      have x6 := ovr_cell x6
      have x7 := ovr_cell x7
      have z0 := ovr_cell z0
      have z1 := ovr_cell z1
      have z2 := ovr_cell z2
      have z3 := ovr_cell z3
      have z4 := ovr_cell z4
      have z5 := ovr_cell z5
      have z6 := ovr_cell z6
      have z7 := ovr_cell z7
      have heq := eqS x
      have w9 : IntKind.i64.wrap ((k : Int) + 1) = (k : Int) + 1 := IntWalk.i64_in _ (by omega)
      clear hxx
      go_upto_region 6 with (fail)
      refine wp_region_below_lit (by kernel_rfl) (by kernel_rfl) ?_
      repeat (go_big_quiet_step (fail))
      refine wpQuiet_nil ?_
      intro w5 hb5
      have H5 : Hid (Below w.heap.size w w5) := Hbw.out.trans (hb5.mono Hbw.out.size)
      clear hb5 x0 x1 x2 x3 x4 x5 x6 x7 z0 z1 z2 z3 z4 z5 z6 z7 heq
      go_wp2_with fail
      go_roundw
      case rel => exact ⟨k + 1, by omega, by go_num, H5.out⟩
      case measure => simp [intOf]; omega
    · obtain rfl : k = l.length := by omega
      have hki : decide ((l.length : Int) < (l.length : Int)) = false := decide_eq_false (by omega)
      go_wp2_with fail
      go_ret
      exact ⟨rfl, Hbw.out⟩
end Go.Proofs.YtfifdfagikbahaaDoor
