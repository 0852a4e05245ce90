/- The contract of away: how far heights are from a plane. -/
import Derived.Test.YtljjpidigckheaaBsl
import Derived.Test.YtljjpidigckheaaOsh
namespace Go.Proofs.Ytljjpidigckheaa.Un
open Go.RowKit
abbrev tiA (p : Pln) (f : Frc) : Array Value := #[I p.a, I p.b, I p.c, I p.d, I f.n, I f.d]
set_option maxRecDepth 100000 in
set_option maxHeartbeats 4000000 in
theorem away_any (W H : Nat) (z : List Int) (p : Pln) (f : Frc) (A : Option Addr) (c : Nat) (w : World) (B : Nat) (hp : InP p) (hW : 1 ≤ W ∧ W ≤ 6) (hH : H ≤ 6) (hl : z.length = W * H) (hz : InH z) (hB : B ≤ w.heap.size) (hx : Rd w B 1 A z.length (rI z)) :
 Calls Try.prog 30 #[I (W : Int), .slice A z.length c, .agg (tiA p f)] w fun e w' => e = .returned (I (awK W z p z.length)) ∧ Below w.heap.size w w' := by
 have HRD : Hid (∀ V, Below w.heap.size w V → Rd V B 1 A z.length (rI z) ∧ B ≤ V.heap.size) := fun V hV => ⟨hx.below (hV.mono hB), Nat.le_trans hB hV.size⟩
 have HK : Hid (∀ k, k ≤ z.length → 0 ≤ awK W z p k ∧ awK W z p k ≤ 1000000000000000) := fun k hk => ⟨awK_nonneg _ _ _ k, awK_bd hp hW hH hl hz k hk⟩
 have hm : z.length ≤ 36 := by rw [hl]; exact Nat.mul_le_mul hW.2 hH
 have HM := Lib.hid hm
 have HZ := Lib.hid hz
 have HP := Lib.hid hp
 have HO : Hid (∀ k, k < z.length → InG (gPt W k)) := fun k hk => gPt_in hW hH (by omega)
 have HW0 := Lib.hid hW
 have w0 : ((W : Int) = 0) = False := by simp; omega
 have w1 : (W = 0) = False := by simp; omega
 clear hx hm hz hp hW hH hl
 obtain ⟨W0, hW0⟩ : ∃ W0, W0 = (w.alloc (.cells #[I p.a, I p.b, I p.c, I p.d, I f.n, I f.d] 51)) := ⟨_, rfl⟩
 have rowW00 : W0.heap[w.heap.size]? = some (.cells #[I p.a, I p.b, I p.c, I p.d, I f.n, I f.d] 51 (0, 0)) := by rw [hW0]; exact heap_last _ _ _ rfl
 have yW000 := ovr_cell (W := W0) (b := w.heap.size) (o := 0) (v := I p.a) (by rw [cell_of_row _ _ _ _ _ _ rowW00]; rfl)
 have yW001 := ovr_cell (W := W0) (b := w.heap.size) (o := 1) (v := I p.b) (by rw [cell_of_row _ _ _ _ _ _ rowW00]; rfl)
 have yW002 := ovr_cell (W := W0) (b := w.heap.size) (o := 2) (v := I p.c) (by rw [cell_of_row _ _ _ _ _ _ rowW00]; rfl)
 have yW003 := ovr_cell (W := W0) (b := w.heap.size) (o := 3) (v := I p.d) (by rw [cell_of_row _ _ _ _ _ _ rowW00]; rfl)
 have yW004 := ovr_cell (W := W0) (b := w.heap.size) (o := 4) (v := I f.n) (by rw [cell_of_row _ _ _ _ _ _ rowW00]; rfl)
 have yW005 := ovr_cell (W := W0) (b := w.heap.size) (o := 5) (v := I f.d) (by rw [cell_of_row _ _ _ _ _ _ rowW00]; rfl)
 have RrowW00 := Lib.hid (ovr_row rowW00)
 clear rowW00
 have HUW0 : Hid (∀ u, Below w.heap.size w (ovr W0 u)) := U1 hW0
 have HW0 := Lib.hid hW0
 clear hW0
 go_enter Try.func30, Try.ntmps30
 go_upto_region 1 with (fail)
 rw [← HW0.out]
 obtain ⟨u0, hu0⟩ := ovr_self W0
 rw [hu0]
 clear hu0
 have S0 : Hid (StL w [(w.heap.size, tiA p f, 51)] (ovr W0 u0)) := ⟨HUW0.out u0, fun y hy => by
  rcases List.mem_cons.1 hy with rfl | hy
  · exact RrowW00.out u0
  cases hy⟩
 refine name_w fun V hV => ?_
 rw [← hV] at S0
 clear hV HUW0 RrowW00 HW0
 go_wp2_with fail
 go_loopw [8, 7] (fun iv fv wr => ∃ k : Nat, k ≤ z.length ∧ iv = .int .i64 k ∧ fv = I (awK W z p k) ∧ StL w [(w.heap.size, tiA p f, 51)] wr) (fun iv _ _ => z.length - (intOf iv).toNat)
 case atStart => exact ⟨0, Nat.zero_le _, rfl, rfl, S0.out⟩
 case round =>
  obtain ⟨k, hk, rfl, rfl, hst⟩ := hrel
  rename World => Y
  have S := Lib.hid hst
  clear hst S0
  by_cases hlt : k < z.length
  case neg =>
   obtain rfl : k = z.length := by omega
   have ki : decide ((z.length : Int) < (z.length : Int)) = false := decide_eq_false (by omega)
   clear hk hlt
   go_wp2_with fail
   go_ret
   exact ⟨rfl, S.out.1⟩
  have HLT := Lib.hid hlt
  have ki : decide ((k : Int) < (z.length : Int)) = true := decide_eq_true (by omega)
  have k36 : k ≤ 36 := by have := HM.out; omega
  obtain ⟨zb, zo, rfl, _, e0⟩ := rd_int9 (HRD.out Y S.out.1).1 hlt
  have hz := HZ.out k hlt
  obtain ⟨zk, hzk⟩ : ∃ v, at0 z k = v := ⟨_, rfl⟩
  have hg := HO.out k hlt
  obtain ⟨X, hX⟩ : ∃ v, (k : Int) % (W : Int) = v := ⟨_, rfl⟩
  obtain ⟨Z, hZ⟩ : ∃ v, (k : Int) / (W : Int) = v := ⟨_, rfl⟩
  have hgx : (gPt W k).x = X := hX
  have hgy : (gPt W k).y = Z := hZ
  have HX := Lib.hid hX
  have HZZ := Lib.hid hZ
  obtain ⟨o, ho⟩ : ∃ v, p.off (gPt W k) (at0 z k) = v := ⟨_, rfl⟩
  have hob := off_bd HP.out hg hz
  rw [ho] at hob
  have HN : Hid (awK W z p (k + 1) = max (max (awK W z p k) o) (-o)) := by show max (max _ (p.off _ _)) (-(p.off _ _)) = _; rw [ho]
  have hab := HK.out k hk
  obtain ⟨a, ha⟩ : ∃ v, awK W z p k = v := ⟨_, rfl⟩
  rw [ha] at HN hab ⊢
  have hof : o = zk * p.d - p.a * X - p.b * Z - p.c := by rw [← ho, hzk]; unfold Pln.off Pln.on; rw [hgx, hgy]; omega
  rw [hzk] at e0 hz
  have hP := HP.out
  unfold InP at hP
  unfold InG at hg
  rw [hgx, hgy] at hg
  have h1 := mul_bd (a := zk) (b := p.d) (A := 1000000) (B := 100000) hz hP.2.2.2
  have h2 := mul_bd (a := p.a) (b := X) (A := 10000000000000) (B := 5) hP.1 (by omega)
  have h3 := mul_bd (a := p.b) (b := Z) (A := 10000000000000) (B := 5) hP.2.1 (by omega)
  have k1 : IntKind.i64.wrap (zk * p.d) = zk * p.d := IntWalk.i64_in _ (by omega)
  have k2 : IntKind.i64.wrap (p.a * X) = p.a * X := IntWalk.i64_in _ (by omega)
  have k3 : IntKind.i64.wrap (p.b * Z) = p.b * Z := IntWalk.i64_in _ (by omega)
  have k4 : IntKind.i64.wrap (zk * p.d - p.a * X) = zk * p.d - p.a * X := IntWalk.i64_in _ (by omega)
  have k5 : IntKind.i64.wrap (zk * p.d - p.a * X - p.b * Z) = zk * p.d - p.a * X - p.b * Z := IntWalk.i64_in _ (by omega)
  have k6 : IntKind.i64.wrap (zk * p.d - p.a * X - p.b * Z - p.c) = o := (IntWalk.i64_in _ (by omega)).trans hof.symm
  have k7 : wrap64 (-o) = -o := by unfold wrap64; omega
  have k11 : wrap64 Z = Z := by unfold wrap64; omega
  have k8 : IntKind.i64.wrap ((k : Int) % (W : Int)) = X := (congrArg _ hX).trans (IntWalk.i64_in _ (by omega))
  have k9 : IntKind.i64.wrap ((k : Int) / (W : Int)) = Z := (congrArg _ hZ).trans (IntWalk.i64_in _ (by omega))
  have k10 : IntKind.i64.wrap ((k : Int) + 1) = (k : Int) + 1 := IntWalk.i64_in _ (by omega)
  clear h1 h2 h3 hP hz hg hgx hgy hzk ho hof hob hab ha hk
  have f0 : ∀ u, (ovr Y u).cell? ⟨w.heap.size, 0, none⟩ = some (I p.a) := cell_row9 (S.out.hd) (j := 0) rfl
  have f1 : ∀ u, (ovr Y u).cell? ⟨w.heap.size, 1, none⟩ = some (I p.b) := cell_row9 (S.out.hd) (j := 1) rfl
  have f2 : ∀ u, (ovr Y u).cell? ⟨w.heap.size, 2, none⟩ = some (I p.c) := cell_row9 (S.out.hd) (j := 2) rfl
  have f3 : ∀ u, (ovr Y u).cell? ⟨w.heap.size, 3, none⟩ = some (I p.d) := cell_row9 (S.out.hd) (j := 3) rfl
  go_upto_region 5 with fail
  have v1 := ovr_cell e0
  clear e0
  refine Gg.wp_region_make (fun _ => none) (by kernel_rfl) (by kernel_rfl) (by kernel_rfl) ?_
  repeat (first | (refine Gg.wpG_one rfl rfl rfl ?_; intro K hK; go_big_quiet_op; go_big_quiet_on) | (refine Gg.wpG_skip rfl ?_; simp only [Act.put, List.setIfInBounds_toArray, List.set_cons_zero, List.set_cons_succ]))
  refine Gg.wpG_nil (fun w5 hw5 hG => ?_)
  have S5 := Lib.hid (S.out.below hw5.le)
  clear hG hw5 S v1 f0 f1 f2 f3
  go_wp2_with fail
  go_roundw
  case rel => exact ⟨k + 1, HLT.out, by go_num, by rw [HN.out]; congr 1; split <;> split <;> omega, S5.out⟩
  case measure => have := HLT.out; simp [intOf]; omega
end Go.Proofs.Ytljjpidigckheaa.Un
