/- The contract of newChart of package pull, where there is a course. -/
import Derived.Test.YtlebefopdnadaaaNb
namespace Go.Proofs.Ytlebefopdnadaaa
open Go.RowKit
theorem range_ia {w : World} {g : Nat} {p : Vec} (h : ∀ j, j < 117 → w.cell? ⟨g, 0 + j, none⟩ = some (I (p j))) : w.rangeAt g 0 (ia 117 p).toList := by
  intro j v hv
  have hj : j < 117 := by have := (List.getElem?_eq_some_iff.1 hv).1; simpa [ia] using this
  rw [Array.getElem?_toList, ia_get hj] at hv
  rw [← Option.some.inj hv]; exact h j hj
theorem info_puller (p : Vec) : (Try.prog.info? 30).map (·.size) = some (ia 117 p).toList.length := by rw [show (ia 117 p).toList.length = 117 by simp [ia]]; kernel_rfl
theorem load_ia_at {w : World} {g : Nat} {p : Vec} {o : Oper} {e : Operand → Value} {x : Operand} (ho : o.op = .load 30 x) (hx : e x = .pointer (some ⟨g, 0, none⟩)) (h : w.rangeAt g 0 (ia 117 p).toList) : (execOp e o).run Try.prog w = .ok (.value (.agg (ia 117 p))) w := by
  have hl := run_loadVar_mid (P := Try.prog) w g 0 30 (ia 117 p).toList _ h Try.underlying30 rfl (info_puller p)
  simp only [execOp, ho, hx, Instr.loadAt, Instr.sureAddr, Sem.run_bind, Sem.run_pure, Result.andThen_ok, hl]
/-- A chart comes back. -/
def RetC (w : World) (p : Vec) (R : Run) (e : Ending) (w' : World) : Prop := ∃ cb bb fb, e = .returned (.tuple #[.pointer (some ⟨cb, 0, none⟩), I 0]) ∧ Chart w' cb bb fb p (R.e.toNat + 1) (befF p R) (frmF p R) ∧ Below w.heap.size w w'
theorem wp_make_kn {P : Program} {o : Oper} {a : Act} {w : World} {K : Act → World → Prop} {Q : Exit → Act → World → Prop} (ty : TypeId) (x y : Operand) (ho : o.op = .makeSlice ty x y) (v : Value) (hx : a.eval x = v) (hy : a.eval y = v) {u : Value} {w' : World}
    (hr : (Instr.makeSlice ty v v).run P w = .ok u w') (h : K (a.put o.dst u) w') : o.wp P a w K Q := by
  unfold Oper.wp execOp
  simp only [ho, hx, hy, Sem.run_bind, Sem.run_pure, Result.andThen_ok, hr]
  exact h
theorem wp_box {P : Program} {o : Oper} {a : Act} {w : World} {K : Act → World → Prop} {Q : Exit → Act → World → Prop} (ty : TypeId) (x : Operand) (ho : o.op = .box ty x) (cs : Array Value) (hx : a.eval x = .agg cs)
    (h : K (a.put o.dst (.pointer (some ⟨w.heap.size, 0, none⟩))) (w.alloc (.cells cs ty))) : o.wp P a w K Q := by
  have hr : (Instr.box ty (.agg cs)).run P w = .ok (.pointer (some ⟨w.heap.size, 0, none⟩)) (w.alloc (.cells cs ty)) := by
    go_simp
  unfold Oper.wp execOp
  simp only [ho, hx, Sem.run_bind, Sem.run_pure, Result.andThen_ok, hr]
  exact h
theorem built_chart (p : Vec) (b f N : Nat) : Try.prog.built 150 [(0, .agg (ia 117 p)), (1, .slice (some ⟨b, 0, none⟩) N N), (2, .slice (some ⟨f, 0, none⟩) N N)] = some (ia 117 p ++ #[.slice (some ⟨b, 0, none⟩) N N, .slice (some ⟨f, 0, none⟩) N N]) := by kernel_rfl
theorem build_at {P : Program} {w : World} {o : Oper} {e : Operand → Value} {t : TypeId} {parts : Array (Nat × Operand)} {cs : Array Value} (ho : o.op = .build t parts) (h : P.built t (parts.map fun (i, x) => (i, e x)).toList = some cs) : (execOp e o).run P w = .ok (.value (.agg cs)) w := by
  simp only [execOp, ho, Sem.run_bind, run_build w t _ cs h, Result.andThen_ok, Sem.run_pure]
set_option maxRecDepth 100000 in
set_option maxHeartbeats 1000000 in
theorem newChart_ok (A1 A2 A3 : Option Addr) (c1 c2 c3 : Nat) (p : Vec) (R : Run) (w : World) (h : RunIn w A1 A2 A3 R) (hc2 : R.ms.length ≤ c2)
    (hok : (okPuller p && okRun R) = true) (hcf : conf p R = none) :
    Calls Try.prog 67 #[.agg (ia 117 p), runV A1 A2 A3 c1 c2 c3 R] w (RetC w p R) := by
  obtain ⟨W2, hW2⟩ : ∃ W2, W2 = ((w.alloc (.cells (ia 117 p) 30)).alloc (.cells #[.slice A1 R.ss.length c1, I R.e, .slice A2 R.ms.length c2, .slice A3 R.es.length c3] 35)) := ⟨_, rfl⟩
  have T : Hid (Two w A1 A2 A3 c1 c2 c3 p R W2) := hW2 ▸ two_mk h c1 c2 c3 p
  have HW := Lib.hid hW2
  have hv : Hid (confV p R = (-1, -1)) := by show _ = _; rw [confV, hok, hcf]; rfl
  have Hok := Lib.hid hok
  rw [Bool.and_eq_true] at hok
  have Hv := Lib.hid ((vRun_iff R).1 hok.2)
  have Hp := Lib.hid (vPul_of hok.1)
  have last := Hv.out.last
  have m100 := Hv.out.m100
  have e0 : 0 ≤ R.e := by have := Hv.out.t0 0 Hv.out.n1; have := Hv.out.tlt 0 Hv.out.n1; omega
  obtain ⟨N, hN⟩ : ∃ N, N = (R.e + 1).toNat := ⟨_, rfl⟩
  have hNE : Hid (N = R.e.toNat + 1) := by show N = _; omega
  have hNi : (N : Int) = R.e + 1 := by omega
  have hN1 : (R.e + 1 : Int) ≤ (N : Int) := by omega
  have hN2 : (N : Int) ≤ 100001 := by omega
  have hmk := make_kn (R.e + 1) N hN (by omega) (by omega)
  have HNi := Lib.hid hNi
  clear h hW2 hok hcf hN hNi
  go_enter Try.func67, Try.ntmps67
  go_wp2_with (refine wpList_load_ia rfl 30 _ rfl w.heap.size 0 rfl 117 p _ (by rw [← HW.out]; exact T.out.pul _ (Below.refl _ _)) Try.underlying30 rfl (by kernel_rfl) ?_)
  rw [← HW.out]
  refine (conflict_any A1 A2 A3 c1 c2 c3 p R _ T.out.run hc2).mono ?_
  rintro e w1 ⟨rfl, hb1⟩
  rw [Hok.out, show er true = 0 from rfl, hv.out]
  have x1 := T.out.r1 _ hb1
  have x2 : ∀ x, (w1.alloc x).cell? ⟨w.heap.size + 1, 2, none⟩ = some (.slice A2 R.ms.length c2) := fun x => T.out.r2 _ (hb1.alloc hb1.size x)
  go_wp2_with fail
  go_loopw [34] (fun i wr => ∃ k : Nat, k ≤ R.ms.length ∧ i = .int .i64 k ∧ wr.heap[w1.heap.size]? = some (.cells (kArr (seenK R k) N) 147 (0, 0)) ∧ Below w1.heap.size w1 wr) (fun i _ => R.ms.length - (intOf i).toNat)
  case atStart => exact ⟨0, by omega, rfl, heap_last _ _ _ rfl, (Below.refl _ _).alloc (Nat.le_refl _) _⟩
  case round =>
    obtain ⟨k, hk, rfl, hb, hbw⟩ := hrel
    have HX := Lib.hid hb
    have HXa : ∀ x : Obj, (wr.alloc x).heap[w1.heap.size]? = some (.cells (kArr (seenK R k) N) 147 (0, 0)) := fun x => (((Below.refl wr.heap.size wr).alloc (Nat.le_refl _) x).block _ (Array.getElem?_eq_some_iff.1 hb).1).trans hb
    have HXA := Lib.hid HXa
    clear hb HXa
    have hbT := hb1.trans (hbw.mono hb1.size)
    have zr := hbw.size
    by_cases hlt : k < R.ms.length
    · obtain ⟨b, o, rfl, hB, y0, y1, y2⟩ := (T.out.run.m.below hbT).smp hlt
      have j0 : (0 : Int) ≤ (k : Int) := by omega
      have j1 : (k : Int) ≤ (c2 : Int) := by omega
      have hbm := Hv.out.mt k hlt
      have hbr := Hv.out.mr k hlt
      have hsn : Hid (seenK R (k + 1) = updK (seenK R k) (at0 R.ms k).t.toNat ⟨(at0 R.ms k).lo, (at0 R.ms k).hi, true⟩) := rfl
      generalize hbq : at0 R.ms k = bq at *
      have HBQ := Lib.hid hbq
      clear hbq
      obtain ⟨bt1, bt2⟩ := hbm
      obtain ⟨br1, br2, br3⟩ := hbr
      obtain ⟨kt, hkt⟩ : ∃ kt : Nat, kt = bq.t.toNat := ⟨_, rfl⟩
      have hkt2 : bq.t = (kt : Int) := by omega
      have hktN : kt < N := by have := HNi.out; omega
      have hki : (kt : Int) < (N : Int) := by omega
      rw [← hkt] at hsn
      have Hkt := Lib.hid hkt2
      clear hkt
      obtain ⟨bt, bl, bh⟩ := bq
      simp only at *
      subst hkt2
      go_wp2_with (refine wpList_store_kn rfl 147 _ _ rfl w1.heap.size kt (by first | rfl | (simp; rfl)) (seenK R k) N 147 (HXA.out _) hktN ⟨bl, bh, true⟩ rfl (by kernel_rfl) ?_)
      go_roundw
      case rel => exact ⟨k + 1, by omega, by go_num, by rw [hsn.out]; exact setRow_same (HXA.out _), below_setRow (hbw.alloc zr _) (Nat.le_refl _) _⟩
      case measure => simp [intOf]; omega
    · obtain rfl : k = R.ms.length := by omega
      have hS : Hid (wr.heap[w1.heap.size]? = some (.cells (kArr (seenF R) N) 147 (0, 0))) := HX
      have hz : w1.heap.size < wr.heap.size := (Array.getElem?_eq_some_iff.1 HX.out).1
      clear HX HXA
      have pul : ∀ j, j < 117 → wr.cell? ⟨w.heap.size, 0 + j, none⟩ = some (I (p j)) := T.out.pul _ hbT
      have x3 : wr.cell? ⟨w.heap.size + 1, 1, none⟩ = some (I R.e) := T.out.r1 _ hbT
      go_upto_region 12 with fail
      go_cut [12] (fun s12 wx => ∃ cb bb fb : Nat, s12 = .pointer (some ⟨cb, 0, none⟩) ∧ wr.heap.size ≤ cb ∧ wr.heap.size ≤ bb ∧ wr.heap.size ≤ fb ∧ bb ≠ fb ∧ bb ≠ cb ∧ fb ≠ cb ∧ wx.heap[bb]? = some (.cells (kArr (fun _ => kn0) N) 147 (0, 0)) ∧ wx.heap[fb]? = some (.cells (kArr (fun _ => kn0) N) 147 (0, 0)) ∧ wx.heap[cb]? = some (.cells (ia 117 p ++ #[.slice (some ⟨bb, 0, none⟩) N N, .slice (some ⟨fb, 0, none⟩) N N]) 150 (0, 0)) ∧ Below wr.heap.size wr wx)
      case first =>
        have hr : ∀ W, Below wr.heap.size wr W → W.rangeAt w.heap.size 0 (ia 117 p).toList := fun W hW => range_ia fun j hj => (hW.cell (p := ⟨_, _, none⟩) (block_lt_of_cell (pul j hj))).trans (pul j hj)
        have hx3 : ∀ W, Below wr.heap.size wr W → W.cell? ⟨w.heap.size + 1, 1, none⟩ = some (I R.e) := fun W hW => (hW.cell (p := ⟨_, _, none⟩) (block_lt_of_cell x3)).trans x3
        have n1 : IntKind.i64.wrap (R.e + 1) = R.e + 1 := IntWalk.i64_in _ (by omega)
        refine wp_region_held_drew (S := fun w' => Below wr.heap.size wr w') (by kernel_rfl) (Below.refl _ _).drew (fun hHeld => ?_)
        refine wpAnyH_take (i := 0) (oi := ⟨some 50, _, _, _, _, _⟩) (v := .agg (ia 117 p)) rfl (by kernel_rfl) (by kernel_rfl) (by kernel_rfl) (fun _ _ _ h => h) (Or.inl ⟨by rfl, fun w' hw' => load_ia_at rfl rfl (hr w' hw')⟩) hHeld ?_
        simp only [Act.put, List.setIfInBounds_toArray, List.set_cons_zero, List.set_cons_succ]
        refine wpAnyH_take (i := 1) (oi := ⟨some 51, _, _, _, _, _⟩) (v := .pointer (some ⟨w.heap.size + 1, 1, none⟩)) rfl (by kernel_rfl) (by kernel_rfl) (by kernel_rfl) (fun _ _ _ h => h) (Or.inl ⟨by rfl, fun w' hw' => by have hw2 := hx3 w' hw'; go_simp⟩) hHeld ?_
        simp only [Act.put, List.setIfInBounds_toArray, List.set_cons_zero, List.set_cons_succ]
        refine wpAnyH_take (i := 2) (oi := ⟨some 52, _, _, _, _, _⟩) (v := I R.e) rfl (by kernel_rfl) (by kernel_rfl) (by kernel_rfl) (fun _ _ _ h => h) (Or.inl ⟨by rfl, fun w' hw' => by have hw2 := hx3 w' hw'; go_simp⟩) hHeld ?_
        simp only [Act.put, List.setIfInBounds_toArray, List.set_cons_zero, List.set_cons_succ]
        refine wpAnyH_take (i := 3) (oi := ⟨some 53, _, _, _, _, _⟩) (v := I (R.e + 1)) rfl (by kernel_rfl) (by kernel_rfl) (by kernel_rfl) (fun _ _ _ h => h) (Or.inl ⟨by rfl, fun w' hw' => by have hw2 := hx3 w' hw'; go_simp⟩) hHeld ?_
        simp only [Act.put, List.setIfInBounds_toArray, List.set_cons_zero, List.set_cons_succ]
        refine wpAnyH_take (i := 5) (oi := ⟨some 55, _, _, _, _, _⟩) (v := .pointer (some ⟨w.heap.size + 1, 1, none⟩)) rfl (by kernel_rfl) (by kernel_rfl) (by kernel_rfl) (fun _ _ _ h => h) (Or.inl ⟨by rfl, fun w' hw' => by have hw2 := hx3 w' hw'; go_simp⟩) hHeld ?_
        simp only [Act.put, List.setIfInBounds_toArray, List.set_cons_zero, List.set_cons_succ]
        refine wpAnyH_take (i := 6) (oi := ⟨some 56, _, _, _, _, _⟩) (v := I R.e) rfl (by kernel_rfl) (by kernel_rfl) (by kernel_rfl) (fun _ _ _ h => h) (Or.inl ⟨by rfl, fun w' hw' => by have hw2 := hx3 w' hw'; go_simp⟩) hHeld ?_
        simp only [Act.put, List.setIfInBounds_toArray, List.set_cons_zero, List.set_cons_succ]
        refine wpAnyH_take (i := 7) (oi := ⟨some 57, _, _, _, _, _⟩) (v := I (R.e + 1)) rfl (by kernel_rfl) (by kernel_rfl) (by kernel_rfl) (fun _ _ _ h => h) (Or.inl ⟨by rfl, fun w' hw' => by have hw2 := hx3 w' hw'; go_simp⟩) hHeld ?_
        simp only [Act.put, List.setIfInBounds_toArray, List.set_cons_zero, List.set_cons_succ]
        refine wpAnyH_ready (rs := [4, 8]) (by kernel_rfl) (by simp) ?_
        refine AllReadyH.cons (o := ⟨some 54, _, _, _, _, _⟩) rfl (fun K hK => ?_) ?_
        · rw [if_pos (by rfl)]
          refine wp_make_kn 148 _ _ rfl _ rfl rfl (hmk _) ?_
          refine hK.out _ _ (hHeld.alloc hHeld.size _) (fun hHeld => ?_)
          clear hK K
          simp only [Act.put, List.setIfInBounds_toArray, List.set_cons_zero, List.set_cons_succ]
          refine wpAnyH_ready (rs := [8]) (by kernel_rfl) (by simp) ?_
          refine AllReadyH.cons (o := ⟨some 58, _, _, _, _, _⟩) rfl (fun K hK => ?_) AllReadyH.nil
          rw [if_pos (by rfl)]
          refine wp_make_kn 148 _ _ rfl _ rfl rfl (hmk _) ?_
          refine hK.out _ _ (hHeld.alloc hHeld.size _) (fun hHeld => ?_)
          clear hK K
          simp only [Act.put, List.setIfInBounds_toArray, List.set_cons_zero, List.set_cons_succ]
          refine wpAnyH_take (i := 9) (oi := ⟨some 59, _, _, _, _, _⟩) (v := .agg (ia 117 p ++ #[.slice (some ⟨wr.drew.heap.size, 0, none⟩) N N, .slice (some ⟨(wr.drew.alloc (.cells (kArr (fun _ => kn0) N) 147)).heap.size, 0, none⟩) N N])) rfl (by kernel_rfl) (by kernel_rfl) (by kernel_rfl) (fun _ _ _ h => h) (Or.inl ⟨by rfl, fun w' hw' => build_at (t := 150) (parts := #[(0, .tmp 50), (1, .tmp 54), (2, .tmp 58)]) rfl (by simp only [List.map_toArray, List.map_cons, List.map_nil, Act.eval]; exact built_chart p _ _ N)⟩) hHeld ?_
          simp only [Act.put, List.setIfInBounds_toArray, List.set_cons_zero, List.set_cons_succ]
          refine wpAnyH_ready (rs := [10]) (by kernel_rfl) (by simp) ?_
          refine AllReadyH.cons (o := ⟨some 60, _, _, _, _, _⟩) rfl (fun K hK => ?_) AllReadyH.nil
          rw [if_pos (by rfl)]
          refine wp_box 150 _ rfl _ rfl ?_
          refine hK.out _ _ (hHeld.alloc hHeld.size _) (fun hHeld => ?_)
          clear hK K
          simp only [Act.put, List.setIfInBounds_toArray, List.set_cons_zero, List.set_cons_succ]
          refine wpAnyH_take (i := 11) (oi := ⟨some 12, _, _, _, _, _⟩) (v := .pointer (some ⟨((wr.drew.alloc (.cells (kArr (fun _ => kn0) N) 147)).alloc (.cells (kArr (fun _ => kn0) N) 147)).heap.size, 0, none⟩)) rfl (by kernel_rfl) (by kernel_rfl) (by kernel_rfl) (fun _ _ _ h => h) (Or.inl ⟨by rfl, fun w' hw' => rfl⟩) hHeld ?_
          simp only [Act.put, List.setIfInBounds_toArray, List.set_cons_zero, List.set_cons_succ]
          refine wpAnyH_done (by kernel_rfl) ?_ _
          go_wp2_with fail
          go_meet
          case rel => exact ⟨_, wr.heap.size, wr.heap.size + 1, rfl, by omega, by omega, by omega, by omega, by omega, by omega, (by rw [heap_drew]; exact heap_before (heap_before (heap_last _ _ _ rfl))), (by rw [heap_drew]; exact heap_before (heap_last _ _ _ (by simp))), (by rw [heap_drew]; exact heap_last _ _ _ (by simp)), ((((Below.refl _ _).alloc (Nat.le_refl _) _).alloc (by simp) _).alloc (by simp; omega) _).drew⟩
        refine AllReadyH.cons (o := ⟨some 58, _, _, _, _, _⟩) rfl (fun K hK => ?_) ?_
        · rw [if_pos (by rfl)]
          refine wp_make_kn 148 _ _ rfl _ rfl rfl (hmk _) ?_
          refine hK.out _ _ (hHeld.alloc hHeld.size _) (fun hHeld => ?_)
          clear hK K
          simp only [Act.put, List.setIfInBounds_toArray, List.set_cons_zero, List.set_cons_succ]
          refine wpAnyH_ready (rs := [4]) (by kernel_rfl) (by simp) ?_
          refine AllReadyH.cons (o := ⟨some 54, _, _, _, _, _⟩) rfl (fun K hK => ?_) AllReadyH.nil
          rw [if_pos (by rfl)]
          refine wp_make_kn 148 _ _ rfl _ rfl rfl (hmk _) ?_
          refine hK.out _ _ (hHeld.alloc hHeld.size _) (fun hHeld => ?_)
          clear hK K
          simp only [Act.put, List.setIfInBounds_toArray, List.set_cons_zero, List.set_cons_succ]
          refine wpAnyH_take (i := 9) (oi := ⟨some 59, _, _, _, _, _⟩) (v := .agg (ia 117 p ++ #[.slice (some ⟨(wr.drew.alloc (.cells (kArr (fun _ => kn0) N) 147)).heap.size, 0, none⟩) N N, .slice (some ⟨wr.drew.heap.size, 0, none⟩) N N])) rfl (by kernel_rfl) (by kernel_rfl) (by kernel_rfl) (fun _ _ _ h => h) (Or.inl ⟨by rfl, fun w' hw' => build_at (t := 150) (parts := #[(0, .tmp 50), (1, .tmp 54), (2, .tmp 58)]) rfl (by simp only [List.map_toArray, List.map_cons, List.map_nil, Act.eval]; exact built_chart p _ _ N)⟩) hHeld ?_
          simp only [Act.put, List.setIfInBounds_toArray, List.set_cons_zero, List.set_cons_succ]
          refine wpAnyH_ready (rs := [10]) (by kernel_rfl) (by simp) ?_
          refine AllReadyH.cons (o := ⟨some 60, _, _, _, _, _⟩) rfl (fun K hK => ?_) AllReadyH.nil
          rw [if_pos (by rfl)]
          refine wp_box 150 _ rfl _ rfl ?_
          refine hK.out _ _ (hHeld.alloc hHeld.size _) (fun hHeld => ?_)
          clear hK K
          simp only [Act.put, List.setIfInBounds_toArray, List.set_cons_zero, List.set_cons_succ]
          refine wpAnyH_take (i := 11) (oi := ⟨some 12, _, _, _, _, _⟩) (v := .pointer (some ⟨((wr.drew.alloc (.cells (kArr (fun _ => kn0) N) 147)).alloc (.cells (kArr (fun _ => kn0) N) 147)).heap.size, 0, none⟩)) rfl (by kernel_rfl) (by kernel_rfl) (by kernel_rfl) (fun _ _ _ h => h) (Or.inl ⟨by rfl, fun w' hw' => rfl⟩) hHeld ?_
          simp only [Act.put, List.setIfInBounds_toArray, List.set_cons_zero, List.set_cons_succ]
          refine wpAnyH_done (by kernel_rfl) ?_ _
          go_wp2_with fail
          go_meet
          case rel => exact ⟨_, wr.heap.size + 1, wr.heap.size, rfl, by omega, by omega, by omega, by omega, by omega, by omega, (by rw [heap_drew]; exact heap_before (heap_last _ _ _ (by simp))), (by rw [heap_drew]; exact heap_before (heap_before (heap_last _ _ _ rfl))), (by rw [heap_drew]; exact heap_last _ _ _ (by simp)), ((((Below.refl _ _).alloc (Nat.le_refl _) _).alloc (by simp) _).alloc (by simp; omega) _).drew⟩
        exact AllReadyH.nil
      case rest =>
        obtain ⟨cb, bb, fb, rfl, hcb, hbb, hfb, n1, n2, n3, hB0, hF0, hC0, hbx⟩ := hcut
        obtain ⟨wo, rfl⟩ : ∃ wo : World, wo = wr := ⟨_, rfl⟩
        have HCh : Hid (Ch wc w1.heap.size bb fb cb N p (seenF R) (fun _ => kn0) (fun _ => kn0)) := ⟨(hbx.block _ hz).trans hS.out, hB0, hF0, hC0, ⟨by omega, by omega, by omega⟩, n1, n2, n3⟩
        have HBX := Lib.hid hbx
        have Hge := Lib.hid (And.intro hbb hfb)
        have Hbw := Lib.hid hbw
        have Hpul := Lib.hid pul
        have Hx3 := Lib.hid x3
        clear hB0 hF0 hC0 hbx n1 n2 n3 pul hmk x3 x1 x2 hcb hbb hfb hbw hlt
        go_wp2_with fail
        go_loopw [63] (fun i wq => ∃ k : Nat, k ≤ N ∧ i = .int .i64 k ∧ Ch wq w1.heap.size bb fb cb N p (seenF R) (upto (befF p R) k) (fun _ => kn0) ∧ Below wo.heap.size wo wq) (fun i _ => N - (intOf i).toNat)
        case atStart => exact ⟨0, by omega, rfl, by rw [upto_zero]; exact HCh.out, HBX.out⟩
        case round =>
          clear hk
          obtain ⟨k, hk, rfl, hch, hbq⟩ := hrel
          have HB := Lib.hid hbq
          have HC := Lib.hid hch
          clear hbq hch
          by_cases hlt : k < N
          · have y0 := ovr_cell HC.out.lb
            have s0 := ovr_cell (HC.out.cellS hlt (j := 0) (by omega))
            have s1 := ovr_cell (HC.out.cellS hlt (j := 1) (by omega))
            have s2 := ovr_cell (HC.out.cellS hlt (j := 2) (by omega))
            simp only [Kn.c, Nat.add_zero] at s0 s1 s2
            have i1 : (k : Int) < (N : Int) := by omega
            by_cases hk0 : k < 1
            · have hk1 : (k : Int) ≤ 0 := by omega
              go_wp2_with fail
              refine wp_region_below_last (by kernel_rfl) (by kernel_rfl) (by kernel_rfl) ?_
              simp only [skipLast_two, skipLast_one, lastOf_two, lastOf_one]
              repeat (go_big_quiet_step (fail))
              refine wpQuiet_nil ?_
              intro w2 hb2
              refine wp_store_kn 147 _ _ rfl bb k rfl (upto (befF p R) k) N 147 (HC.out.below hb2).b hlt (seenF R k) rfl (by kernel_rfl) ?_
              have hf : Hid (updK (upto (befF p R) k) k (seenF R k) = upto (befF p R) (k + 1)) := by
                show _ = _
                rw [← upto_upd]
                have : k = 0 := by omega
                subst this; rfl
              go_wp2_with fail
              go_roundw
              case rel => exact ⟨k + 1, by omega, by go_num, by rw [hf.out]; exact (HC.out.below hb2).setB _, below_setRow (HB.out.trans (hb2.mono HB.out.size)) Hge.out.1 _⟩
              case measure => simp [intOf]; omega
            · obtain ⟨j, rfl⟩ : ∃ j, k = j + 1 := ⟨k - 1, by omega⟩
              go_wp2_with fail
              refine wp_region_below_last (by kernel_rfl) (by kernel_rfl) (by kernel_rfl) ?_
              simp only [skipLast_two, skipLast_one, lastOf_two, lastOf_one]
              repeat (go_big_quiet_step (fail))
              refine wpQuiet_nil ?_
              intro w2 hb2
              refine wp_store_kn 147 _ _ rfl bb (j + 1) rfl (upto (befF p R) (j + 1)) N 147 (HC.out.below hb2).b hlt (seenF R (j + 1)) rfl (by kernel_rfl) ?_
              have hc3 := (HC.out.below hb2).setB (updK (upto (befF p R) (j + 1)) (j + 1) (seenF R (j + 1)))
              have hB3 : Below wo.heap.size wo (w2.setRow bb (kArr (updK (upto (befF p R) (j + 1)) (j + 1) (seenF R (j + 1))) N)) := below_setRow (HB.out.trans (hb2.mono HB.out.size)) Hge.out.1 _
              generalize w2.setRow bb (kArr (updK (upto (befF p R) (j + 1)) (j + 1) (seenF R (j + 1))) N) = W3 at *
              have HC3 := Lib.hid hc3
              have HB3 := Lib.hid hB3
              clear hc3 hB3 hb2 y0 s0 s1 s2
              have y0 := ovr_cell HC3.out.lb
              have s0 := ovr_cell (HC3.out.cellS hlt (j := 0) (by omega))
              have s1 := ovr_cell (HC3.out.cellS hlt (j := 1) (by omega))
              have s2 := ovr_cell (HC3.out.cellS hlt (j := 2) (by omega))
              have hj : j < N := by omega
              have b0 := ovr_cell (HC3.out.cellB hj (j := 0) (by omega))
              have b1 := ovr_cell (HC3.out.cellB hj (j := 1) (by omega))
              have b2 := ovr_cell (HC3.out.cellB hj (j := 2) (by omega))
              have p0 := ovr_cell ((HB3.out.cell (p := ⟨_, _, none⟩) (block_lt_of_cell (Hpul.out 110 (by omega)))).trans (Hpul.out 110 (by omega)))
              have p1 := ovr_cell ((HB3.out.cell (p := ⟨_, _, none⟩) (block_lt_of_cell (Hpul.out 111 (by omega)))).trans (Hpul.out 111 (by omega)))
              rw [show updK (upto (befF p R) (j + 1)) (j + 1) (seenF R (j + 1)) j = befF p R j by unfold updK upto; rw [if_neg (by omega), if_pos (by omega)]] at b0 b1 b2
              simp only [Kn.c, Nat.add_zero] at s0 s1 s2 b0 b1 b2
              have bd := bd_bef Hv.out Hp.out (t := j) (by omega)
              have Hl : Hid (∀ W, Calls Try.prog 88 #[(befF p R j).val, I (p 110), I (p 111)] W fun e w' => e = .returned (laterK (befF p R j) (p 110) (p 111)).val ∧ Below W.heap.size W w') := fun W =>
                later_any _ _ _ _ ⟨by have := bd.1.1; omega, by have := bd.1.2; omega⟩ ⟨by have := bd.2.1; omega, by have := bd.2.2; omega⟩ Hp.out.grow Hp.out.shrink
              have hbs : Hid (meetK (seenF R (j + 1)) (laterK (befF p R j) (p 110) (p 111)) = befF p R (j + 1)) := rfl
              clear bd
              go_wp2_with fail
              refine wp_region_below_last (by kernel_rfl) (by kernel_rfl) (by kernel_rfl) ?_
              simp only [skipLast_two, skipLast_one, lastOf_two, lastOf_one]
              repeat (go_big_quiet_step ((first | (go_at_call 88; exact call_below (Hl.out _)) | (go_at_call 87; exact call_below (meet_any (seenF R (j + 1)) (laterK (befF p R j) (p 110) (p 111)) _)))))
              refine wpQuiet_nil ?_
              intro w4 hb4
              refine wp_store_kn 147 _ _ rfl bb (j + 1) rfl (updK (upto (befF p R) (j + 1)) (j + 1) (seenF R (j + 1))) N 147 (HC3.out.below hb4).b hlt (befF p R (j + 1)) (by rw [← hbs.out]; rfl) (by kernel_rfl) ?_
              have hf : Hid (updK (updK (upto (befF p R) (j + 1)) (j + 1) (seenF R (j + 1))) (j + 1) (befF p R (j + 1)) = upto (befF p R) (j + 1 + 1)) := by
                show _ = _
                rw [upd_upd, upto_upd]
              go_wp2_with fail
              go_roundw
              case rel => exact ⟨j + 1 + 1, by omega, by go_num, by rw [hf.out]; exact (HC3.out.below hb4).setB _, below_setRow (HB3.out.trans (hb4.mono HB3.out.size)) Hge.out.1 _⟩
              case measure => simp [intOf]; omega
          · obtain rfl : N = k := by omega
            have x4 : wr.cell? ⟨w.heap.size + 1, 1, none⟩ = some (I R.e) := (HB.out.cell (p := ⟨_, _, none⟩) (block_lt_of_cell Hx3.out)).trans Hx3.out
            go_wp2_with fail
            obtain ⟨wo2, rfl⟩ : ∃ wo2 : World, wo2 = wr := ⟨_, rfl⟩
            have HCs : Hid (Ch wo2 w1.heap.size bb fb cb N p (seenF R) (upto (befF p R) N) (from' (frmF p R) (R.e + 1).toNat)) :=
              HC.out.congrF fun k hk => by unfold from'; rw [if_neg (by have := HNi.out; omega)]
            have HBs := Lib.hid HB.out
            clear HC HB HCh HBX x4 hk hlt
            go_loopw [14] (fun i wq => ∃ t : Int, i = .int .i64 t ∧ -1 ≤ t ∧ t < (N : Int) ∧ Ch wq w1.heap.size bb fb cb N p (seenF R) (upto (befF p R) N) (from' (frmF p R) (t + 1).toNat) ∧ Below wo.heap.size wo wq) (fun i _ => (intOf i + 1).toNat)
            case atStart => exact ⟨R.e, rfl, by omega, by omega, HCs.out, HBs.out⟩
            case round =>
              obtain ⟨t, rfl, ht1, ht2, hch, hbq⟩ := hrel
              have HB := Lib.hid hbq
              have HC := Lib.hid hch
              clear hbq hch
              by_cases hlt : 0 ≤ t
              · obtain ⟨i, rfl⟩ : ∃ i : Nat, t = (i : Int) := ⟨t.toNat, by omega⟩
                have hiN : i < N := by omega
                rw [show ((i : Int) + 1).toNat = i + 1 by omega] at HC
                have y0 := ovr_cell HC.out.lf
                have s0 := ovr_cell (HC.out.cellS hiN (j := 0) (by omega))
                have s1 := ovr_cell (HC.out.cellS hiN (j := 1) (by omega))
                have s2 := ovr_cell (HC.out.cellS hiN (j := 2) (by omega))
                simp only [Kn.c, Nat.add_zero] at s0 s1 s2
                go_wp2_with fail
                refine wp_region_below_last (by kernel_rfl) (by kernel_rfl) (by kernel_rfl) ?_
                simp only [skipLast_two, skipLast_one, lastOf_two, lastOf_one]
                repeat (go_big_quiet_step (fail))
                refine wpQuiet_nil ?_
                intro w2 hb2
                refine wp_store_kn 147 _ _ rfl fb i rfl (from' (frmF p R) (i + 1)) N 147 (HC.out.below hb2).f hiN (seenF R i) rfl (by kernel_rfl) ?_
                have hc3 := (HC.out.below hb2).setF (updK (from' (frmF p R) (i + 1)) i (seenF R i))
                have hB3 : Below wo.heap.size wo (w2.setRow fb (kArr (updK (from' (frmF p R) (i + 1)) i (seenF R i)) N)) := below_setRow (HB.out.trans (hb2.mono HB.out.size)) Hge.out.2 _
                generalize w2.setRow fb (kArr (updK (from' (frmF p R) (i + 1)) i (seenF R i)) N) = W3 at *
                have HC3 := Lib.hid hc3
                have HB3 := Lib.hid hB3
                clear hc3 hB3 hb2 y0 s0 s1 s2
                have x4 : W3.cell? ⟨w.heap.size + 1, 1, none⟩ = some (I R.e) := (HB3.out.cell (p := ⟨_, _, none⟩) (block_lt_of_cell Hx3.out)).trans Hx3.out
                by_cases hie : (i : Int) < R.e
                · have y0 := ovr_cell HC3.out.lf
                  have s0 := ovr_cell (HC3.out.cellS hiN (j := 0) (by omega))
                  have s1 := ovr_cell (HC3.out.cellS hiN (j := 1) (by omega))
                  have s2 := ovr_cell (HC3.out.cellS hiN (j := 2) (by omega))
                  have hi1 : i + 1 < N := by omega
                  have b0 := ovr_cell (HC3.out.cellF hi1 (j := 0) (by omega))
                  have b1 := ovr_cell (HC3.out.cellF hi1 (j := 1) (by omega))
                  have b2 := ovr_cell (HC3.out.cellF hi1 (j := 2) (by omega))
                  have p0 := ovr_cell ((HB3.out.cell (p := ⟨_, _, none⟩) (block_lt_of_cell (Hpul.out 110 (by omega)))).trans (Hpul.out 110 (by omega)))
                  have p1 := ovr_cell ((HB3.out.cell (p := ⟨_, _, none⟩) (block_lt_of_cell (Hpul.out 111 (by omega)))).trans (Hpul.out 111 (by omega)))
                  rw [show updK (from' (frmF p R) (i + 1)) i (seenF R i) (i + 1) = frmF p R (i + 1) by unfold updK from'; rw [if_neg (by omega), if_pos (by omega)]] at b0 b1 b2
                  simp only [Kn.c, Nat.add_zero] at s0 s1 s2 b0 b1 b2
                  have bd := bd_frm (p := p) Hv.out Hp.out (i + 1)
                  have Hl : Hid (∀ W, Calls Try.prog 88 #[(frmF p R (i + 1)).val, I (p 111), I (p 110)] W fun e w' => e = .returned (laterK (frmF p R (i + 1)) (p 111) (p 110)).val ∧ Below W.heap.size W w') := fun W =>
                    later_any _ _ _ _ ⟨by have := bd.1.1; omega, by have := bd.1.2; omega⟩ ⟨by have := bd.2.1; omega, by have := bd.2.2; omega⟩ Hp.out.shrink Hp.out.grow
                  have hbs : Hid (meetK (seenF R i) (laterK (frmF p R (i + 1)) (p 111) (p 110)) = frmF p R i) := (frmF_succ p R (by omega)).symm
                  clear bd
                  go_wp2_with fail
                  refine wp_region_below_last (by kernel_rfl) (by kernel_rfl) (by kernel_rfl) ?_
                  simp only [skipLast_two, skipLast_one, lastOf_two, lastOf_one]
                  repeat (go_big_quiet_step ((first | (go_at_call 88; exact call_below (Hl.out _)) | (go_at_call 87; exact call_below (meet_any (seenF R i) (laterK (frmF p R (i + 1)) (p 111) (p 110)) _)))))
                  refine wpQuiet_nil ?_
                  intro w4 hb4
                  refine wp_store_kn 147 _ _ rfl fb i rfl (updK (from' (frmF p R) (i + 1)) i (seenF R i)) N 147 (HC3.out.below hb4).f hiN (frmF p R i) (by rw [← hbs.out]; rfl) (by kernel_rfl) ?_
                  have hf : Hid (updK (updK (from' (frmF p R) (i + 1)) i (seenF R i)) i (frmF p R i) = from' (frmF p R) ((i : Int) - 1 + 1).toNat) := by
                    show _ = _
                    rw [upd_upd, from_upd, show ((i : Int) - 1 + 1).toNat = i by omega]
                  go_wp2_with fail
                  go_roundw
                  case rel => exact ⟨(i : Int) - 1, rfl, by omega, by omega, by rw [hf.out]; exact (HC3.out.below hb4).setF _, below_setRow (HB3.out.trans (hb4.mono HB3.out.size)) Hge.out.2 _⟩
                  case measure => simp [intOf]
                · have hf : Hid (updK (from' (frmF p R) (i + 1)) i (seenF R i) = from' (frmF p R) ((i : Int) - 1 + 1).toNat) := by
                    show _ = _
                    have hi : i = R.e.toNat := by have := HNi.out; omega
                    rw [show seenF R i = frmF p R i by rw [hi, frmF_last], from_upd, show ((i : Int) - 1 + 1).toNat = i by omega]
                  go_wp2_with fail
                  go_roundw
                  case rel => exact ⟨(i : Int) - 1, rfl, by omega, by omega, by rw [← hf.out]; exact HC3.out, HB3.out⟩
                  case measure => simp [intOf]
              · have hc0 : Hid (Chart wr cb bb fb p (R.e.toNat + 1) (befF p R) (frmF p R)) := by
                  have := HC.out.chart (B' := befF p R) (F' := frmF p R) (fun k hk => by unfold upto; rw [if_pos hk]) (fun k hk => by unfold from'; rw [if_pos (by omega)])
                  rw [hNE.out] at this; exact this
                have hfin : Hid (Below w.heap.size w wr) := T.out.up _ (hb1.trans ((Hbw.out.trans (HB.out.mono Hbw.out.size)).mono hb1.size))
                go_wp2_with fail
                go_ret2
                exact ⟨cb, bb, fb, rfl, hc0.out, hfin.out⟩
end Go.Proofs.Ytlebefopdnadaaa
