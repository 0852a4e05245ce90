/- The contract of newChart of package pull, where there is a course. -/
import Derived.Test.YtbojgcaehlapiaaAta
namespace Go.Proofs.Ytbojgcaehlapiaa
open Go.RowKit
theorem range_ia {w : World} {g : Nat} {p : Vec} (h : ∀ j, j < 117 → w.cell? ⟨g, 0 + j, none⟩ = some (I (p j))) : w.rangeAt g 0 (ia 117 p).toList := by
  intro j v hv
  have hj : j < 117 := by have := (List.getElem?_eq_some_iff.1 hv).1; simpa [ia] using this
  rw [Array.getElem?_toList, ia_get hj] at hv
  rw [← Option.some.inj hv]; exact h j hj
theorem info_puller (p : Vec) : (Try.prog.info? 30).map (·.size) = some (ia 117 p).toList.length := by rw [show (ia 117 p).toList.length = 117 by simp [ia]]; kernel_rfl
theorem load_ia_at {w : World} {g : Nat} {p : Vec} {o : Oper} {e : Operand → Value} {x : Operand} (ho : o.op = .load 30 x) (hx : e x = .pointer (some ⟨g, 0, none⟩)) (h : w.rangeAt g 0 (ia 117 p).toList) : (execOp e o).run Try.prog w = .ok (.value (.agg (ia 117 p))) w := by
  have hl := run_loadVar_mid (P := Try.prog) w g 0 30 (ia 117 p).toList _ h Try.underlying30 rfl (info_puller p)
  simp only [execOp, ho, hx, Instr.loadAt, Instr.sureAddr, Sem.run_bind, Sem.run_pure, Result.andThen_ok, hl]
/-- A chart comes back. -/
def RetC (w : World) (p : Vec) (R : Run) (e : Ending) (w' : World) : Prop := ∃ cb bb fb, e = .returned (.tuple #[.pointer (some ⟨cb, 0, none⟩), I 0]) ∧ Chart w' cb bb fb p (R.e.toNat + 1) (befF p R) (frmF p R) ∧ Below w.heap.size w w'
theorem wp_make_kn {P : Program} {o : Oper} {a : Act} {w : World} {K : Act → World → Prop} {Q : Exit → Act → World → Prop} (ty : TypeId) (x y : Operand) (ho : o.op = .makeSlice ty x y) (v : Value) (hx : a.eval x = v) (hy : a.eval y = v) {u : Value} {w' : World}
    (hr : (Instr.makeSlice ty v v).run P w = .ok u w') (h : K (a.put o.dst u) w') : o.wp P a w K Q := by
  unfold Oper.wp execOp
  simp only [ho, hx, hy, Sem.run_bind, Sem.run_pure, Result.andThen_ok, hr]
  exact h
theorem wp_box {P : Program} {o : Oper} {a : Act} {w : World} {K : Act → World → Prop} {Q : Exit → Act → World → Prop} (ty : TypeId) (x : Operand) (ho : o.op = .box ty x) (cs : Array Value) (hx : a.eval x = .agg cs)
    (h : K (a.put o.dst (.pointer (some ⟨w.heap.size, 0, none⟩))) (w.alloc (.cells cs ty))) : o.wp P a w K Q := by
  have hr : (Instr.box ty (.agg cs)).run P w = .ok (.pointer (some ⟨w.heap.size, 0, none⟩)) (w.alloc (.cells cs ty)) := by
    go_simp
  unfold Oper.wp execOp
  simp only [ho, hx, Sem.run_bind, Sem.run_pure, Result.andThen_ok, hr]
  exact h
theorem built_chart (p : Vec) (b f N : Nat) : Try.prog.built 157 [(0, .agg (ia 117 p)), (1, .slice (some ⟨b, 0, none⟩) N N), (2, .slice (some ⟨f, 0, none⟩) N N)] = some (ia 117 p ++ #[.slice (some ⟨b, 0, none⟩) N N, .slice (some ⟨f, 0, none⟩) N N]) := by kernel_rfl
theorem build_at {P : Program} {w : World} {o : Oper} {e : Operand → Value} {t : TypeId} {parts : Array (Nat × Operand)} {cs : Array Value} (ho : o.op = .build t parts) (h : P.built t (parts.map fun (i, x) => (i, e x)).toList = some cs) : (execOp e o).run P w = .ok (.value (.agg cs)) w := by
  simp only [execOp, ho, Sem.run_bind, run_build w t _ cs h, Result.andThen_ok, Sem.run_pure]
set_option maxRecDepth 100000 in
set_option maxHeartbeats 1000000 in
theorem newChart_ok (A1 A2 A3 : Option Addr) (c1 c2 c3 : Nat) (p : Vec) (R : Run) (w : World) (h : RunIn w A1 A2 A3 R) (hc2 : R.ms.length ≤ c2)
    (hok : (okPuller p && okRun R) = true) (hcf : conf p R = none) :
    Calls Try.prog 50 #[.agg (ia 117 p), runV A1 A2 A3 c1 c2 c3 R] w (RetC w p R) := by
  obtain ⟨W2, hW2⟩ : ∃ W2, W2 = ((w.alloc (.cells (ia 117 p) 30)).alloc (.cells #[.slice A1 R.ss.length c1, I R.e, .slice A2 R.ms.length c2, .slice A3 R.es.length c3] 48)) := ⟨_, rfl⟩
  have T : Hid (Two w A1 A2 A3 c1 c2 c3 p R W2) := hW2 ▸ two_mk h c1 c2 c3 p
  have HW := Lib.hid hW2
  have hv : Hid (confV p R = (-1, -1)) := by show _ = _; rw [confV, hok, hcf]; rfl
  have Hok := Lib.hid hok
  rw [Bool.and_eq_true] at hok
  have Hv := Lib.hid ((vRun_iff R).1 hok.2)
  have Hp := Lib.hid (vPul_of hok.1)
  have last := Hv.out.last
  have m100 := Hv.out.m100
  have e0 : 0 ≤ R.e := by have := Hv.out.t0 0 Hv.out.n1; have := Hv.out.tlt 0 Hv.out.n1; omega
  obtain ⟨N, hN⟩ : ∃ N, N = (R.e + 1).toNat := ⟨_, rfl⟩
  have hNE : Hid (N = R.e.toNat + 1) := by show N = _; omega
  have hNi : (N : Int) = R.e + 1 := by omega
  have hN1 : (R.e + 1 : Int) ≤ (N : Int) := by omega
  have hN2 : (N : Int) ≤ 100001 := by omega
  have hmk := make_kn (R.e + 1) N hN (by omega) (by omega)
  have HNi := Lib.hid hNi
  clear h hW2 hok hcf hN hNi
  go_enter Try.func50, Try.ntmps50
  go_wp2_with (refine wpList_load_ia rfl 30 _ rfl w.heap.size 0 rfl 117 p _ (by rw [← HW.out]; exact T.out.pul _ (Below.refl _ _)) Try.underlying30 rfl (by kernel_rfl) ?_)
  rw [← HW.out]
  refine (conflict_any A1 A2 A3 c1 c2 c3 p R _ T.out.run hc2).mono ?_
  rintro e w1 ⟨rfl, hb1⟩
  rw [Hok.out, show er true = 0 from rfl, hv.out]
  have x1 := T.out.r1 _ hb1
  have x2 : ∀ x, (w1.alloc x).cell? ⟨w.heap.size + 1, 2, none⟩ = some (.slice A2 R.ms.length c2) := fun x => T.out.r2 _ (hb1.alloc hb1.size x)
  go_wp2_with fail
  go_loopw [34] (fun i wr => ∃ k : Nat, k ≤ R.ms.length ∧ i = .int .i64 k ∧ wr.heap[w1.heap.size]? = some (.cells (kArr (seenK R k) N) 154 (0, 0)) ∧ Below w1.heap.size w1 wr) (fun i _ => R.ms.length - (intOf i).toNat)
  case atStart => exact ⟨0, by omega, rfl, heap_last _ _ _ rfl, (Below.refl _ _).alloc (Nat.le_refl _) _⟩
  case round =>
    obtain ⟨k, hk, rfl, hb, hbw⟩ := hrel
    have HX := Lib.hid hb
    have HXa : ∀ x : Obj, (wr.alloc x).heap[w1.heap.size]? = some (.cells (kArr (seenK R k) N) 154 (0, 0)) := fun x => (((Below.refl wr.heap.size wr).alloc (Nat.le_refl _) x).block _ (Array.getElem?_eq_some_iff.1 hb).1).trans hb
    have HXA := Lib.hid HXa
    clear hb HXa
    have hbT := hb1.trans (hbw.mono hb1.size)
    have zr := hbw.size
    by_cases hlt : k < R.ms.length
    · obtain ⟨b, o, rfl, hB, y0, y1, y2⟩ := (T.out.run.m.below hbT).smp hlt
      have j0 : (0 : Int) ≤ (k : Int) := by omega
      have j1 : (k : Int) ≤ (c2 : Int) := by omega
      have hbm := Hv.out.mt k hlt
      have hbr := Hv.out.mr k hlt
      have hsn : Hid (seenK R (k + 1) = updK (seenK R k) (at0 R.ms k).t.toNat ⟨(at0 R.ms k).lo, (at0 R.ms k).hi, true⟩) := rfl
      generalize hbq : at0 R.ms k = bq at *
      have HBQ := Lib.hid hbq
      clear hbq
      obtain ⟨bt1, bt2⟩ := hbm
      obtain ⟨br1, br2, br3⟩ := hbr
      obtain ⟨kt, hkt⟩ : ∃ kt : Nat, kt = bq.t.toNat := ⟨_, rfl⟩
      have hkt2 : bq.t = (kt : Int) := by omega
      have hktN : kt < N := by have := HNi.out; omega
      have hki : (kt : Int) < (N : Int) := by omega
      rw [← hkt] at hsn
      have Hkt := Lib.hid hkt2
      clear hkt
      obtain ⟨bt, bl, bh⟩ := bq
      simp only at *
      subst hkt2
      go_wp2_with (refine wpList_store_kn rfl 154 _ _ rfl w1.heap.size kt (by first | rfl | (simp; rfl)) (seenK R k) N 154 (HXA.out _) hktN ⟨bl, bh, true⟩ rfl (by kernel_rfl) ?_)
      go_roundw
      case rel => exact ⟨k + 1, by omega, by go_num, by rw [hsn.out]; exact setRow_same (HXA.out _), below_setRow (hbw.alloc zr _) (Nat.le_refl _) _⟩
      case measure => simp [intOf]; omega
    · obtain rfl : k = R.ms.length := by omega
      have hS : Hid (wr.heap[w1.heap.size]? = some (.cells (kArr (seenF R) N) 154 (0, 0))) := HX
      have hz : w1.heap.size < wr.heap.size := (Array.getElem?_eq_some_iff.1 HX.out).1
      clear HX HXA
      have pul : ∀ j, j < 117 → wr.cell? ⟨w.heap.size, 0 + j, none⟩ = some (I (p j)) := T.out.pul _ hbT
      have x3 : wr.cell? ⟨w.heap.size + 1, 1, none⟩ = some (I R.e) := T.out.r1 _ hbT
      go_upto_region 12 with fail
      go_cut [12] (fun s12 wx => ∃ cb bb fb : Nat, s12 = .pointer (some ⟨cb, 0, none⟩) ∧ wr.heap.size ≤ cb ∧ wr.heap.size ≤ bb ∧ wr.heap.size ≤ fb ∧ bb ≠ fb ∧ bb ≠ cb ∧ fb ≠ cb ∧ wx.heap[bb]? = some (.cells (kArr (fun _ => kn0) N) 154 (0, 0)) ∧ wx.heap[fb]? = some (.cells (kArr (fun _ => kn0) N) 154 (0, 0)) ∧ wx.heap[cb]? = some (.cells (ia 117 p ++ #[.slice (some ⟨bb, 0, none⟩) N N, .slice (some ⟨fb, 0, none⟩) N N]) 157 (0, 0)) ∧ Below wr.heap.size wr wx)
      case first =>
        have hr : ∀ W, Below wr.heap.size wr W → W.rangeAt w.heap.size 0 (ia 117 p).toList := fun W hW => range_ia fun j hj => (hW.cell (p := ⟨_, _, none⟩) (block_lt_of_cell (pul j hj))).trans (pul j hj)
        have hx3 : ∀ W, Below wr.heap.size wr W → W.cell? ⟨w.heap.size + 1, 1, none⟩ = some (I R.e) := fun W hW => (hW.cell (p := ⟨_, _, none⟩) (block_lt_of_cell x3)).trans x3
        have n1 : IntKind.i64.wrap (R.e + 1) = R.e + 1 := IntWalk.i64_in _ (by omega)
        refine wp_region_held_drew (S := fun w' => Below wr.heap.size wr w') (by kernel_rfl) (Below.refl _ _).drew (fun hHeld => ?_)
        refine wpAnyH_take (i := 0) (oi := ⟨some 50, _, _, _, _, _⟩) (v := .agg (ia 117 p)) rfl (by kernel_rfl) (by kernel_rfl) (by kernel_rfl) (fun _ _ _ h => h) (Or.inl ⟨by rfl, fun w' hw' => load_ia_at rfl rfl (hr w' hw')⟩) hHeld ?_
        simp only [Act.put, List.setIfInBounds_toArray, List.set_cons_zero, List.set_cons_succ]
        refine wpAnyH_take (i := 1) (oi := ⟨some 51, _, _, _, _, _⟩) (v := .pointer (some ⟨w.heap.size + 1, 1, none⟩)) rfl (by kernel_rfl) (by kernel_rfl) (by kernel_rfl) (fun _ _ _ h => h) (Or.inl ⟨by rfl, fun w' hw' => by have hw2 := hx3 w' hw'; go_simp⟩) hHeld ?_
        simp only [Act.put, List.setIfInBounds_toArray, List.set_cons_zero, List.set_cons_succ]
        refine wpAnyH_take (i := 2) (oi := ⟨some 52, _, _, _, _, _⟩) (v := I R.e) rfl (by kernel_rfl) (by kernel_rfl) (by kernel_rfl) (fun _ _ _ h => h) (Or.inl ⟨by rfl, fun w' hw' => by have hw2 := hx3 w' hw'; go_simp⟩) hHeld ?_
        simp only [Act.put, List.setIfInBounds_toArray, List.set_cons_zero, List.set_cons_succ]
        refine wpAnyH_take (i := 3) (oi := ⟨some 53, _, _, _, _, _⟩) (v := I (R.e + 1)) rfl (by kernel_rfl) (by kernel_rfl) (by kernel_rfl) (fun _ _ _ h => h) (Or.inl ⟨by rfl, fun w' hw' => by have hw2 := hx3 w' hw'; go_simp⟩) hHeld ?_
        simp only [Act.put, List.setIfInBounds_toArray, List.set_cons_zero, List.set_cons_succ]
        refine wpAnyH_take (i := 5) (oi := ⟨some 55, _, _, _, _, _⟩) (v := .pointer (some ⟨w.heap.size + 1, 1, none⟩)) rfl (by kernel_rfl) (by kernel_rfl) (by kernel_rfl) (fun _ _ _ h => h) (Or.inl ⟨by rfl, fun w' hw' => by have hw2 := hx3 w' hw'; go_simp⟩) hHeld ?_
        simp only [Act.put, List.setIfInBounds_toArray, List.set_cons_zero, List.set_cons_succ]
        refine wpAnyH_take (i := 6) (oi := ⟨some 56, _, _, _, _, _⟩) (v := I R.e) rfl (by kernel_rfl) (by kernel_rfl) (by kernel_rfl) (fun _ _ _ h => h) (Or.inl ⟨by rfl, fun w' hw' => by have hw2 := hx3 w' hw'; go_simp⟩) hHeld ?_
        simp only [Act.put, List.setIfInBounds_toArray, List.set_cons_zero, List.set_cons_succ]
        refine wpAnyH_take (i := 7) (oi := ⟨some 57, _, _, _, _, _⟩) (v := I (R.e + 1)) rfl (by kernel_rfl) (by kernel_rfl) (by kernel_rfl) (fun _ _ _ h => h) (Or.inl ⟨by rfl, fun w' hw' => by have hw2 := hx3 w' hw'; go_simp⟩) hHeld ?_
        simp only [Act.put, List.setIfInBounds_toArray, List.set_cons_zero, List.set_cons_succ]
        refine wpAnyH_ready (rs := [4, 8]) (by kernel_rfl) (by simp) ?_
        refine AllReadyH.cons (o := ⟨some 54, _, _, _, _, _⟩) rfl (fun K hK => ?_) ?_
        · rw [if_pos (by rfl)]
          refine wp_make_kn 155 _ _ rfl _ rfl rfl (hmk _) ?_
          refine hK.out _ _ (hHeld.alloc hHeld.size _) (fun hHeld => ?_)
          clear hK K
          simp only [Act.put, List.setIfInBounds_toArray, List.set_cons_zero, List.set_cons_succ]
          refine wpAnyH_ready (rs := [8]) (by kernel_rfl) (by simp) ?_
          refine AllReadyH.cons (o := ⟨some 58, _, _, _, _, _⟩) rfl (fun K hK => ?_) AllReadyH.nil
          rw [if_pos (by rfl)]
          refine wp_make_kn 155 _ _ rfl _ rfl rfl (hmk _) ?_
          refine hK.out _ _ (hHeld.alloc hHeld.size _) (fun hHeld => ?_)
          clear hK K
          simp only [Act.put, List.setIfInBounds_toArray, List.set_cons_zero, List.set_cons_succ]
          refine wpAnyH_take (i := 9) (oi := ⟨some 59, _, _, _, _, _⟩) (v := .agg (ia 117 p ++ #[.slice (some ⟨wr.drew.heap.size, 0, none⟩) N N, .slice (some ⟨(wr.drew.alloc (.cells (kArr (fun _ => kn0) N) 154)).heap.size, 0, none⟩) N N])) rfl (by kernel_rfl) (by kernel_rfl) (by kernel_rfl) (fun _ _ _ h => h) (Or.inl ⟨by rfl, fun w' hw' => build_at (t := 157) (parts := #[(0, .tmp 50), (1, .tmp 54), (2, .tmp 58)]) rfl (by simp only [List.map_toArray, List.map_cons, List.map_nil, Act.eval]; exact built_chart p _ _ N)⟩) hHeld ?_
          simp only [Act.put, List.setIfInBounds_toArray, List.set_cons_zero, List.set_cons_succ]
          refine wpAnyH_ready (rs := [10]) (by kernel_rfl) (by simp) ?_
          refine AllReadyH.cons (o := ⟨some 60, _, _, _, _, _⟩) rfl (fun K hK => ?_) AllReadyH.nil
          rw [if_pos (by rfl)]
          refine wp_box 157 _ rfl _ rfl ?_
          refine hK.out _ _ (hHeld.alloc hHeld.size _) (fun hHeld => ?_)
          clear hK K
          simp only [Act.put, List.setIfInBounds_toArray, List.set_cons_zero, List.set_cons_succ]
          refine wpAnyH_take (i := 11) (oi := ⟨some 12, _, _, _, _, _⟩) (v := .pointer (some ⟨((wr.drew.alloc (.cells (kArr (fun _ => kn0) N) 154)).alloc (.cells (kArr (fun _ => kn0) N) 154)).heap.size, 0, none⟩)) rfl (by kernel_rfl) (by kernel_rfl) (by kernel_rfl) (fun _ _ _ h => h) (Or.inl ⟨by rfl, fun w' hw' => rfl⟩) hHeld ?_
          simp only [Act.put, List.setIfInBounds_toArray, List.set_cons_zero, List.set_cons_succ]
          refine wpAnyH_done (by kernel_rfl) ?_ _
          go_wp2_with fail
          go_meet
          case rel => exact ⟨_, wr.heap.size, wr.heap.size + 1, rfl, by omega, by omega, by omega, by omega, by omega, by omega, (by rw [heap_drew]; exact heap_before (heap_before (heap_last _ _ _ rfl))), (by rw [heap_drew]; exact heap_before (heap_last _ _ _ (by simp))), (by rw [heap_drew]; exact heap_last _ _ _ (by simp)), ((((Below.refl _ _).alloc (Nat.le_refl _) _).alloc (by simp) _).alloc (by simp; omega) _).drew⟩
        refine AllReadyH.cons (o := ⟨some 58, _, _, _, _, _⟩) rfl (fun K hK => ?_) ?_
        · rw [if_pos (by rfl)]
          refine wp_make_kn 155 _ _ rfl _ rfl rfl (hmk _) ?_
          refine hK.out _ _ (hHeld.alloc hHeld.size _) (fun hHeld => ?_)
          clear hK K
          simp only [Act.put, List.setIfInBounds_toArray, List.set_cons_zero, List.set_cons_succ]
          refine wpAnyH_ready (rs := [4]) (by kernel_rfl) (by simp) ?_
          refine AllReadyH.cons (o := ⟨some 54, _, _, _, _, _⟩) rfl (fun K hK => ?_) AllReadyH.nil
          rw [if_pos (by rfl)]
          refine wp_make_kn 155 _ _ rfl _ rfl rfl (hmk _) ?_
          refine hK.out _ _ (hHeld.alloc hHeld.size _) (fun hHeld => ?_)
          clear hK K
          simp only [Act.put, List.setIfInBounds_toArray, List.set_cons_zero, List.set_cons_succ]
          refine wpAnyH_take (i := 9) (oi := ⟨some 59, _, _, _, _, _⟩) (v := .agg (ia 117 p ++ #[.slice (some ⟨(wr.drew.alloc (.cells (kArr (fun _ => kn0) N) 154)).heap.size, 0, none⟩) N N, .slice (some ⟨wr.drew.heap.size, 0, none⟩) N N])) rfl (by kernel_rfl) (by kernel_rfl) (by kernel_rfl) (fun _ _ _ h => h) (Or.inl ⟨by rfl, fun w' hw' => build_at (t := 157) (parts := #[(0, .tmp 50), (1, .tmp 54), (2, .tmp 58)]) rfl (by simp only [List.map_toArray, List.map_cons, List.map_nil, Act.eval]; exact built_chart p _ _ N)⟩) hHeld ?_
          simp only [Act.put, List.setIfInBounds_toArray, List.set_cons_zero, List.set_cons_succ]
          refine wpAnyH_ready (rs := [10]) (by kernel_rfl) (by simp) ?_
          refine AllReadyH.cons (o := ⟨some 60, _, _, _, _, _⟩) rfl (fun K hK => ?_) AllReadyH.nil
          rw [if_pos (by rfl)]
          refine wp_box 157 _ rfl _ rfl ?_
          refine hK.out _ _ (hHeld.alloc hHeld.size _) (fun hHeld => ?_)
          clear hK K
          simp only [Act.put, List.setIfInBounds_toArray, List.set_cons_zero, List.set_cons_succ]
          refine wpAnyH_take (i := 11) (oi := ⟨some 12, _, _, _, _, _⟩) (v := .pointer (some ⟨((wr.drew.alloc (.cells (kArr (fun _ => kn0) N) 154)).alloc (.cells (kArr (fun _ => kn0) N) 154)).heap.size, 0, none⟩)) rfl (by kernel_rfl) (by kernel_rfl) (by kernel_rfl) (fun _ _ _ h => h) (Or.inl ⟨by rfl, fun w' hw' => rfl⟩) hHeld ?_
          simp only [Act.put, List.setIfInBounds_toArray, List.set_cons_zero, List.set_cons_succ]
          refine wpAnyH_done (by kernel_rfl) ?_ _
          go_wp2_with fail
          go_meet
          case rel => exact ⟨_, wr.heap.size + 1, wr.heap.size, rfl, by omega, by omega, by omega, by omega, by omega, by omega, (by rw [heap_drew]; exact heap_before (heap_last _ _ _ (by simp))), (by rw [heap_drew]; exact heap_before (heap_before (heap_last _ _ _ rfl))), (by rw [heap_drew]; exact heap_last _ _ _ (by simp)), ((((Below.refl _ _).alloc (Nat.le_refl _) _).alloc (by simp) _).alloc (by simp; omega) _).drew⟩
        exact AllReadyH.nil
      case rest =>
        obtain ⟨cb, bb, fb, rfl, hcb, hbb, hfb, n1, n2, n3, hB0, hF0, hC0, hbx⟩ := hcut
        obtain ⟨wo, rfl⟩ : ∃ wo : World, wo = wr := ⟨_, rfl⟩
        have HCh : Hid (Ch wc w1.heap.size bb fb cb N p (seenF R) (fun _ => kn0) (fun _ => kn0)) := ⟨(hbx.block _ hz).trans hS.out, hB0, hF0, hC0, ⟨by omega, by omega, by omega⟩, n1, n2, n3⟩
        have HBX := Lib.hid hbx
        have Hge := Lib.hid (And.intro hbb hfb)
        have Hbw := Lib.hid hbw
        have Hpul := Lib.hid pul
        have Hx3 := Lib.hid x3
        clear hB0 hF0 hC0 hbx n1 n2 n3 pul hmk x3 x1 x2 hcb hbb hfb hbw hlt
        go_wp2_with fail
        go_loopw [63] (fun i wq => ∃ k : Nat, k ≤ N ∧ i = .int .i64 k ∧ Ch wq w1.heap.size bb fb cb N p (seenF R) (upto (befF p R) k) (fun _ => kn0) ∧ Below wo.heap.size wo wq) (fun i _ => N - (intOf i).toNat)
        case atStart => exact ⟨0, by omega, rfl, by rw [upto_zero]; exact HCh.out, HBX.out⟩
        case round =>
          clear hk
          obtain ⟨k, hk, rfl, hch, hbq⟩ := hrel
          have HB := Lib.hid hbq
          have HC := Lib.hid hch
          clear hbq hch
          by_cases hlt : k < N
          · have y0 := ovr_cell HC.out.lb
            have s0 := ovr_cell (HC.out.cellS hlt (j := 0) (by omega))
            have s1 := ovr_cell (HC.out.cellS hlt (j := 1) (by omega))
            have s2 := ovr_cell (HC.out.cellS hlt (j := 2) (by omega))
            simp only [Kn.c, Nat.add_zero] at s0 s1 s2
            have i1 : (k : Int) < (N : Int) := by omega
            by_cases hk0 : k < 1
            · have hk1 : (k : Int) ≤ 0 := by omega
              go_wp2_with fail
              refine wp_region_below_last (by kernel_rfl) (by kernel_rfl) (by kernel_rfl) ?_
              simp only [skipLast_two, skipLast_one, lastOf_two, lastOf_one]
              repeat (go_big_quiet_step (fail))
              refine wpQuiet_nil ?_
              intro w2 hb2
              refine wp_store_kn 154 _ _ rfl bb k rfl (upto (befF p R) k) N 154 (HC.out.below hb2).b hlt (seenF R k) rfl (by kernel_rfl) ?_
              have hf : Hid (updK (upto (befF p R) k) k (seenF R k) = upto (befF p R) (k + 1)) := by
                show _ = _
                rw [← upto_upd]
                have : k = 0 := by omega
                subst this; rfl
              go_wp2_with fail
              go_roundw
              case rel => exact ⟨k + 1, by omega, by go_num, by rw [hf.out]; exact (HC.out.below hb2).setB _, below_setRow (HB.out.trans (hb2.mono HB.out.size)) Hge.out.1 _⟩
              case measure => simp [intOf]; omega
            · obtain ⟨j, rfl⟩ : ∃ j, k = j + 1 := ⟨k - 1, by omega⟩
              go_wp2_with fail
              refine wp_region_below_last (by kernel_rfl) (by kernel_rfl) (by kernel_rfl) ?_
              simp only [skipLast_two, skipLast_one, lastOf_two, lastOf_one]
              repeat (go_big_quiet_step (fail))
              refine wpQuiet_nil ?_
              intro w2 hb2
              refine wp_store_kn 154 _ _ rfl bb (j + 1) rfl (upto (befF p R) (j + 1)) N 154 (HC.out.below hb2).b hlt (seenF R (j + 1)) rfl (by kernel_rfl) ?_
              have hc3 := (HC.out.below hb2).setB (updK (upto (befF p R) (j + 1)) (j + 1) (seenF R (j + 1)))
              have hB3 : Below wo.heap.size wo (w2.setRow bb (kArr (updK (upto (befF p R) (j + 1)) (j + 1) (seenF R (j + 1))) N)) := below_setRow (HB.out.trans (hb2.mono HB.out.size)) Hge.out.1 _
              generalize w2.setRow bb (kArr (updK (upto (befF p R) (j + 1)) (j + 1) (seenF R (j + 1))) N) = W3 at *
              have HC3 := Lib.hid hc3
              have HB3 := Lib.hid hB3
              clear hc3 hB3 hb2 y0 s0 s1 s2
              have y0 := ovr_cell HC3.out.lb
              have s0 := ovr_cell (HC3.out.cellS hlt (j := 0) (by omega))
              have s1 := ovr_cell (HC3.out.cellS hlt (j := 1) (by omega))
              have s2 := ovr_cell (HC3.out.cellS hlt (j := 2) (by omega))
              have hj : j < N := by omega
              have b0 := ovr_cell (HC3.out.cellB hj (j := 0) (by omega))
              have b1 := ovr_cell (HC3.out.cellB hj (j := 1) (by omega))
              have b2 := ovr_cell (HC3.out.cellB hj (j := 2) (by omega))
              have p0 := ovr_cell ((HB3.out.cell (p := ⟨_, _, none⟩) (block_lt_of_cell (Hpul.out 110 (by omega)))).trans (Hpul.out 110 (by omega)))
              have p1 := ovr_cell ((HB3.out.cell (p := ⟨_, _, none⟩) (block_lt_of_cell (Hpul.out 111 (by omega)))).trans (Hpul.out 111 (by omega)))
              rw [show updK (upto (befF p R) (j + 1)) (j + 1) (seenF R (j + 1)) j = befF p R j by unfold updK upto; rw [if_neg (by omega), if_pos (by omega)]] at b0 b1 b2
              simp only [Kn.c, Nat.add_zero] at s0 s1 s2 b0 b1 b2
              have bd := bd_bef Hv.out Hp.out (t := j) (by omega)
              have Hl : Hid (∀ W, Calls Try.prog 81 #[(befF p R j).val, I (p 110), I (p 111)] W fun e w' => e = .returned (laterK (befF p R j) (p 110) (p 111)).val ∧ Below W.heap.size W w') := fun W =>
                later_any _ _ _ _ ⟨by have := bd.1.1; omega, by have := bd.1.2; omega⟩ ⟨by have := bd.2.1; omega, by have := bd.2.2; omega⟩ Hp.out.grow Hp.out.shrink
              have hbs : Hid (meetK (seenF R (j + 1)) (laterK (befF p R j) (p 110) (p 111)) = befF p R (j + 1)) := rfl
              clear bd
              go_wp2_with fail
              refine wp_region_below_last (by kernel_rfl) (by kernel_rfl) (by kernel_rfl) ?_
              simp only [skipLast_two, skipLast_one, lastOf_two, lastOf_one]
              repeat (go_big_quiet_step ((first | (go_at_call 81; exact call_below (Hl.out _)) | (go_at_call 80; exact call_below (meet_any (seenF R (j + 1)) (laterK (befF p R j) (p 110) (p 111)) _)))))
              refine wpQuiet_nil ?_
              intro w4 hb4
              refine wp_store_kn 154 _ _ rfl bb (j + 1) rfl (updK (upto (befF p R) (j + 1)) (j + 1) (seenF R (j + 1))) N 154 (HC3.out.below hb4).b hlt (befF p R (j + 1)) (by rw [← hbs.out]; rfl) (by kernel_rfl) ?_
              have hf : Hid (updK (updK (upto (befF p R) (j + 1)) (j + 1) (seenF R (j + 1))) (j + 1) (befF p R (j + 1)) = upto (befF p R) (j + 1 + 1)) := by
                show _ = _
                rw [upd_upd, upto_upd]
              go_wp2_with fail
              go_roundw
              case rel => exact ⟨j + 1 + 1, by omega, by go_num, by rw [hf.out]; exact (HC3.out.below hb4).setB _, below_setRow (HB3.out.trans (hb4.mono HB3.out.size)) Hge.out.1 _⟩
              case measure => simp [intOf]; omega
          · obtain rfl : N = k := by omega
            have x4 : wr.cell? ⟨w.heap.size + 1, 1, none⟩ = some (I R.e) := (HB.out.cell (p := ⟨_, _, none⟩) (block_lt_of_cell Hx3.out)).trans Hx3.out
            go_wp2_with fail
            obtain ⟨wo2, rfl⟩ : ∃ wo2 : World, wo2 = wr := ⟨_, rfl⟩
            have HCs : Hid (Ch wo2 w1.heap.size bb fb cb N p (seenF R) (upto (befF p R) N) (from' (frmF p R) (R.e + 1).toNat)) :=
              HC.out.congrF fun k hk => by unfold from'; rw [if_neg (by have := HNi.out; omega)]
            have HBs := Lib.hid HB.out
            clear HC HB HCh HBX x4 hk hlt
            go_loopw [14] (fun i wq => ∃ t : Int, i = .int .i64 t ∧ -1 ≤ t ∧ t < (N : Int) ∧ Ch wq w1.heap.size bb fb cb N p (seenF R) (upto (befF p R) N) (from' (frmF p R) (t + 1).toNat) ∧ Below wo.heap.size wo wq) (fun i _ => (intOf i + 1).toNat)
            case atStart => exact ⟨R.e, rfl, by omega, by omega, HCs.out, HBs.out⟩
            case round =>
              obtain ⟨t, rfl, ht1, ht2, hch, hbq⟩ := hrel
              have HB := Lib.hid hbq
              have HC := Lib.hid hch
              clear hbq hch
              by_cases hlt : 0 ≤ t
              · obtain ⟨i, rfl⟩ : ∃ i : Nat, t = (i : Int) := ⟨t.toNat, by omega⟩
                have hiN : i < N := by omega
                rw [show ((i : Int) + 1).toNat = i + 1 by omega] at HC
                have y0 := ovr_cell HC.out.lf
                have s0 := ovr_cell (HC.out.cellS hiN (j := 0) (by omega))
                have s1 := ovr_cell (HC.out.cellS hiN (j := 1) (by omega))
                have s2 := ovr_cell (HC.out.cellS hiN (j := 2) (by omega))
                simp only [Kn.c, Nat.add_zero] at s0 s1 s2
                go_wp2_with fail
                refine wp_region_below_last (by kernel_rfl) (by kernel_rfl) (by kernel_rfl) ?_
                simp only [skipLast_two, skipLast_one, lastOf_two, lastOf_one]
                repeat (go_big_quiet_step (fail))
                refine wpQuiet_nil ?_
                intro w2 hb2
                refine wp_store_kn 154 _ _ rfl fb i rfl (from' (frmF p R) (i + 1)) N 154 (HC.out.below hb2).f hiN (seenF R i) rfl (by kernel_rfl) ?_
                have hc3 := (HC.out.below hb2).setF (updK (from' (frmF p R) (i + 1)) i (seenF R i))
                have hB3 : Below wo.heap.size wo (w2.setRow fb (kArr (updK (from' (frmF p R) (i + 1)) i (seenF R i)) N)) := below_setRow (HB.out.trans (hb2.mono HB.out.size)) Hge.out.2 _
                generalize w2.setRow fb (kArr (updK (from' (frmF p R) (i + 1)) i (seenF R i)) N) = W3 at *
                have HC3 := Lib.hid hc3
                have HB3 := Lib.hid hB3
                clear hc3 hB3 hb2 y0 s0 s1 s2
                have x4 : W3.cell? ⟨w.heap.size + 1, 1, none⟩ = some (I R.e) := (HB3.out.cell (p := ⟨_, _, none⟩) (block_lt_of_cell Hx3.out)).trans Hx3.out
                by_cases hie : (i : Int) < R.e
                · have y0 := ovr_cell HC3.out.lf
                  have s0 := ovr_cell (HC3.out.cellS hiN (j := 0) (by omega))
                  have s1 := ovr_cell (HC3.out.cellS hiN (j := 1) (by omega))
                  have s2 := ovr_cell (HC3.out.cellS hiN (j := 2) (by omega))
                  have hi1 : i + 1 < N := by omega
                  have b0 := ovr_cell (HC3.out.cellF hi1 (j := 0) (by omega))
                  have b1 := ovr_cell (HC3.out.cellF hi1 (j := 1) (by omega))
                  have b2 := ovr_cell (HC3.out.cellF hi1 (j := 2) (by omega))
                  have p0 := ovr_cell ((HB3.out.cell (p := ⟨_, _, none⟩) (block_lt_of_cell (Hpul.out 110 (by omega)))).trans (Hpul.out 110 (by omega)))
                  have p1 := ovr_cell ((HB3.out.cell (p := ⟨_, _, none⟩) (block_lt_of_cell (Hpul.out 111 (by omega)))).trans (Hpul.out 111 (by omega)))
                  rw [show updK (from' (frmF p R) (i + 1)) i (seenF R i) (i + 1) = frmF p R (i + 1) by unfold updK from'; rw [if_neg (by omega), if_pos (by omega)]] at b0 b1 b2
                  simp only [Kn.c, Nat.add_zero] at s0 s1 s2 b0 b1 b2
                  have bd := bd_frm (p := p) Hv.out Hp.out (i + 1)
                  have Hl : Hid (∀ W, Calls Try.prog 81 #[(frmF p R (i + 1)).val, I (p 111), I (p 110)] W fun e w' => e = .returned (laterK (frmF p R (i + 1)) (p 111) (p 110)).val ∧ Below W.heap.size W w') := fun W =>
                    later_any _ _ _ _ ⟨by have := bd.1.1; omega, by have := bd.1.2; omega⟩ ⟨by have := bd.2.1; omega, by have := bd.2.2; omega⟩ Hp.out.shrink Hp.out.grow
                  have hbs : Hid (meetK (seenF R i) (laterK (frmF p R (i + 1)) (p 111) (p 110)) = frmF p R i) := (frmF_succ p R (by omega)).symm
                  clear bd
                  go_wp2_with fail
                  refine wp_region_below_last (by kernel_rfl) (by kernel_rfl) (by kernel_rfl) ?_
                  simp only [skipLast_two, skipLast_one, lastOf_two, lastOf_one]
                  repeat (go_big_quiet_step ((first | (go_at_call 81; exact call_below (Hl.out _)) | (go_at_call 80; exact call_below (meet_any (seenF R i) (laterK (frmF p R (i + 1)) (p 111) (p 110)) _)))))
                  refine wpQuiet_nil ?_
                  intro w4 hb4
                  refine wp_store_kn 154 _ _ rfl fb i rfl (updK (from' (frmF p R) (i + 1)) i (seenF R i)) N 154 (HC3.out.below hb4).f hiN (frmF p R i) (by rw [← hbs.out]; rfl) (by kernel_rfl) ?_
                  have hf : Hid (updK (updK (from' (frmF p R) (i + 1)) i (seenF R i)) i (frmF p R i) = from' (frmF p R) ((i : Int) - 1 + 1).toNat) := by
                    show _ = _
                    rw [upd_upd, from_upd, show ((i : Int) - 1 + 1).toNat = i by omega]
                  go_wp2_with fail
                  go_roundw
                  case rel => exact ⟨(i : Int) - 1, rfl, by omega, by omega, by rw [hf.out]; exact (HC3.out.below hb4).setF _, below_setRow (HB3.out.trans (hb4.mono HB3.out.size)) Hge.out.2 _⟩
                  case measure => simp [intOf]
                · have hf : Hid (updK (from' (frmF p R) (i + 1)) i (seenF R i) = from' (frmF p R) ((i : Int) - 1 + 1).toNat) := by
                    show _ = _
                    have hi : i = R.e.toNat := by have := HNi.out; omega
                    rw [show seenF R i = frmF p R i by rw [hi, frmF_last], from_upd, show ((i : Int) - 1 + 1).toNat = i by omega]
                  go_wp2_with fail
                  go_roundw
                  case rel => exact ⟨(i : Int) - 1, rfl, by omega, by omega, by rw [← hf.out]; exact HC3.out, HB3.out⟩
                  case measure => simp [intOf]
              · have hc0 : Hid (Chart wr cb bb fb p (R.e.toNat + 1) (befF p R) (frmF p R)) := by
                  have := HC.out.chart (B' := befF p R) (F' := frmF p R) (fun k hk => by unfold upto; rw [if_pos hk]) (fun k hk => by unfold from'; rw [if_pos (by omega)])
                  rw [hNE.out] at this; exact this
                have hfin : Hid (Below w.heap.size w wr) := T.out.up _ (hb1.trans ((Hbw.out.trans (HB.out.mono Hbw.out.size)).mono hb1.size))
                go_wp2_with fail
                go_ret2
                exact ⟨cb, bb, fb, rfl, hc0.out, hfin.out⟩
end Go.Proofs.Ytbojgcaehlapiaa
/- The contracts of tell, Diameter and Between of package pull. -/
namespace Go.Proofs.Ytbojgcaehlapiaa
open Go.RowKit
/-- The error of tell. -/
def tellE (p : Vec) (R : Run) (t last : Int) : Int :=
  if okPuller p && okRun R then (if t < 0 ∨ last < t then 3 else if R.ms.length = 0 then 7 else if (conf p R).isSome then 40 else 0) else 2
/-- What tell returns: a range and an error. -/
def RetT (w : World) (r : Rng) (er : Int) (e : Ending) (w' : World) : Prop := e = .returned (.tuple #[r.val, I er]) ∧ Below w.heap.size w w'
def tellR (p : Vec) (R : Run) (t last : Int) (k : Kn) : Rng := if tellE p R t last = 0 then ⟨k.lo, k.hi⟩ else ⟨0, 0⟩
theorem two2 (a b : Int) : ∀ v ∈ (#[I a, I b] : Array Value).toList, v.oneCell' = true := by intro v hv; simp at hv; rcases hv with rfl | rfl <;> rfl
set_option maxRecDepth 100000 in
set_option maxHeartbeats 1000000 in
theorem tell_any (f : FuncId) (A1 A2 A3 : Option Addr) (c1 c2 c3 : Nat) (p : Vec) (R : Run) (t last : Int) (k : Kn) (w : World) (h : RunIn w A1 A2 A3 R) (hc2 : R.ms.length ≤ c2) (hff : f = 48 ∨ f = 49)
    (hf : tellE p R t last = 0 → ∀ W cb bb fb, Chart W cb bb fb p (R.e.toNat + 1) (befF p R) (frmF p R) → Calls Try.prog f #[.pointer (some ⟨cb, 0, none⟩), I t] W fun e w' => e = .returned k.val ∧ Below W.heap.size W w') :
    Calls Try.prog 47 #[.agg (ia 117 p), runV A1 A2 A3 c1 c2 c3 R, I t, I last, .func (Fn.func f) #[] #[]] w (RetT w (tellR p R t last k) (tellE p R t last)) := by
  obtain ⟨W2, hW2⟩ : ∃ W2, W2 = ((w.alloc (.cells (ia 117 p) 30)).alloc (.cells #[.slice A1 R.ss.length c1, I R.e, .slice A2 R.ms.length c2, .slice A3 R.es.length c3] 48)) := ⟨_, rfl⟩
  have T : Hid (Two w A1 A2 A3 c1 c2 c3 p R W2) := hW2 ▸ two_mk h c1 c2 c3 p
  obtain ⟨W3, hW3⟩ : ∃ W3, W3 = W2.alloc (.cells #[I 0, I 0] 23) := ⟨_, rfl⟩
  have hb3 : Below W2.heap.size W2 W3 := by rw [hW3]; exact (Below.refl _ _).alloc (Nat.le_refl _) _
  have HR : Hid (W3.heap[w.heap.size + 1 + 1]? = some (.cells #[I 0, I 0] 23 (0, 0))) := by show W3.heap[_]? = _; rw [hW3]; exact heap_last _ _ _ T.out.size.symm
  have HW := Lib.hid hW2
  have HW3 := Lib.hid hW3
  have HB3 := Lib.hid hb3
  have Hrun := Lib.hid (T.out.run.below hb3)
  have Hf := Lib.hid hf
  clear h hW2 hW3 hb3 hf
  -- the end: W is the world before the store into the result
  have fin : Hid (∀ (a b er' : Int) (W : World), Below W3.heap.size W3 W → tellR p R t last k = ⟨a, b⟩ → tellE p R t last = er' → RetT w (tellR p R t last k) (tellE p R t last) (.returned (.tuple #[.agg #[I a, I b], I er'])) (W.setRow (w.heap.size + 1 + 1) #[I a, I b])) :=
    fun a b er' W hW hr he => ⟨by rw [hr, he], below_setRow (T.out.up _ (HB3.out.trans (hW.mono HB3.out.size))) (by omega) _⟩
  by_cases hok : (okPuller p && okRun R) = true
  case neg =>
    have hok' : (okPuller p && okRun R) = false := by simpa using hok
    have hE : Hid (tellE p R t last = 2) := by show _ = _; rw [tellE, hok']; rfl
    have hR : Hid (tellR p R t last k = ⟨0, 0⟩) := by show _ = _; rw [tellR, hE.out]; rfl
    have Hok := Lib.hid hok'
    clear hok hok'
    go_enter Try.func47, Try.ntmps47
    go_wp2_with (refine wpList_load_ia rfl 30 _ rfl w.heap.size 0 rfl 117 p _ (by rw [← HW.out, ← HW3.out]; exact T.out.pul _ HB3.out) Try.underlying30 rfl (by kernel_rfl) ?_)
    rw [← HW.out, ← HW3.out]
    refine (both_any A1 A2 A3 c1 c2 c3 p R _ Hrun.out).mono ?_
    rintro e w1 ⟨rfl, hb1⟩
    rw [Hok.out, show er false = 2 from rfl]
    have hr1 := (hb1.block _ (Array.getElem?_eq_some_iff.1 HR.out).1).trans HR.out
    have HR1 := Lib.hid hr1
    have hb1' := Lib.hid hb1
    clear hr1 hb1
    go_wp2_with (refine wpList_store_row rfl 23 _ _ rfl (w.heap.size + 1 + 1) rfl _ _ HR1.out #[I 0, I 0] rfl (two2 0 0) rfl (by kernel_rfl) ?_)
    refine bodyPost_ret (results_cell_tmp rfl _ _ (w.heap.size + 1 + 1) 23 #[I 0, I 0] (0, 0) _ rfl (setRow_same HR1.out) Try.underlying23 rfl (by kernel_rfl)) rfl ?_
    exact fin.out 0 0 2 _ hb1'.out hR.out hE.out
  case pos =>
    have Hok := Lib.hid hok
    clear hok
    have hEs : Hid (tellE p R t last = if t < 0 ∨ last < t then 3 else if R.ms.length = 0 then 7 else if (conf p R).isSome then 40 else 0) := by show _ = _; rw [tellE, Hok.out]; rfl
    go_enter Try.func47, Try.ntmps47
    go_wp2_with (refine wpList_load_ia rfl 30 _ rfl w.heap.size 0 rfl 117 p _ (by rw [← HW.out, ← HW3.out]; exact T.out.pul _ HB3.out) Try.underlying30 rfl (by kernel_rfl) ?_)
    rw [← HW.out, ← HW3.out]
    refine (both_any A1 A2 A3 c1 c2 c3 p R _ Hrun.out).mono ?_
    rintro e w1 ⟨rfl, hb1⟩
    rw [Hok.out, show er true = 0 from rfl]
    have hr1 := (hb1.block _ (Array.getElem?_eq_some_iff.1 HR.out).1).trans HR.out
    have HR1 := Lib.hid hr1
    have hb1' := Lib.hid hb1
    have hb2 := HB3.out.trans (hb1.mono HB3.out.size)
    have x0 := T.out.r0 _ hb2
    have x1 := T.out.r1 _ hb2
    have x2 := T.out.r2 _ hb2
    have x3 := T.out.r3 _ hb2
    clear hr1 hb1 hb2
    by_cases ht0 : t < 0
    · have hE : Hid (tellE p R t last = 3) := by show _ = _; rw [hEs.out, if_pos (.inl ht0)]
      have hR : Hid (tellR p R t last k = ⟨0, 0⟩) := by show _ = _; rw [tellR, hE.out]; rfl
      go_wp2_with (refine wpList_store_row rfl 23 _ _ rfl (w.heap.size + 1 + 1) rfl _ _ HR1.out #[I 0, I 0] rfl (two2 0 0) rfl (by kernel_rfl) ?_)
      refine bodyPost_ret (results_cell_tmp rfl _ _ (w.heap.size + 1 + 1) 23 #[I 0, I 0] (0, 0) _ rfl (setRow_same HR1.out) Try.underlying23 rfl (by kernel_rfl)) rfl ?_
      exact fin.out 0 0 3 _ hb1'.out hR.out hE.out
    by_cases htl : last < t
    · have hE : Hid (tellE p R t last = 3) := by show _ = _; rw [hEs.out, if_pos (.inr htl)]
      have hR : Hid (tellR p R t last k = ⟨0, 0⟩) := by show _ = _; rw [tellR, hE.out]; rfl
      go_wp2_with (refine wpList_store_row rfl 23 _ _ rfl (w.heap.size + 1 + 1) rfl _ _ HR1.out #[I 0, I 0] rfl (two2 0 0) rfl (by kernel_rfl) ?_)
      refine bodyPost_ret (results_cell_tmp rfl _ _ (w.heap.size + 1 + 1) 23 #[I 0, I 0] (0, 0) _ rfl (setRow_same HR1.out) Try.underlying23 rfl (by kernel_rfl)) rfl ?_
      exact fin.out 0 0 3 _ hb1'.out hR.out hE.out
    have hEs2 : Hid (tellE p R t last = if R.ms.length = 0 then 7 else if (conf p R).isSome then 40 else 0) := by show _ = _; rw [hEs.out, if_neg (by omega)]
    by_cases hm0 : R.ms.length = 0
    · have hE : Hid (tellE p R t last = 7) := by show _ = _; rw [hEs2.out, if_pos hm0]
      have hR : Hid (tellR p R t last k = ⟨0, 0⟩) := by show _ = _; rw [tellR, hE.out]; rfl
      have hq : (((R.ms.length : Nat) : Int) == 0) = true := by rw [hm0]; rfl
      clear hm0
      go_wp2_with (refine wpList_store_row rfl 23 _ _ rfl (w.heap.size + 1 + 1) rfl _ _ HR1.out #[I 0, I 0] rfl (two2 0 0) rfl (by kernel_rfl) ?_)
      refine bodyPost_ret (results_cell_tmp rfl _ _ (w.heap.size + 1 + 1) 23 #[I 0, I 0] (0, 0) _ rfl (setRow_same HR1.out) Try.underlying23 rfl (by kernel_rfl)) rfl ?_
      exact fin.out 0 0 7 _ hb1'.out hR.out hE.out
    have hq : (((R.ms.length : Nat) : Int) == 0) = false := by rw [beq_eq_false_iff_ne]; omega
    have hEs3 : Hid (tellE p R t last = if (conf p R).isSome then 40 else 0) := by show _ = _; rw [hEs2.out, if_neg hm0]
    have Hrun1 := Lib.hid (Hrun.out.below hb1'.out)
    clear hm0
    rcases hcf : conf p R with _ | c
    · have hE : Hid (tellE p R t last = 0) := by show _ = _; rw [hEs3.out, hcf]; rfl
      have hR : Hid (tellR p R t last k = ⟨k.lo, k.hi⟩) := by show _ = _; rw [tellR, hE.out]; rfl
      have Hcf := Lib.hid hcf
      clear hcf
      go_wp2_with (refine wpList_load_ia rfl 30 _ rfl w.heap.size 0 rfl 117 p _ (T.out.pul _ (HB3.out.trans (hb1'.out.mono HB3.out.size))) Try.underlying30 rfl (by kernel_rfl) ?_)
      refine (newChart_ok A1 A2 A3 c1 c2 c3 p R _ Hrun1.out hc2 Hok.out Hcf.out).mono ?_
      rintro e w2 ⟨cb, bb, fb, rfl, hch, hb2⟩
      have HC := Lib.hid hch
      have HB2 := Lib.hid hb2
      clear hch hb2
      have hz2 : w1.heap.size ≤ w2.heap.size := HB2.out.size
      rcases hff with rfl | rfl
      all_goals
        go_wp2_with fail
        refine (Hf.out hE.out w2 cb bb fb HC.out).mono ?_
        rintro e w3 ⟨rfl, hb3⟩
        have HR3 : Hid ((w3.alloc (.cells #[I k.lo, I k.hi, .bool k.some] 154)).heap[w.heap.size + 1 + 1]? = some (.cells #[I 0, I 0] 23 (0, 0))) := by
          have h1 := (HB2.out.block _ (Array.getElem?_eq_some_iff.1 HR1.out).1).trans HR1.out
          have h2 := (hb3.block _ (Array.getElem?_eq_some_iff.1 h1).1).trans h1
          exact heap_before h2
        have hb3' : Hid (Below W3.heap.size W3 (w3.alloc (.cells #[I k.lo, I k.hi, .bool k.some] 154))) := by
          have h1 := hb1'.out.trans (HB2.out.mono hb1'.out.size)
          have h2 := h1.trans (hb3.mono h1.size)
          exact h2.alloc h2.size _
        clear hb3
        go_wp2_with (refine wpList_store_row rfl 23 _ _ rfl (w.heap.size + 1 + 1) rfl _ _ HR3.out #[I k.lo, I k.hi] rfl (two2 k.lo k.hi) rfl (by kernel_rfl) ?_)
        refine bodyPost_ret (results_cell_tmp rfl _ _ (w.heap.size + 1 + 1) 23 #[I k.lo, I k.hi] (0, 0) _ rfl (setRow_same HR3.out) Try.underlying23 rfl (by kernel_rfl)) rfl ?_
        exact fin.out k.lo k.hi 0 _ hb3'.out hR.out hE.out
    · have hE : Hid (tellE p R t last = 40) := by show _ = _; rw [hEs3.out, hcf]; rfl
      have hR : Hid (tellR p R t last k = ⟨0, 0⟩) := by show _ = _; rw [tellR, hE.out]; rfl
      have Hcf : Hid ((conf p R).isSome = true) := by show _ = _; rw [hcf]; rfl
      clear hcf
      go_wp2_with (refine wpList_load_ia rfl 30 _ rfl w.heap.size 0 rfl 117 p _ (T.out.pul _ (HB3.out.trans (hb1'.out.mono HB3.out.size))) Try.underlying30 rfl (by kernel_rfl) ?_)
      refine (newChart_no A1 A2 A3 c1 c2 c3 p R _ Hrun1.out hc2 40 (.inr ⟨Hok.out, Hcf.out, rfl⟩)).mono ?_
      rintro e w2 ⟨rfl, hb2⟩
      have hr2 := (hb2.block _ (Array.getElem?_eq_some_iff.1 HR1.out).1).trans HR1.out
      have HR2 := Lib.hid hr2
      have hb2' : Hid (Below W3.heap.size W3 w2) := hb1'.out.trans (hb2.mono hb1'.out.size)
      clear hr2 hb2
      go_wp2_with (refine wpList_store_row rfl 23 _ _ rfl (w.heap.size + 1 + 1) rfl _ _ HR2.out #[I 0, I 0] rfl (two2 0 0) rfl (by kernel_rfl) ?_)
      refine bodyPost_ret (results_cell_tmp rfl _ _ (w.heap.size + 1 + 1) 23 #[I 0, I 0] (0, 0) _ rfl (setRow_same HR2.out) Try.underlying23 rfl (by kernel_rfl)) rfl ?_
      exact fin.out 0 0 40 _ hb2'.out hR.out hE.out
end Go.Proofs.Ytbojgcaehlapiaa
/- The contracts of Diameter and Between of package pull. -/
namespace Go.Proofs.Ytbojgcaehlapiaa
open Go.RowKit
/-- What is known at a second. -/
def atK (p : Vec) (R : Run) (t : Nat) : Kn := meetK (befF p R t) (frmF p R t)
/-- What is known from a second to the next one. -/
def fromK (p : Vec) (R : Run) (t : Nat) : Kn := betK p (befF p R t) (frmF p R (t + 1))
set_option maxRecDepth 100000 in
set_option maxHeartbeats 1000000 in
theorem diameter_any (A1 A2 A3 : Option Addr) (c1 c2 c3 : Nat) (p : Vec) (R : Run) (t : Int) (w : World) (h : RunIn w A1 A2 A3 R) (hc2 : R.ms.length ≤ c2) :
    Calls Try.prog 19 #[.agg (ia 117 p), runV A1 A2 A3 c1 c2 c3 R, I t] w (RetT w (tellR p R t R.e (atK p R t.toNat)) (tellE p R t R.e)) := by
  obtain ⟨W2, hW2⟩ : ∃ W2, W2 = ((w.alloc (.cells (ia 117 p) 30)).alloc (.cells #[.slice A1 R.ss.length c1, I R.e, .slice A2 R.ms.length c2, .slice A3 R.es.length c3] 48)) := ⟨_, rfl⟩
  have T : Hid (Two w A1 A2 A3 c1 c2 c3 p R W2) := hW2 ▸ two_mk h c1 c2 c3 p
  obtain ⟨W3, hW3⟩ : ∃ W3, W3 = W2.alloc (.cells #[I 0, I 0] 23) := ⟨_, rfl⟩
  have hb3 : Below W2.heap.size W2 W3 := by rw [hW3]; exact (Below.refl _ _).alloc (Nat.le_refl _) _
  have HR : Hid (W3.heap[w.heap.size + 1 + 1]? = some (.cells #[I 0, I 0] 23 (0, 0))) := by show W3.heap[_]? = _; rw [hW3]; exact heap_last _ _ _ T.out.size.symm
  have HW := Lib.hid hW2
  have HW3 := Lib.hid hW3
  have HB3 := Lib.hid hb3
  have Hrun := Lib.hid (T.out.run.below hb3)
  clear h hW2 hW3 hb3
  have HE : Hid (∀ last, ((okPuller p && okRun R) = true → last = R.e) → tellE p R t last = tellE p R t (R.e) ∧ tellR p R t last (atK p R t.toNat) = tellR p R t (R.e) (atK p R t.toNat)) := fun last hl => by
    by_cases hok : (okPuller p && okRun R) = true
    · rw [hl hok]; exact ⟨rfl, rfl⟩
    · have h2 : ∀ q, tellE p R t q = 2 := fun q => by rw [tellE, if_neg hok]
      exact ⟨by rw [h2, h2], by rw [tellR, tellR, h2, h2]⟩
  have hcall : Hid (∀ last, ((okPuller p && okRun R) = true → last = R.e) → ∀ W, RunIn W A1 A2 A3 R → Calls Try.prog 47 #[.agg (ia 117 p), runV A1 A2 A3 c1 c2 c3 R, I t, I last, .func (Fn.func 48) #[] #[]] W (RetT W (tellR p R t (R.e) (atK p R t.toNat)) (tellE p R t (R.e)))) := fun last hl W hW => by
    have := HE.out last hl
    rw [← this.1, ← this.2]
    refine tell_any _ A1 A2 A3 c1 c2 c3 p R t last _ W hW hc2 (.inl rfl) fun h0 W cb bb fb hch => ?_
    have hok : (okPuller p && okRun R) = true := by
      cases hq : (okPuller p && okRun R) with
      | true => rfl
      | false => rw [tellE, hq] at h0; simp at h0
    have hl' := hl hok
    rw [tellE, hok, if_pos rfl] at h0
    have ht : 0 ≤ t ∧ t ≤ last := by
      by_cases hh : t < 0 ∨ last < t
      · rw [if_pos hh] at h0; simp at h0
      · omega
    rw [Bool.and_eq_true] at hok
    have hv := (vRun_iff R).1 hok.2
    have hp := vPul_of hok.1
    have hla := hv.last
    exact at_any cb bb fb _ p _ _ t W hch ⟨ht.1, by omega⟩
  obtain ⟨r, hr⟩ : ∃ r, tellR p R t (R.e) (atK p R t.toNat) = r := ⟨_, rfl⟩
  obtain ⟨er', he⟩ : ∃ er', tellE p R t (R.e) = er' := ⟨_, rfl⟩
  rw [hr, he] at hcall ⊢
  clear HE hr he
  have x0 : W3.cell? ⟨w.heap.size + 1, 0, none⟩ = some (.slice A1 R.ss.length c1) := T.out.r0 _ HB3.out
  have x1 : W3.cell? ⟨w.heap.size + 1, 1, none⟩ = some (I R.e) := T.out.r1 _ HB3.out
  have x2 : W3.cell? ⟨w.heap.size + 1, 2, none⟩ = some (.slice A2 R.ms.length c2) := T.out.r2 _ HB3.out
  have x3 : W3.cell? ⟨w.heap.size + 1, 3, none⟩ = some (.slice A3 R.es.length c3) := T.out.r3 _ HB3.out
  go_enter Try.func19, Try.ntmps19
  go_wp2_with (refine wpList_load_ia rfl 30 _ rfl w.heap.size 0 rfl 117 p _ (by rw [← HW.out, ← HW3.out]; exact T.out.pul _ HB3.out) Try.underlying30 rfl (by kernel_rfl) ?_)
  rw [← HW.out, ← HW3.out]
  refine (hcall.out _ (fun _ => rfl) _ Hrun.out).mono ?_
  rintro e w1 ⟨rfl, hb1⟩
  have HR1 : Hid (w1.heap[w.heap.size + 1 + 1]? = some (.cells #[I 0, I 0] 23 (0, 0))) := (hb1.block _ (Array.getElem?_eq_some_iff.1 HR.out).1).trans HR.out
  have hb1' : Hid (Below W2.heap.size W2 w1) := HB3.out.trans (hb1.mono HB3.out.size)
  clear hb1
  go_wp2_with (refine wpList_store_row rfl 23 _ _ rfl (w.heap.size + 1 + 1) rfl _ _ HR1.out #[I r.lo, I r.hi] rfl (two2 r.lo r.hi) rfl (by kernel_rfl) ?_)
  refine bodyPost_ret (results_cell_tmp rfl _ _ (w.heap.size + 1 + 1) 23 #[I r.lo, I r.hi] (0, 0) _ rfl (setRow_same HR1.out) Try.underlying23 rfl (by kernel_rfl)) rfl ?_
  exact ⟨rfl, below_setRow (T.out.up _ hb1'.out) (by omega) _⟩
set_option maxRecDepth 100000 in
set_option maxHeartbeats 1000000 in
theorem betweenX_any (A1 A2 A3 : Option Addr) (c1 c2 c3 : Nat) (p : Vec) (R : Run) (t : Int) (w : World) (h : RunIn w A1 A2 A3 R) (hc2 : R.ms.length ≤ c2) :
    Calls Try.prog 20 #[.agg (ia 117 p), runV A1 A2 A3 c1 c2 c3 R, I t] w (RetT w (tellR p R t (R.e - 1) (fromK p R t.toNat)) (tellE p R t (R.e - 1))) := by
  obtain ⟨W2, hW2⟩ : ∃ W2, W2 = ((w.alloc (.cells (ia 117 p) 30)).alloc (.cells #[.slice A1 R.ss.length c1, I R.e, .slice A2 R.ms.length c2, .slice A3 R.es.length c3] 48)) := ⟨_, rfl⟩
  have T : Hid (Two w A1 A2 A3 c1 c2 c3 p R W2) := hW2 ▸ two_mk h c1 c2 c3 p
  obtain ⟨W3, hW3⟩ : ∃ W3, W3 = W2.alloc (.cells #[I 0, I 0] 23) := ⟨_, rfl⟩
  have hb3 : Below W2.heap.size W2 W3 := by rw [hW3]; exact (Below.refl _ _).alloc (Nat.le_refl _) _
  have HR : Hid (W3.heap[w.heap.size + 1 + 1]? = some (.cells #[I 0, I 0] 23 (0, 0))) := by show W3.heap[_]? = _; rw [hW3]; exact heap_last _ _ _ T.out.size.symm
  have HW := Lib.hid hW2
  have HW3 := Lib.hid hW3
  have HB3 := Lib.hid hb3
  have Hrun := Lib.hid (T.out.run.below hb3)
  clear h hW2 hW3 hb3
  have HE : Hid (∀ last, ((okPuller p && okRun R) = true → last = (R.e - 1)) → tellE p R t last = tellE p R t ((R.e - 1)) ∧ tellR p R t last (fromK p R t.toNat) = tellR p R t ((R.e - 1)) (fromK p R t.toNat)) := fun last hl => by
    by_cases hok : (okPuller p && okRun R) = true
    · rw [hl hok]; exact ⟨rfl, rfl⟩
    · have h2 : ∀ q, tellE p R t q = 2 := fun q => by rw [tellE, if_neg hok]
      exact ⟨by rw [h2, h2], by rw [tellR, tellR, h2, h2]⟩
  have hcall : Hid (∀ last, ((okPuller p && okRun R) = true → last = (R.e - 1)) → ∀ W, RunIn W A1 A2 A3 R → Calls Try.prog 47 #[.agg (ia 117 p), runV A1 A2 A3 c1 c2 c3 R, I t, I last, .func (Fn.func 49) #[] #[]] W (RetT W (tellR p R t ((R.e - 1)) (fromK p R t.toNat)) (tellE p R t ((R.e - 1))))) := fun last hl W hW => by
    have := HE.out last hl
    rw [← this.1, ← this.2]
    refine tell_any _ A1 A2 A3 c1 c2 c3 p R t last _ W hW hc2 (.inr rfl) fun h0 W cb bb fb hch => ?_
    have hok : (okPuller p && okRun R) = true := by
      cases hq : (okPuller p && okRun R) with
      | true => rfl
      | false => rw [tellE, hq] at h0; simp at h0
    have hl' := hl hok
    rw [tellE, hok, if_pos rfl] at h0
    have ht : 0 ≤ t ∧ t ≤ last := by
      by_cases hh : t < 0 ∨ last < t
      · rw [if_pos hh] at h0; simp at h0
      · omega
    rw [Bool.and_eq_true] at hok
    have hv := (vRun_iff R).1 hok.2
    have hp := vPul_of hok.1
    have hla := hv.last
    exact between_any cb bb fb _ p _ _ t W hch ⟨ht.1, by omega⟩ (by omega) hp (bd_bef hv hp (by omega)) (bd_frm hv hp _)
  obtain ⟨r, hr⟩ : ∃ r, tellR p R t ((R.e - 1)) (fromK p R t.toNat) = r := ⟨_, rfl⟩
  obtain ⟨er', he⟩ : ∃ er', tellE p R t ((R.e - 1)) = er' := ⟨_, rfl⟩
  rw [hr, he] at hcall ⊢
  clear HE hr he
  have x0 : W3.cell? ⟨w.heap.size + 1, 0, none⟩ = some (.slice A1 R.ss.length c1) := T.out.r0 _ HB3.out
  have x1 : W3.cell? ⟨w.heap.size + 1, 1, none⟩ = some (I R.e) := T.out.r1 _ HB3.out
  have x2 : W3.cell? ⟨w.heap.size + 1, 2, none⟩ = some (.slice A2 R.ms.length c2) := T.out.r2 _ HB3.out
  have x3 : W3.cell? ⟨w.heap.size + 1, 3, none⟩ = some (.slice A3 R.es.length c3) := T.out.r3 _ HB3.out
  go_enter Try.func20, Try.ntmps20
  go_wp2_with (refine wpList_load_ia rfl 30 _ rfl w.heap.size 0 rfl 117 p _ (by rw [← HW.out, ← HW3.out]; exact T.out.pul _ HB3.out) Try.underlying30 rfl (by kernel_rfl) ?_)
  rw [← HW.out, ← HW3.out]
  refine (hcall.out _ ?hl _ Hrun.out).mono ?_
  case hl =>
    intro hok
    rw [Bool.and_eq_true] at hok
    have hv := (vRun_iff R).1 hok.2
    have := hv.last
    have h1 : 0 ≤ R.e := by have := hv.first; have := hv.tlt 0 hv.n1; omega
    exact IntWalk.wrap64_in _ ⟨by omega, by omega⟩
  rintro e w1 ⟨rfl, hb1⟩
  have HR1 : Hid (w1.heap[w.heap.size + 1 + 1]? = some (.cells #[I 0, I 0] 23 (0, 0))) := (hb1.block _ (Array.getElem?_eq_some_iff.1 HR.out).1).trans HR.out
  have hb1' : Hid (Below W2.heap.size W2 w1) := HB3.out.trans (hb1.mono HB3.out.size)
  clear hb1
  go_wp2_with (refine wpList_store_row rfl 23 _ _ rfl (w.heap.size + 1 + 1) rfl _ _ HR1.out #[I r.lo, I r.hi] rfl (two2 r.lo r.hi) rfl (by kernel_rfl) ?_)
  refine bodyPost_ret (results_cell_tmp rfl _ _ (w.heap.size + 1 + 1) 23 #[I r.lo, I r.hi] (0, 0) _ rfl (setRow_same HR1.out) Try.underlying23 rfl (by kernel_rfl)) rfl ?_
  exact ⟨rfl, below_setRow (T.out.up _ hb1'.out) (by omega) _⟩
end Go.Proofs.Ytbojgcaehlapiaa
/- The contract of Accepted of package pull. -/
namespace Go.Proofs.Ytbojgcaehlapiaa
open Go.RowKit
/-- The error of Accepted and of Sold. -/
def chE (p : Vec) (R : Run) : Int := if okPuller p && okRun R then (if (conf p R).isSome then 40 else 0) else 2
/-- Is a second accepted? -/
def goodB (p : Vec) (R : Run) (t : Nat) : Bool := accB p (fromK p R t)
def acL (p : Vec) (R : Run) : List Rng := if chE p R = 0 then runsF (goodB p R) R.e.toNat else []
/-- A list of ranges and an error come back. -/
def RetL (w : World) (l : List Rng) (er : Int) (e : Ending) (w' : World) : Prop := ∃ A n c, e = .returned (.tuple #[.slice A n c, I er]) ∧ n = l.length ∧ Rd w' w'.heap.size 2 A n (rR l) ∧ Below w.heap.size w w'
theorem goodB_any (cb bb fb : Nat) {p : Vec} {R : Run} (hok : (okPuller p && okRun R) = true) {k : Nat} (hk : k < R.e.toNat) (W : World) (h : Chart W cb bb fb p (R.e.toNat + 1) (befF p R) (frmF p R)) :
    Calls Try.prog 52 #[.pointer (some ⟨cb, 0, none⟩), I (k : Nat)] W fun e w' => e = .returned (.bool (goodB p R k)) ∧ Below W.heap.size W w' := by
  rw [Bool.and_eq_true] at hok
  have hv := (vRun_iff R).1 hok.2
  have hp := vPul_of hok.1
  have hl := hv.last
  have := accepted_any cb bb fb _ p _ _ (k : Int) W h ⟨by omega, by omega⟩ (by omega) hp (bd_bef hv hp (by omega)) (bd_frm hv hp _)
  exact this
set_option maxRecDepth 100000 in
set_option maxHeartbeats 1000000 in
theorem acceptedX_any (A1 A2 A3 : Option Addr) (c1 c2 c3 : Nat) (p : Vec) (R : Run) (w : World) (h : RunIn w A1 A2 A3 R) (hc2 : R.ms.length ≤ c2) :
    Calls Try.prog 21 #[.agg (ia 117 p), runV A1 A2 A3 c1 c2 c3 R] w (RetL w (acL p R) (chE p R)) := by
  obtain ⟨W2, hW2⟩ : ∃ W2, W2 = ((w.alloc (.cells (ia 117 p) 30)).alloc (.cells #[.slice A1 R.ss.length c1, I R.e, .slice A2 R.ms.length c2, .slice A3 R.es.length c3] 48)) := ⟨_, rfl⟩
  have T : Hid (Two w A1 A2 A3 c1 c2 c3 p R W2) := hW2 ▸ two_mk h c1 c2 c3 p
  have HW := Lib.hid hW2
  have x0 : W2.cell? ⟨w.heap.size + 1, 0, none⟩ = some (.slice A1 R.ss.length c1) := T.out.r0 _ (Below.refl _ _)
  have x1 : W2.cell? ⟨w.heap.size + 1, 1, none⟩ = some (I R.e) := T.out.r1 _ (Below.refl _ _)
  have x2 : W2.cell? ⟨w.heap.size + 1, 2, none⟩ = some (.slice A2 R.ms.length c2) := T.out.r2 _ (Below.refl _ _)
  have x3 : W2.cell? ⟨w.heap.size + 1, 3, none⟩ = some (.slice A3 R.es.length c3) := T.out.r3 _ (Below.refl _ _)
  clear h hW2
  by_cases hok : (okPuller p && okRun R) = true ∧ conf p R = none
  · obtain ⟨hok, hcf⟩ := hok
    have hE : Hid (chE p R = 0) := by show _ = _; rw [chE, hok, hcf]; rfl
    have hL : Hid (acL p R = runsF (goodB p R) R.e.toNat) := if_pos hE.out
    have Hok := Lib.hid hok
    have Hcf := Lib.hid hcf
    rw [Bool.and_eq_true] at hok
    have hv := (vRun_iff R).1 hok.2
    have last := hv.last
    have e0 : 0 ≤ R.e := by have := hv.first; have := hv.tlt 0 hv.n1; omega
    obtain ⟨N, hN⟩ : ∃ N, N = R.e.toNat := ⟨_, rfl⟩
    have hNe : R.e = (N : Int) := by omega
    have HN := Lib.hid hN
    have Hv := Lib.hid hv
    have Hne := Lib.hid hNe
    have hN1 : (N : Int) ≤ 100000 := by omega
    clear hok hcf hv hN hNe
    go_enter Try.func21, Try.ntmps21
    go_wp2_with (refine wpList_load_ia rfl 30 _ rfl w.heap.size 0 rfl 117 p _ (by rw [← HW.out]; exact T.out.pul _ (Below.refl _ _)) Try.underlying30 rfl (by kernel_rfl) ?_)
    rw [← HW.out]
    refine (newChart_ok A1 A2 A3 c1 c2 c3 p R _ T.out.run hc2 Hok.out Hcf.out).mono ?_
    rintro e w1 ⟨cb, bb, fb, rfl, hch, hb1⟩
    have HC := Lib.hid hch
    have HB1 := Lib.hid hb1
    have y1 : w1.cell? ⟨w.heap.size + 1, 1, none⟩ = some (I (N : Int)) := by rw [← Hne.out]; exact T.out.r1 _ hb1
    clear hch hb1
    go_wp2_with fail
    refine (runs_at cb N (goodB p R) _ (by omega) (fun k hk W hW => ?_)).mono ?_
    · exact goodB_any cb bb fb Hok.out (by rw [← HN.out]; exact hk) W (HC.out.below hW)
    rintro e w2 ⟨A, n, c, rfl, hn, hr, hb2⟩
    have HR : Hid (n = (acL p R).length ∧ Rd w2 w2.heap.size 2 A n (rR (acL p R))) := by show _ ∧ _; rw [hL.out, ← HN.out]; exact ⟨hn, hr⟩
    have HB2 := Lib.hid (T.out.up _ (HB1.out.trans (hb2.mono HB1.out.size)))
    clear hn hr hb2
    go_wp2_with fail
    go_ret2
    exact ⟨A, n, c, by rw [hE.out]; rfl, HR.out.1, HR.out.2, HB2.out⟩
  · have hno : Hid (∃ er', ((okPuller p && okRun R) = false ∧ er' = 2 ∨ (okPuller p && okRun R) = true ∧ (conf p R).isSome = true ∧ er' = 40) ∧ chE p R = er' ∧ (er' == 0) = false ∧ acL p R = []) := by
      cases hq : (okPuller p && okRun R) with
      | false =>
        have h2 : chE p R = 2 := by rw [chE, hq]; rfl
        exact ⟨2, .inl ⟨rfl, rfl⟩, h2, rfl, by rw [acL, h2]; rfl⟩
      | true =>
        have hc : (conf p R).isSome = true := by
          cases hc : conf p R with
          | none => exact absurd ⟨hq, hc⟩ hok
          | some _ => rfl
        have h2 : chE p R = 40 := by rw [chE, hq, hc]; rfl
        exact ⟨40, .inr ⟨rfl, hc, rfl⟩, h2, rfl, by rw [acL, h2]; rfl⟩
    obtain ⟨er', h1, h2, h3, h4⟩ := hno.out
    have H1 := Lib.hid h1
    have H2 := Lib.hid (And.intro h2 h4)
    clear hno hok h1 h2 h4
    go_enter Try.func21, Try.ntmps21
    go_wp2_with (refine wpList_load_ia rfl 30 _ rfl w.heap.size 0 rfl 117 p _ (by rw [← HW.out]; exact T.out.pul _ (Below.refl _ _)) Try.underlying30 rfl (by kernel_rfl) ?_)
    rw [← HW.out]
    refine (newChart_no A1 A2 A3 c1 c2 c3 p R _ T.out.run hc2 er' H1.out).mono ?_
    rintro e w1 ⟨rfl, hb1⟩
    have HB2 := Lib.hid (T.out.up _ hb1)
    clear hb1
    go_wp2_with fail
    go_ret2
    exact ⟨none, 0, 0, by rw [H2.out.1]; rfl, by rw [H2.out.2]; rfl, Rd.nil, HB2.out⟩
end Go.Proofs.Ytbojgcaehlapiaa
