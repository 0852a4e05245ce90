/- The law PullSells holds of every puller and run: the walk of the statement's function. -/
import Derived.Test.YtlebefopdnadaaaMg
import Derived.Test.YtlebefopdnadaaaEqt
import Derived.Test.YtlebefopdnadaaaLse
namespace Go.Proofs.Ytlebefopdnadaaa
open Go.RowKit
theorem confP_some {p : Vec} {R : Run} (h : (conf p R).isSome = true) : 0 ≤ (confP p R).1 := confP_pos h
theorem wpList_load_ia_on {P : Program} {ops : Array Oper} {rest : List Oper} {o : Oper} {a : Act} {w : World} {Q : Exit → Act → World → Prop} (hgd : Region.wanted o (yielded ops a.tmps) = true) (ty : TypeId) (x : Operand) (ho : o.op = .load ty x)
    (g i : Nat) (hx : a.eval x = .pointer (some ⟨g, i, none⟩)) (m : Nat) (f : Vec) (d : TypeDesc) (hg : ∀ j, j < m → w.cell? ⟨g, i + j, none⟩ = some (I (f j)))
    (hu : P.underlying ty = some d) (hd : (match d with | .struct _ | .array _ _ => true | _ => false) = true) (hi : (P.info? ty).map (·.size) = some m)
    (h : wpList P ops Q rest (a.put o.dst (.agg (ia m f))) w) : wpList P ops Q (o :: rest) a w := by
  refine wpList_step fun K hK => ?_
  rw [if_pos hgd]
  have hl := run_loadCells (P := P) w ⟨g, i, none⟩ m (fun j => I (f j)) (fun j hj => by rw [addr_add]; exact hg j hj)
  have hrun : (loadVar ty ⟨g, i, none⟩).run P w = .ok (.agg (ia m f)) w := by
    cases hq : P.info? ty with
    | none => simp [hq] at hi
    | some q =>
      have hs : q.size = m := by simpa [hq] using hi
      have hagg : (isAgg ty).run P w = .ok true w := by
        unfold isAgg
        rw [Sem.run_bind, run_underlying hu w]
        cases d <;> simp_all
      simp [loadVar, Sem.run_bind, hagg, sizeOf, typeInfo, hq, hs, hl, ia]
  unfold Oper.wp execOp
  simp only [ho, hx, Instr.loadAt, Instr.sureAddr, Sem.run_bind, Sem.run_pure, Result.andThen_ok, hrun]
  exact hK _ _ h
theorem sameL_self (l : List Rng) : sameL l l = true := decide_eq_true rfl
theorem ac_len {p : Vec} {R : Run} (h : okRun R = true → R.e ≤ 400) : (acL p R).length ≤ 1000 := by
  unfold acL
  by_cases h0 : chE p R = 0
  · rw [if_pos h0]
    unfold chE at h0
    have hk : (okPuller p && okRun R) = true := by
      rcases hk : (okPuller p && okRun R) with _ | _
      · rw [hk] at h0; simp at h0
      · rfl
    rw [Bool.and_eq_true] at hk
    have := h hk.2
    have := rnK_len (goodB p R) R.e.toNat
    unfold runsF; omega
  · rw [if_neg h0]; simp
theorem sold_len {p : Vec} {R : Run} (h : okRun R = true → R.e ≤ 400) : (soldL p R).length ≤ 1000 := by
  unfold soldL
  by_cases h0 : chE p R = 0
  · rw [if_pos h0]
    unfold chE at h0
    have hk : (okPuller p && okRun R) = true := by
      rcases hk : (okPuller p && okRun R) with _ | _
      · rw [hk] at h0; simp at h0
      · rfl
    rw [Bool.and_eq_true] at hk
    have h1 := h hk.2
    have h2 := endF_bd ((vRun_iff R).1 hk.2) (vPul_of hk.1)
    have h3 := rnK_len (sellF p R) (endF p R).toNat
    have h4 := soldK_len p R (runsF (sellF p R) (endF p R).toNat)
    unfold runsF at h4 ⊢; omega
  · rw [if_neg h0]; simp
set_option maxRecDepth 100000 in
set_option maxHeartbeats 2000000 in
theorem pullSells_any (p : Vec) (A1 A2 A3 : Option Addr) (c1 c2 c3 : Nat) (R : Run) (w : World) (h1 : Rd w w.heap.size 8 A1 R.ss.length (rS R.ss)) (h2 : Rd w w.heap.size 3 A2 R.ms.length (rM R.ms)) (h3 : Rd w w.heap.size 2 A3 R.es.length (rE R.es)) :
    Calls Try.prog 7 #[.agg (ia 117 p), runV A1 A2 A3 c1 c2 c3 R] w fun e w' => e = .returned (.bool true) ∧ Below w.heap.size w w' := by
  obtain ⟨W0, hW0⟩ : ∃ W0, W0 = w.alloc (.cells (ia 117 p) 30) := ⟨_, rfl⟩
  obtain ⟨W1, hW1⟩ : ∃ W1, W1 = W0.alloc (.cells #[.slice A1 R.ss.length c1, I R.e, .slice A2 R.ms.length c2, .slice A3 R.es.length c3] 35) := ⟨_, rfl⟩
  have HL0 : Hid (Le W0 W1) := by show Below _ _ _; rw [hW1]; exact (Below.refl _ _).alloc (Nat.le_refl _) _
  have HU : Hid (∀ W, Le W1 W → Below w.heap.size w W) := fun W hW => by have := HL0.out.trans hW; rw [hW0] at this; exact under2 this
  have hz0 : W0.heap.size = w.heap.size + 1 := by rw [hW0]; simp
  have HP : Hid (∀ W, Le W1 W → ∀ j, j < 117 → W.cell? ⟨w.heap.size, 0 + j, none⟩ = some (I (p j))) := fun W hW j hj => by
    have hr : W.heap[w.heap.size]? = some (.cells (ia 117 p) 30 (0, 0)) := (Below.block (HL0.out.trans hW) _ (by rw [hW0]; simp)).trans (by rw [hW0]; exact heap_last _ _ _ rfl)
    rw [Nat.zero_add, cell_of_row _ _ _ _ _ _ hr]; exact ia_get hj
  have HX : Hid (∀ W, Le W1 W → W.cell? ⟨w.heap.size + 1, 0, none⟩ = some (.slice A1 R.ss.length c1) ∧ W.cell? ⟨w.heap.size + 1, 1, none⟩ = some (I R.e) ∧ W.cell? ⟨w.heap.size + 1, 2, none⟩ = some (.slice A2 R.ms.length c2) ∧ W.cell? ⟨w.heap.size + 1, 3, none⟩ = some (.slice A3 R.es.length c3)) := fun W hW => by
    have hr : W.heap[w.heap.size + 1]? = some (.cells #[.slice A1 R.ss.length c1, I R.e, .slice A2 R.ms.length c2, .slice A3 R.es.length c3] 35 (0, 0)) := (Below.block hW _ (by rw [hW1]; simp; omega)).trans (by rw [hW1, ← hz0]; exact heap_last _ _ _ rfl)
    exact ⟨by rw [cell_of_row _ _ _ _ _ _ hr]; rfl, by rw [cell_of_row _ _ _ _ _ _ hr]; rfl, by rw [cell_of_row _ _ _ _ _ _ hr]; rfl, by rw [cell_of_row _ _ _ _ _ _ hr]; rfl⟩
  have HR : Hid (∀ W, Le W1 W → Rd W W.heap.size 8 A1 R.ss.length (rS R.ss) ∧ Rd W W.heap.size 3 A2 R.ms.length (rM R.ms) ∧ Rd W W.heap.size 2 A3 R.es.length (rE R.es)) := fun W hW => by
    have hb := HU.out W hW
    exact ⟨(h1.below hb).more hb.size, (h2.below hb).more hb.size, (h3.below hb).more hb.size⟩
  have HW : Hid (W1 = (w.alloc (.cells (ia 117 p) 30)).alloc (.cells #[.slice A1 R.ss.length c1, I R.e, .slice A2 R.ms.length c2, .slice A3 R.es.length c3] 35)) := by show _ = _; rw [hW1, hW0]
  clear h1 h2 h3 hW0 hW1 hz0
  go_enter Try.func7, Try.ntmps7
  go_wp2_with fail
  rw [← HW.out]
  obtain ⟨r1, r2, r3⟩ := HR.out W1 (Le.refl _)
  refine (long_any A1 A2 A3 c1 c2 c3 R W1 r1 r2 r3).mono ?_
  rintro e W2 ⟨rfl, hb1⟩
  have L2 : Hid (Le W1 W2) := hb1
  clear hb1 r1 r2 r3
  rcases hl : lgR R with _ | _
  case true =>
    clear hl
    go_wp2_with fail
    refine (known_any W2).mono ?_
    rintro e WK ⟨rfl, hb⟩
    have LK : Hid (Below w.heap.size w WK) := HU.out _ ((L2.out).trans hb)
    clear hb
    go_wp2_with fail
    go_ret
    exact ⟨rfl, LK.out⟩
  obtain ⟨l1, l2, l3, l4⟩ := lgR_no hl
  have HI : Hid (∀ W, Le W1 W → RunIn W A1 A2 A3 R) := fun W hW => by
    obtain ⟨r1, r2, r3⟩ := HR.out W hW
    exact ⟨r1, r2, r3, by omega, by omega, by omega⟩
  have L4 := Lib.hid l4
  clear hl l1 l2 l3 l4
  obtain ⟨ec, hec⟩ : ∃ ec, chE p R = ec := ⟨_, rfl⟩
  obtain ⟨la, hla⟩ : ∃ la, acL p R = la := ⟨_, rfl⟩
  obtain ⟨ls, hls⟩ : ∃ ls, soldL p R = ls := ⟨_, rfl⟩
  have Hec := Lib.hid hec
  have Hla := Lib.hid hla
  have Hls := Lib.hid hls
  have Hln : Hid (la.length ≤ 1000 ∧ ls.length ≤ 1000) := ⟨by rw [← hla]; exact ac_len L4.out, by rw [← hls]; exact sold_len L4.out⟩
  clear hec hla hls
  obtain ⟨x0, x1, x2, x3⟩ := HX.out W2 (L2.out)
  go_wp2_with fail
  refine (own_any A1 A2 A3 c1 c2 c3 R W2 (HI.out _ L2.out)).mono ?_
  rintro e W3 ⟨E1, E2, E3, e1, e2, e3, rfl, hr3, hc3, hb3⟩
  have L3 : Hid (Le W1 W3) := L2.out.trans hb3
  have R3 := Lib.hid hr3
  have C3 := Lib.hid hc3
  clear hb3 hr3 hc3 x0 x1 x2 x3
  go_upto_region 4 with (refine wpList_store_row rfl 35 _ _ rfl W3.heap.size rfl _ _ (heap_last _ _ _ rfl) #[.slice E1 R.ss.length e1, I R.e, .slice E2 R.ms.length e2, .slice E3 R.es.length e3] rfl (by intro v hv; simp at hv; rcases hv with rfl | rfl | rfl | rfl <;> rfl) rfl (by kernel_rfl) ?_)
  obtain ⟨W4, hW4⟩ : ∃ W4, W4 = (W3.alloc (.cells #[.slice none 0 0, I 0, .slice none 0 0, .slice none 0 0] 35)).setRow W3.heap.size #[.slice E1 R.ss.length e1, I R.e, .slice E2 R.ms.length e2, .slice E3 R.es.length e3] := ⟨_, rfl⟩
  rw [← hW4]
  have h34 : Le W3 W4 := by rw [hW4]; exact below_setRow ((Below.refl _ _).alloc (Nat.le_refl _) _) (Nat.le_refl _) _
  have q4 : W4.heap[W3.heap.size]? = some (.cells #[.slice E1 R.ss.length e1, I R.e, .slice E2 R.ms.length e2, .slice E3 R.es.length e3] 35 (0, 0)) := by rw [hW4]; exact setRow_same (heap_last _ _ _ rfl)
  have L4w : Hid (Le W1 W4) := L3.out.trans h34
  have HE : Hid (∀ W, Le W4 W → RunIn W E1 E2 E3 R) := fun W hW => R3.out.below (h34.trans hW)
  have HQ : Hid (∀ W, Le W4 W → W.cell? ⟨W3.heap.size, 0, none⟩ = some (.slice E1 R.ss.length e1) ∧ W.cell? ⟨W3.heap.size, 1, none⟩ = some (I R.e) ∧ W.cell? ⟨W3.heap.size, 2, none⟩ = some (.slice E2 R.ms.length e2) ∧ W.cell? ⟨W3.heap.size, 3, none⟩ = some (.slice E3 R.es.length e3)) := fun W hW => by
    have h1 := (Below.block hW _ (Array.getElem?_eq_some_iff.1 q4).1).trans q4
    exact ⟨by rw [cell_of_row _ _ _ _ _ _ h1]; rfl, by rw [cell_of_row _ _ _ _ _ _ h1]; rfl, by rw [cell_of_row _ _ _ _ _ _ h1]; rfl, by rw [cell_of_row _ _ _ _ _ _ h1]; rfl⟩
  clear hW4 h34 q4 R3
  generalize W3.heap.size = ib at *
  obtain ⟨q0, q1, q2, q3⟩ := HQ.out W4 (Le.refl _)
  go_wp2_with (refine wpList_load_ia rfl 30 _ rfl w.heap.size 0 rfl 117 p _ (HP.out _ L4w.out) Try.underlying30 rfl (by kernel_rfl) ?_)
  refine (acceptedX_any E1 E2 E3 e1 e2 e3 p R W4 (HE.out _ (Le.refl _)) C3.out).mono ?_
  rw [Hec.out, Hla.out]
  rintro e W5 ⟨Aa, na, ca, rfl, hn5, hr5, hb5⟩
  have L5 : Hid (Le W4 W5) := hb5
  have HA : Hid (∀ W, Le W5 W → Rd W W.heap.size 2 Aa na (rR la)) := fun W hW => (hr5.below hW).more hW.size
  have Hna := Lib.hid hn5
  clear hb5 hr5 hn5 q0 q1 q2 q3
  obtain ⟨q0, q1, q2, q3⟩ := HQ.out W5 L5.out
  go_wp2_with (refine wpList_load_ia rfl 30 _ rfl w.heap.size 0 rfl 117 p _ (HP.out _ (L4w.out.trans L5.out)) Try.underlying30 rfl (by kernel_rfl) ?_)
  refine (soldX_any E1 E2 E3 e1 e2 e3 p R W5 (HE.out _ L5.out) C3.out).mono ?_
  rw [Hec.out, Hls.out]
  rintro e W6 ⟨As, ns, cs, rfl, hn6, hr6, hb6⟩
  have L56 : Hid (Le W5 W6) := hb6
  have L6 : Hid (Le W4 W6) := L5.out.trans hb6
  have HS : Hid (∀ W, Le W6 W → Rd W W.heap.size 2 As ns (rR ls)) := fun W hW => (hr6.below hW).more hW.size
  have Hns := Lib.hid hn6
  clear hb6 hr6 hn6 q0 q1 q2 q3
  go_wp2_with fail
  go_loopw [10] (fun i wr => ∃ k : Nat, k ≤ R.ss.length ∧ i = .int .i64 k ∧ Le W6 wr) (fun i _ => R.ss.length - (intOf i).toNat)
  case atStart => exact ⟨0, by omega, rfl, Le.refl _⟩
  rename World => W7
  obtain ⟨k, hk, rfl, hbw⟩ := hrel
  have HL : Hid (Le W6 W7) := hbw
  have LW1 : Hid (Le W1 W7) := L4w.out.trans (L6.out.trans hbw)
  have LW4 : Hid (Le W4 W7) := L6.out.trans hbw
  clear hbw
  have hln : (R.ss.length : Int) ≤ 1000000 := by have := (HI.out _ LW1.out).ls; omega
  obtain ⟨x0, x1, x2, x3⟩ := HX.out W7 LW1.out
  obtain ⟨q0, q1, q2, q3⟩ := HQ.out W7 LW4.out
  by_cases hlt : k < R.ss.length
  case pos =>
    have hki : (k : Int) < (R.ss.length : Int) := by omega
    obtain ⟨b1, o1, rfl, _, s0, s1, s2, s3, s4, s5, s6, s7⟩ := (HI.out W7 LW1.out).s.stg hlt
    obtain ⟨b2, o2, rfl, _, u0, u1, u2, u3, u4, u5, u6, u7⟩ := (HE.out W7 LW4.out).s.stg hlt
    have xx0 := ovr_cell x0
    have qq0 := ovr_cell q0
    have xx1 := ovr_cell x1
    have qq1 := ovr_cell q1
    have xx2 := ovr_cell x2
    have qq2 := ovr_cell q2
    have xx3 := ovr_cell x3
    have qq3 := ovr_cell q3
    have ss0 := ovr_cell s0
    have uu0 := ovr_cell u0
    have ss1 := ovr_cell s1
    have uu1 := ovr_cell u1
    have ss2 := ovr_cell s2
    have uu2 := ovr_cell u2
    have ss3 := ovr_cell s3
    have uu3 := ovr_cell u3
    have ss4 := ovr_cell s4
    have uu4 := ovr_cell u4
    have ss5 := ovr_cell s5
    have uu5 := ovr_cell u5
    have ss6 := ovr_cell s6
    have uu6 := ovr_cell u6
    have ss7 := ovr_cell s7
    have uu7 := ovr_cell u7
    generalize at0 R.ss k = q at *
    have heq := eq6 (q.v 0) (q.v 1) (q.v 2) (q.v 3) (q.v 4) (q.v 5)
    clear s0 u0 s1 u1 s2 u2 s3 u3 s4 u4 s5 u5 s6 u6 s7 u7
    go_wp2_with fail
    refine wp_region_below_lit (by kernel_rfl) (by kernel_rfl) ?_
    repeat (go_big_quiet_step (fail))
    refine wpQuiet_nil ?_
    intro w1 hb1
    have LB : Hid (Le W6 w1) := HL.out.trans hb1
    clear heq hb1 ss0 uu0 ss1 uu1 ss2 uu2 ss3 uu3 ss4 uu4 ss5 uu5 ss6 uu6 ss7 uu7 xx0 xx1 xx2 xx3 qq0 qq1 qq2 qq3 x0 x1 x2 x3 q0 q1 q2 q3
    go_wp2_with fail
    go_roundw
    case rel => exact ⟨k + 1, by omega, by go_num, LB.out⟩
    case measure => simp [intOf]; omega
  have L7 : Hid (Le W4 W7) := LW4.out
  have L7o : Hid (Le W6 W7) := HL.out
  clear LW1 LW4 HL
  go_wp2_with fail
  clear hk hln hlt x0 x1 x2 x3 q0 q1 q2 q3
  go_loopw [11] (fun i wr => ∃ k : Nat, k ≤ R.ms.length ∧ i = .int .i64 k ∧ Le W7 wr) (fun i _ => R.ms.length - (intOf i).toNat)
  case atStart => exact ⟨0, by omega, rfl, Le.refl _⟩
  rename World => W8
  obtain ⟨k, hk, rfl, hbw⟩ := hrel
  have HL : Hid (Le W7 W8) := hbw
  have LW1 : Hid (Le W1 W8) := L4w.out.trans (L7.out.trans hbw)
  have LW4 : Hid (Le W4 W8) := L7.out.trans hbw
  clear hbw
  have hln : (R.ms.length : Int) ≤ 1000000 := by have := (HI.out _ LW1.out).lm; omega
  obtain ⟨x0, x1, x2, x3⟩ := HX.out W8 LW1.out
  obtain ⟨q0, q1, q2, q3⟩ := HQ.out W8 LW4.out
  by_cases hlt : k < R.ms.length
  case pos =>
    have hki : (k : Int) < (R.ms.length : Int) := by omega
    obtain ⟨b1, o1, rfl, _, s0, s1, s2⟩ := (HI.out W8 LW1.out).m.smp hlt
    obtain ⟨b2, o2, rfl, _, u0, u1, u2⟩ := (HE.out W8 LW4.out).m.smp hlt
    have xx0 := ovr_cell x0
    have qq0 := ovr_cell q0
    have xx1 := ovr_cell x1
    have qq1 := ovr_cell q1
    have xx2 := ovr_cell x2
    have qq2 := ovr_cell q2
    have xx3 := ovr_cell x3
    have qq3 := ovr_cell q3
    have ss0 := ovr_cell s0
    have uu0 := ovr_cell u0
    have ss1 := ovr_cell s1
    have uu1 := ovr_cell u1
    have ss2 := ovr_cell s2
    have uu2 := ovr_cell u2
    generalize at0 R.ms k = q at *
    clear s0 u0 s1 u1 s2 u2
    go_wp2_with fail
    refine wp_region_below_lit (by kernel_rfl) (by kernel_rfl) ?_
    repeat (go_big_quiet_step (fail))
    refine wpQuiet_nil ?_
    intro w1 hb1
    have LB : Hid (Le W7 w1) := HL.out.trans hb1
    clear hb1 ss0 uu0 ss1 uu1 ss2 uu2 xx0 xx1 xx2 xx3 qq0 qq1 qq2 qq3 x0 x1 x2 x3 q0 q1 q2 q3
    go_wp2_with fail
    go_roundw
    case rel => exact ⟨k + 1, by omega, by go_num, LB.out⟩
    case measure => simp [intOf]; omega
  have L8 : Hid (Le W4 W8) := LW4.out
  have L8o : Hid (Le W6 W8) := L7o.out.trans HL.out
  clear LW1 LW4 HL
  go_wp2_with fail
  clear hk hln hlt x0 x1 x2 x3 q0 q1 q2 q3
  go_loopw [12] (fun i wr => ∃ k : Nat, k ≤ R.es.length ∧ i = .int .i64 k ∧ Le W8 wr) (fun i _ => R.es.length - (intOf i).toNat)
  case atStart => exact ⟨0, by omega, rfl, Le.refl _⟩
  rename World => W9
  obtain ⟨k, hk, rfl, hbw⟩ := hrel
  have HL : Hid (Le W8 W9) := hbw
  have LW1 : Hid (Le W1 W9) := L4w.out.trans (L8.out.trans hbw)
  have LW4 : Hid (Le W4 W9) := L8.out.trans hbw
  clear hbw
  have hln : (R.es.length : Int) ≤ 1000000 := by have := (HI.out _ LW1.out).le; omega
  obtain ⟨x0, x1, x2, x3⟩ := HX.out W9 LW1.out
  obtain ⟨q0, q1, q2, q3⟩ := HQ.out W9 LW4.out
  by_cases hlt : k < R.es.length
  case pos =>
    have hki : (k : Int) < (R.es.length : Int) := by omega
    obtain ⟨b1, o1, rfl, _, s0, s1⟩ := (HI.out W9 LW1.out).e.evt hlt
    obtain ⟨b2, o2, rfl, _, u0, u1⟩ := (HE.out W9 LW4.out).e.evt hlt
    have xx0 := ovr_cell x0
    have qq0 := ovr_cell q0
    have xx1 := ovr_cell x1
    have qq1 := ovr_cell q1
    have xx2 := ovr_cell x2
    have qq2 := ovr_cell q2
    have xx3 := ovr_cell x3
    have qq3 := ovr_cell q3
    have ss0 := ovr_cell s0
    have uu0 := ovr_cell u0
    have ss1 := ovr_cell s1
    have uu1 := ovr_cell u1
    generalize at0 R.es k = q at *
    clear s0 u0 s1 u1
    go_wp2_with fail
    refine wp_region_below_lit (by kernel_rfl) (by kernel_rfl) ?_
    repeat (go_big_quiet_step (fail))
    refine wpQuiet_nil ?_
    intro w1 hb1
    have LB : Hid (Le W8 w1) := HL.out.trans hb1
    clear hb1 ss0 uu0 ss1 uu1 xx0 xx1 xx2 xx3 qq0 qq1 qq2 qq3 x0 x1 x2 x3 q0 q1 q2 q3
    go_wp2_with fail
    go_roundw
    case rel => exact ⟨k + 1, by omega, by go_num, LB.out⟩
    case measure => simp [intOf]; omega
  have L9 : Hid (Le W4 W9) := LW4.out
  have L9o : Hid (Le W6 W9) := L8o.out.trans HL.out
  clear LW1 LW4 HL
  go_upto_region 21 with (fail)
  clear hk hln hlt x0 x1 x2 x3 q0 q1 q2 q3
  have LW : Hid (Le W1 W9) := L4w.out.trans L9.out
  have LS : Hid (Le W6 W9) := L9o.out
  have last := True.intro
  have no : Hid ((okPuller p && okRun R) = false → ec = 2 ∧ na = 0 ∧ ns = 0) := fun hk => by
    have h1 : ec = 2 := by rw [← Hec.out, chE, hk]; rfl
    refine ⟨h1, ?_, ?_⟩
    · rw [Hna.out, ← Hla.out, acL, if_neg (by rw [Hec.out]; omega)]; rfl
    · rw [Hns.out, ← Hls.out, soldL, if_neg (by rw [Hec.out]; omega)]; rfl
  go_wp2_with (refine wpList_load_ia rfl 30 _ rfl w.heap.size 0 rfl 117 p _ (HP.out _ (LW.out)) Try.underlying30 rfl (by kernel_rfl) ?_)
  refine (refPuller_any p W9).mono ?_
  rintro e WA ⟨rfl, hbA⟩
  have LA : Hid (Le W9 WA) := hbA
  clear hbA
  rcases hp : okPuller p with _ | _
  case false =>
    obtain ⟨rfl, rfl, rfl⟩ := no.out (by rw [hp]; rfl)
    clear hp
    go_wp2_with fail
    refine (known_any WA).mono ?_
    rintro e WK ⟨rfl, hb⟩
    have LK : Hid (Below w.heap.size w WK) := HU.out _ ((LW.out.trans LA.out).trans hb)
    clear hb
    go_wp2_with fail
    go_ret
    exact ⟨rfl, LK.out⟩
  obtain ⟨x0, x1, x2, x3⟩ := HX.out WA (LW.out.trans LA.out)
  go_wp2_with fail
  refine (refRun_any A1 A2 A3 c1 c2 c3 R WA (HI.out _ (LW.out.trans LA.out))).mono ?_
  rintro e WB ⟨rfl, hbB⟩
  have LB : Hid (Le W9 WB) := LA.out.trans hbB
  clear hbB x0 x1 x2 x3
  rcases hr : okRun R with _ | _
  case false =>
    obtain ⟨rfl, rfl, rfl⟩ := no.out (by rw [hr]; simp)
    clear hp hr
    go_wp2_with fail
    refine (known_any WB).mono ?_
    rintro e WK ⟨rfl, hb⟩
    have LK : Hid (Below w.heap.size w WK) := HU.out _ ((LW.out.trans LB.out).trans hb)
    clear hb
    go_wp2_with fail
    go_ret
    exact ⟨rfl, LK.out⟩
  have hok : (okPuller p && okRun R) = true := by rw [hp, hr]; rfl
  have Hv := Lib.hid ((vRun_iff R).1 hr)
  have Hp := Lib.hid (vPul_of hp)
  have He4 := Lib.hid (L4.out hr)
  obtain ⟨f1, f2, hcf⟩ : ∃ f1 f2, confP p R = (f1, f2) := ⟨_, _, rfl⟩
  have HC := Lib.hid hcf
  have HE2 : Hid (ec = if (conf p R).isSome then 40 else 0) := by show _ = _; rw [← Hec.out, chE, if_pos hok]
  clear hp hr no hok hcf
  obtain ⟨x0, x1, x2, x3⟩ := HX.out WB (LW.out.trans LB.out)
  go_wp2_with (refine wpList_load_ia rfl 30 _ rfl w.heap.size 0 rfl 117 p _ (HP.out _ (LW.out.trans LB.out)) Try.underlying30 rfl (by kernel_rfl) ?_)
  refine (refConf_any A1 A2 A3 c1 c2 c3 p R WB (HI.out _ (LW.out.trans LB.out)) Hv.out Hp.out).mono ?_
  rintro e WC ⟨rfl, hbC⟩
  have LC : Hid (Le W9 WC) := LB.out.trans hbC
  rw [HC.out]
  clear hbC x0 x1 x2 x3
  rcases hcs : (conf p R).isSome with _ | _
  case true =>
    have hf1 : 0 ≤ f1 := by have := confP_pos hcs; rw [HC.out] at this; exact this
    obtain rfl : ec = 40 := by rw [HE2.out, hcs]; rfl
    obtain rfl : na = 0 := by rw [Hna.out, ← Hla.out, acL, if_neg (by rw [Hec.out]; omega)]; rfl
    obtain rfl : ns = 0 := by rw [Hns.out, ← Hls.out, soldL, if_neg (by rw [Hec.out]; omega)]; rfl
    clear hcs
    go_wp2_with fail
    refine (known_any WC).mono ?_
    rintro e WK ⟨rfl, hb⟩
    have LK : Hid (Below w.heap.size w WK) := HU.out _ ((LW.out.trans LC.out).trans hb)
    clear hb
    go_wp2_with fail
    go_ret
    exact ⟨rfl, LK.out⟩
  obtain rfl : f1 = -1 := by have := HC.out; rw [confP_neg hcs] at this; injection this with a b; exact a.symm
  obtain rfl : ec = 0 := by rw [HE2.out, hcs]; rfl
  have CA : Hid (∀ W, Le W1 W → Calls Try.prog 36 #[.agg (ia 117 p), runV A1 A2 A3 c1 c2 c3 R] W (RetR W la)) := fun W hW => by
    have := refAcc_any A1 A2 A3 c1 c2 c3 p R W (HI.out W hW) Hv.out Hp.out (by have := He4.out; omega)
    rw [← Hla.out, acL, if_pos Hec.out]; exact this
  have CS : Hid (∀ W, Le W1 W → Calls Try.prog 37 #[.agg (ia 117 p), runV A1 A2 A3 c1 c2 c3 R] W (RetR W ls)) := fun W hW => by
    have := refSold_any A1 A2 A3 c1 c2 c3 p R W (HI.out W hW) Hv.out Hp.out
    rw [← Hls.out, soldL, if_pos Hec.out]; exact this
  clear hcs
  obtain ⟨m1, m2⟩ := Hln.out
  obtain ⟨x0, x1, x2, x3⟩ := HX.out WC (LW.out.trans LC.out)
  go_wp2_with (refine wpList_load_ia_on (by first | rfl | kernel_rfl) 30 _ rfl w.heap.size 0 rfl 117 p _ (HP.out _ (LW.out.trans LC.out)) Try.underlying30 rfl (by kernel_rfl) ?_)
  refine (CA.out WC (LW.out.trans LC.out)).mono ?_
  rintro e WD ⟨Ba, nb, cb, rfl, hnb, hrb, hbD⟩
  have LD : Hid (Le W9 WD) := LC.out.trans hbD
  have Hrb := Lib.hid hrb
  have Hnb := Lib.hid hnb
  clear hbD x0 x1 x2 x3 hrb hnb
  go_wp2_with fail
  refine (same_any Aa Ba na nb ca cb la la WD Hna.out Hnb.out (HA.out WD (L56.out.trans (LS.out.trans LD.out))) Hrb.out (by have := Hna.out; omega) (by have := Hnb.out; omega)).mono ?_
  rintro e WE ⟨rfl, hbE⟩
  have LE : Hid (Le W9 WE) := LD.out.trans hbE
  rw [sameL_self]
  clear hbE Hrb Hnb
  obtain ⟨x0, x1, x2, x3⟩ := HX.out WE (LW.out.trans LE.out)
  go_wp2_with (refine wpList_load_ia_on (by first | rfl | kernel_rfl) 30 _ rfl w.heap.size 0 rfl 117 p _ (HP.out _ (LW.out.trans LE.out)) Try.underlying30 rfl (by kernel_rfl) ?_)
  refine (CS.out WE (LW.out.trans LE.out)).mono ?_
  rintro e WF ⟨Bb, nb, cb, rfl, hnb, hrb, hbD⟩
  have LF : Hid (Le W9 WF) := LE.out.trans hbD
  have Hrb := Lib.hid hrb
  have Hnb := Lib.hid hnb
  clear hbD x0 x1 x2 x3 hrb hnb
  go_wp2_with fail
  refine (same_any As Bb ns nb cs cb ls ls WF Hns.out Hnb.out (HS.out WF (LS.out.trans LF.out)) Hrb.out (by have := Hns.out; omega) (by have := Hnb.out; omega)).mono ?_
  rintro e WG ⟨rfl, hbE⟩
  have LG : Hid (Le W9 WG) := LF.out.trans hbE
  rw [sameL_self]
  clear hbE Hrb Hnb
  go_wp2_with fail
  refine (known_any WG).mono ?_
  rintro e WK ⟨rfl, hb⟩
  have LK : Hid (Below w.heap.size w WK) := HU.out _ ((LW.out.trans LG.out).trans hb)
  clear hb
  go_wp2_with fail
  go_ret
  exact ⟨rfl, LK.out⟩
end Go.Proofs.Ytlebefopdnadaaa
