/- The contract of Obeys of the reference. -/
import Derived.Test.YtlebefopdnadaaaFt
import Derived.Test.YtlebefopdnadaaaObp
import Derived.Test.YtlebefopdnadaaaPla
namespace Go.Proofs.Ytlebefopdnadaaa
open Go.RowKit
/-- The first breach of a valid run by a valid puller. -/
def obS (p : Vec) (R : Run) : Brk := brOf (match setBrs p R with | some b => some b | none => match phBrs p R R.ss.length 0 with | some b => some b | none => stopBr p R)
abbrev stArr (s : Stg) : Array Value := #[I s.t, I s.ph, I (s.v 0), I (s.v 1), I (s.v 2), I (s.v 3), I (s.v 4), I (s.v 5)]
theorem idxS (q : Stg) {g : Nat} (h : g < 6) : (stArr q)[2 + g]? = some (I (q.v g)) :=
  all6 (P := fun g => (stArr q)[2 + g]? = some (I (q.v g))) rfl rfl rfl rfl rfl rfl g h
theorem bnd_wi (p : Vec) (q : Stg) (g : Nat) : bndB p q g = !(wiB (q.v g) (p (rlAt q.ph + g * 2)) (p (rlAt q.ph + g * 2 + 1))) := by
  unfold bndB wiB
  rw [Bool.eq_iff_iff]
  simp
theorem seg_ex {R : Run} (h : VRun R) (hs : Steps R) : ∀ d : Nat, (d : Int) + 1 ≤ lastPh R → ∃ i, Seg R i ((d : Int) + 1)
  | 0, _ => ⟨0, seg_zero hs h.n1⟩
  | d + 1, hd => by
    obtain ⟨i, g⟩ := seg_ex h hs d (by omega)
    rcases (seg_step h hs (fun _ => 0) g).2 with ⟨_, _, h3⟩ | ⟨_, h3, _⟩
    · omega
    · exact ⟨_, by rw [show ((d + 1 : Nat) : Int) + 1 = (d : Int) + 1 + 1 by omega]; exact h3⟩
theorem flS_to {k e : Int} {ss : List Stg} (h0 : 0 ≤ e) (hb : ∀ s ∈ ss, 0 ≤ s.t ∧ s.t ≤ e) : 0 ≤ (flS k e ss).2 ∧ (flS k e ss).2 ≤ e := by
  induction ss with
  | nil => exact ⟨h0, Int.le_refl _⟩
  | cons s r ih =>
    have i1 := ih (fun x hx => hb x (List.mem_cons_of_mem _ hx))
    have i2 := hb s (List.mem_cons_self ..)
    simp only [flS]
    split
    · exact i2
    · exact i1
theorem flS_bd {R : Run} (h : VRun R) (hs : Steps R) {k : Int} (h1 : 1 ≤ k) (h2 : k ≤ lastPh R) : (0 ≤ (flS k R.e R.ss).1 ∧ (flS k R.e R.ss).1 ≤ R.e) ∧ (0 ≤ (flS k R.e R.ss).2 ∧ (flS k R.e R.ss).2 ≤ R.e) := by
  have hb : ∀ s ∈ R.ss, 0 ≤ s.t ∧ s.t ≤ R.e := fun s hs => by
    obtain ⟨j, hj, rfl⟩ := at0_mem hs
    have := h.t0 j hj
    have := h.tlt j hj
    omega
  have h0 : 0 ≤ R.e := by have := h.first; have := h.tlt 0 h.n1; omega
  refine ⟨?_, flS_to h0 hb⟩
  obtain ⟨i, g⟩ := seg_ex h hs (k - 1).toNat (by omega)
  rw [show (((k - 1).toNat : Nat) : Int) + 1 = k by omega] at g
  have hf : (flS k R.e R.ss).1 = (at0 R.ss i).t := fl_from g.lt g.ph (fun j hj => by have := g.bef j hj; omega) i 0 (by omega)
  rw [hf]
  exact hb _ (at0_in g.lt)
set_option maxRecDepth 100000 in
set_option maxHeartbeats 4000000 in
theorem refObeys_any (A1 A2 A3 : Option Addr) (c1 c2 c3 : Nat) (p : Vec) (R : Run) (w : World) (h : RunIn w A1 A2 A3 R) (hv : VRun R) (hp : VPul p) :
    Calls Try.prog 26 #[.agg (ia 117 p), runV A1 A2 A3 c1 c2 c3 R] w fun e w' => e = .returned (obS p R).val ∧ Below w.heap.size w w' := by
  obtain ⟨W2, hW2⟩ : ∃ W2, W2 = ((w.alloc (.cells (ia 117 p) 30)).alloc (.cells #[.slice A1 R.ss.length c1, I R.e, .slice A2 R.ms.length c2, .slice A3 R.es.length c3] 35)) := ⟨_, rfl⟩
  have T : Hid (Two w A1 A2 A3 c1 c2 c3 p R W2) := hW2 ▸ two_mk h c1 c2 c3 p
  have HW := Lib.hid hW2
  obtain ⟨W3, hW3⟩ : ∃ W3, W3 = W2.alloc (.cells #[I 0, I 0, I 0] 54) := ⟨_, rfl⟩
  have B23 : Below W2.heap.size W2 W3 := by rw [hW3]; exact (Below.refl _ _).alloc (Nat.le_refl _) _
  have HRes : Hid (∀ W, Le W3 W → W.heap[w.heap.size + 2]? = some (.cells #[I 0, I 0, I 0] 54 (0, 0))) := fun W hW => (Below.block hW _ (by rw [hW3, World.size_alloc, T.out.size]; omega)).trans (by rw [hW3]; exact heap_last _ _ _ T.out.size.symm)
  have HP : Hid (∀ W, Le W3 W → ∀ j, j < 117 → W.cell? ⟨w.heap.size, j, none⟩ = some (I (p j))) := fun W hW j hj => by have := T.out.pul _ (B23.trans (Below.mono hW B23.size)) j hj; rwa [Nat.zero_add] at this
  have HX : Hid (∀ W, Le W3 W → Below w.heap.size w W) := fun W hW => T.out.up _ (B23.trans (Below.mono hW B23.size))
  have Hc : Hid (∀ W, Le W3 W → W.cell? ⟨w.heap.size + 1, 0, none⟩ = some (.slice A1 R.ss.length c1) ∧ W.cell? ⟨w.heap.size + 1, 1, none⟩ = some (I R.e) ∧ W.cell? ⟨w.heap.size + 1, 2, none⟩ = some (.slice A2 R.ms.length c2) ∧ W.cell? ⟨w.heap.size + 1, 3, none⟩ = some (.slice A3 R.es.length c3)) := fun W hW => by
    have hq := B23.trans (Below.mono hW B23.size)
    exact ⟨T.out.r0 _ hq, T.out.r1 _ hq, T.out.r2 _ hq, T.out.r3 _ hq⟩
  have HRun : Hid (∀ W, Le W3 W → RunIn W A1 A2 A3 R) := fun W hW => T.out.run.below (B23.trans (Below.mono hW B23.size))
  have Hz3 : Hid (∀ W, Le W3 W → w.heap.size + 3 ≤ W.heap.size) := fun W hW => by have := Below.size hW; rw [hW3, World.size_alloc, T.out.size] at this; omega
  have HW3 := Lib.hid hW3
  have Hv := Lib.hid hv
  have Hp := Lib.hid hp
  have HE : Hid (∀ b : Brk, obS p R = b → ∀ W cs, Le W3 W → (Ending.returned (.agg #[I b.rule, I b.at_, I b.g]) = .returned (obS p R).val ∧ Below w.heap.size w (W.setRow (w.heap.size + 2) cs))) := fun b hb W cs hW => ⟨by rw [hb], below_setRow (HX.out W hW) (by omega) _⟩
  have hn60 : R.ss.length ≤ 60 := hv.n60
  have last := hv.last
  clear h hv hp hW2 hW3 B23
  go_enter Try.func26, Try.ntmps26
  go_wp2_with fail
  rw [← HW.out, ← HW3.out]
  simp only [show w.heap.size + 1 + 1 = w.heap.size + 2 from rfl]
  go_loopw [5, 6] (fun ph i wr => ∃ k : Nat, k ≤ R.ss.length ∧ i = .int .i64 k ∧ ph = I (bfS R k).s.ph ∧ (∀ j, j < k → setBr p R j = none) ∧ Le W3 wr) (fun _ i _ => R.ss.length - (intOf i).toNat)
  case atStart => exact ⟨0, by omega, rfl, rfl, by omega, Le.refl _⟩
  case round =>
    obtain ⟨k, hk, rfl, rfl, hb, hbw⟩ := hrel
    have Hb := Lib.hid hb
    have HL : Hid (Le W3 wr) := hbw
    have zr := Hz3.out wr hbw
    clear hb hbw
    obtain ⟨x0, x1, x2, x3⟩ := Hc.out wr HL.out
    by_cases hlt : k < R.ss.length
    · obtain ⟨b, o, rfl, hB, s0, s1, s2, s3, s4, s5, s6, s7⟩ := (HRun.out wr HL.out).s.stg hlt
      have hph := Hv.out.ph k hlt
      have hbp := bfS_ph Hv.out k (by omega)
      have hstep : Hid (stepB R k = (decide ((at0 R.ss k).ph - (bfS R k).s.ph < 0) || decide (1 < (at0 R.ss k).ph - (bfS R k).s.ph) || (decide (k = 0) && decide (0 < (at0 R.ss k).ph - (bfS R k).s.ph)))) := rfl
      have hb0 : Hid (k = 0 → (bfS R k).s.ph = 1) := fun e => by subst e; rfl
      have Hbq : Hid (bfS R (k + 1) = pcS R k) := rfl
      generalize hbq : (bfS R k).s.ph = ph0 at *
      have HBQ := Lib.hid hbq
      clear hbq
      generalize hq : at0 R.ss k = q at *
      have HQ := Lib.hid hq
      clear hq
      obtain ⟨p1, p2⟩ := hph
      obtain ⟨p3, p4⟩ := hbp
      go_upto_region 6 with (fail)
      go_cut [54] from 23 to 127 (fun c wx => c = .bool (stepB R k) ∧ wx = wr.alloc (.cells (stArr q) 73))
      case first =>
        by_cases k0 : k = 0
        · have e1 := hb0.out k0
          have k1 : ((k : Int) == 0) = true := by simp; omega
          by_cases t1 : q.ph = 1
          · have hf : Hid (stepB R k = false) := by show _ = _; rw [hstep.out]; simp; omega
            have t2 : (q.ph == ph0) = true := by simp; omega
            have t2' : (q.ph != ph0) = false := by simp; omega
            have t3 : (q.ph != 1) = false := by simp; omega
            have t4 : (q.ph == 1) = true := by simp; omega
            clear e1 t1 k0
            go_wp2_with fail
            go_meet
            case rel => exact ⟨by rw [hf.out], rfl⟩
          · have hf : Hid (stepB R k = true) := by show _ = _; rw [hstep.out]; simp; omega
            have t3 : (q.ph != 1) = true := by simp; omega
            have t4 : (q.ph == 1) = false := by simp; omega
            clear e1 t1 k0
            go_wp2_with fail
            go_meet
            case rel => exact ⟨by rw [hf.out], rfl⟩
        · have k1 : ((k : Int) == 0) = false := by simp; omega
          by_cases t1 : q.ph = ph0
          · have hf : Hid (stepB R k = false) := by show _ = _; rw [hstep.out]; simp; omega
            have t2 : (q.ph == ph0) = true := by simp; omega
            have t2' : (q.ph != ph0) = false := by simp; omega
            clear t1 k0
            go_wp2_with fail
            go_meet
            case rel => exact ⟨by rw [hf.out], rfl⟩
          · have t2 : (q.ph == ph0) = false := by simp; omega
            have t2' : (q.ph != ph0) = true := by simp; omega
            by_cases t5 : q.ph = ph0 + 1
            · have hf : Hid (stepB R k = false) := by show _ = _; rw [hstep.out]; simp; omega
              have t3 : (q.ph == ph0 + 1) = true := by simp; omega
              have t3' : (q.ph != ph0 + 1) = false := by simp; omega
              clear t1 k0 t5
              go_wp2_with fail
              go_meet
              case rel => exact ⟨by rw [hf.out], rfl⟩
            · have hf : Hid (stepB R k = true) := by show _ = _; rw [hstep.out]; simp; omega
              have t3 : (q.ph == ph0 + 1) = false := by simp; omega
              have t3' : (q.ph != ph0 + 1) = true := by simp; omega
              clear t1 k0 t5
              go_wp2_with fail
              go_meet
              case rel => exact ⟨by rw [hf.out], rfl⟩
      case rest =>
        obtain ⟨rfl, rfl⟩ := hcut
        rcases hst : stepB R k with _ | _
        case true =>
          have hbr : Hid (obS p R = ⟨1, k, 0⟩) := by
            show _ = _
            rw [obS, show setBrs p R = some ⟨1, k, 0⟩ from findSome_at hlt Hb.out (by rw [setBr, if_pos hst])]; rfl
          have hL1 : Hid (Le W3 (wr.alloc (.cells (stArr q) 73))) := HL.out.trans ((Below.refl _ _).alloc (Nat.le_refl _) _)
          have hres := Lib.hid (HRes.out _ hL1.out)
          clear hst
          go_wp2_with (refine wpList_store_row rfl 54 _ _ rfl (w.heap.size + 2) rfl #[I 0, I 0, I 0] _ hres.out #[I 1, I k, I 0] rfl (one3 _ _ _) rfl (by kernel_rfl) ?_)
          refine bodyPost_ret (results_cell_only rfl _ _ (w.heap.size + 2) 54 #[I 1, I k, I 0] (0, 0) _ rfl (setRow_same hres.out) Try.underlying54 rfl (by kernel_rfl)) rfl ?_
          exact HE.out _ hbr.out _ _ hL1.out
        have hm5 : (q.ph.toNat - 1) < 5 := by omega
        have Hst := Lib.hid hst
        have hrl : Hid (rlAt q.ph = (q.ph.toNat - 1) * 22) := rfl
        clear hst
        go_wp2_with (first | ((refine wpList_load_ia rfl 27 _ rfl w.heap.size ((q.ph.toNat - 1) * 22) rfl 22 (fun j => p ((q.ph.toNat - 1) * 22 + j)) _ (fun j hj => HP.out _ (HL.out.trans ((Below.refl _ _).alloc (Nat.le_refl _) _)) _ (by omega)) Try.underlying27 rfl (by kernel_rfl) ?_)) | ((refine wpList_store_new rfl 27 _ _ rfl _ _ (wr.heap.size + 1) rfl ?_ _ rfl ia_one ?_ (by kernel_rfl) ?_)))
        · simp
        · simp [ia_size]
        generalize hWb : (wr.alloc (.cells (stArr q) 73)).alloc (.cells (ia 22 fun j => p ((q.ph.toNat - 1) * 22 + j)) 27) = Wb
        have HWb0 := Lib.hid hWb.symm
        clear hWb
        have hzb : wr.heap.size + 2 ≤ Wb.heap.size := by rw [HWb0.out]; simp
        have HWb : Hid (∀ W, Le Wb W → Le wr W) := fun W hW => by show Below _ _ _; have h2 : Below Wb.heap.size Wb W := hW; rw [HWb0.out] at h2; exact under2 (under2 h2)
        have Hqc : Hid (∀ W, Le Wb W → ∀ j v, (stArr q)[j]? = some v → W.cell? ⟨wr.heap.size, j, none⟩ = some v) := fun W hW j v hj => by
          rw [Below.cell (p := ⟨_, _, none⟩) hW (by show wr.heap.size < _; omega), HWb0.out, cell_of_row _ _ _ _ _ _ (heap_before (heap_last _ _ _ rfl))]; exact hj
        have Hrc : Hid (∀ W, Le Wb W → ∀ j, j < 22 → W.cell? ⟨wr.heap.size + 1, j, none⟩ = some (I (p ((q.ph.toNat - 1) * 22 + j)))) := fun W hW j hj => by
          rw [Below.cell (p := ⟨_, _, none⟩) hW (by show wr.heap.size + 1 < _; omega), HWb0.out, cell_of_row _ _ _ _ _ _ (heap_last _ _ _ (by simp))]; exact ia_get hj
        clear s0 s1 s2 s3 s4 s5 s6 s7 x0 x1 x2 x3
        have c2 := Hqc.out Wb (Le.refl _)
        go_loopw [9] (fun i wg => ∃ g : Nat, g ≤ 6 ∧ i = .int .i64 g ∧ (∀ j, j < g → bndB p q j = false) ∧ Le Wb wg) (fun i _ => 6 - (intOf i).toNat)
        case atStart => exact ⟨0, by omega, rfl, by omega, Le.refl _⟩
        case round =>
          clear c2
          obtain ⟨g, hg, rfl, hgb, hbg⟩ := hrel
          have Hgb := Lib.hid hgb
          have HG : Hid (Le Wb _) := hbg
          clear hgb hbg
          by_cases hg6 : g < 6
          · have r0 := ovr_cell (Hrc.out _ HG.out (g * 2) (by omega))
            have r1 := ovr_cell (Hrc.out _ HG.out (g * 2 + 1) (by omega))
            have r2 := ovr_cell (Hqc.out _ HG.out (2 + g) _ (idxS q hg6))
            have i0 : (0 : Int) ≤ (g : Int) := by omega
            have i6 : (g : Int) < 6 := by omega
            have hbd : Hid (bndB p q g = !(wiB (q.v g) (p ((q.ph.toNat - 1) * 22 + g * 2)) (p ((q.ph.toNat - 1) * 22 + (g * 2 + 1))))) := by show _ = _; rw [bnd_wi, hrl.out]; rfl
            go_wp2_with fail
            refine wp_region_below_lit (by kernel_rfl) (by kernel_rfl) ?_
            repeat (go_big_quiet_step ((go_at_call 47; exact call_below (within_any _ _ _ _))))
            refine wpQuiet_nil ?_
            intro w5 hb5
            have L5 : Hid (Le Wb w5) := HG.out.trans hb5
            have hL5 : Hid (Le W3 w5) := HL.out.trans (HWb.out _ L5.out)
            clear r0 r1 r2 hb5
            rcases hw : wiB (q.v g) (p ((q.ph.toNat - 1) * 22 + g * 2)) (p ((q.ph.toNat - 1) * 22 + (g * 2 + 1))) with _ | _
            · have hbr : Hid (obS p R = ⟨2, k, g⟩) := by
                show _ = _
                rw [obS, show setBrs p R = some ⟨2, k, g⟩ from findSome_at hlt Hb.out (by rw [setBr, if_neg (by rw [Hst.out]; exact Bool.false_ne_true), HQ.out, six, find_at hg6 Hgb.out (by rw [hbd.out, hw]; rfl)])]; rfl
              have hres := Lib.hid (HRes.out _ hL5.out)
              clear hw
              go_wp2_with (refine wpList_store_row rfl 54 _ _ rfl (w.heap.size + 2) rfl #[I 0, I 0, I 0] _ hres.out #[I 2, I k, I g] rfl (one3 _ _ _) rfl (by kernel_rfl) ?_)
              refine bodyPost_ret (results_cell_only rfl _ _ (w.heap.size + 2) 54 #[I 2, I k, I g] (0, 0) _ rfl (setRow_same hres.out) Try.underlying54 rfl (by kernel_rfl)) rfl ?_
              exact HE.out _ hbr.out _ _ hL5.out
            · have hno : Hid (bndB p q g = false) := by show _ = _; rw [hbd.out, hw]; rfl
              clear hw
              go_wp2_with fail
              go_roundw
              case rel => exact ⟨g + 1, by omega, by go_num, succ_case Hgb.out hno.out, L5.out⟩
              case measure => simp [intOf]; omega
          · have hnb : Hid (six (bndB p q) = none) := find_no fun j hj => Hgb.out j (by omega)
            have HG0 := HG.out
            clear Hgb
            go_wp2_with fail
            clear hg hg6 HG
            have Hsv := Lib.hid (fun g hg => (HQ.out ▸ Hv.out.v k hlt g hg : 0 ≤ q.v g ∧ q.v g ≤ 1000000))
            have hbt := bfS_t Hv.out k hlt
            rw [HQ.out] at hbt
            have hqe := Hv.out.tlt k hlt
            rw [HQ.out] at hqe
            obtain ⟨bt1, bt2⟩ := hbt
            have HA : Hid (∀ W, Le Wb W → RunIn W (some ⟨b, o, none⟩) A2 A3 R ∧ W.cell? ⟨w.heap.size + 1, 0, none⟩ = some (.slice (some ⟨b, o, none⟩) R.ss.length c1)) := fun W hW => ⟨HRun.out W (HL.out.trans (HWb.out W hW)), (Hc.out W (HL.out.trans (HWb.out W hW))).1⟩
            go_loopw [10] (fun i wg => ∃ g : Nat, g ≤ 6 ∧ i = .int .i64 g ∧ (k ≠ 0 → ∀ j, j < g → farB p q (bfS R k).s j = false) ∧ Le Wb wg) (fun i _ => 6 - (intOf i).toNat)
            case atStart => exact ⟨0, by omega, rfl, by omega, HG0⟩
            case round =>
              clear HG0
              obtain ⟨g, hg, rfl, hgb, hbg⟩ := hrel
              have Hgb := Lib.hid hgb
              have HG : Hid (Le Wb _) := hbg
              have hL0 : Hid (Le W3 _) := HL.out.trans (HWb.out _ hbg)
              clear hgb hbg
              by_cases k0 : k = 0
              · have K0 := Lib.hid k0
                have hk0 : ¬ (0 : Int) < (k : Int) := by omega
                have hnone : Hid (setBr p R k = none) := by
                  show _ = _
                  rw [setBr, if_neg (by rw [Hst.out]; exact Bool.false_ne_true), HQ.out, hnb.out, if_pos K0.out]
                clear k0
                go_wp2_with fail
                all_goals
                  go_roundw
                  case rel => exact ⟨k + 1, by omega, by go_num, by rw [Hbq.out, ← HQ.out]; rfl, succ_case Hb.out hnone.out, hL0.out⟩
                  case measure => simp [intOf]; omega
              have hk1 : (0 : Int) < (k : Int) := by omega
              have K0 := Lib.hid k0
              by_cases hg6 : g < 6
              · obtain ⟨k', hk'⟩ : ∃ k' : Nat, k = k' + 1 := ⟨k - 1, by omega⟩
                have hkk : (k : Int) - 1 = (k' : Int) := by omega
                have hbf : Hid ((bfS R k).s = at0 R.ss k') := by show _ = _; rw [hk']; rfl
                have hk'n : k' < R.ss.length := by omega
                have i0 : (0 : Int) ≤ (k' : Int) := by omega
                have i1 : (k' : Int) < (R.ss.length : Int) := by omega
                obtain ⟨hin, xc⟩ := HA.out _ HG.out
                obtain ⟨b', o', he, _, s0, s1, s2, s3, s4, s5, s6, s7⟩ := hin.s.stg hk'n
                simp only [Option.some.injEq, Addr.mk.injEq, and_true] at he
                obtain ⟨rfl, rfl⟩ := he
                have hbv := Hv.out.v k' hk'n g hg6
                have hqv := Hsv.out g hg6
                have hgg : (g : Int) < 6 := by omega
                have hgg0 : (0 : Int) ≤ (g : Int) := by omega
                rw [hbf.out] at bt1 bt2
                clear hin hk' k0
                generalize hq' : at0 R.ss k' = q' at *
                have HQ' := Lib.hid hq'
                clear hq'
                go_wp2_with fail
                generalize hWc : wr.alloc (.cells (stArr q') 73) = Wc
                have HWc := Lib.hid hWc.symm
                clear hWc
                have LC : Hid (Le Wb Wc) := by show Le _ _; rw [HWc.out]; exact HG.out.trans ((Below.refl _ _).alloc (Nat.le_refl _) _)
                have Hqd : Hid (∀ W, Le Wc W → ∀ j v, (stArr q')[j]? = some v → W.cell? ⟨wr.heap.size, j, none⟩ = some v) := fun W hW j v hj => by
                  rw [Below.cell (p := ⟨_, _, none⟩) hW (by rw [HWc.out]; simp), HWc.out, cell_of_row _ _ _ _ _ _ (heap_last _ _ _ rfl)]; exact hj
                have r0 := ovr_cell (Hqc.out _ LC.out (2 + g) _ (idxS q hg6))
                have r1 := ovr_cell (Hqd.out _ (Le.refl _) (2 + g) _ (idxS q' hg6))
                clear s0 s1 s2 s3 s4 s5 s6 s7 xc
                obtain ⟨v1, v2⟩ := hqv
                obtain ⟨v3, v4⟩ := hbv
                refine wp_region_below_lit (by kernel_rfl) (by kernel_rfl) ?_
                repeat (go_big_quiet_step (fail))
                refine wpQuiet_nil ?_
                intro w5 hb5
                have L5c : Hid (Le Wc w5) := hb5
                have L5 : Hid (Le Wb w5) := LC.out.trans hb5
                clear r0 r1 hb5
                have r0 := ovr_cell (Hrc.out _ L5.out (12 + g) (by omega))
                have r1 := ovr_cell (Hqc.out _ L5.out 0 _ rfl)
                have r2 := ovr_cell (Hqd.out _ L5c.out 0 _ rfl)
                have hrm := Hp.out.rm (q.ph.toNat - 1) hm5 g hg6
                rw [Nat.add_assoc] at hrm
                obtain ⟨f1, f2⟩ := hrm
                have m1 : 0 ≤ p ((q.ph.toNat - 1) * 22 + (12 + g)) * (q.t - q'.t) := Int.mul_nonneg f1 (by omega)
                have m2 : p ((q.ph.toNat - 1) * 22 + (12 + g)) * (q.t - q'.t) ≤ 1000000 * 100000 := Int.mul_le_mul f2 (by omega) (by omega) (by omega)
                go_wp2_with fail
                refine wp_region_below_lit (by kernel_rfl) (by kernel_rfl) ?_
                repeat (go_big_quiet_step (fail))
                refine wpQuiet_nil ?_
                intro w6 hb6
                have L6 : Hid (Le Wb w6) := L5.out.trans hb6
                have hL6 : Hid (Le W3 w6) := HL.out.trans (HWb.out _ L6.out)
                clear r0 r1 r2 hb6
                have hfb : Hid (farB p q q' g = (decide (p ((q.ph.toNat - 1) * 22 + (12 + g)) * (q.t - q'.t) < q.v g - q'.v g) || decide (p ((q.ph.toNat - 1) * 22 + (12 + g)) * (q.t - q'.t) < q'.v g - q.v g))) := by show _ = _; rw [farB, hrl.out, Nat.add_assoc]
                have hbe : Hid ((bfS R k).s = q') := hbf.out
                by_cases hfar : p ((q.ph.toNat - 1) * 22 + (12 + g)) * (q.t - q'.t) < (if q.v g - q'.v g < -(q.v g - q'.v g) then -(q.v g - q'.v g) else q.v g - q'.v g)
                · have hyes : farB p q q' g = true := by
                    rw [hfb.out, Bool.or_eq_true, decide_eq_true_eq, decide_eq_true_eq]
                    split at hfar <;> omega
                  have hbr : Hid (obS p R = ⟨3, k, g⟩) := by
                    show _ = _
                    rw [obS, show setBrs p R = some ⟨3, k, g⟩ from findSome_at hlt Hb.out (by rw [setBr, if_neg (by rw [Hst.out]; exact Bool.false_ne_true), HQ.out, hnb.out, if_neg K0.out, six, find_at hg6 (Hgb.out K0.out) (by rw [hbe.out]; exact hyes)]; rfl)]; rfl
                  have hres := Lib.hid (HRes.out _ hL6.out)
                  clear hyes
                  go_wp2_with (refine wpList_store_row rfl 54 _ _ rfl (w.heap.size + 2) rfl #[I 0, I 0, I 0] _ hres.out #[I 3, I k, I g] rfl (one3 _ _ _) rfl (by kernel_rfl) ?_)
                  all_goals
                    refine bodyPost_ret (results_cell_only rfl _ _ (w.heap.size + 2) 54 #[I 3, I k, I g] (0, 0) _ rfl (setRow_same hres.out) Try.underlying54 rfl (by kernel_rfl)) rfl ?_
                    exact HE.out _ hbr.out _ _ hL6.out
                · have hno : Hid (farB p q (bfS R k).s g = false) := by
                    show _ = _
                    rw [hbe.out, hfb.out, Bool.or_eq_false_iff, decide_eq_false_iff_not, decide_eq_false_iff_not]
                    split at hfar <;> omega
                  go_wp2_with fail
                  go_roundw
                  case rel => exact ⟨g + 1, by omega, by go_num, fun h => succ_case (Hgb.out h) hno.out, L6.out⟩
                  case measure => simp [intOf]; omega
              · have hnone : Hid (setBr p R k = none) := by
                  show _ = _
                  rw [setBr, if_neg (by rw [Hst.out]; exact Bool.false_ne_true), HQ.out, hnb.out, if_neg K0.out, six, find_no fun j hj => Hgb.out K0.out j (by omega)]; rfl
                clear k0
                go_wp2_with fail
                go_roundw
                case rel => exact ⟨k + 1, by omega, by go_num, by rw [Hbq.out, ← HQ.out]; rfl, succ_case Hb.out hnone.out, hL0.out⟩
                case measure => simp [intOf]; omega
    · obtain rfl : k = R.ss.length := by omega
      have hset : Hid (setBrs p R = none) := findSome_no Hb.out
      have Hs : Hid (Steps R) := steps_of Hv.out fun j hj => none_step (Hb.out j hj)
      have hlp : (bfS R R.ss.length).s.ph = lastPh R := by
        have h1 := Hv.out.n1
        obtain ⟨m, hm⟩ : ∃ m, R.ss.length = m + 1 := ⟨R.ss.length - 1, by omega⟩
        rw [lastPh, hm]; rfl
      have hl5 : 1 ≤ lastPh R ∧ lastPh R ≤ 5 := by rw [← hlp]; exact bfS_ph Hv.out _ (Nat.le_refl _)
      rw [hlp]
      clear hlp Hb hlt hk
      obtain ⟨lp1, lp5⟩ := hl5
      go_wp2_with fail
      clear x0 x1 x2 x3
      go_loopw [13] (fun i wr => ∃ c : Int, 1 ≤ c ∧ c ≤ lastPh R + 1 ∧ i = I c ∧ (∀ j : Int, 1 ≤ j → j < c → phK p R j = none) ∧ Le W3 wr) (fun i _ => (lastPh R + 1 - intOf i).toNat)
      case atStart => exact ⟨1, by omega, by omega, rfl, fun j j1 j2 => by omega, HL.out⟩
      case round =>
        obtain ⟨c, hc1, hc2, rfl, hcb, hbw⟩ := hrel
        have Hcb := Lib.hid hcb
        have HL4 : Hid (Le W3 _) := hbw
        have zr4 := Hz3.out _ hbw
        clear hcb hbw
        obtain ⟨x0, x1, x2, x3⟩ := Hc.out _ HL4.out
        by_cases hcl : c ≤ lastPh R
        · have y1 := ovr_cell x1
          go_wp2_with fail
          refine wp_region_below_lit (by kernel_rfl) (by kernel_rfl) ?_
          repeat (go_big_quiet_step (fail))
          refine wpQuiet_nil ?_
          intro w5 hb5
          have HL5 : Hid (Le W3 w5) := HL4.out.trans hb5
          clear x0 x1 x2 x3 y1 hb5
          obtain ⟨x0, x1, x2, x3⟩ := Hc.out _ HL5.out
          go_wp2_with fail
          go_loop [14, 15, 16] (fun f t i => ∃ m : Nat, m ≤ R.ss.length ∧ i = I ((m : Int) - 1) ∧ f = I (flS c R.e (R.ss.drop m)).1 ∧ t = I (flS c R.e (R.ss.drop m)).2) (fun _ _ i => (intOf i + 1).toNat)
          case atStart => exact ⟨R.ss.length, by omega, rfl, by rw [List.drop_length]; rfl, by rw [List.drop_length]; rfl⟩
          case round =>
            obtain ⟨m, hm, rfl, rfl, rfl⟩ := hrel
            rcases m with _ | j
            · have hd0 : (flS c R.e (R.ss.drop 0)) = flS c R.e R.ss := rfl
              rw [hd0]
              have hfb := flS_bd Hv.out Hs.out hc1 hcl
              obtain ⟨lb, hlb⟩ : ∃ lb, decide (¬ c < lastPh R) = lb := ⟨_, rfl⟩
              have hpk : Hid (phK p R c = brkAt p lb c ((flS c R.e R.ss).2 - (flS c R.e R.ss).1) (placeR R (flS c R.e R.ss).2 - placeR R (flS c R.e R.ss).1)) := by show _ = _; rw [← hlb]; rfl
              have HLT : Hid (c < lastPh R → lb = false) := fun hcc => by rw [← hlb]; simpa using hcc
              have HLF : Hid (lastPh R ≤ c → lb = true) := fun hcc => by rw [← hlb]; simpa using hcc
              clear hlb
              clear hd0 hm
              generalize flS c R.e R.ss = fl at *
              obtain ⟨⟨f1, f2⟩, f3, f4⟩ := hfb
              have hm5 : (c.toNat - 1) < 5 := by omega
              have hrl : Hid (rlAt c = (c.toNat - 1) * 22) := rfl
              go_upto_region 35 with (first | ((refine wpList_load_ia rfl 27 _ rfl w.heap.size ((c.toNat - 1) * 22) rfl 22 (fun j => p ((c.toNat - 1) * 22 + j)) _ (fun j hj => HP.out _ HL5.out _ (by omega)) Try.underlying27 rfl (by kernel_rfl) ?_)) | ((refine wpList_store_new rfl 27 _ _ rfl _ _ w5.heap.size rfl ?_ _ rfl ia_one ?_ (by kernel_rfl) ?_)))
              · rfl
              · simp [ia_size]
              generalize hWb : w5.alloc (.cells (ia 22 fun j => p ((c.toNat - 1) * 22 + j)) 27) = Wb
              have HWb := Lib.hid hWb.symm
              clear hWb
              have LB : Hid (Le W3 Wb) := by show Le _ _; rw [HWb.out]; exact HL5.out.trans ((Below.refl _ _).alloc (Nat.le_refl _) _)
              have Hrc : Hid (∀ W, Le Wb W → ∀ j, j < 22 → W.cell? ⟨w5.heap.size, j, none⟩ = some (I (p ((c.toNat - 1) * 22 + j)))) := fun W hW j hj => by
                rw [Below.cell (p := ⟨_, _, none⟩) hW (by rw [HWb.out]; simp), HWb.out, cell_of_row _ _ _ _ _ _ (heap_last _ _ _ rfl)]; exact ia_get hj
              have r18 := Hrc.out _ (Le.refl _) 18 (by omega)
              have r19 := Hrc.out _ (Le.refl _) 19 (by omega)
              clear x0 x1 x2 x3
              go_cut [195] from 128 to 223 (fun d wx => d = .bool (outsideB lb (fl.2 - fl.1) ⟨p ((c.toNat - 1) * 22 + 18), p ((c.toNat - 1) * 22 + 19)⟩) ∧ wx = Wb)
              case first =>
                have ho : Hid (outsideB lb (fl.2 - fl.1) ⟨p ((c.toNat - 1) * 22 + 18), p ((c.toNat - 1) * 22 + 19)⟩ = (decide (p ((c.toNat - 1) * 22 + 19) < fl.2 - fl.1) || (decide (fl.2 - fl.1 < p ((c.toNat - 1) * 22 + 18)) && decide (c < lastPh R)))) := by
                  show _ = _
                  unfold outsideB
                  by_cases hcc : c < lastPh R
                  · rw [HLT.out hcc]; simp [hcc]
                  · rw [HLF.out (by omega)]; simp [hcc]
                by_cases t1 : p ((c.toNat - 1) * 22 + 19) < fl.2 - fl.1
                · have hf : Hid ((decide (p ((c.toNat - 1) * 22 + 19) < fl.2 - fl.1) || (decide (fl.2 - fl.1 < p ((c.toNat - 1) * 22 + 18)) && decide (c < lastPh R))) = true) := by show _ = _; rw [decide_eq_true t1]; rfl
                  go_wp2_with fail
                  go_meet
                  case rel => exact ⟨by rw [ho.out, hf.out], rfl⟩
                · by_cases t2 : fl.2 - fl.1 < p ((c.toNat - 1) * 22 + 18)
                  · by_cases t3 : c < lastPh R
                    · have hf : Hid ((decide (p ((c.toNat - 1) * 22 + 19) < fl.2 - fl.1) || (decide (fl.2 - fl.1 < p ((c.toNat - 1) * 22 + 18)) && decide (c < lastPh R))) = true) := by show _ = _; rw [decide_eq_true t2, decide_eq_true t3]; simp
                      go_wp2_with fail
                      go_meet
                      case rel => exact ⟨by rw [ho.out, hf.out], rfl⟩
                    · have hf : Hid ((decide (p ((c.toNat - 1) * 22 + 19) < fl.2 - fl.1) || (decide (fl.2 - fl.1 < p ((c.toNat - 1) * 22 + 18)) && decide (c < lastPh R))) = false) := by show _ = _; rw [decide_eq_false t1, decide_eq_false t3]; simp
                      go_wp2_with fail
                      go_meet
                      case rel => exact ⟨by rw [ho.out, hf.out], rfl⟩
                  · have hf : Hid ((decide (p ((c.toNat - 1) * 22 + 19) < fl.2 - fl.1) || (decide (fl.2 - fl.1 < p ((c.toNat - 1) * 22 + 18)) && decide (c < lastPh R))) = false) := by show _ = _; rw [decide_eq_false t1, decide_eq_false t2]; simp
                    go_wp2_with fail
                    go_meet
                    case rel => exact ⟨by rw [ho.out, hf.out], rfl⟩
              case rest =>
                obtain ⟨rfl, rfl⟩ := hcut
                clear r18 r19
                rcases ho4 : outsideB lb (fl.2 - fl.1) ⟨p ((c.toNat - 1) * 22 + 18), p ((c.toNat - 1) * 22 + 19)⟩ with _ | _
                case true =>
                  have hbr : Hid (obS p R = ⟨4, c, 0⟩) := by
                    show _ = _
                    have hk4 : phK p R c = some ⟨4, c, 0⟩ := by rw [hpk.out, brkAt, hrl.out, if_pos ho4]
                    rw [obS, hset.out]
                    simp only
                    rw [ph_some Hv.out Hs.out p hcl hk4 _ 0 1 (by omega) (seg_zero Hs.out Hv.out.n1) hc1 Hcb.out]; rfl
                  have hres := Lib.hid (HRes.out _ LB.out)
                  clear ho4
                  go_wp2_with (refine wpList_store_row rfl 54 _ _ rfl (w.heap.size + 2) rfl #[I 0, I 0, I 0] _ hres.out #[I 4, I c, I 0] rfl (one3 _ _ _) rfl (by kernel_rfl) ?_)
                  refine bodyPost_ret (results_cell_only rfl _ _ (w.heap.size + 2) 54 #[I 4, I c, I 0] (0, 0) _ rfl (setRow_same hres.out) Try.underlying54 rfl (by kernel_rfl)) rfl ?_
                  exact HE.out _ hbr.out _ _ LB.out
                have Ho4 := Lib.hid ho4
                clear ho4
                obtain ⟨x0, x1, x2, x3⟩ := Hc.out _ LB.out
                have y0 := ovr_cell x0
                have y1 := ovr_cell x1
                have y2 := ovr_cell x2
                have y3 := ovr_cell x3
                have hr4 := Lib.hid (HRun.out _ LB.out)
                have pb1 := placeR_bd Hv.out (t := fl.1) f1
                have pb2 := placeR_bd Hv.out (t := fl.2) f3
                go_wp2_with fail
                refine wp_region_below_lit (by kernel_rfl) (by kernel_rfl) ?_
                repeat (go_big_quiet_step ((go_at_call 52; exact call_below (refPlace_any _ _ _ _ _ _ R _ _ (hr4.out.below (ovr_below _ _)) Hv.out (by omega) (by omega)))))
                refine wpQuiet_nil ?_
                intro w6 hb6
                have L6 : Hid (Le wc w6) := hb6
                have hL6 : Hid (Le W3 w6) := LB.out.trans hb6
                clear x0 x1 x2 x3 y0 y1 y2 y3 hb6
                have r20 := Hrc.out _ L6.out 20 (by omega)
                have r21 := Hrc.out _ L6.out 21 (by omega)
                generalize hpd : placeR R fl.2 - placeR R fl.1 = pd at *
                clear hpd
                go_upto_region 38 with (fail)
                go_cut [221] from 128 to 223 (fun d wx => d = .bool (outsideB lb pd ⟨p ((c.toNat - 1) * 22 + 20), p ((c.toNat - 1) * 22 + 21)⟩) ∧ wx = w6)
                case first =>
                  have ho : Hid (outsideB lb pd ⟨p ((c.toNat - 1) * 22 + 20), p ((c.toNat - 1) * 22 + 21)⟩ = (decide (p ((c.toNat - 1) * 22 + 21) < pd) || (decide (pd < p ((c.toNat - 1) * 22 + 20)) && decide (c < lastPh R)))) := by
                    show _ = _
                    unfold outsideB
                    by_cases hcc : c < lastPh R
                    · rw [HLT.out hcc]; simp [hcc]
                    · rw [HLF.out (by omega)]; simp [hcc]
                  by_cases t1 : p ((c.toNat - 1) * 22 + 21) < pd
                  · have hf : Hid ((decide (p ((c.toNat - 1) * 22 + 21) < pd) || (decide (pd < p ((c.toNat - 1) * 22 + 20)) && decide (c < lastPh R))) = true) := by show _ = _; rw [decide_eq_true t1]; rfl
                    go_wp2_with fail
                    go_meet
                    case rel => exact ⟨by rw [ho.out, hf.out], rfl⟩
                  · by_cases t2 : pd < p ((c.toNat - 1) * 22 + 20)
                    · by_cases t3 : c < lastPh R
                      · have hf : Hid ((decide (p ((c.toNat - 1) * 22 + 21) < pd) || (decide (pd < p ((c.toNat - 1) * 22 + 20)) && decide (c < lastPh R))) = true) := by show _ = _; rw [decide_eq_true t2, decide_eq_true t3]; simp
                        go_wp2_with fail
                        go_meet
                        case rel => exact ⟨by rw [ho.out, hf.out], rfl⟩
                      · have hf : Hid ((decide (p ((c.toNat - 1) * 22 + 21) < pd) || (decide (pd < p ((c.toNat - 1) * 22 + 20)) && decide (c < lastPh R))) = false) := by show _ = _; rw [decide_eq_false t1, decide_eq_false t3]; simp
                        go_wp2_with fail
                        go_meet
                        case rel => exact ⟨by rw [ho.out, hf.out], rfl⟩
                    · have hf : Hid ((decide (p ((c.toNat - 1) * 22 + 21) < pd) || (decide (pd < p ((c.toNat - 1) * 22 + 20)) && decide (c < lastPh R))) = false) := by show _ = _; rw [decide_eq_false t1, decide_eq_false t2]; simp
                      go_wp2_with fail
                      go_meet
                      case rel => exact ⟨by rw [ho.out, hf.out], rfl⟩
                case rest =>
                  obtain ⟨rfl, rfl⟩ := hcut
                  clear r20 r21
                  rcases ho5 : outsideB lb pd ⟨p ((c.toNat - 1) * 22 + 20), p ((c.toNat - 1) * 22 + 21)⟩ with _ | _
                  case true =>
                    have hbr : Hid (obS p R = ⟨5, c, 0⟩) := by
                      show _ = _
                      have hk5 : phK p R c = some ⟨5, c, 0⟩ := by rw [hpk.out, brkAt, hrl.out, if_neg (by rw [Ho4.out]; exact Bool.false_ne_true), if_pos ho5]
                      rw [obS, hset.out]
                      simp only
                      rw [ph_some Hv.out Hs.out p hcl hk5 _ 0 1 (by omega) (seg_zero Hs.out Hv.out.n1) hc1 Hcb.out]; rfl
                    have hres := Lib.hid (HRes.out _ hL6.out)
                    clear ho5
                    go_wp2_with (refine wpList_store_row rfl 54 _ _ rfl (w.heap.size + 2) rfl #[I 0, I 0, I 0] _ hres.out #[I 5, I c, I 0] rfl (one3 _ _ _) rfl (by kernel_rfl) ?_)
                    refine bodyPost_ret (results_cell_only rfl _ _ (w.heap.size + 2) 54 #[I 5, I c, I 0] (0, 0) _ rfl (setRow_same hres.out) Try.underlying54 rfl (by kernel_rfl)) rfl ?_
                    exact HE.out _ hbr.out _ _ hL6.out
                  have hk0 : Hid (phK p R c = none) := by show _ = _; rw [hpk.out, brkAt, hrl.out, if_neg (by rw [Ho4.out]; exact Bool.false_ne_true), if_neg (by rw [ho5]; exact Bool.false_ne_true)]
                  have HcN : Hid (∀ j : Int, 1 ≤ j → j < c + 1 → phK p R j = none) := fun j j1 j2 => by
                    rcases Int.lt_or_le j c with hj | hj
                    · exact Hcb.out j j1 hj
                    · obtain rfl : j = c := by omega
                      exact hk0.out
                  clear ho5
                  go_wp2_with fail
                  go_roundw
                  case rel => exact ⟨c + 1, by omega, by omega, rfl, HcN.out, hL6.out⟩
                  case measure => simp [intOf]; omega
            · have e1 : (((j + 1 : Nat) : Int) - 1) = (j : Int) := by omega
              rw [e1]
              obtain ⟨b, o, rfl, hB, s0, s1, s2, s3, s4, s5, s6, s7⟩ := (HRun.out _ HL5.out).s.stg (show j < R.ss.length by omega)
              have hd : Hid (flS c R.e (R.ss.drop j) = (if (at0 R.ss j).ph = c then (at0 R.ss j).t else (flS c R.e (R.ss.drop (j + 1))).1, if c < (at0 R.ss j).ph then (at0 R.ss j).t else (flS c R.e (R.ss.drop (j + 1))).2)) := flS_drop (by omega)
              have Hj : Hid ((j + 1) ≤ R.ss.length) := hm
              have i1 : (j : Int) < (R.ss.length : Int) := by omega
              clear e1 hm
              generalize at0 R.ss j = q at *
              generalize flS c R.e (R.ss.drop (j + 1)) = fl at *
              by_cases t1 : q.ph = c
              · have t1' : (q.ph == c) = true := by simpa using t1
                have t2 : ¬ c < q.ph := by omega
                have hd2 : Hid (flS c R.e (R.ss.drop j) = (q.t, fl.2)) := by show _ = _; rw [hd.out, if_pos t1, if_neg t2]
                clear t1
                go_wp2_with fail
                go_round
                case rel => exact ⟨j, by have := Hj.out; omega, rfl, by rw [hd2.out], by rw [hd2.out]⟩
                case measure => simp [intOf]
              · have t1' : (q.ph == c) = false := by simpa using t1
                by_cases t2 : c < q.ph
                · have hd2 : Hid (flS c R.e (R.ss.drop j) = (fl.1, q.t)) := by show _ = _; rw [hd.out, if_neg t1, if_pos t2]
                  clear t1
                  go_wp2_with fail
                  go_round
                  case rel => exact ⟨j, by have := Hj.out; omega, rfl, by rw [hd2.out], by rw [hd2.out]⟩
                  case measure => simp [intOf]
                · have hd2 : Hid (flS c R.e (R.ss.drop j) = fl) := by show _ = _; rw [hd.out, if_neg t1, if_neg t2]
                  clear t1
                  go_wp2_with fail
                  go_round
                  case rel => exact ⟨j, by have := Hj.out; omega, rfl, by rw [hd2.out], by rw [hd2.out]⟩
                  case measure => simp [intOf]
        · have hphn : Hid (phBrs p R R.ss.length 0 = none) := ph_none Hv.out Hs.out p _ 0 1 (by omega) (seg_zero Hs.out Hv.out.n1) (fun j j1 j2 => Hcb.out j j1 (by omega))
          have hoS : Hid (obS p R = brOf (stopBr p R)) := by show _ = _; rw [obS, hset.out, hphn.out]
          have hbd := stopF_bd Hv.out Hp.out
          have hkd := stopF_kind (p := p) Hv.out Hp.out.hold.1
          clear Hcb
          go_wp2_with (refine wpList_load_ia rfl 30 _ rfl w.heap.size 0 rfl 117 p _ (fun j hj => by rw [Nat.zero_add]; exact HP.out _ HL4.out j hj) Try.underlying30 rfl (by kernel_rfl) ?_)
          refine (refStop_any A1 A2 A3 c1 c2 c3 p R _ (HRun.out _ HL4.out) Hv.out Hp.out).mono ?_
          rintro e w5 ⟨rfl, hb5⟩
          have HL5 : Hid (Le W3 w5) := HL4.out.trans hb5
          clear x0 x1 x2 x3 hb5
          obtain ⟨x0, x1, x2, x3⟩ := Hc.out _ HL5.out
          have hstb : Hid (stopBr p R = if (stopF p R).2 = 0 then none else if 0 ≤ ixOf (stB (stopF p R).1 (p 116)) (pcs R) then some ⟨6, ixOf (stB (stopF p R).1 (p 116)) (pcs R), 0⟩ else none) := rfl
          obtain ⟨gr1, gr2⟩ := Hp.out.grace
          generalize stopF p R = st at *
          obtain ⟨b1, b2⟩ := hbd
          by_cases hst : 0 ≤ st.1
          · have hk2 : ¬ st.2 = 0 := by omega
            have hstb2 : Hid (stopBr p R = if 0 ≤ ixOf (stB st.1 (p 116)) (pcs R) then some ⟨6, ixOf (stB st.1 (p 116)) (pcs R), 0⟩ else none) := by show _ = _; rw [hstb.out, if_neg hk2]
            clear hkd hk2
            go_wp2_with fail
            clear x0 x1 x2 x3
            go_loopw [22] (fun i wr => ∃ m : Nat, m ≤ R.ss.length ∧ i = .int .i64 m ∧ (∀ j, j < m → stB st.1 (p 116) (at0 (pcs R) j) = false) ∧ Le w5 wr) (fun i _ => R.ss.length - (intOf i).toNat)
            case atStart => exact ⟨0, by omega, rfl, by omega, Le.refl _⟩
            case round =>
              obtain ⟨m, hm, rfl, hmb, hbm⟩ := hrel
              have Hmb := Lib.hid hmb
              have LM : Hid (Le W3 wr) := HL5.out.trans hbm
              have LM5 : Hid (Le w5 wr) := hbm
              clear hmb hbm
              obtain ⟨x0, x1, x2, x3⟩ := Hc.out _ LM.out
              by_cases hlt : m < R.ss.length
              · obtain ⟨b, o, rfl, hB, s0, s1, s2, s3, s4, s5, s6, s7⟩ := (HRun.out _ LM.out).s.stg hlt
                have xg := ovr_cell (HP.out _ LM.out 116 (by omega))
                have y0 := ovr_cell x0
                have y1 := ovr_cell x1
                have y2 := ovr_cell x2
                have y3 := ovr_cell x3
                have z2 := ovr_cell s2
                have hv0 := (Hv.out.v m hlt 0 (by omega))
                have hsB : Hid (stB st.1 (p 116) (at0 (pcs R) m) = (decide (0 < (at0 R.ss m).v 0) && decide (st.1 + p 116 < untS R m))) := by show _ = _; rw [at0_pcs R hlt]; rfl
                have hrm := Lib.hid (HRun.out _ LM.out)
                have ub := unt_e Hv.out (j := m)
                have i0 : (0 : Int) ≤ (m : Int) := by omega
                have i1 : (m : Int) < (R.ss.length : Int) := by omega
                clear s0 s1 s2 s3 s4 s5 s6 s7
                generalize at0 R.ss m = q at *
                obtain ⟨v1, v2⟩ := hv0
                by_cases tv : q.v 0 = 0
                · have tv' : (q.v 0 == 0) = true := by simpa using tv
                  have tv2 : (q.v 0 != 0) = false := by simpa using tv
                  have hno : Hid (stB st.1 (p 116) (at0 (pcs R) m) = false) := by show _ = _; rw [hsB.out, decide_eq_false (show ¬ 0 < q.v 0 by omega)]; rfl
                  clear tv
                  go_wp2_with fail
                  refine wp_region_below_lit (by kernel_rfl) (by kernel_rfl) ?_
                  repeat (go_big_quiet_step (fail))
                  refine wpQuiet_nil ?_
                  intro w6 hb6
                  have L6 : Hid (Le w5 w6) := LM5.out.trans hb6
                  clear hb6 y0 y1 y2 y3 z2 xg x0 x1 x2 x3
                  go_wp2_with fail
                  go_roundw
                  case rel => exact ⟨m + 1, by omega, by go_num, succ_case Hmb.out hno.out, L6.out⟩
                  case measure => simp [intOf]; omega
                · have tv' : (q.v 0 == 0) = false := by simpa using tv
                  have tv2 : (q.v 0 != 0) = true := by simpa using tv
                  clear tv
                  go_wp2_with fail
                  refine wp_region_below_lit (by kernel_rfl) (by kernel_rfl) ?_
                  repeat (go_big_quiet_step ((go_at_call 59; exact call_below (until_any _ _ _ _ _ _ R m _ (hrm.out.below (ovr_below _ _)) hlt))))
                  refine wpQuiet_nil ?_
                  intro w6 hb6
                  have L6 : Hid (Le w5 w6) := LM5.out.trans hb6
                  have hL6 : Hid (Le W3 w6) := LM.out.trans hb6
                  clear hb6 y0 y1 y2 y3 z2 xg x0 x1 x2 x3
                  have hv3 : 0 < q.v 0 := by simp at tv'; omega
                  by_cases tu : st.1 + p 116 < untS R m
                  · have hix : ixOf (stB st.1 (p 116)) (pcs R) = m := ixOf_at (by rw [pcs_len]; exact hlt) (by rw [hsB.out, decide_eq_true hv3, decide_eq_true tu]; rfl) Hmb.out
                    have hbr : Hid (obS p R = ⟨6, m, 0⟩) := by show _ = _; rw [hoS.out, hstb2.out, hix, if_pos (by omega)]; rfl
                    have hres := Lib.hid (HRes.out _ hL6.out)
                    clear hix
                    go_wp2_with (refine wpList_store_row rfl 54 _ _ rfl (w.heap.size + 2) rfl #[I 0, I 0, I 0] _ hres.out #[I 6, I m, I 0] rfl (one3 _ _ _) rfl (by kernel_rfl) ?_)
                    refine bodyPost_ret (results_cell_only rfl _ _ (w.heap.size + 2) 54 #[I 6, I m, I 0] (0, 0) _ rfl (setRow_same hres.out) Try.underlying54 rfl (by kernel_rfl)) rfl ?_
                    exact HE.out _ hbr.out _ _ hL6.out
                  · have hno : Hid (stB st.1 (p 116) (at0 (pcs R) m) = false) := by show _ = _; rw [hsB.out, decide_eq_false tu]; simp
                    go_wp2_with fail
                    go_roundw
                    case rel => exact ⟨m + 1, by omega, by go_num, succ_case Hmb.out hno.out, L6.out⟩
                    case measure => simp [intOf]; omega
              · have hix : ixOf (stB st.1 (p 116)) (pcs R) = -1 := ixOf_none0 fun j hj => Hmb.out j (by rw [pcs_len] at hj; omega)
                have hbr : Hid (obS p R = ⟨0, 0, 0⟩) := by show _ = _; rw [hoS.out, hstb2.out, hix]; rfl
                have hres := Lib.hid (HRes.out _ LM.out)
                clear hix
                go_wp2_with (refine wpList_store_row rfl 54 _ _ rfl (w.heap.size + 2) rfl #[I 0, I 0, I 0] _ hres.out #[I 0, I 0, I 0] rfl (one3 _ _ _) rfl (by kernel_rfl) ?_)
                refine bodyPost_ret (results_cell_only rfl _ _ (w.heap.size + 2) 54 #[I 0, I 0, I 0] (0, 0) _ rfl (setRow_same hres.out) Try.underlying54 rfl (by kernel_rfl)) rfl ?_
                exact HE.out _ hbr.out _ _ LM.out
          · have hk2 : st.2 = 0 := hkd.2 (by omega)
            have hbr : Hid (obS p R = ⟨0, 0, 0⟩) := by show _ = _; rw [hoS.out, hstb.out, if_pos hk2]; rfl
            have hres := Lib.hid (HRes.out _ HL5.out)
            clear hkd hk2
            go_wp2_with (refine wpList_store_row rfl 54 _ _ rfl (w.heap.size + 2) rfl #[I 0, I 0, I 0] _ hres.out #[I 0, I 0, I 0] rfl (one3 _ _ _) rfl (by kernel_rfl) ?_)
            refine bodyPost_ret (results_cell_only rfl _ _ (w.heap.size + 2) 54 #[I 0, I 0, I 0] (0, 0) _ rfl (setRow_same hres.out) Try.underlying54 rfl (by kernel_rfl)) rfl ?_
            exact HE.out _ hbr.out _ _ HL5.out
end Go.Proofs.Ytlebefopdnadaaa
