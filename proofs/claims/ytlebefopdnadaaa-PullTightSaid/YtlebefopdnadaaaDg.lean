/- The contracts of Peak, Diameter and Conflict of the reference. -/
import Derived.Test.YtlebefopdnadaaaSg
import Derived.Test.YtlebefopdnadaaaPla
namespace Go.Proofs.Ytlebefopdnadaaa
open Go.RowKit
theorem mul_ab {x y M N : Int} (h1 : -M ≤ x) (h2 : x ≤ M) (h3 : 0 ≤ y) (h4 : y ≤ N) : -(M * N) ≤ x * y ∧ x * y ≤ M * N := by
  have hM : 0 ≤ M := by omega
  have e1 := Int.mul_le_mul_of_nonneg_right h1 h3
  have e2 := Int.mul_le_mul_of_nonneg_right h2 h3
  have e3 := Int.mul_le_mul_of_nonneg_left h4 hM
  rw [Int.neg_mul] at e1
  omega
def kb12 (a : Int) : Prop := -1000000000000 ≤ a ∧ a ≤ 1000000000000
set_option maxHeartbeats 1000000 in
theorem refPeak_any (a up b dn : Int) (w : World) (h1 : kb12 a) (h2 : kb12 b) (h3 : 0 ≤ up ∧ up ≤ 1000000) (h4 : 0 ≤ dn ∧ dn ≤ 1000000) :
    Calls Try.prog 90 #[I a, I up, I b, I dn] w fun e w' => e = .returned (.agg #[I (peakR a up b dn).1, I (peakR a up b dn).2]) ∧ Below w.heap.size w w' := by
  obtain ⟨a1, a2⟩ := h1
  obtain ⟨b1, b2⟩ := h2
  obtain ⟨u1, u2⟩ := h3
  obtain ⟨d1, d2⟩ := h4
  have HB : Hid (∀ o, Below w.heap.size w (w.alloc o)) := fun o => (Below.refl _ _).alloc (Nat.le_refl _) o
  by_cases t1 : a + up ≤ b
  · have hf : Hid (peakR a up b dn = (a + up, 1)) := if_pos t1
    go_enter Try.func90, Try.ntmps90
    go_wp2
    refine bodyPost_ret (results_cell_only rfl _ _ w.heap.size 126 #[I (a + up), I 1] (0, 0) _ rfl (heap_last _ _ _ rfl) Try.underlying126 rfl (by kernel_rfl)) rfl ?_
    exact ⟨by rw [hf.out], HB.out _⟩
  · by_cases t2 : b + dn ≤ a
    · have hf : Hid (peakR a up b dn = (b + dn, 1)) := by show _ = _; rw [peakR, if_neg t1, if_pos t2]
      go_enter Try.func90, Try.ntmps90
      go_wp2
      refine bodyPost_ret (results_cell_only rfl _ _ w.heap.size 126 #[I (b + dn), I 1] (0, 0) _ rfl (heap_last _ _ _ rfl) Try.underlying126 rfl (by kernel_rfl)) rfl ?_
      exact ⟨by rw [hf.out], HB.out _⟩
    · have hf : Hid (peakR a up b dn = (a * dn + (b + dn) * up, up + dn)) := by show _ = _; rw [peakR, if_neg t1, if_neg t2]
      obtain ⟨m1, m2⟩ := mul_ab a1 a2 d1 d2
      obtain ⟨m3, m4⟩ := mul_ab (x := b + dn) (M := 1000001000000) (by omega) (by omega) u1 u2
      go_enter Try.func90, Try.ntmps90
      go_wp2
      refine bodyPost_ret (results_cell_only rfl _ _ w.heap.size 126 #[I (a * dn + (b + dn) * up), I (up + dn)] (0, 0) _ rfl (heap_last _ _ _ rfl) Try.underlying126 rfl (by kernel_rfl)) rfl ?_
      exact ⟨by rw [hf.out], HB.out _⟩
/-- What both sides say is within bounds. -/
theorem sd_bd {R : Run} {p : Vec} (h : VRun R) (hp : VPul p) {t : Nat} (ht : (t : Int) ≤ R.e) : knIn 200000000000 (sdA p R (t : Int) R.ms.length) ∧ knIn 200000000000 (sdB p R (t : Int) R.ms.length) := by
  have hl := h.last
  rw [← bef_all h p t, ← frmF_all h p ht]
  refine ⟨(knIn_bef h hp t).more (by omega), ?_⟩
  exact (knIn_frm h hp (R.e.toNat - t)).more (by omega)
theorem ret2_eq {x y x' y' : Int} (h1 : x = x') (h2 : y = y') : Ending.returned (.agg #[I x, I y]) = .returned (.agg #[I x', I y']) := by rw [h1, h2]
set_option maxRecDepth 100000 in
set_option maxHeartbeats 2000000 in
theorem refDia_any (A1 A2 A3 : Option Addr) (c1 c2 c3 : Nat) (p : Vec) (R : Run) (t : Nat) (w : World) (h : RunIn w A1 A2 A3 R) (hv : VRun R) (hp : VPul p) (hn : 0 < R.ms.length) (ht : (t : Int) ≤ R.e) :
    Calls Try.prog 31 #[.agg (ia 117 p), runV A1 A2 A3 c1 c2 c3 R, I t] w fun e w' => e = .returned (.agg #[I (atK p R t).lo, I (atK p R t).hi]) ∧ Below w.heap.size w w' := by
  obtain ⟨W2, hW2⟩ : ∃ W2, W2 = ((w.alloc (.cells (ia 117 p) 30)).alloc (.cells #[.slice A1 R.ss.length c1, I R.e, .slice A2 R.ms.length c2, .slice A3 R.es.length c3] 35)) := ⟨_, rfl⟩
  have T : Hid (Two w A1 A2 A3 c1 c2 c3 p R W2) := hW2 ▸ two_mk h c1 c2 c3 p
  obtain ⟨W3, hW3⟩ : ∃ W3, W3 = W2.alloc (.cells #[I 0, I 0] 23) := ⟨_, rfl⟩
  have B23 : Hid (Below W2.heap.size W2 W3) := by show Below _ _ _; rw [hW3]; exact (Below.refl _ _).alloc (Nat.le_refl _) _
  have HW : Hid (W3 = ((w.alloc (.cells (ia 117 p) 30)).alloc (.cells #[.slice A1 R.ss.length c1, I R.e, .slice A2 R.ms.length c2, .slice A3 R.es.length c3] 35)).alloc (.cells #[I 0, I 0] 23)) := by show _ = _; rw [hW3, hW2]
  have HR : Hid (∀ W, Le W3 W → W.heap[w.heap.size + 2]? = some (.cells #[I 0, I 0] 23 (0, 0))) := fun W hW => (Below.block hW _ (by rw [hW3]; simp [T.out.size])).trans (by rw [hW3]; exact heap_last _ _ _ T.out.size.symm)
  have HU : Hid (∀ W, Le W3 W → Below w.heap.size w W ∧ w.heap.size + 3 ≤ W.heap.size) := fun W hW => ⟨T.out.up _ (B23.out.trans (Below.mono hW B23.out.size)), by have := Below.size hW; rw [hW3, World.size_alloc, T.out.size] at this; omega⟩
  have last := hv.last
  have Hsd := Lib.hid (sides_any A1 A2 A3 c1 c2 c3 p R (t : Int) (t : Int) W3 (T.out.run.below B23.out) hv hp ⟨by omega, by omega⟩ ⟨by omega, by omega⟩)
  have hd := dia_ref hv p hn ht
  have hso := sd_some (p := p) (R := R) (u := (t : Int)) (f := (t : Int)) hn (by omega)
  generalize sdA p R (t : Int) R.ms.length = a at *
  generalize sdB p R (t : Int) R.ms.length = b at *
  have Hlo : Hid ((atK p R t).lo = (diaR a b).lo) := by show _ = _; rw [hd]
  have Hhi : Hid ((atK p R t).hi = (diaR a b).hi) := by show _ = _; rw [hd]
  have Hso := Lib.hid hso
  clear h hv hp hn ht hd hso hW2 hW3 last
  go_enter Try.func31, Try.ntmps31
  go_wp2_with (refine wpList_load_ia rfl 30 _ rfl w.heap.size 0 rfl 117 p _ (by rw [← HW.out]; exact T.out.pul _ B23.out) Try.underlying30 rfl (by kernel_rfl) ?_)
  rw [← HW.out]
  refine Hsd.out.mono ?_
  rintro e w4 ⟨rfl, hb4⟩
  have L4 : Hid (Le W3 w4) := hb4
  clear hb4 Hsd
  have R4 := Lib.hid (HR.out _ L4.out)
  obtain ⟨U4, Z4⟩ := HU.out _ L4.out
  have HU4 := Lib.hid U4
  clear U4
  have HF : Hid (∀ o o' : Obj, ∀ x y : Int, x = (diaR a b).lo → y = (diaR a b).hi → (Ending.returned (.agg #[I x, I y]) = .returned (.agg #[I (atK p R t).lo, I (atK p R t).hi]) ∧ Below w.heap.size w (((w4.alloc o).alloc o').setRow (w.heap.size + 2) #[I x, I y]))) := fun o o' x y hx hy =>
    ⟨ret2_eq (by rw [Hlo.out]; exact hx) (by rw [Hhi.out]; exact hy), below_setRow ((HU4.out.alloc (by omega) _).alloc (by simp; omega) _) (by omega) _⟩
  rcases ha : a.some with _ | _ <;> rcases hb : b.some with _ | _
  · have := Hso.out
    rw [ha, hb] at this
    cases this
  · have hdl : Hid ((diaR a b).lo = b.lo ∧ (diaR a b).hi = b.hi) := by show _ ∧ _; unfold diaR; simp [ha, hb]
    have HA := Lib.hid ha
    have HBb := Lib.hid hb
    go_wp2_with (refine wpList_store_row rfl 23 _ _ rfl (w.heap.size + 2) rfl #[I 0, I 0] _ (heap_before (heap_before R4.out)) #[I _, I _] rfl (two2 _ _) rfl (by kernel_rfl) ?_)
    all_goals
      refine bodyPost_ret (results_cell_only rfl _ _ (w.heap.size + 2) 23 #[I _, I _] (0, 0) _ rfl (setRow_same (heap_before (heap_before R4.out))) Try.underlying23 rfl (by kernel_rfl)) rfl ?_
      exact HF.out _ _ _ _ (by have := hdl.out.1; omega) (by have := hdl.out.2; omega)
  · have hdl : Hid ((diaR a b).lo = a.lo ∧ (diaR a b).hi = a.hi) := by show _ ∧ _; unfold diaR; simp [ha, hb]
    have HA := Lib.hid ha
    have HBb := Lib.hid hb
    go_wp2_with (refine wpList_store_row rfl 23 _ _ rfl (w.heap.size + 2) rfl #[I 0, I 0] _ (heap_before (heap_before R4.out)) #[I _, I _] rfl (two2 _ _) rfl (by kernel_rfl) ?_)
    all_goals
      refine bodyPost_ret (results_cell_only rfl _ _ (w.heap.size + 2) 23 #[I _, I _] (0, 0) _ rfl (setRow_same (heap_before (heap_before R4.out))) Try.underlying23 rfl (by kernel_rfl)) rfl ?_
      exact HF.out _ _ _ _ (by have := hdl.out.1; omega) (by have := hdl.out.2; omega)
  · have hdl : Hid ((diaR a b).lo = max a.lo b.lo ∧ (diaR a b).hi = min a.hi b.hi) := by show _ ∧ _; unfold diaR; simp [ha, hb]
    have HA := Lib.hid ha
    have HBb := Lib.hid hb
    go_wp2_with (refine wpList_store_row rfl 23 _ _ rfl (w.heap.size + 2) rfl #[I 0, I 0] _ (heap_before (heap_before R4.out)) #[I _, I _] rfl (two2 _ _) rfl (by kernel_rfl) ?_)
    all_goals
      refine bodyPost_ret (results_cell_only rfl _ _ (w.heap.size + 2) 23 #[I _, I _] (0, 0) _ rfl (setRow_same (heap_before (heap_before R4.out))) Try.underlying23 rfl (by kernel_rfl)) rfl ?_
      exact HF.out _ _ _ _ (by have := hdl.out.1; omega) (by have := hdl.out.2; omega)
/-- The first two samples that contradict each other, as a pair of numbers. -/
def confP (p : Vec) (R : Run) : Int × Int := match conf p R with | some (i, j) => ((i : Int), (j : Int)) | none => (-1, -1)
theorem agR_agB (p : Vec) (a b : Smp) : agR p a b = agB p a b := by
  unfold agR agB
  rw [Bool.eq_iff_iff]
  simp only [Bool.or_eq_true, decide_eq_true_eq]
  omega
theorem smBd_of {R : Run} (h : VRun R) {k : Nat} (hk : k < R.ms.length) : smBd (at0 R.ms k) := by
  have h1 := h.mt k hk
  have h2 := h.mr k hk
  have := h.last
  exact ⟨⟨h1.1, by omega⟩, h2⟩
set_option maxRecDepth 100000 in
set_option maxHeartbeats 2000000 in
theorem refConf_any (A1 A2 A3 : Option Addr) (c1 c2 c3 : Nat) (p : Vec) (R : Run) (w : World) (h : RunIn w A1 A2 A3 R) (hv : VRun R) (hp : VPul p) :
    Calls Try.prog 30 #[.agg (ia 117 p), runV A1 A2 A3 c1 c2 c3 R] w fun e w' => e = .returned (.tuple #[I (confP p R).1, I (confP p R).2]) ∧ Below w.heap.size w w' := by
  obtain ⟨W2, hW2⟩ : ∃ W2, W2 = ((w.alloc (.cells (ia 117 p) 30)).alloc (.cells #[.slice A1 R.ss.length c1, I R.e, .slice A2 R.ms.length c2, .slice A3 R.es.length c3] 35)) := ⟨_, rfl⟩
  have T : Hid (Two w A1 A2 A3 c1 c2 c3 p R W2) := hW2 ▸ two_mk h c1 c2 c3 p
  have HW := Lib.hid hW2
  have Hv := Lib.hid hv
  have Hp := Lib.hid hp
  have m100 := hv.m100
  have HC : Hid (∀ W, Le W2 W → W.cell? ⟨w.heap.size + 1, 0, none⟩ = some (.slice A1 R.ss.length c1) ∧ W.cell? ⟨w.heap.size + 1, 1, none⟩ = some (I R.e) ∧ W.cell? ⟨w.heap.size + 1, 2, none⟩ = some (.slice A2 R.ms.length c2) ∧ W.cell? ⟨w.heap.size + 1, 3, none⟩ = some (.slice A3 R.es.length c3)) := fun W hW => ⟨T.out.r0 _ hW, T.out.r1 _ hW, T.out.r2 _ hW, T.out.r3 _ hW⟩
  clear h hv hp hW2
  go_enter Try.func30, Try.ntmps30
  go_wp2_with fail
  rw [← HW.out]
  go_loopw [6] (fun j wr => ∃ k : Nat, k ≤ R.ms.length ∧ j = .int .i64 k ∧ (∀ j', j' < k → confI p R j' = none) ∧ Le W2 wr) (fun j _ => R.ms.length - (intOf j).toNat)
  case atStart => exact ⟨0, by omega, rfl, by omega, Le.refl _⟩
  case round =>
    obtain ⟨k, hk, rfl, hb, hbw⟩ := hrel
    have Hb := Lib.hid hb
    have HL : Hid (Le W2 _) := hbw
    clear hb hbw
    obtain ⟨x0, x1, x2, x3⟩ := HC.out _ HL.out
    by_cases hlt : k < R.ms.length
    · go_wp2_with fail
      clear x0 x1 x2 x3
      go_loopw [7] (fun i wr => ∃ m : Nat, m ≤ k ∧ i = .int .i64 m ∧ (∀ i', i' < m → agB p (at0 R.ms i') (at0 R.ms k) = false) ∧ Le W2 wr) (fun i _ => k - (intOf i).toNat)
      case atStart => exact ⟨0, by omega, rfl, by omega, HL.out⟩
      case round =>
        obtain ⟨m, hm, rfl, hb, hbw⟩ := hrel
        have Hb2 := Lib.hid hb
        have HM : Hid (Le W2 wr) := hbw
        clear hb hbw
        by_cases hml : m < k
        · obtain ⟨x0, x1, x2, x3⟩ := HC.out _ HM.out
          obtain ⟨b, o, rfl, hB, s0, s1, s2⟩ := (T.out.run.below HM.out).m.smp (show m < R.ms.length by omega)
          obtain ⟨b', o', he, _, t0, t1, t2⟩ := (T.out.run.below HM.out).m.smp hlt
          simp only [Option.some.injEq, Addr.mk.injEq, and_true] at he
          obtain ⟨rfl, rfl⟩ := he
          have y0 := ovr_cell x0
          have y1 := ovr_cell x1
          have y2 := ovr_cell x2
          have y3 := ovr_cell x3
          have z0 := ovr_cell s0
          have z1 := ovr_cell s1
          have z2 := ovr_cell s2
          have v0 := ovr_cell t0
          have v1 := ovr_cell t1
          have v2 := ovr_cell t2
          have i0 : (0 : Int) ≤ (m : Int) := by omega
          have i1 : (m : Int) < (R.ms.length : Int) := by omega
          have i2 : (0 : Int) ≤ (k : Int) := by omega
          have i3 : (k : Int) < (R.ms.length : Int) := by omega
          have CA : Hid (∀ W, Calls Try.prog 63 #[.agg (ia 117 p), .agg (smArr (at0 R.ms m)), .agg (smArr (at0 R.ms k))] W fun e w' => e = .returned (.bool (agB p (at0 R.ms m) (at0 R.ms k))) ∧ Below W.heap.size W w') := fun W => by
            rw [← agR_agB]; exact against_any p _ _ W Hp.out (smBd_of Hv.out (by omega)) (smBd_of Hv.out hlt)
          clear x0 x1 x2 x3 s0 s1 s2 t0 t1 t2
          go_wp2_with fail
          refine wp_region_make (fun j => if j = 0 then some (fun u _ => u = .agg (ia 117 p)) else if j = 11 then some (fun u _ => u = .bool (agB p (at0 R.ms m) (at0 R.ms k))) else none) (by kernel_rfl) (by kernel_rfl) (by kernel_rfl) ?_
          refine wpG_make (fun u _ => u = .agg (ia 117 p)) rfl rfl (fun w' hw' _ => ?_) (fun u hu => ?_)
          · exact load_grow rfl rfl (T.out.pul _ (Le.trans HM.out hw'.le))
          obtain ⟨_, _, rfl⟩ := hu
          simp only [Act.put, List.setIfInBounds_toArray, List.set_cons_zero, List.set_cons_succ]
          repeat (refine wpG_one rfl rfl rfl ?_; intro K hK; go_big_quiet_op; go_big_quiet_on)
          refine wpG_make (fun u _ => u = .bool (agB p (at0 R.ms m) (at0 R.ms k))) rfl rfl (fun w' hw' _ => ?_) (fun u hu => ?_)
          · go_simp
            exact call_grow (CA.out w')
          obtain ⟨_, _, rfl⟩ := hu
          simp only [Act.put, List.setIfInBounds_toArray, List.set_cons_zero, List.set_cons_succ]
          refine wpG_nil (fun w5 hw5 _ => ?_)
          have L5 : Hid (Le W2 w5) := HM.out.trans hw5.le
          have U5 : Hid (Below w.heap.size w w5) := T.out.up _ L5.out
          clear hw5 y0 y1 y2 y3 z0 z1 z2 v0 v1 v2 CA
          rcases hag : agB p (at0 R.ms m) (at0 R.ms k) with _ | _
          · have Hag := Lib.hid hag
            clear hag
            go_wp2_with fail
            go_roundw
            case rel => exact ⟨m + 1, by omega, by go_num, succ_case Hb2.out Hag.out, L5.out⟩
            case measure => simp [intOf]; omega
          · have hcf : Hid (confP p R = ((m : Int), (k : Int))) := by
              show _ = _
              have h1 : confI p R k = some m := find_at hml Hb2.out hag
              have h2 : conf p R = some (m, k) := findSome_at hlt (fun j hj => by rw [Hb.out j hj]; rfl) (by rw [h1]; rfl)
              rw [confP, h2]
            clear hag
            go_wp2_with fail
            go_ret2
            exact ⟨by rw [hcf.out]; rfl, U5.out⟩
        · have hno : Hid (confI p R k = none) := find_no fun j hj => Hb2.out j (by omega)
          go_wp2_with fail
          go_roundw
          case rel => exact ⟨k + 1, by omega, by go_num, succ_case Hb.out hno.out, HM.out⟩
          case measure => simp [intOf]; omega
    · have hcf : Hid (confP p R = (-1, -1)) := by
        show _ = _
        have h2 : conf p R = none := findSome_no fun j hj => by rw [Hb.out j (by omega)]; rfl
        rw [confP, h2]
      have U5 := Lib.hid (T.out.up _ HL.out)
      go_wp2_with fail
      go_ret2
      exact ⟨by rw [hcf.out]; rfl, U5.out⟩
end Go.Proofs.Ytlebefopdnadaaa
