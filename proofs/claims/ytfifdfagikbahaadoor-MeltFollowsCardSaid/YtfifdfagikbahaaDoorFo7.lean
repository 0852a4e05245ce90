/- Follow of the reference. -/
import Derived.Test.YtfifdfagikbahaaDoorFo5
namespace Go.Proofs.YtfifdfagikbahaaDoor
open Go.RowKit
attribute [local go_sem] Oper.semAt_some
def Emp (u : Value) (_ : World) : Prop := ∃ b, u = .slice (some ⟨b, 0, none⟩) 0 0
theorem emp_grow (w : World) {e : TypeId} : Le w (w.alloc (.cells #[] e)) ∧ Box Emp (.slice (some ⟨w.heap.size, 0, none⟩) 0 0) (w.alloc (.cells #[] e)) :=
  ⟨(Below.refl _ _).alloc (Nat.le_refl _) _, fun _ _ => ⟨_, rfl⟩⟩
theorem SoC.setc {e : TypeId} {sz B n tb i : Nat} {l : List Value} {v u : Value} {w : World} (h : SoC e sz B n l v w) (hb : tb < B) : SoC e sz B n l v (w.setCell ⟨tb, i, none⟩ u) := h.imp id fun ho => own_set ho hb
/-- Whether all is within. -/
def okA (m : Mlt) (l : List Stp) (st : Nat → Int) (cs : List (Nat → Int)) : Bool := okK m l (st 0) cs 0 l.length && okK m l (st 1) cs 1 l.length && okK m l (st 2) cs 2 l.length
theorem okA_no {m : Mlt} {l : List Stp} {st : Nat → Int} {cs : List (Nat → Int)} {s k : Nat} (hs : s < 3) (hk : k ≤ l.length) (h : okK m l (st s) cs s k = false) : okA m l st cs = false := by
  have h1 : okK m l (st s) cs s l.length = false := by
    have := okK_no h (l.length - k)
    rwa [show k + (l.length - k) = l.length by omega] at this
  unfold okA
  match s, hs with
  | 0, _ => rw [h1]; rfl
  | 1, _ => rw [h1, Bool.and_false]; rfl
  | 2, _ => rw [h1, Bool.and_false]
/-- What is left while the species are gone through. -/
def lgE (D : Nat → Nat → Int) (i s j : Nat) : Int := if j < s then D j (i + 1) else D j i
theorem lgE_set {D : Nat → Nat → Int} {i s : Nat} {dn : Int} (hs : s < 3) (h : D s (i + 1) = dn) : (#[I (lgE D i s 0), I (lgE D i s 1), I (lgE D i s 2)] : Array Value).setIfInBounds s (I dn) = #[I (lgE D i (s + 1) 0), I (lgE D i (s + 1) 1), I (lgE D i (s + 1) 2)] := by
  subst h
  match s, hs with
  | 0, _ => simp [lgE]
  | 1, _ => simp [lgE]
  | 2, _ => simp [lgE]
theorem lgE_0 {D : Nat → Nat → Int} {i j : Nat} : lgE D i 0 j = D j i := if_neg (by omega)
theorem lgE_3 {D : Nat → Nat → Int} {i j : Nat} (hj : j < 3) : lgE D i 3 j = D j (i + 1) := if_pos hj
theorem lgE_s {D : Nat → Nat → Int} {i s : Nat} : lgE D i s s = D s i := if_neg (by omega)
/-- What it tells. -/
def RetRf (m : Mlt) (l : List Stp) (st : Nat → Int) (cs : List (Nat → Int)) (w : World) (e : Ending) (w' : World) : Prop :=
  Below w.heap.size w w' ∧ ((okA m l st cs = false ∧ e = .returned (.tuple #[.slice none 0 0, .agg #[I 0, I 0, I 0], .bool false])) ∨
    (okA m l st cs = true ∧ ∃ S d, e = .returned (.tuple #[.slice S (fzK l l.length) d, .agg (cnArr fun s => wkG m (tdG cs s) s (st s) l l.length), .bool true]) ∧ fzK l l.length ≤ d ∧ d ≤ maxLen ∧ Rd w' w'.heap.size 3 S (fzK l l.length) (rN3 (fzL l cs l.length))))
set_option maxRecDepth 100000 in
set_option maxHeartbeats 8000000 in
theorem refFollow_any (m : Mlt) (A : Option Addr) (c : Nat) (l : List Stp) (st : Nat → Int) (Ch : Option Addr) (cc : Nat) (cs : List (Nat → Int)) (w : World) (B : Nat) (hB : B ≤ w.heap.size) (hx : Rd w B 8 A l.length (rT l)) (hc : Rd w B 3 Ch cs.length (rN3 cs)) (hck : ckF m l = 0) (hlen : cs.length = l.length) :
    Calls Tryd.prog 29 #[.agg (mltArr m), .slice A l.length c, .agg (cnArr st), .slice Ch cs.length cc] w (RetRf m l st cs w) := by
  obtain ⟨W, hW⟩ : ∃ W, W = ((w.alloc (.cells (mltArr m) 27)).alloc (.cells (cnArr st) 63)).alloc (.cells #[I 0, I 0, I 0] 63) := ⟨_, rfl⟩
  have hb0 : Below w.heap.size w W := by rw [hW]; exact (((Below.refl _ _).alloc (Nat.le_refl _) _).alloc (by simp) _).alloc (by simp; omega) _
  have r0 : W.heap[w.heap.size]? = some (.cells (mltArr m) 27 (0, 0)) := by rw [hW]; exact heap_before (heap_before (heap_last _ _ _ rfl))
  have r1 : W.heap[w.heap.size + 1]? = some (.cells (cnArr st) 63 (0, 0)) := by rw [hW]; exact heap_before (heap_last _ _ _ (by simp))
  have r2 : W.heap[w.heap.size + 1 + 1]? = some (.cells #[I 0, I 0, I 0] 63 (0, 0)) := by rw [hW]; exact heap_last _ _ _ (by simp)
  have sW : w.heap.size + 3 = W.heap.size := by rw [hW]; simp
  have HW := Lib.hid hW
  have HY : Hid (∀ W', Below W.heap.size W W' → W'.heap[w.heap.size]? = some (.cells (mltArr m) 27 (0, 0)) ∧ W'.heap[w.heap.size + 1]? = some (.cells (cnArr st) 63 (0, 0)) ∧ W'.heap[w.heap.size + 1 + 1]? = some (.cells #[I 0, I 0, I 0] 63 (0, 0)) ∧ Rd W' B 8 A l.length (rT l) ∧ Rd W' B 3 Ch cs.length (rN3 cs) ∧ Below w.heap.size w W') := fun W' h => by
    have h' := hb0.trans (h.mono hb0.size)
    exact ⟨(h.block _ (by omega)).trans r0, (h.block _ (by omega)).trans r1, (h.block _ (by omega)).trans r2, hx.below (h'.mono hB), hc.below (h'.mono hB), h'⟩
  have Hck := Lib.hid hck
  have Hlen := Lib.hid hlen
  have Hv : Hid (Vld m l) := vld_of hck
  have H0 : Hid (Below W.heap.size W W) := Below.refl _ _
  clear hW hb0 r0 r1 r2 hx hc hck hlen
  go_enter Tryd.func29, Tryd.ntmps29
  go_upto_region 1 with (fail)
  rw [← HW.out]
  have y0 := ovr_cell (show W.cell? ⟨w.heap.size, 0, none⟩ = some (I m.ms) by rw [cell_of_row _ _ _ _ _ _ (HY.out W H0.out).1]; rfl)
  have t0 := ovr_cell (cn_cell (HY.out W H0.out).2.1 (show 0 < 3 by omega))
  have t1 := ovr_cell (cn_cell (HY.out W H0.out).2.1 (show 1 < 3 by omega))
  have t2 := ovr_cell (cn_cell (HY.out W H0.out).2.1 (show 2 < 3 by omega))
  refine wp_region_make_two (fun j => if j = 0 then some Emp else if j = 4 then some (NewAt W #[I 0, I 0, I 0] 63) else none) [2, 3] (by kernel_rfl) (by kernel_rfl) (by kernel_rfl) (by kernel_rfl) (by kernel_rfl) (by intro i hi; simp at hi; rcases hi with rfl | rfl <;> rfl) ⟨rfl, rfl⟩ (fun c a d v w h => by cases d <;> exact h) ?_
  simp only [sleepTwo_cons, sleepTwo_two]
  refine wpG_make Emp rfl rfl (fun w' _ _ => ?_) (fun u hu => ?_)
  · unfold Oper.grows
    go_simp
    exact emp_grow w'
  obtain ⟨_, _, eb, rfl⟩ := hu
  simp only [Act.put, List.setIfInBounds_toArray, List.set_cons_zero, List.set_cons_succ]
  repeat (refine wpG_one rfl rfl rfl ?_; intro K hK; go_big_quiet_op; go_big_quiet_on)
  refine wpG_make (NewAt W #[I 0, I 0, I 0] 63) rfl rfl (fun w' hw' _ => ?_) (fun u hu => ?_)
  · go_simp
    exact new_grow hw'
  obtain ⟨_, _, db, rfl, _, hdb⟩ := hu
  simp only [Act.put, List.setIfInBounds_toArray, List.set_cons_zero, List.set_cons_succ]
  repeat (refine wpG_one rfl rfl rfl ?_; intro K hK; go_big_quiet_op; go_big_quiet_on)
  refine wpG_nil (fun w5 hw5 hG5 => ?_)
  have hx5 := (Box.now hG5.2).at.1
  clear hG5
  intro s t hs ht
  obtain rfl := Option.some.inj hs
  obtain rfl := Option.some.inj ht
  clear hs ht
  refine wp_store_row 63 _ _ rfl db rfl _ _ hx5 (cnArr st) rfl (by intro v hv; simp at hv; rcases hv with rfl | rfl | rfl <;> rfl) rfl (by kernel_rfl) ?_
  refine ⟨hw5.set hdb _, ?_⟩
  refine wp_assign _ (I m.ms) rfl rfl ?_
  refine ⟨hw5.set hdb _, ?_⟩
  simp only [Act.put, List.setIfInBounds_toArray, List.set_cons_zero, List.set_cons_succ]
  obtain ⟨Z, hZ⟩ : ∃ Z, Z = w5.setRow db (cnArr st) := ⟨_, rfl⟩
  have rZ : Z.heap[db]? = some (.cells (cnArr st) 63 (0, 0)) := by rw [hZ]; exact setRow_same hx5
  have bZ : Below W.heap.size W Z := by rw [hZ]; exact below_setRow hw5.le hdb _
  have HrZ := Lib.hid rZ
  have HbZ := Lib.hid bZ
  have hdZ := (Array.getElem?_eq_some_iff.1 rZ).1
  rw [← hZ]
  clear hZ rZ bZ hx5 hw5 t0 t1 t2 y0
  go_wp2_with fail
  go_loopw [14] (fun i wr => ∃ s : Nat, s ≤ 3 ∧ i = .int .i64 s ∧ (∀ j, j < s → okK m l (st j) cs j 0 = true) ∧ Below Z.heap.size Z wr) (fun i _ => 3 - (intOf i).toNat)
  case atStart => exact ⟨0, by omega, rfl, fun j hj => by omega, Below.refl _ _⟩
  case round =>
    rename World => X
    obtain ⟨s, hs, rfl, hok, hbX⟩ := hrel
    have HbX := Lib.hid hbX
    have HX : Hid (Below W.heap.size W X) := HbZ.out.trans (hbX.mono HbZ.out.size)
    have hsX := hbX.size
    have Hok := Lib.hid hok
    clear hbX hok
    by_cases hs3 : s < 3
    · have hsi : decide ((s : Int) < 3) = true := decide_eq_true (by omega)
      have hsn : decide (s < 3) = true := decide_eq_true hs3
      have hs0 : decide (0 ≤ (s : Int)) = true := decide_eq_true (by omega)
      obtain ⟨m0, m1⟩ := ml_lo hs3 (HY.out X HX.out).1
      have y0 := ovr_cell m0
      have y1 := ovr_cell m1
      have y2 := ovr_cell (cn_cell (HY.out X HX.out).2.1 hs3)
      obtain ⟨b0, hb0⟩ : ∃ b, okK m l (st s) cs s 0 = b := ⟨_, rfl⟩
      have ci : Hid (∀ W, Calls Tryd.prog 54 #[I (st s), I (m.ct (s * 2)), I (m.ct (s * 2 + 1))] W fun e w' => e = .returned (.bool b0) ∧ Below W.heap.size W w') := fun W => (refIn_any (st s) (m.ct (s * 2)) (m.ct (s * 2 + 1)) W).mono fun e w' ⟨he, hw⟩ => ⟨by rw [he, ← hb0]; rfl, hw⟩
      have Hb0 := Lib.hid hb0
      clear m0 m1 hb0
      go_upto_region 5 with (fail)
      refine wp_region_below_lit (by kernel_rfl) (by kernel_rfl) ?_
      repeat (go_big_quiet_step ((go_at_call 54; exact call_below (ci.out _))))
      refine wpQuiet_nil ?_
      intro X2 hb2
      have Hb2 : Hid (Below Z.heap.size Z X2) := HbX.out.trans (hb2.mono hsX)
      have HX2 : Hid (Below W.heap.size W X2) := HX.out.trans (hb2.mono HX.out.size)
      clear hb2 y0 y1 y2 ci
      rcases b0 with _ | _
      · as_aux_lemma =>
          have r3 := ((HY.out X2 HX2.out).2.2.1)
          have z0 : X2.cell? ⟨w.heap.size + 1 + 1, 0, none⟩ = some (I 0) := by rw [cell_of_row _ _ _ _ _ _ r3]; rfl
          have z1 : X2.cell? ⟨w.heap.size + 1 + 1, 1, none⟩ = some (I 0) := by rw [cell_of_row _ _ _ _ _ _ r3]; rfl
          have z2 : X2.cell? ⟨w.heap.size + 1 + 1, 2, none⟩ = some (I 0) := by rw [cell_of_row _ _ _ _ _ _ r3]; rfl
          have f0 := frozen_of_row _ _ 0 _ _ r3
          have f1 := frozen_of_row _ _ 1 _ _ r3
          have f2 := frozen_of_row _ _ 2 _ _ r3
          go_wp2_with fail
          rw [setCell_id r3 rfl, setCell_id r3 rfl, setCell_id r3 rfl]
          refine bodyPost_ret (results_tmp_cell_tmp rfl _ _ (w.heap.size + 1 + 1) 63 #[I 0, I 0, I 0] (0, 0) _ rfl r3 Tryd.underlying63 rfl (by kernel_rfl)) rfl ?_
          exact ⟨((HY.out X2 HX2.out).2.2.2.2.2), .inl ⟨(okA_no hs3 (Nat.zero_le _) Hb0.out), rfl⟩⟩
      · go_wp2_with fail
        go_roundw
        case rel =>
          refine ⟨s + 1, hs3, by go_num, fun j hj => ?_, Hb2.out⟩
          rcases Nat.lt_or_ge j s with h | h
          · exact Hok.out j h
          · obtain rfl : j = s := by omega
            exact Hb0.out
        case measure => simp [intOf]; omega
    · have hsi : decide ((s : Int) < 3) = false := decide_eq_false (by omega)
      have Hok : Hid (∀ j, j < 3 → okK m l (st j) cs j 0 = true) := fun j hj => Hok.out j (by omega)
      clear hs hs3
      go_wp2_with fail
      clear hsi
      have hl200 := Hv.out.hn
      obtain ⟨D, hD⟩ : ∃ D : Nat → Nat → Int, D = fun s k => wkG m (tdG cs s) s (st s) l k := ⟨_, rfl⟩
      have HD := Lib.hid hD
      have Hr0 : Hid (X.heap[db]? = some (.cells #[I (D 0 0), I (D 1 0), I (D 2 0)] 63 (0, 0))) := by
        have := (HbX.out.block db hdZ).trans HrZ.out
        show _ = _
        rw [hD]
        exact this
      obtain ⟨i0, hi0, iz0, iz1, iz2⟩ := info_parts cnt_info
      clear hD
      go_loopw [15, 13, 11] (fun i ms sl wr => ∃ k : Nat, k ≤ l.length ∧ i = .int .i64 k ∧ ms = I (msK m l k) ∧ SoC 63 3 Z.heap.size (fzK l k) (flat 3 (rN3 (fzL l cs k)) (fzK l k)) sl wr ∧ wr.heap[db]? = some (.cells #[I (D 0 k), I (D 1 k), I (D 2 k)] 63 (0, 0)) ∧ (∀ s, s < 3 → okK m l (st s) cs s k = true) ∧ Below W.heap.size W wr ∧ Z.heap.size ≤ wr.heap.size) (fun i _ _ _ => l.length - (intOf i).toNat)
      case atStart => exact ⟨0, by omega, rfl, rfl, .inl ⟨rfl, rfl, _, rfl⟩, Hr0.out, Hok.out, HX.out, hsX⟩
      case round =>
        clear hsX HX HbX Hok Hr0 X
        rename World => X
        obtain ⟨k, hk, rfl, rfl, hso, hrow, hok, hX, hsX⟩ := hrel
        have Hso := Lib.hid hso
        have Hrow := Lib.hid hrow
        have Hok := Lib.hid hok
        have HX := Lib.hid hX
        obtain ⟨sl, hsl⟩ : ∃ s, s = u11 := ⟨_, rfl⟩
        subst hsl
        clear hso hrow hok hX
        by_cases hlt : k < l.length
        · have hki : decide ((k : Int) < (l.length : Int)) = true := decide_eq_true (by omega)
          have hkn : decide (k < l.length) = true := decide_eq_true hlt
          have hk0 : decide (0 ≤ (k : Int)) = true := decide_eq_true (by omega)
          have hkp : k < cs.length := by have := Hlen.out; omega
          have hkc : decide ((k : Int) < (cs.length : Int)) = true := decide_eq_true (by omega)
          have hkd : decide (k < cs.length) = true := decide_eq_true hkp
          have hr0 : X.heap[db]? = some (.cells #[I (lgE D k 0 0), I (lgE D k 0 1), I (lgE D k 0 2)] 63 (0, 0)) := by rw [lgE_0, lgE_0, lgE_0]; exact Hrow.out
          have Hr0 := Lib.hid hr0
          clear hr0
          go_wp2_with fail
          go_loopw [16] (fun i wr => ∃ s : Nat, s ≤ 3 ∧ i = .int .i64 s ∧ SoC 63 3 Z.heap.size (fzK l k) (flat 3 (rN3 (fzL l cs k)) (fzK l k)) sl wr ∧ wr.heap[db]? = some (.cells #[I (lgE D k s 0), I (lgE D k s 1), I (lgE D k s 2)] 63 (0, 0)) ∧ (∀ j, j < s → okK m l (st j) cs j (k + 1) = true) ∧ Below W.heap.size W wr ∧ Z.heap.size ≤ wr.heap.size) (fun i _ => 3 - (intOf i).toNat)
          case atStart => exact ⟨0, by omega, rfl, Hso.out, Hr0.out, fun j hj => by omega, HX.out, hsX⟩
          case round =>
            rename World => X1
            obtain ⟨s, hs, rfl, hso1, hr1, hok1, hb1, hs1⟩ := hrel
            have Hso1 := Lib.hid hso1
            have Hr1 := Lib.hid hr1
            have Hok1 := Lib.hid hok1
            have Hb1 := Lib.hid hb1
            have q1 := HY.out X1 hb1
            have hW1 := hb1.size
            have hdl := (Array.getElem?_eq_some_iff.1 hr1).1
            clear hso1 hok1 hb1
            by_cases hs3 : s < 3
            · have hsi : decide ((s : Int) < 3) = true := decide_eq_true (by omega)
              have hsn : decide (s < 3) = true := decide_eq_true hs3
              have hs0 : decide (0 ≤ (s : Int)) = true := decide_eq_true (by omega)
              obtain ⟨b, o, rfl, hbB, x0, x1, x2, x3, x4, x5, x6, x7⟩ := q1.2.2.2.1.stp hlt
              obtain ⟨ab, ao, rfl, haB, hac⟩ := q1.2.2.2.2.1 (by omega)
              have a0 : X1.cell? ⟨ab, ao + k * 3 + s, none⟩ = some (I (at0 cs k s)) := hac k hkp s hs3
              have d0 : X1.cell? ⟨db, s, none⟩ = some (I (D s k)) := by have := cn_cell (b := lgE D k s) hr1 hs3; rw [this, lgE_s]
              have hgk := goes_ok (Hok.out s hs3)
              have hdv := hgk.bd' Hv.out hs3 hk (Nat.le_refl k)
              have hxS := Hv.out.isS hlt
              have hM := Hv.out.ms hk
              have hle := Hv.out.le hlt
              have hcb := ch_bd (mass := msK m l k) hxS hs3 hdv.1
              have hcr := cr_ch hxS hs3 hdv hM hle
              have hch : Hid (∀ W, Calls Tryd.prog 60 #[.agg (stpArr (at0 l k)), I s, I (wkG m (tdG cs s) s (st s) l k), I (msK m l k)] W fun e w' => e = .returned (.tuple #[I (chF (at0 l k) s (wkG m (tdG cs s) s (st s) l k) (msK m l k)).1, I (chF (at0 l k) s (wkG m (tdG cs s) s (st s) l k) (msK m l k)).2]) ∧ Below W.heap.size W w') := by
                intro W
                have := refChoices_any (at0 l k) s (wkG m (tdG cs s) s (st s) l k) (msK m l k) W hxS hs3 hdv hM hle
                rw [hcr] at this
                exact this
              have hokn : okK m l (st s) cs s (k + 1) = wiB (at0 cs k s) (chF (at0 l k) s (wkG m (tdG cs s) s (st s) l k) (msK m l k)).1 (chF (at0 l k) s (wkG m (tdG cs s) s (st s) l k) (msK m l k)).2 := by rw [okK, Hok.out s hs3, Bool.true_and]
              have hwn : wkG m (tdG cs s) s (st s) l (k + 1) = afF (at0 l k).kd (wkG m (tdG cs s) s (st s) l k) (tdG cs s k (chF (at0 l k) s (wkG m (tdG cs s) s (st s) l k) (msK m l k)).1 (chF (at0 l k) s (wkG m (tdG cs s) s (st s) l k) (msK m l k)).2) := rfl
              have eD : wkG m (tdG cs s) s (st s) l k = D s k := by rw [HD.out]
              have eD1 : wkG m (tdG cs s) s (st s) l (k + 1) = D s (k + 1) := by rw [HD.out]
              rw [eD] at hdv hcb hch hokn hwn
              rw [eD1] at hwn
              obtain ⟨lo, hlo⟩ : ∃ q, (chF (at0 l k) s (D s k) (msK m l k)).1 = q := ⟨_, rfl⟩
              obtain ⟨hi, hhi⟩ : ∃ q, (chF (at0 l k) s (D s k) (msK m l k)).2 = q := ⟨_, rfl⟩
              simp only [hlo, hhi] at hcb hch hokn hwn
              have htd : tdG cs s k lo hi = min (max (at0 cs k s) lo) hi := rfl
              rw [htd] at hwn
              obtain ⟨cv, hcv⟩ : ∃ q, at0 cs k s = q := ⟨_, rfl⟩
              obtain ⟨x, hx⟩ : ∃ x, at0 l k = x := ⟨_, rfl⟩
              have Hx := Lib.hid hx
              rw [hcv] at a0 hokn hwn
              rw [hx] at x0 x1 x2 x3 x4 x5 x6 x7 hxS hle hcb hch hwn
              obtain ⟨dv, hdv'⟩ : ∃ q, D s k = q := ⟨_, rfl⟩
              obtain ⟨mk, hmk⟩ : ∃ q, msK m l k = q := ⟨_, rfl⟩
              rw [hdv'] at d0 hdv hcb hch hwn
              rw [hmk] at hM hch hle ⊢
              have hdn := Lib.hid hwn
              have Hcb : Hid ((0 ≤ lo ∧ 0 ≤ hi) ∧ (¬ (x.kd = 2 ∨ x.kd = 3) → lo ≤ dv ∧ hi ≤ dv) ∧ (x.kd = 2 ∨ x.kd = 3 → lo ≤ 1000000000000 ∧ hi ≤ 1000000000000)) := hcb
              have Hdv := Lib.hid hdv
              clear hlo hhi htd hcv hx hdv' hmk hcr hgk eD eD1 hac hxS hM hle hcb hwn hdv q1
              go_upto_region 13 with (fail)
              have y0 := ovr_cell x0
              have y1 := ovr_cell x1
              have y2 := ovr_cell x2
              have y3 := ovr_cell x3
              have y4 := ovr_cell x4
              have y5 := ovr_cell x5
              have y6 := ovr_cell x6
              have y7 := ovr_cell x7
              have y8 := ovr_cell d0
              refine wp_region_below_lit (by kernel_rfl) (by kernel_rfl) ?_
              repeat (go_big_quiet_step ((go_at_call 60; exact call_below (hch.out _))))
              refine wpQuiet_nil ?_
              intro X2 hb2
              clear y0 y1 y2 y3 y4 y5 y6 y7 y8 hch
              have Hb2 : Hid (Below W.heap.size W X2) := Hb1.out.trans (hb2.mono hW1)
              have Hso2 := Lib.hid (Hso1.out.over hb2)
              have Hr2 := Lib.hid ((hb2.block db hdl).trans Hr1.out)
              have a2 : X2.cell? ⟨ab, ao + k * 3 + s, none⟩ = some (I cv) := (hb2.cell (block_lt_of_cell a0)).trans a0
              have d2 : X2.cell? ⟨db, s, none⟩ = some (I dv) := (hb2.cell hdl).trans d0
              have X0' := fun (j : Nat) (v : Value) (h : X1.cell? ⟨b, o + k * 8 + j, none⟩ = some v) => (show X2.cell? ⟨b, o + k * 8 + j, none⟩ = some v from (hb2.cell (block_lt_of_cell h)).trans h)
              have x0 : X2.cell? ⟨b, o + k * 8, none⟩ = some (.int .u8 x.kd) := X0' 0 _ x0
              have x1 := X0' 1 _ x1
              have x2 := X0' 2 _ x2
              have x3 := X0' 3 _ x3
              have x4 := X0' 4 _ x4
              have x5 := X0' 5 _ x5
              have x6 := X0' 6 _ x6
              have x7 := X0' 7 _ x7
              have hs2 : Z.heap.size ≤ X2.heap.size := Nat.le_trans hs1 hb2.size
              have hdl2 : db < X2.heap.size := Nat.lt_of_lt_of_le hdl hb2.size
              have hW2 := Hb2.out.size
              clear X0' hb2 a0 d0 hr1 Hso1 Hr1
              go_wp2_with fail
              refine (refIn_any cv lo hi X2).mono ?_
              rintro e X3 ⟨rfl, hb3⟩
              have Hb3 : Hid (Below W.heap.size W X3) := Hb2.out.trans (hb3.mono hW2)
              have Hso3 := Lib.hid (Hso2.out.over hb3)
              have Hr3 := Lib.hid ((hb3.block db hdl2).trans Hr2.out)
              have a3 : X3.cell? ⟨ab, ao + k * 3 + s, none⟩ = some (I cv) := (hb3.cell (block_lt_of_cell a2)).trans a2
              have d3 : X3.cell? ⟨db, s, none⟩ = some (I dv) := (hb3.cell hdl2).trans d2
              have X0' := fun (j : Nat) (v : Value) (h : X2.cell? ⟨b, o + k * 8 + j, none⟩ = some v) => (show X3.cell? ⟨b, o + k * 8 + j, none⟩ = some v from (hb3.cell (block_lt_of_cell h)).trans h)
              have x0 : X3.cell? ⟨b, o + k * 8, none⟩ = some (.int .u8 x.kd) := X0' 0 _ x0
              have x1 := X0' 1 _ x1
              have x2 := X0' 2 _ x2
              have x3 := X0' 3 _ x3
              have x4 := X0' 4 _ x4
              have x5 := X0' 5 _ x5
              have x6 := X0' 6 _ x6
              have x7 := X0' 7 _ x7
              have hs3' : Z.heap.size ≤ X3.heap.size := Nat.le_trans hs2 hb3.size
              have hdl3 : db < X3.heap.size := Nat.lt_of_lt_of_le hdl2 hb3.size
              have hW3 := Hb3.out.size
              clear X0' hb3 a2 d2 Hso2 Hr2
              obtain ⟨wi, hwi⟩ : ∃ b, wiB cv lo hi = b := ⟨_, rfl⟩
              rw [hwi] at hokn ⊢
              have Hokn := Lib.hid hokn
              have Hwi := Lib.hid hwi
              clear hokn hwi
              rcases wi with _ | _
              · as_aux_lemma =>
                  clear a3 d3 x0 x1 x2 x3 x4 x5 x6 x7
                  have r3 := ((HY.out X3 Hb3.out).2.2.1)
                  have z0 : X3.cell? ⟨w.heap.size + 1 + 1, 0, none⟩ = some (I 0) := by rw [cell_of_row _ _ _ _ _ _ r3]; rfl
                  have z1 : X3.cell? ⟨w.heap.size + 1 + 1, 1, none⟩ = some (I 0) := by rw [cell_of_row _ _ _ _ _ _ r3]; rfl
                  have z2 : X3.cell? ⟨w.heap.size + 1 + 1, 2, none⟩ = some (I 0) := by rw [cell_of_row _ _ _ _ _ _ r3]; rfl
                  have f0 := frozen_of_row _ _ 0 _ _ r3
                  have f1 := frozen_of_row _ _ 1 _ _ r3
                  have f2 := frozen_of_row _ _ 2 _ _ r3
                  go_wp2_with fail
                  rw [setCell_id r3 rfl, setCell_id r3 rfl, setCell_id r3 rfl]
                  refine bodyPost_ret (results_tmp_cell_tmp rfl _ _ (w.heap.size + 1 + 1) 63 #[I 0, I 0, I 0] (0, 0) _ rfl r3 Tryd.underlying63 rfl (by kernel_rfl)) rfl ?_
                  exact ⟨((HY.out X3 Hb3.out).2.2.2.2.2), .inl ⟨(okA_no hs3 hlt Hokn.out), rfl⟩⟩
              · have hw := Hwi.out
                unfold wiB at hw
                simp only [Bool.and_eq_true, decide_eq_true_eq] at hw
                have hdn2 : D s (k + 1) = afF x.kd dv cv := by rw [hdn.out, show min (max cv lo) hi = cv by omega]
                have hcvb : 0 ≤ cv ∧ cv ≤ 300000000000000 := by
                  have := Hcb.out
                  have := Hdv.out
                  by_cases hkd : x.kd = 2 ∨ x.kd = 3
                  · have := Hcb.out.2.2 hkd; omega
                  · have := Hcb.out.2.1 hkd; omega
                have haf : Hid (∀ W, Calls Tryd.prog 61 #[.agg (stpArr x), I dv, I cv] W fun e w' => e = .returned (I (D s (k + 1))) ∧ Below W.heap.size W w') := fun W => (after_any x dv cv W (by have := Hdv.out; omega) (by omega)).mono fun e w' ⟨he, h⟩ => ⟨by rw [he, hdn2], h⟩
                obtain ⟨dn, hdnn⟩ : ∃ q, D s (k + 1) = q := ⟨_, rfl⟩
                rw [hdnn] at haf
                have Hset := Lib.hid (lgE_set (D := D) (i := k) hs3 hdnn)
                clear hw hdn2 hcvb hdnn
                go_wp2_with fail
                have y0 := ovr_cell x0
                have y1 := ovr_cell x1
                have y2 := ovr_cell x2
                have y3 := ovr_cell x3
                have y4 := ovr_cell x4
                have y5 := ovr_cell x5
                have y6 := ovr_cell x6
                have y7 := ovr_cell x7
                have y8 := ovr_cell d3
                have y9 := ovr_cell a3
                refine wp_region_below_tail (by kernel_rfl) (by kernel_rfl) (by kernel_rfl) ?_
                simp only [skipLast_two, skipLast_one]
                repeat (go_big_quiet_step ((go_at_call 61; exact call_below (haf.out _))))
                refine wpQuiet_nil ?_
                intro X4 hb4 o4 ho4
                obtain rfl := Option.some.inj ho4
                clear ho4
                have r4 := (hb4.block db hdl3).trans Hr3.out
                have z0 : X4.cell? ⟨db, s, none⟩ = some (I dv) := (hb4.cell hdl3).trans d3
                have z1 := frozen_of_row _ _ s _ _ r4
                have Hso4 := Lib.hid (Hso3.out.over hb4)
                have Hb4 : Hid (Below W.heap.size W X4) := Hb3.out.trans (hb4.mono hW3)
                have hs4 : Z.heap.size ≤ X4.heap.size := Nat.le_trans hs3' hb4.size
                clear y0 y1 y2 y3 y4 y5 y6 y7 y8 y9 haf hb4
                unfold Oper.wp
                go_simp
                generalize hX5 : X4.setCell ⟨db, s, none⟩ _ = X5
                have r5 : X5.heap[db]? = some (.cells #[I (lgE D k (s + 1) 0), I (lgE D k (s + 1) 1), I (lgE D k (s + 1) 2)] 63 (0, 0)) := by rw [← hX5, ← Hset.out]; exact rs r4 s _
                have b5 : Below W.heap.size W X5 := by rw [← hX5]; exact Below.setCell Hb4.out (p := ⟨db, s, none⟩) hdb _
                have so5 : SoC 63 3 Z.heap.size (fzK l k) (flat 3 (rN3 (fzL l cs k)) (fzK l k)) sl X5 := by rw [← hX5]; exact Hso4.out.setc hdZ
                have s5 : Z.heap.size ≤ X5.heap.size := by rw [← hX5]; simpa using hs4
                have Hr5 := Lib.hid r5
                have Hb5 := Lib.hid b5
                have Hso5 := Lib.hid so5
                clear hX5 r5 b5 so5 r4 z0 z1
                go_wp2_with fail
                go_roundw
                case rel =>
                  refine ⟨s + 1, hs3, by go_num, Hso5.out, Hr5.out, fun j hj => ?_, Hb5.out, s5⟩
                  rcases Nat.lt_or_ge j s with h | h
                  · exact Hok1.out j h
                  · obtain rfl : j = s := by omega
                    exact Hokn.out
                case measure => simp [intOf]; omega
            · obtain rfl : s = 3 := by omega
              have hsi : decide (((3 : Nat) : Int) < 3) = false := rfl
              obtain ⟨b, o, rfl, hbB, x0, x1, x2, x3, x4, x5, x6, x7⟩ := q1.2.2.2.1.stp hlt
              obtain ⟨ab, ao, rfl, haB, hac⟩ := q1.2.2.2.2.1 (by omega)
              have a0 : X1.cell? ⟨ab, ao + k * 3, none⟩ = some (I (at0 cs k 0)) := hac k hkp 0 (by omega)
              have a1 : X1.cell? ⟨ab, ao + k * 3 + 1, none⟩ = some (I (at0 cs k 1)) := hac k hkp 1 (by omega)
              have a2 : X1.cell? ⟨ab, ao + k * 3 + 2, none⟩ = some (I (at0 cs k 2)) := hac k hkp 2 (by omega)
              have Hr1' : Hid (X1.heap[db]? = some (.cells #[I (D 0 (k + 1)), I (D 1 (k + 1)), I (D 2 (k + 1))] 63 (0, 0))) := by
                have := Hr1.out
                rw [lgE_3 (by omega), lgE_3 (by omega), lgE_3 (by omega)] at this
                exact this
              have hxm := isS_ms (Hv.out.isS hlt)
              have hM := Hv.out.ms hk
              have hmm : Hid (∀ W, Calls Tryd.prog 45 #[I (msK m l k), .agg (stpArr (at0 l k))] W fun e w' => e = .returned (I (msK m l (k + 1))) ∧ Below W.heap.size W w') := fun W => mass_any (msK m l k) (at0 l k) W (by omega) (fun h => by have := hxm h; omega)
              obtain ⟨mk1, hmk1⟩ : ∃ q, msK m l (k + 1) = q := ⟨_, rfl⟩
              rw [hmk1] at hmm
              have Hmk1 := Lib.hid hmk1
              obtain ⟨x, hx⟩ : ∃ x, at0 l k = x := ⟨_, rfl⟩
              have Hx := Lib.hid hx
              rw [hx] at x0 x1 x2 x3 x4 x5 x6 x7 hmm
              have hfk := fzK_le l k
              clear hac q1 hxm hM hmk1 hx hr1
              go_wp2_with fail
              refine (hmm.out _).mono ?_
              rintro e X2 ⟨rfl, hb2⟩
              have Hb2 : Hid (Below W.heap.size W X2) := Hb1.out.trans (hb2.mono hW1)
              have Hso2 := Lib.hid (Hso1.out.over hb2)
              have Hr2 := Lib.hid ((hb2.block db hdl).trans Hr1'.out)
              have x0' : X2.cell? ⟨b, o + k * 8, none⟩ = some (.int .u8 x.kd) := (hb2.cell (block_lt_of_cell x0)).trans x0
              have a0' : X2.cell? ⟨ab, ao + k * 3, none⟩ = some (I (at0 cs k 0)) := (hb2.cell (block_lt_of_cell a0)).trans a0
              have a1' : X2.cell? ⟨ab, ao + k * 3 + 1, none⟩ = some (I (at0 cs k 1)) := (hb2.cell (block_lt_of_cell a1)).trans a1
              have a2' : X2.cell? ⟨ab, ao + k * 3 + 2, none⟩ = some (I (at0 cs k 2)) := (hb2.cell (block_lt_of_cell a2)).trans a2
              have hs2 : Z.heap.size ≤ X2.heap.size := Nat.le_trans hs1 hb2.size
              clear hb2 hmm x0 x1 x2 x3 x4 x5 x6 x7 a0 a1 a2
              by_cases h1 : x.kd = 1
              · have e1 : (x.kd == 1) = true := by simpa using h1
                have HF : Hid (flat 3 (rN3 (fzL l cs (k + 1))) (fzK l (k + 1)) = flat 3 (rN3 (fzL l cs k)) (fzK l k) ++ [I (at0 cs k 0), I (at0 cs k 1), I (at0 cs k 2)] ∧ fzK l (k + 1) = fzK l k + 1) := fz_more (by rw [Hx.out]; exact h1)
                clear h1
                go_wp2_with (at_builtin; go_loud (refine wpList_app_soc rfl _ _ 64 rfl 63 i0 _ 3 24 Tryd.underlying64 hi0 iz0 iz1 iz2 rfl (by decide) Z.heap.size (fzK l k) (flat 3 (rN3 (fzL l cs k)) (fzK l k)) sl rfl (Hso2.out.over ((Below.refl _ _).alloc (Nat.le_refl _) _)) ⟨X2.heap.size, 0, none⟩ 1 [I (at0 cs k 0), I (at0 cs k 1), I (at0 cs k 2)] rfl rfl (news_lit (cs := #[I (at0 cs k 0), I (at0 cs k 1), I (at0 cs k 2)]) (heap_last _ _ _ rfl)) (by simp [Value.oneCell']) (by simp; omega) (by omega) (by decide) ?_))
                intro v' w2 hso3 hb3
                have b3 : Below Z.heap.size X2 w2 := ((Below.refl _ _).alloc hs2 _).trans hb3
                have H2 : Hid (Below W.heap.size W w2) := Hb2.out.trans (b3.mono HbZ.out.size)
                have Hso3 : Hid (SoC 63 3 Z.heap.size (fzK l (k + 1)) (flat 3 (rN3 (fzL l cs (k + 1))) (fzK l (k + 1))) v' w2) := by show SoC _ _ _ _ _ _ _; rw [HF.out.1, HF.out.2]; exact hso3
                have Hr3 := Lib.hid ((b3.block db hdZ).trans Hr2.out)
                have hs3 : Z.heap.size ≤ w2.heap.size := Nat.le_trans hs2 b3.size
                clear hso3 hb3 b3 x0' a0' a1' a2'
                go_wp2_with fail
                go_roundw
                case rel => exact ⟨k + 1, hlt, by go_num, by rw [Hmk1.out], Hso3.out, Hr3.out, fun s hs => Hok1.out s hs, H2.out, hs3⟩
                case measure => simp [intOf]; omega
              · have e1 : (x.kd == 1) = false := by simpa using h1
                have Hfz : Hid (fzK l (k + 1) = fzK l k ∧ fzL l cs (k + 1) = fzL l cs k) := by
                  show _ ∧ _
                  rw [fzK, fzL, Hx.out, if_neg h1, if_neg h1]; exact ⟨rfl, rfl⟩
                clear h1
                go_wp2_with fail
                go_roundw
                case rel => exact ⟨k + 1, hlt, by go_num, by rw [Hmk1.out], by rw [Hfz.out.1, Hfz.out.2]; exact Hso2.out, Hr2.out, fun s hs => Hok1.out s hs, Hb2.out, hs2⟩
                case measure => simp [intOf]; omega
        · obtain rfl : k = l.length := by omega
          have hki : decide ((l.length : Int) < (l.length : Int)) = false := decide_eq_false (by omega)
          obtain ⟨S, d, rfl, hd1, hd2, hcl⟩ := Hso.out.cl
          have Hcl := Lib.hid hcl
          have Hd : Hid (fzK l l.length ≤ d ∧ d ≤ maxLen) := ⟨hd1, hd2⟩
          clear hcl hd1 hd2
          have r9 := (HY.out X HX.out).2.2.1
          have rd := Hrow.out
          have z0 : X.cell? ⟨w.heap.size + 1 + 1, 0, none⟩ = some (I 0) := by rw [cell_of_row _ _ _ _ _ _ r9]; rfl
          have z1 : X.cell? ⟨w.heap.size + 1 + 1, 1, none⟩ = some (I 0) := by rw [cell_of_row _ _ _ _ _ _ r9]; rfl
          have z2 : X.cell? ⟨w.heap.size + 1 + 1, 2, none⟩ = some (I 0) := by rw [cell_of_row _ _ _ _ _ _ r9]; rfl
          have p0 : X.cell? ⟨db, 0, none⟩ = some (I (D 0 l.length)) := by rw [cell_of_row _ _ _ _ _ _ rd]; rfl
          have p1 : X.cell? ⟨db, 1, none⟩ = some (I (D 1 l.length)) := by rw [cell_of_row _ _ _ _ _ _ rd]; rfl
          have p2 : X.cell? ⟨db, 2, none⟩ = some (I (D 2 l.length)) := by rw [cell_of_row _ _ _ _ _ _ rd]; rfl
          have f0 := frozen_of_row _ _ 0 _ _ r9
          have f1 := frozen_of_row _ _ 1 _ _ r9
          have f2 := frozen_of_row _ _ 2 _ _ r9
          go_wp2_with fail
          go_region
          all_goals go_wp2_with fail
          all_goals
            refine bodyPost_ret (results_tmp_cell_tmp rfl _ _ (w.heap.size + 1 + 1) 63 #[I (D 0 l.length), I (D 1 l.length), I (D 2 l.length)] (0, 0) _ rfl (by rw [heap_drew]; exact rs (rs (rs r9 0 _) 1 _) 2 _) Tryd.underlying63 rfl (by kernel_rfl)) rfl ?_
            refine ⟨Below.drew (Below.setCell (Below.setCell (Below.setCell (HY.out X HX.out).2.2.2.2.2 (p := ⟨w.heap.size + 1 + 1, 0, none⟩) (by show w.heap.size ≤ w.heap.size + 1 + 1; omega) _) (p := ⟨w.heap.size + 1 + 1, 1, none⟩) (by show w.heap.size ≤ w.heap.size + 1 + 1; omega) _) (p := ⟨w.heap.size + 1 + 1, 2, none⟩) (by show w.heap.size ≤ w.heap.size + 1 + 1; omega) _), .inr ⟨?_, S, d, ?_, Hd.out.1, Hd.out.2, ?_⟩⟩
            · unfold okA
              rw [Hok.out 0 (by omega), Hok.out 1 (by omega), Hok.out 2 (by omega)]
              rfl
            · rw [HD.out]; rfl
            · exact (Hcl.out.row (w' := World.drew _) fun b o hb ho _ => by
                rw [heap_drew]
                have := HbZ.out.size
                exact ro (ro (ro ho (by omega)) (by omega)) (by omega)).rd
end Go.Proofs.YtfifdfagikbahaaDoor
