/- The choices of Extreme: a course's, but at one step the least or the greatest; each is written down. -/
import Derived.Test.YtfifdfagikbahaaDoorFo3
namespace Go.Proofs.YtfifdfagikbahaaDoor
open Go.RowKit
attribute [local go_sem] Oper.semAt_some
/-- What Extreme chooses. -/
def xgF (c : Crs) (l : List Stp) (a : Int) (mo : Bool) (k : Nat) (lo hi : Int) : Int := if (k : Int) = a then (if mo then hi else lo) else pkF c (at0 l k).kd lo hi
theorem xgF_mild (c : Crs) (l : List Stp) (a : Int) (mo : Bool) : Mild (xgF c l a mo) := fun k lo hi h1 h2 => by
  unfold xgF pkF
  split
  · split <;> omega
  · split <;> split <;> omega
/-- What the closure of Extreme has. -/
structure ExIn (W : World) (c : Crs) (A : Option Addr) (d : Nat) (l : List Stp) (B qc qp qb qa qm qd qs mb s : Nat) (a : Int) (mo : Bool) : Prop where
  pk : PkIn W c A d l B qc qp
  b : W.heap[qb]? = some (.cells #[.func (.func 90) #[] #[.pointer (some ⟨qc, 0, none⟩), .pointer (some ⟨qp, 0, none⟩)]] 134 (0, 0))
  a : W.heap[qa]? = some (.cells #[I a] 3 (0, 0))
  m : W.heap[qm]? = some (.cells #[.bool mo] 4 (0, 0))
  d : W.heap[qd]? = some (.cells #[.slice (some ⟨mb, 0, none⟩) l.length l.length] 64 (0, 0))
  s : W.heap[qs]? = some (.cells #[I s] 42 (0, 0))
  row : ∃ cs, W.heap[mb]? = some (.cells cs 63 (0, 0)) ∧ cs.size = l.length * 3
/-- Where its cells lie. -/
structure ExAt (B qc qp qb qa qm qd qs mb : Nat) : Prop where
  B : B ≤ mb
  qc : qc ≠ mb
  qp : qp ≠ mb
  qb : qb ≠ mb
  qa : qa ≠ mb
  qm : qm ≠ mb
  qd : qd ≠ mb
  qs : qs ≠ mb
theorem PkIn.keep {W W' : World} {c : Crs} {A : Option Addr} {d : Nat} {l : List Stp} {B qc qp : Nat} (h : PkIn W c A d l B qc qp) (hk : ∀ b, b = qc ∨ b = qp ∨ b < B → W'.heap[b]? = W.heap[b]?) (hs : W.heap.size ≤ W'.heap.size) : PkIn W' c A d l B qc qp := by
  have e : ∀ b o, b = qc ∨ b = qp ∨ b < B → W'.cell? ⟨b, o, none⟩ = W.cell? ⟨b, o, none⟩ := fun b o hb => by unfold World.cell?; rw [hk b hb]
  exact ⟨(e _ _ (.inl rfl)).trans h.c0, (e _ _ (.inl rfl)).trans h.c1, (e _ _ (.inl rfl)).trans h.c2, (e _ _ (.inr (.inl rfl))).trans h.s, h.r.keep fun b o hb => by unfold World.cell?; rw [hk b (.inr (.inr hb))], Nat.le_trans h.lt hs⟩
theorem ExIn.keep {W W' : World} {c : Crs} {A : Option Addr} {d : Nat} {l : List Stp} {B qc qp qb qa qm qd qs mb s : Nat} {a : Int} {mo : Bool} (h : ExIn W c A d l B qc qp qb qa qm qd qs mb s a mo) (hk : ∀ b, b = qc ∨ b = qp ∨ b < B ∨ b = qb ∨ b = qa ∨ b = qm ∨ b = qd ∨ b = qs → W'.heap[b]? = W.heap[b]?) (hs : W.heap.size ≤ W'.heap.size) (hr : ∃ cs, W'.heap[mb]? = some (.cells cs 63 (0, 0)) ∧ cs.size = l.length * 3) : ExIn W' c A d l B qc qp qb qa qm qd qs mb s a mo :=
  ⟨h.pk.keep (fun b hb => hk b (by rcases hb with h | h | h <;> simp [h])) hs, (hk _ (by simp)).trans h.b, (hk _ (by simp)).trans h.a, (hk _ (by simp)).trans h.m, (hk _ (by simp)).trans h.d, (hk _ (by simp)).trans h.s, hr⟩
theorem grown_at {A B C : World} {x o : Nat} {v : Value} (h1 : Below A.heap.size A B) (hC : C = B.setCell ⟨x, o, none⟩ v) : A.grownBy C (some x) := by
  subst hC
  exact ⟨h1.os, h1.tape, h1.output, Nat.le_trans h1.size (Nat.le_of_eq (by simp)), fun k hk hne => (heap_setCell_other _ _ _ _ (fun e => hne (by rw [e]))).trans (h1.block k hk)⟩
/-- What it does. -/
def ExT (mb s k : Nat) (v : Int) (U V : World) : Prop := U.grownBy V (some mb) ∧ ∀ cs, U.heap[mb]? = some (.cells cs 63 (0, 0)) → V.heap[mb]? = some (.cells (cs.setIfInBounds (k * 3 + s) (I v)) 63 (0, 0))
set_option maxRecDepth 100000 in
set_option maxHeartbeats 2000000 in
theorem ext1_any (c : Crs) (A : Option Addr) (d : Nat) (l : List Stp) (B qc qp qb qa qm qd qs mb s k : Nat) (a lo hi : Int) (mo : Bool) (w : World) (h : ExIn w c A d l B qc qp qb qa qm qd qs mb s a mo) (hk : k < l.length) (hs : s < 3) :
    Calls Tryd.prog 71 #[I (k : Int), I lo, I hi, .pointer (some ⟨qb, 0, none⟩), .pointer (some ⟨qa, 0, none⟩), .pointer (some ⟨qm, 0, none⟩), .pointer (some ⟨qd, 0, none⟩), .pointer (some ⟨qs, 0, none⟩)] w fun e w' => e = .returned (I (xgF c l a mo k lo hi)) ∧ ExT mb s k (xgF c l a mo k lo hi) w w' := by
  have cp : Hid (Calls Tryd.prog 90 #[I k, I lo, I hi, .pointer (some ⟨qc, 0, none⟩), .pointer (some ⟨qp, 0, none⟩)] w fun e w' => e = .returned (I (pkF c (at0 l k).kd lo hi)) ∧ Below w.heap.size w w') := pick1_any c A d l B qc qp k lo hi w h.pk hk
  obtain ⟨cs, hrow, hsz⟩ := h.row
  have hB := h.b
  have HMl : Hid (mb < w.heap.size) := (Array.getElem?_eq_some_iff.1 hrow).1
  have HSz := Lib.hid hsz
  have hxg : xgF c l a mo k lo hi = if (k : Int) = a then (if mo then hi else lo) else pkF c (at0 l k).kd lo hi := rfl
  obtain ⟨v, hv⟩ : ∃ v, xgF c l a mo k lo hi = v := ⟨_, rfl⟩
  obtain ⟨p, hp⟩ : ∃ v, pkF c (at0 l k).kd lo hi = v := ⟨_, rfl⟩
  rw [hv, hp] at hxg
  rw [hv]
  rw [hp] at cp
  have Hxg := Lib.hid hxg
  obtain ⟨n, hn'⟩ : ∃ n, l.length = n := ⟨_, rfl⟩
  have hD := h.d
  rw [hn'] at hD hk hsz HSz
  have d1 : decide ((k : Int) < (n : Int)) = true := decide_eq_true (by omega)
  have d2 : decide (k < n) = true := decide_eq_true hk
  have d3 : decide (0 ≤ (k : Int)) = true := decide_eq_true (by omega)
  have d4 : decide ((s : Int) < 3) = true := decide_eq_true (by omega)
  have d5 : decide (s < 3) = true := decide_eq_true hs
  have d6 : decide (0 ≤ (s : Int)) = true := decide_eq_true (by omega)
  have y0 : w.cell? ⟨qb, 0, none⟩ = some (.func (.func 90) #[] #[.pointer (some ⟨qc, 0, none⟩), .pointer (some ⟨qp, 0, none⟩)]) := by rw [cell_of_row _ _ _ _ _ _ hB]; rfl
  have HIn := Lib.hid h
  have HD0 := Lib.hid hD
  have HM0 := Lib.hid hrow
  clear hxg hv hp hB h hD hrow hn' hsz
  go_enter Tryd.func71, Tryd.ntmps71
  go_wp2_with fail
  refine cp.out.mono ?_
  rintro e w1 ⟨rfl, hb1⟩
  have Hb1 := Lib.hid hb1
  have keep := fun b o (h : w.heap[b]? = some o) => (hb1.block b (Array.getElem?_eq_some_iff.1 h).1).trans h
  have HD := Lib.hid (keep _ _ HD0.out)
  have HS := Lib.hid (keep _ _ HIn.out.s)
  have HM := Lib.hid (keep _ _ HM0.out)
  have ra := keep _ _ HIn.out.a
  have rm := keep _ _ HIn.out.m
  have z0 : w1.cell? ⟨qa, 0, none⟩ = some (I a) := by rw [cell_of_row _ _ _ _ _ _ ra]; rfl
  have z1 : w1.cell? ⟨qm, 0, none⟩ = some (.bool mo) := by rw [cell_of_row _ _ _ _ _ _ rm]; rfl
  clear hb1 keep ra rm y0
  by_cases hka : (k : Int) = a
  · have e1 : ((k : Int) == a) = true := by simpa using hka
    rcases mo with _ | _
    · have HR : Hid (v = lo) := by show _ = _; rw [Hxg.out, if_pos hka]; rfl
      clear hka
      go_upto_region 6 with (fail)
      have y0 := ovr_cell (show w1.cell? ⟨qd, 0, none⟩ = some (.slice (some ⟨mb, 0, none⟩) n n) by rw [cell_of_row _ _ _ _ _ _ HD.out]; rfl)
      have y1 := ovr_cell (show w1.cell? ⟨qs, 0, none⟩ = some (I (s : Int)) by rw [cell_of_row _ _ _ _ _ _ HS.out]; rfl)
      refine wp_region_seq2 6 (fun _ => none) (by kernel_rfl) (by kernel_rfl) (by kernel_rfl) (by kernel_rfl) (by kernel_rfl) ?_
      simp only [List.take_succ_cons, List.take_zero, List.drop_succ_cons, List.drop_zero]
      repeat (refine wpG_one rfl rfl rfl ?_; intro K hK; go_big_quiet_op; go_big_quiet_on)
      refine wpG_nil (fun w2 hw2 hG => ?_)
      have hb2 := hw2.le
      clear hG hw2
      refine wpTailIn_cons Wd.wide (by intro c h; cases h) ?_
      have r2 := (hb2.block mb (Array.getElem?_eq_some_iff.1 HM.out).1).trans HM.out
      have z1 := frozen_of_row _ _ (k * 3 + s) _ _ r2
      have z0 : w2.cell? ⟨mb, k * 3 + s, none⟩ = cs[k * 3 + s]? := by rw [cell_of_row _ _ _ _ _ _ r2]
      obtain ⟨ov, hov⟩ : ∃ ov, cs[k * 3 + s]? = some ov := ⟨_, Array.getElem?_eq_getElem (by have := HSz.out; omega)⟩
      rw [hov] at z0
      clear y0 y1
      unfold Oper.wp
      go_simp
      generalize hV' : w2.setCell ⟨mb, k * 3 + s, none⟩ _ = V
      have hV := hV'.symm
      clear hV'
      refine wpTailIn_nil ?_
      have rV : V.heap[mb]? = some (.cells (cs.setIfInBounds (k * 3 + s) (I lo)) 63 (0, 0)) := by rw [hV]; exact rs r2 _ _
      have HV := Lib.hid hV
      have Hb2 := Lib.hid hb2
      have HrV := Lib.hid rV
      clear hV hb2 rV z0 z1 hov r2
      go_wp2_with fail
      go_ret
      refine ⟨by rw [HR.out]; first | rfl | skip, grown_at (Hb1.out.trans (Hb2.out.mono Hb1.out.size)) HV.out, fun cs' hcs' => ?_⟩
      have e0 := (Hb1.out.block mb HMl.out).symm.trans HM.out
      rw [hcs'] at e0
      injection e0 with e0
      injection e0 with e0
      subst e0
      rw [HR.out]
      exact HrV.out
    · have HR : Hid (v = hi) := by show _ = _; rw [Hxg.out, if_pos hka]; rfl
      clear hka
      go_upto_region 6 with (fail)
      have y0 := ovr_cell (show w1.cell? ⟨qd, 0, none⟩ = some (.slice (some ⟨mb, 0, none⟩) n n) by rw [cell_of_row _ _ _ _ _ _ HD.out]; rfl)
      have y1 := ovr_cell (show w1.cell? ⟨qs, 0, none⟩ = some (I (s : Int)) by rw [cell_of_row _ _ _ _ _ _ HS.out]; rfl)
      refine wp_region_seq2 6 (fun _ => none) (by kernel_rfl) (by kernel_rfl) (by kernel_rfl) (by kernel_rfl) (by kernel_rfl) ?_
      simp only [List.take_succ_cons, List.take_zero, List.drop_succ_cons, List.drop_zero]
      repeat (refine wpG_one rfl rfl rfl ?_; intro K hK; go_big_quiet_op; go_big_quiet_on)
      refine wpG_nil (fun w2 hw2 hG => ?_)
      have hb2 := hw2.le
      clear hG hw2
      refine wpTailIn_cons Wd.wide (by intro c h; cases h) ?_
      have r2 := (hb2.block mb (Array.getElem?_eq_some_iff.1 HM.out).1).trans HM.out
      have z1 := frozen_of_row _ _ (k * 3 + s) _ _ r2
      have z0 : w2.cell? ⟨mb, k * 3 + s, none⟩ = cs[k * 3 + s]? := by rw [cell_of_row _ _ _ _ _ _ r2]
      obtain ⟨ov, hov⟩ : ∃ ov, cs[k * 3 + s]? = some ov := ⟨_, Array.getElem?_eq_getElem (by have := HSz.out; omega)⟩
      rw [hov] at z0
      clear y0 y1
      unfold Oper.wp
      go_simp
      generalize hV' : w2.setCell ⟨mb, k * 3 + s, none⟩ _ = V
      have hV := hV'.symm
      clear hV'
      refine wpTailIn_nil ?_
      have rV : V.heap[mb]? = some (.cells (cs.setIfInBounds (k * 3 + s) (I hi)) 63 (0, 0)) := by rw [hV]; exact rs r2 _ _
      have HV := Lib.hid hV
      have Hb2 := Lib.hid hb2
      have HrV := Lib.hid rV
      clear hV hb2 rV z0 z1 hov r2
      go_wp2_with fail
      go_ret
      refine ⟨by rw [HR.out]; first | rfl | skip, grown_at (Hb1.out.trans (Hb2.out.mono Hb1.out.size)) HV.out, fun cs' hcs' => ?_⟩
      have e0 := (Hb1.out.block mb HMl.out).symm.trans HM.out
      rw [hcs'] at e0
      injection e0 with e0
      injection e0 with e0
      subst e0
      rw [HR.out]
      exact HrV.out
  · have e1 : ((k : Int) == a) = false := by simpa using hka
    have HR : Hid (v = p) := by show _ = _; rw [Hxg.out, if_neg hka]
    clear hka
    go_upto_region 6 with (fail)
    have y0 := ovr_cell (show w1.cell? ⟨qd, 0, none⟩ = some (.slice (some ⟨mb, 0, none⟩) n n) by rw [cell_of_row _ _ _ _ _ _ HD.out]; rfl)
    have y1 := ovr_cell (show w1.cell? ⟨qs, 0, none⟩ = some (I (s : Int)) by rw [cell_of_row _ _ _ _ _ _ HS.out]; rfl)
    refine wp_region_seq2 6 (fun _ => none) (by kernel_rfl) (by kernel_rfl) (by kernel_rfl) (by kernel_rfl) (by kernel_rfl) ?_
    simp only [List.take_succ_cons, List.take_zero, List.drop_succ_cons, List.drop_zero]
    repeat (refine wpG_one rfl rfl rfl ?_; intro K hK; go_big_quiet_op; go_big_quiet_on)
    refine wpG_nil (fun w2 hw2 hG => ?_)
    have hb2 := hw2.le
    clear hG hw2
    refine wpTailIn_cons Wd.wide (by intro c h; cases h) ?_
    have r2 := (hb2.block mb (Array.getElem?_eq_some_iff.1 HM.out).1).trans HM.out
    have z1 := frozen_of_row _ _ (k * 3 + s) _ _ r2
    have z0 : w2.cell? ⟨mb, k * 3 + s, none⟩ = cs[k * 3 + s]? := by rw [cell_of_row _ _ _ _ _ _ r2]
    obtain ⟨ov, hov⟩ : ∃ ov, cs[k * 3 + s]? = some ov := ⟨_, Array.getElem?_eq_getElem (by have := HSz.out; omega)⟩
    rw [hov] at z0
    clear y0 y1
    unfold Oper.wp
    go_simp
    generalize hV' : w2.setCell ⟨mb, k * 3 + s, none⟩ _ = V
    have hV := hV'.symm
    clear hV'
    refine wpTailIn_nil ?_
    have rV : V.heap[mb]? = some (.cells (cs.setIfInBounds (k * 3 + s) (I p)) 63 (0, 0)) := by rw [hV]; exact rs r2 _ _
    have HV := Lib.hid hV
    have Hb2 := Lib.hid hb2
    have HrV := Lib.hid rV
    clear hV hb2 rV z0 z1 hov r2
    go_wp2_with fail
    go_ret
    refine ⟨by rw [HR.out]; first | rfl | skip, grown_at (Hb1.out.trans (Hb2.out.mono Hb1.out.size)) HV.out, fun cs' hcs' => ?_⟩
    have e0 := (Hb1.out.block mb HMl.out).symm.trans HM.out
    rw [hcs'] at e0
    injection e0 with e0
    injection e0 with e0
    subst e0
    rw [HR.out]
    exact HrV.out
end Go.Proofs.YtfifdfagikbahaaDoor
