/- Extreme. -/
import Derived.Test.YtnkaoplgmglijaaDoorFo3
import Derived.Test.YtnkaoplgmglijaaDoorXe2
import Derived.Test.YtnkaoplgmglijaaDoorFo4
namespace Go.Proofs.YtnkaoplgmglijaaDoor
open Go.RowKit
attribute [local go_sem] Oper.semAt_some
def xgF (c : Crs) (l : List Stp) (a : Int) (mo : Bool) (k : Nat) (lo hi : Int) : Int := if (k : Int) = a then (if mo then hi else lo) else pkF c (at0 l k).kd lo hi
theorem xgF_mild (c : Crs) (l : List Stp) (a : Int) (mo : Bool) : Mild (xgF c l a mo) := fun k lo hi h1 h2 => by
 unfold xgF pkF
 split
 · split <;> omega
 · split <;> split <;> omega
structure ExIn (W : World) (c : Crs) (A : Option Addr) (d : Nat) (l : List Stp) (B qc qp qb qa qm qd qs mb s : Nat) (a : Int) (mo : Bool) : Prop where
 pk : PkIn W c A d l B qc qp
 b : W.heap[qb]? = some (.cells #[.func (.func 57) #[] #[.pointer (some ⟨qc, 0, none⟩), .pointer (some ⟨qp, 0, none⟩)]] 98 (0, 0))
 a : W.heap[qa]? = some (.cells #[I a] 3 (0, 0))
 m : W.heap[qm]? = some (.cells #[.bool mo] 4 (0, 0))
 d : W.heap[qd]? = some (.cells #[.slice (some ⟨mb, 0, none⟩) l.length l.length] 44 (0, 0))
 s : W.heap[qs]? = some (.cells #[I s] 55 (0, 0))
 row : ∃ cs, W.heap[mb]? = some (.cells cs 43 (0, 0)) ∧ cs.size = l.length * 3
structure ExAt (B qc qp qb qa qm qd qs mb : Nat) : Prop where
 B : B ≤ mb
 qc : qc ≠ mb
 qp : qp ≠ mb
 qb : qb ≠ mb
 qa : qa ≠ mb
 qm : qm ≠ mb
 qd : qd ≠ mb
 qs : qs ≠ mb
theorem PkIn.keep {W W' : World} {c : Crs} {A : Option Addr} {d : Nat} {l : List Stp} {B qc qp : Nat} (h : PkIn W c A d l B qc qp) (hk : ∀ b, b = qc ∨ b = qp ∨ b < B → W'.heap[b]? = W.heap[b]?) (hs : W.heap.size ≤ W'.heap.size) : PkIn W' c A d l B qc qp := by
 have e : ∀ b o, b = qc ∨ b = qp ∨ b < B → W'.cell? ⟨b, o, none⟩ = W.cell? ⟨b, o, none⟩ := fun b o hb => by unfold World.cell?; rw [hk b hb]
 exact ⟨(e _ _ (.inl rfl)).trans h.c0, (e _ _ (.inl rfl)).trans h.c1, (e _ _ (.inl rfl)).trans h.c2, (e _ _ (.inr (.inl rfl))).trans h.s, h.r.keep fun b o hb => by unfold World.cell?; rw [hk b (.inr (.inr hb))], Nat.le_trans h.lt hs⟩
theorem ExIn.keep {W W' : World} {c : Crs} {A : Option Addr} {d : Nat} {l : List Stp} {B qc qp qb qa qm qd qs mb s : Nat} {a : Int} {mo : Bool} (h : ExIn W c A d l B qc qp qb qa qm qd qs mb s a mo) (hk : ∀ b, b = qc ∨ b = qp ∨ b < B ∨ b = qb ∨ b = qa ∨ b = qm ∨ b = qd ∨ b = qs → W'.heap[b]? = W.heap[b]?) (hs : W.heap.size ≤ W'.heap.size) (hr : ∃ cs, W'.heap[mb]? = some (.cells cs 43 (0, 0)) ∧ cs.size = l.length * 3) : ExIn W' c A d l B qc qp qb qa qm qd qs mb s a mo :=
 ⟨h.pk.keep (fun b hb => hk b (by rcases hb with h | h | h <;> simp [h])) hs, (hk _ (by simp)).trans h.b, (hk _ (by simp)).trans h.a, (hk _ (by simp)).trans h.m, (hk _ (by simp)).trans h.d, (hk _ (by simp)).trans h.s, hr⟩
theorem grown_at {A B C : World} {x o : Nat} {v : Value} (h1 : Below A.heap.size A B) (hC : C = B.setCell ⟨x, o, none⟩ v) : A.grownBy C (some x) := by
 subst hC
 exact ⟨h1.os, h1.tape, h1.output, Nat.le_trans h1.size (Nat.le_of_eq (by simp)), fun k hk hne => (heap_setCell_other _ _ _ _ (fun e => hne (by rw [e]))).trans (h1.block k hk)⟩
def ExT (mb s k : Nat) (v : Int) (U V : World) : Prop := U.grownBy V (some mb) ∧ ∀ cs, U.heap[mb]? = some (.cells cs 43 (0, 0)) → V.heap[mb]? = some (.cells (cs.setIfInBounds (k * 3 + s) (I v)) 43 (0, 0))
set_option maxRecDepth 100000 in
set_option maxHeartbeats 2000000 in
theorem ext1_any (c : Crs) (A : Option Addr) (d : Nat) (l : List Stp) (B qc qp qb qa qm qd qs mb s k : Nat) (a lo hi : Int) (mo : Bool) (w : World) (h : ExIn w c A d l B qc qp qb qa qm qd qs mb s a mo) (hk : k < l.length) (hs : s < 3) :
 Calls Tryd.prog 29 #[I (k : Int), I lo, I hi, .pointer (some ⟨qb, 0, none⟩), .pointer (some ⟨qa, 0, none⟩), .pointer (some ⟨qm, 0, none⟩), .pointer (some ⟨qd, 0, none⟩), .pointer (some ⟨qs, 0, none⟩)] w fun e w' => e = .returned (I (xgF c l a mo k lo hi)) ∧ ExT mb s k (xgF c l a mo k lo hi) w w' := by
 have cp : Hid (Calls Tryd.prog 57 #[I k, I lo, I hi, .pointer (some ⟨qc, 0, none⟩), .pointer (some ⟨qp, 0, none⟩)] w fun e w' => e = .returned (I (pkF c (at0 l k).kd lo hi)) ∧ Below w.heap.size w w') := pick1_any c A d l B qc qp k lo hi w h.pk hk
 obtain ⟨cs, hrow, hsz⟩ := h.row
 have hB := h.b
 have HMl : Hid (mb < w.heap.size) := (Array.getElem?_eq_some_iff.1 hrow).1
 have HSz := Lib.hid hsz
 have hxg : xgF c l a mo k lo hi = if (k : Int) = a then (if mo then hi else lo) else pkF c (at0 l k).kd lo hi := rfl
 obtain ⟨v, hv⟩ : ∃ v, xgF c l a mo k lo hi = v := ⟨_, rfl⟩
 obtain ⟨p, hp⟩ : ∃ v, pkF c (at0 l k).kd lo hi = v := ⟨_, rfl⟩
 rw [hv, hp] at hxg
 rw [hv]
 rw [hp] at cp
 have Hxg := Lib.hid hxg
 obtain ⟨n, hn'⟩ : ∃ n, l.length = n := ⟨_, rfl⟩
 have hD := h.d
 rw [hn'] at hD hk hsz HSz
 have d1 : decide ((k : Int) < (n : Int)) = true := decide_eq_true (by omega)
 have d2 : decide (k < n) = true := decide_eq_true hk
 have d3 : decide (0 ≤ (k : Int)) = true := decide_eq_true (by omega)
 have d4 : decide ((s : Int) < 3) = true := decide_eq_true (by omega)
 have d5 : decide (s < 3) = true := decide_eq_true hs
 have d6 : decide (0 ≤ (s : Int)) = true := decide_eq_true (by omega)
 have y0 : w.cell? ⟨qb, 0, none⟩ = some (.func (.func 57) #[] #[.pointer (some ⟨qc, 0, none⟩), .pointer (some ⟨qp, 0, none⟩)]) := by rw [cell_of_row _ _ _ _ _ _ hB]; rfl
 have HIn := Lib.hid h
 have HD0 := Lib.hid hD
 have HM0 := Lib.hid hrow
 clear hxg hv hp hB h hD hrow hn' hsz
 go_enter Tryd.func29, Tryd.ntmps29
 go_wp2_with fail
 refine cp.out.mono ?_
 rintro e w1 ⟨rfl, hb1⟩
 have Hb1 := Lib.hid hb1
 have keep := fun b o (h : w.heap[b]? = some o) => (hb1.block b (Array.getElem?_eq_some_iff.1 h).1).trans h
 have HD := Lib.hid (keep _ _ HD0.out)
 have HS := Lib.hid (keep _ _ HIn.out.s)
 have HM := Lib.hid (keep _ _ HM0.out)
 have ra := keep _ _ HIn.out.a
 have rm := keep _ _ HIn.out.m
 have z0 : w1.cell? ⟨qa, 0, none⟩ = some (I a) := by rw [cell_of_row _ _ _ _ _ _ ra]; rfl
 have z1 : w1.cell? ⟨qm, 0, none⟩ = some (.bool mo) := by rw [cell_of_row _ _ _ _ _ _ rm]; rfl
 clear hb1 keep ra rm y0
 by_cases hka : (k : Int) = a
 · have e1 : ((k : Int) == a) = true := by simpa using hka
   rcases mo with _ | _
   · have HR : Hid (v = lo) := by show _ = _; rw [Hxg.out, if_pos hka]; rfl
     clear hka
     go_upto_region 6 with (fail)
     have y0 := ovr_cell (show w1.cell? ⟨qd, 0, none⟩ = some (.slice (some ⟨mb, 0, none⟩) n n) by rw [cell_of_row _ _ _ _ _ _ HD.out]; rfl)
     have y1 := ovr_cell (show w1.cell? ⟨qs, 0, none⟩ = some (I (s : Int)) by rw [cell_of_row _ _ _ _ _ _ HS.out]; rfl)
     refine wp_region_seq2 6 (fun _ => none) (by kernel_rfl) (by kernel_rfl) (by kernel_rfl) (by kernel_rfl) (by kernel_rfl) ?_
     simp only [List.take_succ_cons, List.take_zero, List.drop_succ_cons, List.drop_zero]
     repeat (refine wpG_one rfl rfl rfl ?_; intro K hK; go_big_quiet_op; go_big_quiet_on)
     refine wpG_nil (fun w2 hw2 hG => ?_)
     have hb2 := hw2.le
     clear hG hw2
     refine wpTailIn_cons Wd.wide (by intro c h; cases h) ?_
     have r2 := (hb2.block mb (Array.getElem?_eq_some_iff.1 HM.out).1).trans HM.out
     have z1 := frozen_of_row _ _ (k * 3 + s) _ _ r2
     have z0 : w2.cell? ⟨mb, k * 3 + s, none⟩ = cs[k * 3 + s]? := by rw [cell_of_row _ _ _ _ _ _ r2]
     obtain ⟨ov, hov⟩ : ∃ ov, cs[k * 3 + s]? = some ov := ⟨_, Array.getElem?_eq_getElem (by have := HSz.out; omega)⟩
     rw [hov] at z0
     clear y0 y1
     unfold Oper.wp
     go_simp
     generalize hV' : w2.setCell ⟨mb, k * 3 + s, none⟩ _ = V
     have hV := hV'.symm
     clear hV'
     refine wpTailIn_nil ?_
     have rV : V.heap[mb]? = some (.cells (cs.setIfInBounds (k * 3 + s) (I lo)) 43 (0, 0)) := by rw [hV]; exact rs r2 _ _
     have HV := Lib.hid hV
     have Hb2 := Lib.hid hb2
     have HrV := Lib.hid rV
     clear hV hb2 rV z0 z1 hov r2
     go_wp2_with fail
     go_ret
     refine ⟨by rw [HR.out]; first | rfl | skip, grown_at (Hb1.out.trans (Hb2.out.mono Hb1.out.size)) HV.out, fun cs' hcs' => ?_⟩
     have e0 := (Hb1.out.block mb HMl.out).symm.trans HM.out
     rw [hcs'] at e0
     injection e0 with e0
     injection e0 with e0
     subst e0
     rw [HR.out]
     exact HrV.out
   · have HR : Hid (v = hi) := by show _ = _; rw [Hxg.out, if_pos hka]; rfl
     clear hka
     go_upto_region 6 with (fail)
     have y0 := ovr_cell (show w1.cell? ⟨qd, 0, none⟩ = some (.slice (some ⟨mb, 0, none⟩) n n) by rw [cell_of_row _ _ _ _ _ _ HD.out]; rfl)
     have y1 := ovr_cell (show w1.cell? ⟨qs, 0, none⟩ = some (I (s : Int)) by rw [cell_of_row _ _ _ _ _ _ HS.out]; rfl)
     refine wp_region_seq2 6 (fun _ => none) (by kernel_rfl) (by kernel_rfl) (by kernel_rfl) (by kernel_rfl) (by kernel_rfl) ?_
     simp only [List.take_succ_cons, List.take_zero, List.drop_succ_cons, List.drop_zero]
     repeat (refine wpG_one rfl rfl rfl ?_; intro K hK; go_big_quiet_op; go_big_quiet_on)
     refine wpG_nil (fun w2 hw2 hG => ?_)
     have hb2 := hw2.le
     clear hG hw2
     refine wpTailIn_cons Wd.wide (by intro c h; cases h) ?_
     have r2 := (hb2.block mb (Array.getElem?_eq_some_iff.1 HM.out).1).trans HM.out
     have z1 := frozen_of_row _ _ (k * 3 + s) _ _ r2
     have z0 : w2.cell? ⟨mb, k * 3 + s, none⟩ = cs[k * 3 + s]? := by rw [cell_of_row _ _ _ _ _ _ r2]
     obtain ⟨ov, hov⟩ : ∃ ov, cs[k * 3 + s]? = some ov := ⟨_, Array.getElem?_eq_getElem (by have := HSz.out; omega)⟩
     rw [hov] at z0
     clear y0 y1
     unfold Oper.wp
     go_simp
     generalize hV' : w2.setCell ⟨mb, k * 3 + s, none⟩ _ = V
     have hV := hV'.symm
     clear hV'
     refine wpTailIn_nil ?_
     have rV : V.heap[mb]? = some (.cells (cs.setIfInBounds (k * 3 + s) (I hi)) 43 (0, 0)) := by rw [hV]; exact rs r2 _ _
     have HV := Lib.hid hV
     have Hb2 := Lib.hid hb2
     have HrV := Lib.hid rV
     clear hV hb2 rV z0 z1 hov r2
     go_wp2_with fail
     go_ret
     refine ⟨by rw [HR.out]; first | rfl | skip, grown_at (Hb1.out.trans (Hb2.out.mono Hb1.out.size)) HV.out, fun cs' hcs' => ?_⟩
     have e0 := (Hb1.out.block mb HMl.out).symm.trans HM.out
     rw [hcs'] at e0
     injection e0 with e0
     injection e0 with e0
     subst e0
     rw [HR.out]
     exact HrV.out
 · have e1 : ((k : Int) == a) = false := by simpa using hka
   have HR : Hid (v = p) := by show _ = _; rw [Hxg.out, if_neg hka]
   clear hka
   go_upto_region 6 with (fail)
   have y0 := ovr_cell (show w1.cell? ⟨qd, 0, none⟩ = some (.slice (some ⟨mb, 0, none⟩) n n) by rw [cell_of_row _ _ _ _ _ _ HD.out]; rfl)
   have y1 := ovr_cell (show w1.cell? ⟨qs, 0, none⟩ = some (I (s : Int)) by rw [cell_of_row _ _ _ _ _ _ HS.out]; rfl)
   refine wp_region_seq2 6 (fun _ => none) (by kernel_rfl) (by kernel_rfl) (by kernel_rfl) (by kernel_rfl) (by kernel_rfl) ?_
   simp only [List.take_succ_cons, List.take_zero, List.drop_succ_cons, List.drop_zero]
   repeat (refine wpG_one rfl rfl rfl ?_; intro K hK; go_big_quiet_op; go_big_quiet_on)
   refine wpG_nil (fun w2 hw2 hG => ?_)
   have hb2 := hw2.le
   clear hG hw2
   refine wpTailIn_cons Wd.wide (by intro c h; cases h) ?_
   have r2 := (hb2.block mb (Array.getElem?_eq_some_iff.1 HM.out).1).trans HM.out
   have z1 := frozen_of_row _ _ (k * 3 + s) _ _ r2
   have z0 : w2.cell? ⟨mb, k * 3 + s, none⟩ = cs[k * 3 + s]? := by rw [cell_of_row _ _ _ _ _ _ r2]
   obtain ⟨ov, hov⟩ : ∃ ov, cs[k * 3 + s]? = some ov := ⟨_, Array.getElem?_eq_getElem (by have := HSz.out; omega)⟩
   rw [hov] at z0
   clear y0 y1
   unfold Oper.wp
   go_simp
   generalize hV' : w2.setCell ⟨mb, k * 3 + s, none⟩ _ = V
   have hV := hV'.symm
   clear hV'
   refine wpTailIn_nil ?_
   have rV : V.heap[mb]? = some (.cells (cs.setIfInBounds (k * 3 + s) (I p)) 43 (0, 0)) := by rw [hV]; exact rs r2 _ _
   have HV := Lib.hid hV
   have Hb2 := Lib.hid hb2
   have HrV := Lib.hid rV
   clear hV hb2 rV z0 z1 hov r2
   go_wp2_with fail
   go_ret
   refine ⟨by rw [HR.out]; first | rfl | skip, grown_at (Hb1.out.trans (Hb2.out.mono Hb1.out.size)) HV.out, fun cs' hcs' => ?_⟩
   have e0 := (Hb1.out.block mb HMl.out).symm.trans HM.out
   rw [hcs'] at e0
   injection e0 with e0
   injection e0 with e0
   subst e0
   rw [HR.out]
   exact HrV.out
end Go.Proofs.YtnkaoplgmglijaaDoor
namespace Go.Proofs.YtnkaoplgmglijaaDoor
open Go.RowKit
attribute [local go_sem] Oper.semAt_some
def atK (l : List Stp) (sl : Int) : Nat → Int
 | 0 => -1
 | k + 1 => if (at0 l k).kd = 1 ∧ (fzK l k : Int) = sl then (k : Int) else atK l sl k
theorem atK_bd (l : List Stp) (sl : Int) : ∀ k, -1 ≤ atK l sl k ∧ atK l sl k < k
 | 0 => by show -1 ≤ (-1 : Int) ∧ (-1 : Int) < _; omega
 | k + 1 => by
   have ih := atK_bd l sl k
   unfold atK
   split <;> omega
def crsX (mo : Bool) : Crs := if mo then crsRich else crsPoor
def xeE (m : Mlt) (l : List Stp) (sl s : Int) : Int := if ckF m l ≠ 0 then ckF m l else if atK l sl l.length < 0 ∨ spB s = false then 7 else 0
def xeS (m : Mlt) (mo : Bool) (j : Nat) : Int := stF (crsX mo) (m.ct (j * 2)) (m.ct (j * 2 + 1))
def xeV (m : Mlt) (l : List Stp) (a : Int) (mo : Bool) (j k : Nat) : Int := xgF (crsX mo) l a mo k (chF (at0 l k) j (wkG m (xgF (crsX mo) l a mo) j (xeS m mo j) l k) (msK m l k)).1 (chF (at0 l k) j (wkG m (xgF (crsX mo) l a mo) j (xeS m mo j) l k) (msK m l k)).2
def mdA (n : Nat) (V : Nat → Nat → Int) (s k : Nat) : Array Value := ((List.range (n * 3)).map fun t => I (if t % 3 < s ∨ (t % 3 = s ∧ t / 3 < k) then V (t % 3) (t / 3) else 0)).toArray
theorem mdA_size (n : Nat) (V : Nat → Nat → Int) (s k : Nat) : (mdA n V s k).size = n * 3 := by simp [mdA]
theorem mdA_at {n : Nat} {V : Nat → Nat → Int} {s k t : Nat} (ht : t < n * 3) : (mdA n V s k)[t]? = some (I (if t % 3 < s ∨ (t % 3 = s ∧ t / 3 < k) then V (t % 3) (t / 3) else 0)) := by
 unfold mdA
 simp [ht]
theorem mdA_set {n : Nat} {V : Nat → Nat → Int} {s k : Nat} (hs : s < 3) : (mdA n V s k).setIfInBounds (k * 3 + s) (I (V s k)) = mdA n V s (k + 1) := by
 apply Array.ext_getElem?
 intro t
 rw [Array.getElem?_setIfInBounds, mdA_size]
 by_cases ht : t < n * 3
 · rw [mdA_at ht, mdA_at ht]
   by_cases e : k * 3 + s = t
   · rw [if_pos e, if_pos (by omega)]
     have h1 : t % 3 = s := by omega
     have h2 : t / 3 = k := by omega
     rw [h1, h2, if_pos (.inr ⟨rfl, by omega⟩)]
   · rw [if_neg e]
     by_cases h : t % 3 < s ∨ (t % 3 = s ∧ t / 3 < k)
     · rw [if_pos h, if_pos (by omega)]
     · rw [if_neg h, if_neg (by omega)]
 · rw [Array.getElem?_eq_none (by rw [mdA_size]; omega), Array.getElem?_eq_none (by rw [mdA_size]; omega)]
   split
   · rw [if_neg (by omega)]
   · rfl
theorem mdA_full (n : Nat) (V : Nat → Nat → Int) (s : Nat) : mdA n V s n = mdA n V (s + 1) 0 := by
 apply Array.ext_getElem?
 intro t
 by_cases ht : t < n * 3
 · rw [mdA_at ht, mdA_at ht]
   by_cases h : t % 3 < s ∨ (t % 3 = s ∧ t / 3 < n)
   · rw [if_pos h, if_pos (by omega)]
   · rw [if_neg h, if_neg (by omega)]
 · rw [Array.getElem?_eq_none (by rw [mdA_size]; omega), Array.getElem?_eq_none (by rw [mdA_size]; omega)]
set_option maxRecDepth 100000 in
theorem make_cnts (W : World) (n : Nat) (V : Nat → Nat → Int) (hn : n ≤ 200) : (Instr.makeSlice 44 (.int .i64 (n : Int)) (.int .i64 (n : Int))).run Tryd.prog W = .ok (.slice (some ⟨W.heap.size, 0, none⟩) n n) (W.alloc (.cells (mdA n V 0 0) 43)) := by
 obtain ⟨i0, hi0, iz0, iz1, iz2⟩ := info_parts cnt_info
 have h := run_make (P := Tryd.prog) W 44 43 i0 (.agg #[I 0, I 0, I 0]) Tryd.underlying44 hi0 iz0 .i64 .i64 (n : Int) (n : Int) (by omega) (by omega) (by rw [iz2]; omega) (by omega)
 rw [h, iz1]
 simp only [Int.toNat_natCast]
 congr 3
 apply Array.ext_getElem?
 intro t
 by_cases ht : t < n * 3
 · rw [mdA_at ht, if_neg (by omega)]
   have h3 : t % 3 < 3 := Nat.mod_lt _ (by omega)
   simp [madeCells, ht, Value.cells]
   match t % 3, h3 with
   | 0, _ => rfl
   | 1, _ => rfl
   | 2, _ => rfl
 · rw [Array.getElem?_eq_none (by simp [madeCells]; omega), Array.getElem?_eq_none (by rw [mdA_size]; omega)]
theorem results_cell_cell_tmp {P : Program} {fn : Func} {p q t2 : Tmp} {ty ty2 : TypeId} (h : fn.results = #[.cell p ty, .cell q ty2, .tmp t2]) (tmps : Array Value) (w : World) (g : Nat) (t : TypeId) (cs : Array Value) (fr : Nat × Nat) (d : TypeDesc)
 (hp : tmps.getD p undef = .pointer (some ⟨g, 0, none⟩)) (hg : w.heap[g]? = some (.cells cs t fr))
 (hu : P.underlying ty = some d) (hd : (match d with | .struct _ | .array _ _ => true | _ => false) = true) (hi : (P.info? ty).map (·.size) = some cs.size)
 (v : Value) (hv : (loadVar ty2 ⟨g + 1, 0, none⟩).run P w = .ok v w) (hq : tmps.getD q undef = .pointer (some ⟨g + 1, 0, none⟩)) :
 (results fn tmps).run P w = .ok (.tuple #[.agg cs, v, tmps.getD t2 undef]) w := by
 have hp' : tmps[p]?.getD undef = .pointer (some ⟨g, 0, none⟩) := by simpa using hp
 have hq' : tmps[q]?.getD undef = .pointer (some ⟨g + 1, 0, none⟩) := by simpa using hq
 simp [results, h, hp', hq', hv, asAddr, run_loadVar_row w g t ty cs fr d hg hu hd hi]
theorem load_sl {W : World} {q : Nat} {v : Value} (h : W.heap[q]? = some (.cells #[v] 44 (0, 0))) : (loadVar 44 ⟨q, 0, none⟩).run Tryd.prog W = .ok v W := by
 have z : W.cell? ⟨q, 0, none⟩ = some v := by rw [cell_of_row _ _ _ _ _ _ h]; rfl
 go_simp
def RetXe (m : Mlt) (l : List Stp) (sl s : Int) (mo : Bool) (w : World) (e : Ending) (w' : World) : Prop :=
 Below w.heap.size w w' ∧ ((xeE m l sl s ≠ 0 ∧ e = .returned (.tuple #[.agg #[I 0, I 0, I 0], .slice none 0 0, I (xeE m l sl s)])) ∨
    (xeE m l sl s = 0 ∧ ∃ mb, e = .returned (.tuple #[.agg (cnArr (xeS m mo)), .slice (some ⟨mb, 0, none⟩) l.length l.length, I 0]) ∧ w.heap.size ≤ mb ∧ w'.heap[mb]? = some (.cells (mdA l.length (xeV m l (atK l sl l.length) mo) 3 0) 43 (0, 0))))
def xsE (m : Mlt) (mo : Bool) (s j : Nat) : Int := if j < s then xeS m mo j else 0
theorem xsE_set {m : Mlt} {mo : Bool} {s : Nat} {dv : Int} (hs : s < 3) (h : xeS m mo s = dv) : (#[I (xsE m mo s 0), I (xsE m mo s 1), I (xsE m mo s 2)] : Array Value).setIfInBounds s (I dv) = #[I (xsE m mo (s + 1) 0), I (xsE m mo (s + 1) 1), I (xsE m mo (s + 1) 2)] := by
 subst h
 match s, hs with
 | 0, _ => simp [xsE]
 | 1, _ => simp [xsE]
 | 2, _ => simp [xsE]
end Go.Proofs.YtnkaoplgmglijaaDoor
