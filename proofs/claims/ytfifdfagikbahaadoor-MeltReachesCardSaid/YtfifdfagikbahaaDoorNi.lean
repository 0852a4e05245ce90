/- The contract of Course of the reference. -/
import Derived.Test.YtfifdfagikbahaaDoorNh
namespace Go.Proofs.YtfifdfagikbahaaDoor
open Go.RowKit
attribute [local go_sem] Oper.semAt_some
theorem own_grown {w w' : World} {base sz n : Nat} {e e' : TypeId} {v : Value} {xs : List Value} {row : Option Nat} (h : w.ownsRow base e sz v n xs) (hg : w.grownBy w' row) (hr : ∀ g, row = some g → ∃ cs, w.heap[g]? = some (.cells cs e' (0, 0))) (hne : e' ≠ e) : w'.ownsRow base e sz v n xs := by
  obtain ⟨h1, h2⟩ := h
  refine ⟨h1, ?_⟩
  rcases h2 with h2 | ⟨g, cap, cur, hv, hb, hh, r⟩
  · exact .inl h2
  · refine .inr ⟨g, cap, cur, hv, hb, (hg.block g (Array.getElem?_eq_some_iff.1 hh).1 fun e2 => ?_).trans hh, r⟩
    obtain ⟨cs, hc⟩ := hr g e2.symm
    rw [hh] at hc
    injection hc with hc
    injection hc with _ ht _
    exact hne ht.symm
theorem own_row {w : World} {base sz n : Nat} {e : TypeId} {v : Value} {xs : List Value} (h : w.ownsRow base e sz v n xs) : ∀ g, v.ownBlock = some g → base ≤ g ∧ ∃ cs, w.heap[g]? = some (.cells cs e (0, 0)) := by
  intro g hg
  rcases h.2 with ⟨rfl, _⟩ | ⟨q, cap, cur, rfl, hb, hh, _⟩
  · cases hg
  · cases hg; exact ⟨hb, _, hh⟩
theorem SoC.grown {e e' : TypeId} {sz B n : Nat} {l : List Value} {v : Value} {w w' : World} {row : Option Nat} (h : SoC e sz B n l v w) (hg : w.grownBy w' row) (hr : ∀ g, row = some g → ∃ cs, w.heap[g]? = some (.cells cs e' (0, 0))) (hne : e' ≠ e) : SoC e sz B n l v w' := h.imp id fun ho => own_grown ho hg hr hne
/-- An append to a list under way: what changed. -/
theorem run_app_soc_g {P : Program} (w : World) (t ty : TypeId)
    (e : TypeId) (i : TypeInfo) (z : Value) (sz bytes : Nat) (h1 : P.underlying t = some (.slice e)) (h2 : P.info? e = some i) (h3 : i.zero = some z) (h4 : i.size = sz) (h5 : i.bytes = bytes) (h6 : z.cells.size = sz) (h7 : 0 < sz)
    {B n : Nat} {olds : List Value} {v : Value} (hso : SoC e sz B n olds v w) (ad : Addr) (c : Nat) (news : List Value) (hnl : news.length = sz)
    (hc : ∀ j u, news[j]? = some u → w.cell? (ad.add j) = some u) (h1c : ∀ u ∈ news, u.oneCell' = true) (hB : B ≤ w.heap.size) (hl : n ≤ 1000000) (hb : bytes ≤ 1000) :
    ∃ v' w' row, (Builtin.append_ #[t, t] ty #[v, .slice (some ad) 1 c]).run P w = .ok v' w' ∧ w'.ownsRow B e sz v' (n + 1) (olds ++ news) ∧ w.grownBy w' row ∧ (∀ g, row = some g → B ≤ g ∧ ∃ cs, w.heap[g]? = some (.cells cs e (0, 0))) := by
  have hm : (n + 1) * bytes ≤ 1000001 * 1000 := Nat.mul_le_mul (by omega) hb
  rcases hso with ⟨rfl, rfl, b, rfl⟩ | ho
  · obtain ⟨v', w', hrun, hown, hgr⟩ := run_append_arg_grows (P := P) w t ty e i z sz bytes h1 h2 h3 h4 h5 h6 h7 ⟨b, 0, none⟩ 0 0 [] (by simp) (fun j u hu => by simp at hu) ad 1 c news (by rw [hnl, Nat.one_mul]) hc (by omega) (by unfold maxLen; omega) (by simp only [Nat.zero_add] at hm ⊢; omega)
    refine ⟨v', w', none, hrun, ?_, hgr, fun g hg => by cases hg⟩
    have := own_base hown hB
    simpa using this
  · obtain ⟨v', w', hrun, hown, hgr, _⟩ := run_append_own (P := P) w B t ty e i z sz bytes h1 h2 h3 h4 h5 h6 h7 v n olds ho ad 1 c news (by rw [hnl, Nat.one_mul]) hc h1c (by unfold maxLen; omega) (by omega) hB
    exact ⟨v', w', _, hrun, hown, hgr, own_row ho⟩
theorem wpList_app_soc_g {P : Program} {ops : Array Oper} {rest : List Oper} {o : Oper} {a : Act} {w : World} {Q : Exit → Act → World → Prop} (hg : o.guard = none) (s x : Operand) (t : TypeId) (ho : o.op = .call { callee := .builtin .append, args := #[s, x], argTypes := #[t, t] })
    (e : TypeId) (i : TypeInfo) (z : Value) (sz bytes : Nat) (h1 : P.underlying t = some (.slice e)) (h2 : P.info? e = some i) (h3 : i.zero = some z) (h4 : i.size = sz) (h5 : i.bytes = bytes) (h6 : z.cells.size = sz) (h7 : 0 < sz)
    (B n : Nat) (olds : List Value) (v : Value) (hs : a.eval s = v) (hso : SoC e sz B n olds v w) (ad : Addr) (c : Nat) (news : List Value) (hx : a.eval x = .slice (some ad) 1 c) (hnl : news.length = sz)
    (hc : ∀ j u, news[j]? = some u → w.cell? (ad.add j) = some u) (h1c : ∀ u ∈ news, u.oneCell' = true) (hB : B ≤ w.heap.size) (hl : n ≤ 1000000) (hb : bytes ≤ 1000)
    (h : ∀ v' w' row, w'.ownsRow B e sz v' (n + 1) (olds ++ news) → w.grownBy w' row → (∀ g, row = some g → B ≤ g ∧ ∃ cs, w.heap[g]? = some (.cells cs e (0, 0))) → wpList P ops Q rest (a.put o.dst v') w') : wpList P ops Q (o :: rest) a w := by
  refine wpList_plain hg fun K hK => ?_
  obtain ⟨v', w', row, hr, h8, h9, h10⟩ := run_app_soc_g (P := P) w t o.type e i z sz bytes h1 h2 h3 h4 h5 h6 h7 hso ad c news hnl hc h1c hB hl hb
  unfold Oper.wp execOp
  simp only [ho, resolve, invoke, builtin, Sem.run_bind, Sem.run_pure, Result.andThen_ok, List.map_toArray, List.map_cons, List.map_nil, hs, hx, hr]
  exact hK _ _ (h v' w' row h8 h9 h10)
theorem own_lit {w : World} {base b : Nat} {e : TypeId} {v : Value} {t : TypeId} (h : w.heap[b]? = some (.cells #[v] t (0, 0))) (ht : t = e) (hb : base ≤ b) : w.ownsRow base e 1 (.slice (some ⟨b, 0, none⟩) 1 1) 1 [v] := by
  subst ht
  exact ⟨rfl, .inr ⟨b, 1, #[v], rfl, hb, h, Nat.le_refl _, by unfold maxLen; omega, rfl, rfl⟩⟩
theorem two_info : (Tryd.prog.info? 108).map (fun i => (i.zero, i.size, i.bytes)) = some (some (.agg #[I 0, I 0]), 2, 16) := by kernel_rfl
/-- What is there after k steps, and the choices of step k, as cells. -/
abbrev rU (m : Mlt) (c : Crs) (s : Nat) (st : Int) (l : List Stp) (k _ : Nat) : Value := I (wkD m c s st l k)
abbrev rC (m : Mlt) (c : Crs) (s : Nat) (st : Int) (l : List Stp) (k j : Nat) : Value := if j = 0 then I (chF (at0 l k) s (wkD m c s st l k) (msK m l k)).1 else I (chF (at0 l k) s (wkD m c s st l k) (msK m l k)).2
/-- What Course tells: two lists of its own, from block B on. -/
def CrsF (m : Mlt) (c : Crs) (s : Nat) (st : Int) (l : List Stp) (B : Nat) (u : Value) (w : World) : Prop := ∃ v1 v2, u = .tuple #[v1, v2] ∧ w.ownsRow B 3 1 v1 (l.length + 1) (flat 1 (rU m c s st l) (l.length + 1)) ∧ SoC 108 2 B l.length (flat 2 (rC m c s st l) l.length) v2 w
set_option maxRecDepth 100000 in
set_option maxHeartbeats 4000000 in
theorem course_any (m : Mlt) (c : Crs) (s : Nat) (l : List Stp) (A : Option Addr) (d B : Nat) (w : World) (hs : s < 3) (hl : l.length ≤ 200) (hM : isM m = true) (hE : ∀ j, j < l.length → stE m l j = 0) (hB : B ≤ w.heap.size) (hx : Rd w B 8 A l.length (rT l)) :
    Calls Tryd.prog 46 #[.agg (mltArr m), .slice A l.length d, I s, .agg (crsArr c)] w fun e w' => ∃ u, e = .returned u ∧ Below w.heap.size w w' ∧ CrsF m c s (stF c (m.ct (s * 2)) (m.ct (s * 2 + 1))) l w.heap.size u w' := by
  obtain ⟨W, hW⟩ : ∃ W, W = (w.alloc (.cells (mltArr m) 27)).alloc (.cells (crsArr c) 107) := ⟨_, rfl⟩
  have hb0 : Below w.heap.size w W := by rw [hW]; exact ((Below.refl _ _).alloc (Nat.le_refl _) _).alloc (by simp) _
  have r0 : W.heap[w.heap.size]? = some (.cells (mltArr m) 27 (0, 0)) := by rw [hW]; exact heap_before (heap_last _ _ _ rfl)
  have r1 : W.heap[w.heap.size + 1]? = some (.cells (crsArr c) 107 (0, 0)) := by rw [hW]; exact heap_last _ _ _ (by simp)
  have sW : w.heap.size + 2 = W.heap.size := by rw [hW]; simp
  have HW := Lib.hid hW
  have Hb0 := Lib.hid hb0
  have Hr0 := Lib.hid r0
  have Hr1 := Lib.hid r1
  have HX := Lib.hid hx
  have HE := Lib.hid hE
  have HM := Lib.hid hM
  obtain ⟨l0, l1⟩ := ml_lo hs r0
  have y0 := ovr_cell l0
  have y1 := ovr_cell l1
  have y2 := ovr_cell (show W.cell? ⟨w.heap.size, 0, none⟩ = some (I m.ms) by rw [cell_of_row _ _ _ _ _ _ r0]; rfl)
  have y3 := ovr_cell (show W.cell? ⟨w.heap.size + 1, 0, none⟩ = some (.bool c.added) by rw [cell_of_row _ _ _ _ _ _ r1]; rfl)
  have hss : decide ((s : Int) < 3) = true := decide_eq_true (by omega)
  have hsn : decide (s < 3) = true := decide_eq_true hs
  have hs0 : decide (0 ≤ (s : Int)) = true := decide_eq_true (by omega)
  obtain ⟨st, hst⟩ : ∃ q, stF c (m.ct (s * 2)) (m.ct (s * 2 + 1)) = q := ⟨_, rfl⟩
  have Hstb : Hid (0 ≤ st ∧ st ≤ 1000000000000) := by
    have hb : bdB m.ct 1000000000000 = true := by unfold isM at hM; rw [Bool.and_eq_true] at hM; exact hM.2
    have := bdB_at hb hs
    show 0 ≤ st ∧ _
    rw [← hst]
    unfold stF
    split
    · exact ⟨by omega, this.2.2⟩
    · exact ⟨this.1, by omega⟩
  have Hst : Hid (st = if c.added then m.ct (s * 2 + 1) else m.ct (s * 2)) := by show _ = _; rw [← hst]; rfl
  rw [hst]
  clear hW hb0 r0 r1 hx hE hM l0 l1 hst
  go_enter Tryd.func46, Tryd.ntmps46
  go_upto_region 1 with (fail)
  rw [← HW.out]
  refine wp_region_below_lit (by kernel_rfl) (by kernel_rfl) ?_
  repeat (go_big_quiet_step (fail))
  refine wpQuiet_nil ?_
  intro w1 hb1
  have R0 := (hb1.block w.heap.size (by omega)).trans Hr0.out
  have R1 := (hb1.block (w.heap.size + 1) (by omega)).trans Hr1.out
  have HB1 : Hid (Below w.heap.size w w1) := Hb0.out.trans (hb1.mono (by omega))
  have hs1 := hb1.size
  obtain ⟨l0, l1⟩ := ml_lo hs R0
  have z3 : w1.cell? ⟨w.heap.size + 1, 0, none⟩ = some (.bool c.added) := by rw [cell_of_row _ _ _ _ _ _ R1]; rfl
  have HR1 := Lib.hid R1
  clear hb1 y0 y1 y2 y3 R0 R1 HW Hr0 Hr1
  obtain ⟨ca, hca⟩ : ∃ b, c.added = b := ⟨_, rfl⟩
  rw [hca] at z3
  have Hst : Hid (st = if ca then m.ct (s * 2 + 1) else m.ct (s * 2)) := by rw [← hca]; exact Hst.out
  clear hca
  obtain ⟨i1, hi1, iz1, is1, ib1⟩ := info_parts int_info
  obtain ⟨i2, hi2, iz2, is2, ib2⟩ := info_parts two_info
  rcases ca with _ | _
  · have hst : m.ct (s * 2) = st := by rw [Hst.out]; rfl
    rw [hst] at l0 ⊢
    clear hst Hst
    go_wp2_with fail
    refine name_w fun V hV => ?_
    obtain ⟨z, hz⟩ : ∃ q, w1.heap.size = q := ⟨_, rfl⟩
    rw [hz]
    have bV : Below w1.heap.size w1 V := by rw [hV]; exact ((Below.refl _ _).alloc (Nat.le_refl _) _).alloc (by simp) _
    have rV : V.heap[z]? = some (.cells #[I st] 3 (0, 0)) := by rw [hV]; exact heap_before (heap_last _ _ _ hz.symm)
    have sV : V.heap.size = z + 2 := by rw [hV]; simp [hz]
    have HbV := Lib.hid bV
    have own0 : V.ownsRow z 3 1 (.slice (some ⟨z, 0, none⟩) 1 1) 1 [I st] := own_lit rV rfl (Nat.le_refl _)
    have Own0 := Lib.hid own0
    have soc0 : SoC 108 2 z 0 (flat 2 (rC m c s st l) 0) (.slice (some ⟨z + 1, 0, none⟩) 0 0) V := .inl ⟨rfl, rfl, _, rfl⟩
    have Soc0 := Lib.hid soc0
    have HzV : z ≤ V.heap.size := by omega
    clear bV rV hV own0 soc0 sV l0 l1 z3
    go_loopw [10, 11, 12, 13, 14] (fun dv mv v1 v2 i wr => ∃ k : Nat, k ≤ l.length ∧ i = .int .i64 k ∧ dv = I (wkD m c s st l k) ∧ mv = I (msK m l k) ∧ wr.ownsRow z 3 1 v1 (k + 1) (flat 1 (rU m c s st l) (k + 1)) ∧ SoC 108 2 z k (flat 2 (rC m c s st l) k) v2 wr ∧ Below w1.heap.size w1 wr) (fun _ _ _ _ i _ => l.length - (intOf i).toNat)
    case atStart => exact ⟨0, by omega, rfl, rfl, rfl, Own0.out, Soc0.out, HbV.out⟩
    case round =>
      rename World => X0
      obtain ⟨k, hk, rfl, rfl, rfl, hown, hsoc, hbw⟩ := hrel
      have Hown := Lib.hid hown
      have Hsoc := Lib.hid hsoc
      have Hbw := Lib.hid hbw
      have LX : Hid (Below w.heap.size w X0) := HB1.out.trans (hbw.mono HB1.out.size)
      have hszX := hbw.size
      clear hown hsoc hbw
      by_cases hlt : k < l.length
      · have hki : decide ((k : Int) < (l.length : Int)) = true := decide_eq_true (by omega)
        have hkn : decide (k < l.length) = true := decide_eq_true hlt
        obtain ⟨b, o, rfl, hbB, x0, x1, x2, x3, x4, x5, x6, x7⟩ := (HX.out.below (LX.out.mono hB)).stp hlt
        have hms := msK_bd HM.out k fun j hj => HE.out j (by omega)
        have hms1 := msK_bd HM.out (k + 1) fun j hj => HE.out j (by omega)
        have hwd := wk_bd (m := m) (c := c) (l := l) hs Hstb.out k fun j hj => HE.out j (by omega)
        have hwd1 := wk_bd (m := m) (c := c) (l := l) hs Hstb.out (k + 1) fun j hj => HE.out j (by omega)
        have hxS := stE_isS (HE.out k hlt)
        have hgr : msK m l (k + 1) = grF (msK m l k) (at0 l k) := rfl
        have hxle : (at0 l k).kd = 1 → (at0 l k).ms ≤ msK m l k := fun h1 => by
          rw [hgr, grF, if_pos h1] at hms1
          omega
        have hcb := ch_bd (mass := msK m l k) hxS hs hwd.1
        have hdb : 0 ≤ wkD m c s st l k ∧ wkD m c s st l k ≤ 300000000000000 := by omega
        have hcr := cr_ch hxS hs hdb hms hxle
        have hch : Hid (∀ w', Calls Tryd.prog 60 #[.agg (stpArr (at0 l k)), I s, I (wkD m c s st l k), I (msK m l k)] w' fun e w'' => e = .returned (.tuple #[I (chF (at0 l k) s (wkD m c s st l k) (msK m l k)).1, I (chF (at0 l k) s (wkD m c s st l k) (msK m l k)).2]) ∧ Below w'.heap.size w' w'') := fun w' => by
          rw [← hcr]; exact refChoices_any _ _ _ _ w' hxS hs hdb hms hxle
        have hpo := pk_or c (at0 l k).kd (chF (at0 l k) s (wkD m c s st l k) (msK m l k)).1 (chF (at0 l k) s (wkD m c s st l k) (msK m l k)).2
        have hpb : 0 ≤ pkF c (at0 l k).kd (chF (at0 l k) s (wkD m c s st l k) (msK m l k)).1 (chF (at0 l k) s (wkD m c s st l k) (msK m l k)).2 ∧ pkF c (at0 l k).kd (chF (at0 l k) s (wkD m c s st l k) (msK m l k)).1 (chF (at0 l k) s (wkD m c s st l k) (msK m l k)).2 ≤ 1000000000000000 := by
          by_cases h23 : (at0 l k).kd = 2 ∨ (at0 l k).kd = 3
          · have := hcb.2.2 h23; have := hcb.1; rcases hpo with h | h <;> rw [h] <;> omega
          · have := hcb.2.1 h23; have := hcb.1; rcases hpo with h | h <;> rw [h] <;> omega
        have hpk : Hid (∀ w', Calls Tryd.prog 74 #[.agg (crsArr c), .agg (stpArr (at0 l k)), I (chF (at0 l k) s (wkD m c s st l k) (msK m l k)).1, I (chF (at0 l k) s (wkD m c s st l k) (msK m l k)).2] w' fun e w'' => e = .returned (I (pkF c (at0 l k).kd (chF (at0 l k) s (wkD m c s st l k) (msK m l k)).1 (chF (at0 l k) s (wkD m c s st l k) (msK m l k)).2)) ∧ Below w'.heap.size w' w'') := fun w' => choose_any c (at0 l k) _ _ w'
        have haf : Hid (∀ w', Calls Tryd.prog 61 #[.agg (stpArr (at0 l k)), I (wkD m c s st l k), I (pkF c (at0 l k).kd (chF (at0 l k) s (wkD m c s st l k) (msK m l k)).1 (chF (at0 l k) s (wkD m c s st l k) (msK m l k)).2)] w' fun e w'' => e = .returned (I (wkD m c s st l (k + 1))) ∧ Below w'.heap.size w' w'') := fun w' => after_any (at0 l k) _ _ w' (by omega) (by omega)
        have hxm := isS_ms hxS
        have hmm : Hid (∀ w', Calls Tryd.prog 45 #[I (msK m l k), .agg (stpArr (at0 l k))] w' fun e w'' => e = .returned (I (msK m l (k + 1))) ∧ Below w'.heap.size w' w'') := fun w' => mass_any (msK m l k) (at0 l k) w' (by omega) (fun h => by have := hxm h; omega)
        have HfU : Hid (flat 1 (rU m c s st l) (k + 1 + 1) = flat 1 (rU m c s st l) (k + 1) ++ [I (wkD m c s st l (k + 1))]) := flat_succ 1 (by decide) _ _
        have HfC : Hid (flat 2 (rC m c s st l) (k + 1) = flat 2 (rC m c s st l) k ++ [I (chF (at0 l k) s (wkD m c s st l k) (msK m l k)).1, I (chF (at0 l k) s (wkD m c s st l k) (msK m l k)).2]) := flat_succ 2 (by decide) _ _
        obtain ⟨lo, hlo⟩ : ∃ q, (chF (at0 l k) s (wkD m c s st l k) (msK m l k)).1 = q := ⟨_, rfl⟩
        obtain ⟨hi, hhi⟩ : ∃ q, (chF (at0 l k) s (wkD m c s st l k) (msK m l k)).2 = q := ⟨_, rfl⟩
        simp only [hlo, hhi] at hch hpk haf HfC
        obtain ⟨g, hg⟩ : ∃ q, pkF c (at0 l k).kd lo hi = q := ⟨_, rfl⟩
        simp only [hg] at hpk haf
        obtain ⟨x, hx⟩ : ∃ x, at0 l k = x := ⟨_, rfl⟩
        have Hxx := Lib.hid hx
        obtain ⟨dk, hdk⟩ : ∃ q, wkD m c s st l k = q := ⟨_, rfl⟩
        obtain ⟨mk, hmk⟩ : ∃ q, msK m l k = q := ⟨_, rfl⟩
        obtain ⟨dn, hdn⟩ : ∃ q, wkD m c s st l (k + 1) = q := ⟨_, rfl⟩
        obtain ⟨mn, hmn⟩ : ∃ q, msK m l (k + 1) = q := ⟨_, rfl⟩
        simp only [hx, hdk, hmk, hdn, hmn] at hch hpk haf hmm HfU HfC
        rw [hx] at x0 x1 x2 x3 x4 x5 x6 x7
        rw [hdk, hmk]
        have Hdm := Lib.hid (And.intro hdn hmn)
        clear hdb hlo hhi hg hx hdk hmk hdn hmn hpb hpo hcr hcb hxle hgr hxS hwd1 hwd hms1 hms hxm
        go_wp2_with fail
        refine (hch.out _).mono ?_
        rintro e w3 ⟨rfl, hb3⟩
        have L3 : Hid (Below X0.heap.size X0 w3) := hb3
        clear hb3 x0 x1 x2 x3 x4 x5 x6 x7
        obtain ⟨b', o', he', _, x0, x1, x2, x3, x4, x5, x6, x7⟩ := (HX.out.below ((LX.out.trans (L3.out.mono LX.out.size)).mono hB)).stp hlt
        obtain ⟨rfl, rfl⟩ : b = b' ∧ o = o' := by simp at he'; exact he'
        rw [Hxx.out] at x0 x1 x2 x3 x4 x5 x6 x7
        have y0 := ovr_cell x0
        have y1 := ovr_cell x1
        have y2 := ovr_cell x2
        have y3 := ovr_cell x3
        have y4 := ovr_cell x4
        have y5 := ovr_cell x5
        have y6 := ovr_cell x6
        have y7 := ovr_cell x7
        have r3 := (L3.out.block _ (Nat.lt_of_lt_of_le (Array.getElem?_eq_some_iff.1 HR1.out).1 hszX)).trans ((Hbw.out.block _ (Array.getElem?_eq_some_iff.1 HR1.out).1).trans HR1.out)
        have q0 := ovr_cell (show w3.cell? ⟨w.heap.size + 1, 0, none⟩ = some (.bool c.added) by rw [cell_of_row _ _ _ _ _ _ r3]; rfl)
        have q1 := ovr_cell (show w3.cell? ⟨w.heap.size + 1, 1, none⟩ = some (.bool c.frozen) by rw [cell_of_row _ _ _ _ _ _ r3]; rfl)
        have q2 := ovr_cell (show w3.cell? ⟨w.heap.size + 1, 2, none⟩ = some (.bool c.gone) by rw [cell_of_row _ _ _ _ _ _ r3]; rfl)
        clear he' x0 x1 x2 x3 x4 x5 x6 x7 r3
        go_upto_region 9 with (fail)
        refine wp_region_seq2 15 (fun j => if j = 12 then some (fun u _ => u = I g) else if j = 13 then some (fun u _ => u = I dn) else none) (by kernel_rfl) (by kernel_rfl) (by kernel_rfl) (by kernel_rfl) (by kernel_rfl) ?_
        simp only [List.take_succ_cons, List.take_zero, List.drop_succ_cons, List.drop_zero]
        repeat (refine wpG_one rfl rfl rfl ?_; intro K hK; go_big_quiet_op; go_big_quiet_on)
        refine wpG_make (fun u _ => u = I g) rfl rfl (fun w' hw' _ => ?_) (fun u hu => ?_)
        · go_simp
          exact call_grow (hpk.out w')
        obtain ⟨_, _, rfl⟩ := hu
        simp only [Act.put, List.setIfInBounds_toArray, List.set_cons_zero, List.set_cons_succ]
        refine wpG_make (fun u _ => u = I dn) rfl rfl (fun w' hw' _ => ?_) (fun u hu => ?_)
        · go_simp
          exact call_grow (haf.out w')
        obtain ⟨_, _, rfl⟩ := hu
        simp only [Act.put, List.setIfInBounds_toArray, List.set_cons_zero, List.set_cons_succ]
        repeat (refine wpG_one rfl rfl rfl ?_; intro K hK; go_big_quiet_op; go_big_quiet_on)
        refine wpG_nil (fun w5 hw5 hG => ?_)
        clear hG y0 y1 y2 y3 y4 y5 y6 y7 q0 q1 q2
        refine wpTailIn_nil ?_
        have L5 : Hid (Below X0.heap.size X0 w5) := L3.out.trans (hw5.le.mono L3.out.size)
        clear hw5 L3
        obtain ⟨b', o', he', _, x0, x1, x2, x3, x4, x5, x6, x7⟩ := (HX.out.below ((LX.out.trans (L5.out.mono LX.out.size)).mono hB)).stp hlt
        obtain ⟨rfl, rfl⟩ : b = b' ∧ o = o' := by simp at he'; exact he'
        rw [Hxx.out] at x0 x1 x2 x3 x4 x5 x6 x7
        clear he'
        go_wp2_with fail
        refine (hmm.out _).mono ?_
        rintro e w6 ⟨rfl, hb6⟩
        have L6 : Hid (Below X0.heap.size X0 w6) := L5.out.trans (hb6.mono L5.out.size)
        have Own6 := Lib.hid (own_below Hown.out L6.out)
        have Soc6 := Lib.hid (Hsoc.out.over L6.out)
        have LB6 : Hid (Below w1.heap.size w1 w6) := Hbw.out.trans (L6.out.mono hszX)
        have hs6 := L6.out.size
        clear hb6 x0 x1 x2 x3 x4 x5 x6 x7 L5 Hown Hsoc hch hpk haf hmm
        go_wp2_with (at_builtin; go_loud (refine wpList_append_own _ rfl _ _ 102 rfl z 3 i1 _ 1 8 Tryd.underlying102 hi1 iz1 is1 ib1 rfl (by decide) u12 (k + 1) (flat 1 (rU m c s st l) (k + 1)) rfl (Own6.out.alloc _) ⟨w6.heap.size, 0, none⟩ 1 1 [I dn] rfl (by rfl) (news_lit (cs := #[I dn]) (heap_last _ _ _ rfl)) ?h1 ?h63 ?hby ?hba ?_))
        case h1 => simp [Value.oneCell']
        case h63 => unfold maxLen; omega
        case hby => omega
        case hba => simp; omega
        intro v1' w7 own7 hg7 _
        have own7' : Hid (w7.ownsRow z 3 1 v1' (k + 1 + 1) (flat 1 (rU m c s st l) (k + 1 + 1))) := by rw [HfU.out]; exact own7
        have hr7 : ∀ q, u12.ownBlock = some q → ∃ cs, (w6.alloc (.cells #[I dn] 3)).heap[q]? = some (.cells cs 3 (0, 0)) := fun q hq => (own_row (Own6.out.alloc _) q hq).2
        have soc7 : SoC 108 2 z k (flat 2 (rC m c s st l) k) u13 w7 := ((Soc6.out.over ((Below.refl _ _).alloc (Nat.le_refl _) (.cells #[I dn] 3))).grown hg7 hr7 (by decide))
        have LB7 : Hid (Below w1.heap.size w1 w7) := ((LB6.out.alloc (by omega) _).grown hg7 (by simp; omega) (fun q hq => by have := (own_row (Own6.out.alloc (.cells #[I dn] 3)) q hq).1; omega))
        have hs7 : w6.heap.size ≤ w7.heap.size := by have := hg7.size; simp at this; omega
        have Soc7 := Lib.hid soc7
        clear own7 hg7 hr7 soc7 Own6 Soc6 LB6
        go_wp2_with (at_builtin; go_loud (refine wpList_app_soc_g rfl _ _ 103 rfl 108 i2 _ 2 16 Tryd.underlying103 hi2 iz2 is2 ib2 rfl (by decide) z k (flat 2 (rC m c s st l) k) u13 rfl (Soc7.out.over ((Below.refl _ _).alloc (Nat.le_refl _) _)) ⟨w7.heap.size, 0, none⟩ 1 [I lo, I hi] rfl (by rfl) (news_lit (cs := #[I lo, I hi]) (heap_last _ _ _ rfl)) ?h1 ?hB ?h63 ?hba ?_))
        case h1 => simp [Value.oneCell']
        case hB => simp; omega
        case h63 => omega
        case hba => decide
        intro v2' w8 row own8 hg8 hr8
        have own8' : Hid (w8.ownsRow z 108 2 v2' (k + 1) (flat 2 (rC m c s st l) (k + 1))) := by rw [HfC.out]; exact own8
        have own9 : Hid (w8.ownsRow z 3 1 v1' (k + 1 + 1) (flat 1 (rU m c s st l) (k + 1 + 1))) := own_grown (own7'.out.alloc _) hg8 (fun q hq => (hr8 q hq).2) (by decide)
        have LB8 : Hid (Below w1.heap.size w1 w8) := (LB7.out.alloc (by omega) _).grown hg8 (by simp; omega) (fun q hq => by have := (hr8 q hq).1; omega)
        have w9 : IntKind.i64.wrap ((k : Int) + 1) = (k : Int) + 1 := IntWalk.i64_in _ (by omega)
        clear own8 hg8 hr8 own7' LB7 Soc7
        go_wp2_with fail
        go_roundw
        case rel => exact ⟨k + 1, by omega, by go_num, by rw [Hdm.out.1], by rw [Hdm.out.2], own9.out, .inr own8'.out, LB8.out⟩
        case measure => simp [intOf]; omega
      · obtain rfl : k = l.length := by omega
        have hki : decide ((l.length : Int) < (l.length : Int)) = false := decide_eq_false (by omega)
        go_wp2_with fail
        go_ret2
        exact ⟨_, rfl, LX.out, _, _, rfl, own_base Hown.out (by omega), (Hsoc.out).imp id fun h => own_base h (by omega)⟩
  · have hst : m.ct (s * 2 + 1) = st := by rw [Hst.out]; rfl
    rw [hst] at l1
    clear hst Hst
    go_wp2_with fail
    refine name_w fun V hV => ?_
    obtain ⟨z, hz⟩ : ∃ q, w1.heap.size = q := ⟨_, rfl⟩
    rw [hz]
    have bV : Below w1.heap.size w1 V := by rw [hV]; exact ((Below.refl _ _).alloc (Nat.le_refl _) _).alloc (by simp) _
    have rV : V.heap[z]? = some (.cells #[I st] 3 (0, 0)) := by rw [hV]; exact heap_before (heap_last _ _ _ hz.symm)
    have sV : V.heap.size = z + 2 := by rw [hV]; simp [hz]
    have HbV := Lib.hid bV
    have own0 : V.ownsRow z 3 1 (.slice (some ⟨z, 0, none⟩) 1 1) 1 [I st] := own_lit rV rfl (Nat.le_refl _)
    have Own0 := Lib.hid own0
    have soc0 : SoC 108 2 z 0 (flat 2 (rC m c s st l) 0) (.slice (some ⟨z + 1, 0, none⟩) 0 0) V := .inl ⟨rfl, rfl, _, rfl⟩
    have Soc0 := Lib.hid soc0
    have HzV : z ≤ V.heap.size := by omega
    clear bV rV hV own0 soc0 sV l0 l1 z3
    go_loopw [10, 11, 12, 13, 14] (fun dv mv v1 v2 i wr => ∃ k : Nat, k ≤ l.length ∧ i = .int .i64 k ∧ dv = I (wkD m c s st l k) ∧ mv = I (msK m l k) ∧ wr.ownsRow z 3 1 v1 (k + 1) (flat 1 (rU m c s st l) (k + 1)) ∧ SoC 108 2 z k (flat 2 (rC m c s st l) k) v2 wr ∧ Below w1.heap.size w1 wr) (fun _ _ _ _ i _ => l.length - (intOf i).toNat)
    case atStart => exact ⟨0, by omega, rfl, rfl, rfl, Own0.out, Soc0.out, HbV.out⟩
    case round =>
      rename World => X0
      obtain ⟨k, hk, rfl, rfl, rfl, hown, hsoc, hbw⟩ := hrel
      have Hown := Lib.hid hown
      have Hsoc := Lib.hid hsoc
      have Hbw := Lib.hid hbw
      have LX : Hid (Below w.heap.size w X0) := HB1.out.trans (hbw.mono HB1.out.size)
      have hszX := hbw.size
      clear hown hsoc hbw
      by_cases hlt : k < l.length
      · have hki : decide ((k : Int) < (l.length : Int)) = true := decide_eq_true (by omega)
        have hkn : decide (k < l.length) = true := decide_eq_true hlt
        obtain ⟨b, o, rfl, hbB, x0, x1, x2, x3, x4, x5, x6, x7⟩ := (HX.out.below (LX.out.mono hB)).stp hlt
        have hms := msK_bd HM.out k fun j hj => HE.out j (by omega)
        have hms1 := msK_bd HM.out (k + 1) fun j hj => HE.out j (by omega)
        have hwd := wk_bd (m := m) (c := c) (l := l) hs Hstb.out k fun j hj => HE.out j (by omega)
        have hwd1 := wk_bd (m := m) (c := c) (l := l) hs Hstb.out (k + 1) fun j hj => HE.out j (by omega)
        have hxS := stE_isS (HE.out k hlt)
        have hgr : msK m l (k + 1) = grF (msK m l k) (at0 l k) := rfl
        have hxle : (at0 l k).kd = 1 → (at0 l k).ms ≤ msK m l k := fun h1 => by
          rw [hgr, grF, if_pos h1] at hms1
          omega
        have hcb := ch_bd (mass := msK m l k) hxS hs hwd.1
        have hdb : 0 ≤ wkD m c s st l k ∧ wkD m c s st l k ≤ 300000000000000 := by omega
        have hcr := cr_ch hxS hs hdb hms hxle
        have hch : Hid (∀ w', Calls Tryd.prog 60 #[.agg (stpArr (at0 l k)), I s, I (wkD m c s st l k), I (msK m l k)] w' fun e w'' => e = .returned (.tuple #[I (chF (at0 l k) s (wkD m c s st l k) (msK m l k)).1, I (chF (at0 l k) s (wkD m c s st l k) (msK m l k)).2]) ∧ Below w'.heap.size w' w'') := fun w' => by
          rw [← hcr]; exact refChoices_any _ _ _ _ w' hxS hs hdb hms hxle
        have hpo := pk_or c (at0 l k).kd (chF (at0 l k) s (wkD m c s st l k) (msK m l k)).1 (chF (at0 l k) s (wkD m c s st l k) (msK m l k)).2
        have hpb : 0 ≤ pkF c (at0 l k).kd (chF (at0 l k) s (wkD m c s st l k) (msK m l k)).1 (chF (at0 l k) s (wkD m c s st l k) (msK m l k)).2 ∧ pkF c (at0 l k).kd (chF (at0 l k) s (wkD m c s st l k) (msK m l k)).1 (chF (at0 l k) s (wkD m c s st l k) (msK m l k)).2 ≤ 1000000000000000 := by
          by_cases h23 : (at0 l k).kd = 2 ∨ (at0 l k).kd = 3
          · have := hcb.2.2 h23; have := hcb.1; rcases hpo with h | h <;> rw [h] <;> omega
          · have := hcb.2.1 h23; have := hcb.1; rcases hpo with h | h <;> rw [h] <;> omega
        have hpk : Hid (∀ w', Calls Tryd.prog 74 #[.agg (crsArr c), .agg (stpArr (at0 l k)), I (chF (at0 l k) s (wkD m c s st l k) (msK m l k)).1, I (chF (at0 l k) s (wkD m c s st l k) (msK m l k)).2] w' fun e w'' => e = .returned (I (pkF c (at0 l k).kd (chF (at0 l k) s (wkD m c s st l k) (msK m l k)).1 (chF (at0 l k) s (wkD m c s st l k) (msK m l k)).2)) ∧ Below w'.heap.size w' w'') := fun w' => choose_any c (at0 l k) _ _ w'
        have haf : Hid (∀ w', Calls Tryd.prog 61 #[.agg (stpArr (at0 l k)), I (wkD m c s st l k), I (pkF c (at0 l k).kd (chF (at0 l k) s (wkD m c s st l k) (msK m l k)).1 (chF (at0 l k) s (wkD m c s st l k) (msK m l k)).2)] w' fun e w'' => e = .returned (I (wkD m c s st l (k + 1))) ∧ Below w'.heap.size w' w'') := fun w' => after_any (at0 l k) _ _ w' (by omega) (by omega)
        have hxm := isS_ms hxS
        have hmm : Hid (∀ w', Calls Tryd.prog 45 #[I (msK m l k), .agg (stpArr (at0 l k))] w' fun e w'' => e = .returned (I (msK m l (k + 1))) ∧ Below w'.heap.size w' w'') := fun w' => mass_any (msK m l k) (at0 l k) w' (by omega) (fun h => by have := hxm h; omega)
        have HfU : Hid (flat 1 (rU m c s st l) (k + 1 + 1) = flat 1 (rU m c s st l) (k + 1) ++ [I (wkD m c s st l (k + 1))]) := flat_succ 1 (by decide) _ _
        have HfC : Hid (flat 2 (rC m c s st l) (k + 1) = flat 2 (rC m c s st l) k ++ [I (chF (at0 l k) s (wkD m c s st l k) (msK m l k)).1, I (chF (at0 l k) s (wkD m c s st l k) (msK m l k)).2]) := flat_succ 2 (by decide) _ _
        obtain ⟨lo, hlo⟩ : ∃ q, (chF (at0 l k) s (wkD m c s st l k) (msK m l k)).1 = q := ⟨_, rfl⟩
        obtain ⟨hi, hhi⟩ : ∃ q, (chF (at0 l k) s (wkD m c s st l k) (msK m l k)).2 = q := ⟨_, rfl⟩
        simp only [hlo, hhi] at hch hpk haf HfC
        obtain ⟨g, hg⟩ : ∃ q, pkF c (at0 l k).kd lo hi = q := ⟨_, rfl⟩
        simp only [hg] at hpk haf
        obtain ⟨x, hx⟩ : ∃ x, at0 l k = x := ⟨_, rfl⟩
        have Hxx := Lib.hid hx
        obtain ⟨dk, hdk⟩ : ∃ q, wkD m c s st l k = q := ⟨_, rfl⟩
        obtain ⟨mk, hmk⟩ : ∃ q, msK m l k = q := ⟨_, rfl⟩
        obtain ⟨dn, hdn⟩ : ∃ q, wkD m c s st l (k + 1) = q := ⟨_, rfl⟩
        obtain ⟨mn, hmn⟩ : ∃ q, msK m l (k + 1) = q := ⟨_, rfl⟩
        simp only [hx, hdk, hmk, hdn, hmn] at hch hpk haf hmm HfU HfC
        rw [hx] at x0 x1 x2 x3 x4 x5 x6 x7
        rw [hdk, hmk]
        have Hdm := Lib.hid (And.intro hdn hmn)
        clear hdb hlo hhi hg hx hdk hmk hdn hmn hpb hpo hcr hcb hxle hgr hxS hwd1 hwd hms1 hms hxm
        go_wp2_with fail
        refine (hch.out _).mono ?_
        rintro e w3 ⟨rfl, hb3⟩
        have L3 : Hid (Below X0.heap.size X0 w3) := hb3
        clear hb3 x0 x1 x2 x3 x4 x5 x6 x7
        obtain ⟨b', o', he', _, x0, x1, x2, x3, x4, x5, x6, x7⟩ := (HX.out.below ((LX.out.trans (L3.out.mono LX.out.size)).mono hB)).stp hlt
        obtain ⟨rfl, rfl⟩ : b = b' ∧ o = o' := by simp at he'; exact he'
        rw [Hxx.out] at x0 x1 x2 x3 x4 x5 x6 x7
        have y0 := ovr_cell x0
        have y1 := ovr_cell x1
        have y2 := ovr_cell x2
        have y3 := ovr_cell x3
        have y4 := ovr_cell x4
        have y5 := ovr_cell x5
        have y6 := ovr_cell x6
        have y7 := ovr_cell x7
        have r3 := (L3.out.block _ (Nat.lt_of_lt_of_le (Array.getElem?_eq_some_iff.1 HR1.out).1 hszX)).trans ((Hbw.out.block _ (Array.getElem?_eq_some_iff.1 HR1.out).1).trans HR1.out)
        have q0 := ovr_cell (show w3.cell? ⟨w.heap.size + 1, 0, none⟩ = some (.bool c.added) by rw [cell_of_row _ _ _ _ _ _ r3]; rfl)
        have q1 := ovr_cell (show w3.cell? ⟨w.heap.size + 1, 1, none⟩ = some (.bool c.frozen) by rw [cell_of_row _ _ _ _ _ _ r3]; rfl)
        have q2 := ovr_cell (show w3.cell? ⟨w.heap.size + 1, 2, none⟩ = some (.bool c.gone) by rw [cell_of_row _ _ _ _ _ _ r3]; rfl)
        clear he' x0 x1 x2 x3 x4 x5 x6 x7 r3
        go_upto_region 9 with (fail)
        refine wp_region_seq2 15 (fun j => if j = 12 then some (fun u _ => u = I g) else if j = 13 then some (fun u _ => u = I dn) else none) (by kernel_rfl) (by kernel_rfl) (by kernel_rfl) (by kernel_rfl) (by kernel_rfl) ?_
        simp only [List.take_succ_cons, List.take_zero, List.drop_succ_cons, List.drop_zero]
        repeat (refine wpG_one rfl rfl rfl ?_; intro K hK; go_big_quiet_op; go_big_quiet_on)
        refine wpG_make (fun u _ => u = I g) rfl rfl (fun w' hw' _ => ?_) (fun u hu => ?_)
        · go_simp
          exact call_grow (hpk.out w')
        obtain ⟨_, _, rfl⟩ := hu
        simp only [Act.put, List.setIfInBounds_toArray, List.set_cons_zero, List.set_cons_succ]
        refine wpG_make (fun u _ => u = I dn) rfl rfl (fun w' hw' _ => ?_) (fun u hu => ?_)
        · go_simp
          exact call_grow (haf.out w')
        obtain ⟨_, _, rfl⟩ := hu
        simp only [Act.put, List.setIfInBounds_toArray, List.set_cons_zero, List.set_cons_succ]
        repeat (refine wpG_one rfl rfl rfl ?_; intro K hK; go_big_quiet_op; go_big_quiet_on)
        refine wpG_nil (fun w5 hw5 hG => ?_)
        clear hG y0 y1 y2 y3 y4 y5 y6 y7 q0 q1 q2
        refine wpTailIn_nil ?_
        have L5 : Hid (Below X0.heap.size X0 w5) := L3.out.trans (hw5.le.mono L3.out.size)
        clear hw5 L3
        obtain ⟨b', o', he', _, x0, x1, x2, x3, x4, x5, x6, x7⟩ := (HX.out.below ((LX.out.trans (L5.out.mono LX.out.size)).mono hB)).stp hlt
        obtain ⟨rfl, rfl⟩ : b = b' ∧ o = o' := by simp at he'; exact he'
        rw [Hxx.out] at x0 x1 x2 x3 x4 x5 x6 x7
        clear he'
        go_wp2_with fail
        refine (hmm.out _).mono ?_
        rintro e w6 ⟨rfl, hb6⟩
        have L6 : Hid (Below X0.heap.size X0 w6) := L5.out.trans (hb6.mono L5.out.size)
        have Own6 := Lib.hid (own_below Hown.out L6.out)
        have Soc6 := Lib.hid (Hsoc.out.over L6.out)
        have LB6 : Hid (Below w1.heap.size w1 w6) := Hbw.out.trans (L6.out.mono hszX)
        have hs6 := L6.out.size
        clear hb6 x0 x1 x2 x3 x4 x5 x6 x7 L5 Hown Hsoc hch hpk haf hmm
        go_wp2_with (at_builtin; go_loud (refine wpList_append_own _ rfl _ _ 102 rfl z 3 i1 _ 1 8 Tryd.underlying102 hi1 iz1 is1 ib1 rfl (by decide) u12 (k + 1) (flat 1 (rU m c s st l) (k + 1)) rfl (Own6.out.alloc _) ⟨w6.heap.size, 0, none⟩ 1 1 [I dn] rfl (by rfl) (news_lit (cs := #[I dn]) (heap_last _ _ _ rfl)) ?h1 ?h63 ?hby ?hba ?_))
        case h1 => simp [Value.oneCell']
        case h63 => unfold maxLen; omega
        case hby => omega
        case hba => simp; omega
        intro v1' w7 own7 hg7 _
        have own7' : Hid (w7.ownsRow z 3 1 v1' (k + 1 + 1) (flat 1 (rU m c s st l) (k + 1 + 1))) := by rw [HfU.out]; exact own7
        have hr7 : ∀ q, u12.ownBlock = some q → ∃ cs, (w6.alloc (.cells #[I dn] 3)).heap[q]? = some (.cells cs 3 (0, 0)) := fun q hq => (own_row (Own6.out.alloc _) q hq).2
        have soc7 : SoC 108 2 z k (flat 2 (rC m c s st l) k) u13 w7 := ((Soc6.out.over ((Below.refl _ _).alloc (Nat.le_refl _) (.cells #[I dn] 3))).grown hg7 hr7 (by decide))
        have LB7 : Hid (Below w1.heap.size w1 w7) := ((LB6.out.alloc (by omega) _).grown hg7 (by simp; omega) (fun q hq => by have := (own_row (Own6.out.alloc (.cells #[I dn] 3)) q hq).1; omega))
        have hs7 : w6.heap.size ≤ w7.heap.size := by have := hg7.size; simp at this; omega
        have Soc7 := Lib.hid soc7
        clear own7 hg7 hr7 soc7 Own6 Soc6 LB6
        go_wp2_with (at_builtin; go_loud (refine wpList_app_soc_g rfl _ _ 103 rfl 108 i2 _ 2 16 Tryd.underlying103 hi2 iz2 is2 ib2 rfl (by decide) z k (flat 2 (rC m c s st l) k) u13 rfl (Soc7.out.over ((Below.refl _ _).alloc (Nat.le_refl _) _)) ⟨w7.heap.size, 0, none⟩ 1 [I lo, I hi] rfl (by rfl) (news_lit (cs := #[I lo, I hi]) (heap_last _ _ _ rfl)) ?h1 ?hB ?h63 ?hba ?_))
        case h1 => simp [Value.oneCell']
        case hB => simp; omega
        case h63 => omega
        case hba => decide
        intro v2' w8 row own8 hg8 hr8
        have own8' : Hid (w8.ownsRow z 108 2 v2' (k + 1) (flat 2 (rC m c s st l) (k + 1))) := by rw [HfC.out]; exact own8
        have own9 : Hid (w8.ownsRow z 3 1 v1' (k + 1 + 1) (flat 1 (rU m c s st l) (k + 1 + 1))) := own_grown (own7'.out.alloc _) hg8 (fun q hq => (hr8 q hq).2) (by decide)
        have LB8 : Hid (Below w1.heap.size w1 w8) := (LB7.out.alloc (by omega) _).grown hg8 (by simp; omega) (fun q hq => by have := (hr8 q hq).1; omega)
        have w9 : IntKind.i64.wrap ((k : Int) + 1) = (k : Int) + 1 := IntWalk.i64_in _ (by omega)
        clear own8 hg8 hr8 own7' LB7 Soc7
        go_wp2_with fail
        go_roundw
        case rel => exact ⟨k + 1, by omega, by go_num, by rw [Hdm.out.1], by rw [Hdm.out.2], own9.out, .inr own8'.out, LB8.out⟩
        case measure => simp [intOf]; omega
      · obtain rfl : k = l.length := by omega
        have hki : decide ((l.length : Int) < (l.length : Int)) = false := decide_eq_false (by omega)
        go_wp2_with fail
        go_ret2
        exact ⟨_, rfl, LX.out, _, _, rfl, own_base Hown.out (by omega), (Hsoc.out).imp id fun h => own_base h (by omega)⟩
end Go.Proofs.YtfifdfagikbahaaDoor
