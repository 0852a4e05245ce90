/- bouleref09.Trace. -/
import Derived.Test.YtljjpidigckheaaOh
import Derived.Test.YtljjpidigckheaaFg
import Derived.Test.YtljjpidigckheaaJb
import Derived.Test.YtljjpidigckheaaRja
namespace Go.Proofs.Ytljjpidigckheaa.Un
open Go.RowKit
theorem spn_rng (x : Rng) : rngOk x = spn9 x (-1000000000000000) 1000000000000000 := by
  rcases h : spn9 x (-1000000000000000) 1000000000000000 with _ | _
  · rcases h2 : rngOk x with _ | _
    · rfl
    · rw [spn9_iff.2 (by have := rngOk_iff.1 h2; omega)] at h
      cases h
  · exact rngOk_iff.2 (by have := spn9_iff.1 h; omega)
theorem refSumRow {w : World} {b : Nat} {r s : Rng} {t : TypeId} (h : w.heap[b]? = some (.cells #[I r.lo, I r.hi, I s.lo, I s.hi] t (0, 0))) :
    Calls Try.prog 57 #[.slice (some ⟨b, 0, none⟩) 2 2] w (RetRn w (suF [r, s])) :=
  refSum_any (some ⟨b, 0, none⟩) 2 [r, s] w w.heap.size (by show 2 ≤ maxLen; unfold maxLen; omega) (Nat.le_refl _) (rd_row2 h)
set_option maxRecDepth 100000 in
set_option maxHeartbeats 8000000 in
theorem refTrace_any (l : List Gag) (g day : Int) (x : Rng) (A : Option Addr) (c : Nat) (w : World) (B : Nat) (hB : B ≤ w.heap.size) (hx : Rd w B 6 A l.length (rG l)) (hm : l.length ≤ 1000) :
    Calls Try.prog 19 #[.slice A l.length c, I g, I day, x.val] w (RetTr w (trF l g day x)) := by
  have HRD : Hid (∀ V, Below w.heap.size w V → Rd V B 6 A l.length (rG l) ∧ B ≤ V.heap.size) := fun V hV => ⟨hx.below (hV.mono hB), Nat.le_trans hB hV.size⟩
  have CG : Hid (∀ V, Below w.heap.size w V → Calls Try.prog 20 #[.slice A l.length c] V fun e w' => e = .returned (.bool (okGag l)) ∧ Below V.heap.size V w') := fun V hV => refGauges_any l A c V B (HRD.out V hV).2 (HRD.out V hV).1 hm
  have CR : Hid (∀ V, Calls Try.prog 55 #[.agg #[I x.lo, I x.hi]] V fun e w' => e = .returned (.bool (spn9 x (-1000000000000000) 1000000000000000)) ∧ Below V.heap.size V w') := fun V => by
    rw [← spn_rng]
    exact refRange_any x V
  have hf : Hid (trF l g day x = if okGag l && spn9 x (-1000000000000000) 1000000000000000 then
    (if g < 0 ∨ (l.length : Int) ≤ g then (⟨0, 0⟩, [], 7) else
     if (path9 l g).any (old9 l day) then (⟨0, 0⟩, [], 90) else
     if (trK l (path9 l g) x (path9 l g).length).2 = 0 then ((trK l (path9 l g) x (path9 l g).length).1, path9 l g, 0) else (⟨0, 0⟩, [], (trK l (path9 l g) x (path9 l g).length).2))
  else (⟨0, 0⟩, [], 2)) := rfl
  clear hx hB hm
  obtain ⟨W, hW⟩ : ∃ W, W = ((w.alloc (.cells #[I x.lo, I x.hi] 24)).alloc (.cells #[I 0, I 0] 24)) := ⟨_, rfl⟩
  have rowW0 : W.heap[w.heap.size]? = some (.cells #[I x.lo, I x.hi] 24 (0, 0)) := by rw [hW]; exact heap_before (heap_last _ _ _ rfl)
  have yW00 := ovr_cell (W := W) (b := w.heap.size) (o := 0) (v := I x.lo) (by rw [cell_of_row _ _ _ _ _ _ rowW0]; rfl)
  have yW01 := ovr_cell (W := W) (b := w.heap.size) (o := 1) (v := I x.hi) (by rw [cell_of_row _ _ _ _ _ _ rowW0]; rfl)
  have RrowW0 := Lib.hid (ovr_row rowW0)
  clear rowW0
  have rowW1 : W.heap[w.heap.size + 1]? = some (.cells #[I 0, I 0] 24 (0, 0)) := by rw [hW]; exact heap_last _ _ _ (by simp)
  have yW10 := ovr_cell (W := W) (b := w.heap.size + 1) (o := 0) (v := I 0) (by rw [cell_of_row _ _ _ _ _ _ rowW1]; rfl)
  have yW11 := ovr_cell (W := W) (b := w.heap.size + 1) (o := 1) (v := I 0) (by rw [cell_of_row _ _ _ _ _ _ rowW1]; rfl)
  have RrowW1 := Lib.hid (ovr_row rowW1)
  clear rowW1
  have HUW : Hid (∀ u, Below w.heap.size w (ovr W u)) := U2 hW
  have HW := Lib.hid hW
  clear hW
  go_enter Try.func19, Try.ntmps19
  go_upto_region 1 with (fail)
  rw [← HW.out]
  obtain ⟨u0, hu0⟩ := ovr_self W
  rw [hu0]
  clear hu0
  rcases ho : okGag l with _ | _
  · rw [ho] at CG
    rw [ho] at hf
    clear ho
    go_wp2_with fail
    refine (CG.out _ (HUW.out _)).mono ?_
    rintro e w1 ⟨rfl, hb1⟩
    obtain ⟨u2, rfl⟩ := ovr_next hb1
    clear hb1
    go_wp2_with (with_reducible show wpList _ _ _ _ _ _; refine wpList_store_row rfl 24 _ _ rfl (w.heap.size + 1) rfl _ _ (RrowW1.out _) #[I 0, I 0] rfl (one2 rfl rfl) rfl (by kernel_rfl) ?_)
    refine bodyPost_ret (results_cell_tt9 rfl _ _ (w.heap.size + 1) 24 _ (0, 0) _ rfl (setRow_same (RrowW1.out _)) Try.underlying24 rfl (by kernel_rfl)) rfl ?_
    rw [show trF l g day x = (⟨0, 0⟩, [], 2) from hf.out]
    exact RetTr.nil rfl (below_setRow (HUW.out _) (by omega) _)
  rw [ho] at CG
  rw [ho, Bool.true_and] at hf
  have HO := Lib.hid ho
  clear ho
  rcases hs : spn9 x (-1000000000000000) 1000000000000000 with _ | _
  · rw [hs] at hf CR
    clear hs
    go_wp2_with fail
    refine (CG.out _ (HUW.out _)).mono ?_
    rintro e w1 ⟨rfl, hb1⟩
    obtain ⟨u2, rfl⟩ := ovr_next hb1
    clear hb1
    go_wp2_with fail
    refine (CR.out _).mono ?_
    rintro e w1 ⟨rfl, hb1⟩
    obtain ⟨u3, rfl⟩ := ovr_next hb1
    clear hb1
    go_wp2_with (with_reducible show wpList _ _ _ _ _ _; refine wpList_store_row rfl 24 _ _ rfl (w.heap.size + 1) rfl _ _ (RrowW1.out _) #[I 0, I 0] rfl (one2 rfl rfl) rfl (by kernel_rfl) ?_)
    refine bodyPost_ret (results_cell_tt9 rfl _ _ (w.heap.size + 1) 24 _ (0, 0) _ rfl (setRow_same (RrowW1.out _)) Try.underlying24 rfl (by kernel_rfl)) rfl ?_
    rw [show trF l g day x = (⟨0, 0⟩, [], 2) from hf.out]
    exact RetTr.nil rfl (below_setRow (HUW.out _) (by omega) _)
  rw [hs, if_pos rfl] at hf
  rw [hs] at CR
  clear hs
  go_wp2_with fail
  refine (CG.out _ (HUW.out _)).mono ?_
  rintro e w1 ⟨rfl, hb1⟩
  obtain ⟨u2, rfl⟩ := ovr_next hb1
  clear hb1
  go_wp2_with fail
  refine (CR.out _).mono ?_
  rintro e w1 ⟨rfl, hb1⟩
  obtain ⟨u3, rfl⟩ := ovr_next hb1
  clear hb1
  by_cases h0 : g < 0
  · have d0 : decide (g < 0) = true := decide_eq_true h0
    rw [if_pos (.inl h0)] at hf
    clear h0
    go_wp2_with (with_reducible show wpList _ _ _ _ _ _; refine wpList_store_row rfl 24 _ _ rfl (w.heap.size + 1) rfl _ _ (RrowW1.out _) #[I 0, I 0] rfl (one2 rfl rfl) rfl (by kernel_rfl) ?_)
    refine bodyPost_ret (results_cell_tt9 rfl _ _ (w.heap.size + 1) 24 _ (0, 0) _ rfl (setRow_same (RrowW1.out _)) Try.underlying24 rfl (by kernel_rfl)) rfl ?_
    rw [hf.out]
    exact RetTr.nil rfl (below_setRow (HUW.out _) (by omega) _)
  have d0 : decide (g < 0) = false := decide_eq_false h0
  by_cases h1 : (l.length : Int) ≤ g
  · have d1 : decide ((l.length : Int) ≤ g) = true := decide_eq_true h1
    rw [if_pos (.inr h1)] at hf
    clear h0 h1
    go_wp2_with (with_reducible show wpList _ _ _ _ _ _; refine wpList_store_row rfl 24 _ _ rfl (w.heap.size + 1) rfl _ _ (RrowW1.out _) #[I 0, I 0] rfl (one2 rfl rfl) rfl (by kernel_rfl) ?_)
    refine bodyPost_ret (results_cell_tt9 rfl _ _ (w.heap.size + 1) 24 _ (0, 0) _ rfl (setRow_same (RrowW1.out _)) Try.underlying24 rfl (by kernel_rfl)) rfl ?_
    rw [hf.out]
    exact RetTr.nil rfl (below_setRow (HUW.out _) (by omega) _)
  have d1 : decide ((l.length : Int) ≤ g) = false := decide_eq_false h1
  rw [if_neg (by omega)] at hf
  have HG : Hid (0 ≤ g ∧ g < (l.length : Int)) := by show _ ∧ _; omega
  clear h0 h1
  have HWS : Hid (w.heap.size + 1 < W.heap.size) := by
    show _ < _
    obtain ⟨v, hv⟩ := ovr_self W
    have h := lt_of_row (RrowW1.out v)
    rw [← hv] at h
    exact h
  obtain ⟨i0, hi0, iz0, iz1, iz2⟩ := info_parts int9_info
  go_upto_region 6 with fail
  obtain ⟨u4, hu4⟩ := ovr_next (((Below.refl _ _).alloc (Nat.le_refl _) (.cells #[] 3)) : Below (ovr W u3).heap.size (ovr W u3) _)
  rw [hu4]
  clear hu4 d0 d1
  go_wp2_with fail
  go_loopw [12, 11] (fun gv pv wr => ∃ (D : List Int) (f : Nat) (q : Int) (u : World), gv = I q ∧ path9 l g = D ++ pth l f q ∧ q + 1 ≤ (f : Int) ∧ -1 ≤ q ∧ q < (l.length : Int) ∧ wr = ovr W u ∧ SoC 3 1 W.heap.size D.length (D.map fun x => I x) pv wr ∧ D.any (old9 l day) = false) (fun gv _ _ => (intOf gv + 1).toNat)
  case atStart => exact ⟨[], g.toNat + 1, g, u4, rfl, rfl, by have := HG.out; omega, by have := HG.out; omega, HG.out.2, rfl, .inl ⟨rfl, rfl, _, rfl⟩, rfl⟩
  case round =>
    obtain ⟨D, f, q, u, rfl, hp, hf1, hq1, hq2, rfl, hso, hany⟩ := hrel
    have HSO := Lib.hid hso
    have HP := Lib.hid hp
    have HAN := Lib.hid hany
    have HQ : Hid (q + 1 ≤ (f : Int) ∧ -1 ≤ q ∧ q < (l.length : Int)) := ⟨hf1, hq1, hq2⟩
    have HDL : Hid (D.length ≤ 1000) := by
      show _ ≤ _
      have h1 := pth_len l (g.toNat + 1) g
      have h2 : (path9 l g).length = D.length + (pth l f q).length := by rw [hp, List.length_append]
      unfold path9 at h2
      have := HG.out
      have := okGag_len HO.out
      omega
    clear hso hp hf1 hq1 hq2 hany
    by_cases hq : 0 ≤ q
    case neg =>
      have d2 : decide (0 ≤ q) = false := decide_eq_false hq
      have HPD : Hid (path9 l g = D) := by
        show _ = _
        rw [HP.out]
        have h1 : ∀ f, pth l f q = [] := fun f => by
          cases f with
          | zero => rfl
          | succ f => unfold pth; rw [if_pos (by omega)]
        rw [h1, List.append_nil]
      have HIN : Hid (∀ x ∈ D, 0 ≤ x ∧ x < (l.length : Int)) := by
        show ∀ x ∈ D, _
        rw [← HPD.out]
        exact pth_in HO.out _ _ HG.out.2
      obtain ⟨PA, pc, pq, rfl, hpc, hpm, hpb, hpv⟩ := soc_at (e := 3) (sz := 1) (B := W.heap.size) (n := D.length) (g := rI D) (by rw [← ints_flat]; exact HSO.out)
      have HPC : Hid (D.length ≤ pc ∧ pc ≤ maxLen) := ⟨hpc, hpm⟩
      have HPR4 : Hid (∀ V, (∀ k, W.heap.size ≤ k → k < (ovr W u).heap.size → V.heap[k]? = (ovr W u).heap[k]?) → Rd V V.heap.size 1 PA D.length (rI D)) := fun V hV => by
        rcases Nat.eq_zero_or_pos D.length with h0 | h0
        · rw [h0]; exact Rd.nil
        · obtain ⟨k1, k2⟩ := hpb h0
          exact (hpv V (hV pq k1 k2)).1
      rw [HPD.out, if_neg (by rw [HAN.out]; decide)] at hf
      clear hq HP HQ HPD HSO hpc hpm hpb hpv HAN
      go_upto_region 13 with fail
      have hbZ := ovr_below W u
      obtain ⟨Z, hZ⟩ : ∃ Z, Z = ovr W u := ⟨_, rfl⟩
      rw [← hZ] at hbZ
      rw [← hZ]
      have hZ' := Lib.hid hZ
      clear hZ
      have hbZ' := Lib.hid hbZ
      have reZ : ∀ v, ∃ x, ovr Z v = ovr W x := fun v => ovr_reB hbZ v
      replace yW00 := tr_cell reZ yW00
      replace yW01 := tr_cell reZ yW01
      replace RrowW0 := Lib.hid (tr_row reZ RrowW0.out)
      replace yW10 := tr_cell reZ yW10
      replace yW11 := tr_cell reZ yW11
      replace RrowW1 := Lib.hid (tr_row reZ RrowW1.out)
      have HUZ : Hid (∀ u, Below w.heap.size w (ovr Z u)) := fun u => by obtain ⟨x, hx⟩ := reZ u; rw [hx]; exact HUW.out x
      clear reZ hbZ
      obtain ⟨n, hn⟩ : ∃ n, D.length = n := ⟨_, rfl⟩
      rw [hn] at HPC HPR4 hf HDL
      rw [hn]
      have HN := Lib.hid hn
      clear hn
      rw [← hZ'.out] at HPR4
      have HWZ : Hid (∀ V, Below Z.heap.size Z V → Below w.heap.size w V) := fun V h => (below_self HUZ.out).trans (h.mono (below_self HUZ.out).size)
      refine name_w fun Y0 hY0 => ?_
      have HY0 : Hid (Below Z.heap.size Z Y0 ∧ Y0.heap[Z.heap.size]? = some (.cells #[I x.lo, I x.hi] 24 (0, 0))) := by
        show _ ∧ _
        rw [hY0]
        exact ⟨(Below.refl _ _).alloc (Nat.le_refl _) _, heap_last _ _ _ rfl⟩
      clear hY0
      go_wp2_with fail
      go_loopw [15, 14] (fun iv ev wr => ∃ (k : Nat) (y : Rng), k ≤ n ∧ iv = .int .i64 k ∧ ev = I 0 ∧ trK l D x k = (y, 0) ∧ Below Z.heap.size Z wr ∧ wr.heap[Z.heap.size]? = some (.cells #[I y.lo, I y.hi] 24 (0, 0))) (fun iv _ _ => n - (intOf iv).toNat)
      case atStart => exact ⟨0, x, by omega, rfl, rfl, rfl, HY0.out⟩
      case round =>
        obtain ⟨k, y, hk, rfl, rfl, htk, hbz, hrow⟩ := hrel
        rename World => Y
        have HTK := Lib.hid htk
        have HBZ := Lib.hid hbz
        have HPK := Lib.hid (HPR4.out Y fun k _ h => hbz.block k h)
        clear htk HY0
        by_cases hkn : k < n
        case neg =>
          obtain rfl : k = n := by omega
          rw [HTK.out, if_pos rfl] at hf
          have reY : ∀ v, ∃ x, ovr Y v = ovr Z x := fun v => ovr_reB hbz v
          replace yW00 := tr_cell reY yW00
          replace yW01 := tr_cell reY yW01
          replace RrowW0 := Lib.hid (tr_row reY RrowW0.out)
          replace yW10 := tr_cell reY yW10
          replace yW11 := tr_cell reY yW11
          replace RrowW1 := Lib.hid (tr_row reY RrowW1.out)
          have yY00 := ovr_cell (W := Y) (b := Z.heap.size) (o := 0) (v := I y.lo) (by rw [cell_of_row _ _ _ _ _ _ hrow]; rfl)
          have yY01 := ovr_cell (W := Y) (b := Z.heap.size) (o := 1) (v := I y.hi) (by rw [cell_of_row _ _ _ _ _ _ hrow]; rfl)
          have RrowY0 := Lib.hid (ovr_row hrow)
          clear hrow
          have HBY : Hid (∀ u, Below Z.heap.size Z (ovr Y u)) := fun u => by obtain ⟨x, hx⟩ := reY u; rw [hx]; exact ovr_below _ _
          clear reY hbz
          obtain ⟨v0, hv0⟩ := ovr_self Y
          rw [hv0]
          clear hv0
          go_wp2_with (with_reducible show wpList _ _ _ _ _ _; refine wpList_store_row rfl 24 _ _ rfl (w.heap.size + 1) rfl _ _ (RrowW1.out _) #[I y.lo, I y.hi] rfl (one2 rfl rfl) rfl (by kernel_rfl) ?_)
          refine bodyPost_ret (results_cell_tt9 rfl _ _ (w.heap.size + 1) 24 _ (0, 0) _ rfl (setRow_same (RrowW1.out _)) Try.underlying24 rfl (by kernel_rfl)) rfl ?_
          have hbW0 : Below w.heap.size w ((ovr Y v0).setRow (w.heap.size + 1) #[I y.lo, I y.hi]) := below_setRow (HWZ.out _ (HBZ.out.trans ((ovr_below Y v0).mono HBZ.out.size))) (by omega) _
          have hb8 := HBZ.out.trans ((ovr_below Y v0).mono HBZ.out.size)
          have hrd := HPR4.out ((ovr Y v0).setRow (w.heap.size + 1) #[I y.lo, I y.hi]) fun j h1 h2 => (setRow_other (by have := HWS.out; omega)).trans (hb8.block j h2)
          rw [hf.out]
          refine ⟨PA, pc, by show Ending.returned _ = Ending.returned (.tuple #[.agg #[I y.lo, I y.hi], .slice PA D.length pc, I 0]); rw [HN.out]; rfl, by rw [HN.out]; exact HPC.out.1, HPC.out.2, by rw [HN.out]; exact hrd, hbW0⟩
        obtain ⟨pb, po, rfl, _, hcc⟩ := HPK.out (by omega)
        have e0 := hcc k hkn 0 (by omega)
        rw [Nat.mul_one, Nat.add_zero] at e0
        have hpi := HIN.out (at0 D k) (by rw [at0_get (by rw [HN.out]; exact hkn)]; exact List.getElem_mem _)
        obtain ⟨j, hj⟩ : ∃ j : Nat, at0 D k = j := ⟨(at0 D k).toNat, by omega⟩
        have hjl : j < l.length := by omega
        have HJ : Hid (∀ V, Below Z.heap.size Z V → V.cell? ⟨pb, po + k, none⟩ = some (I j)) := fun V hV => by
          obtain ⟨pb', po', hpp, _, hc2⟩ := HPR4.out V (fun k _ h => hV.block k h) (by omega)
          obtain ⟨rfl, rfl⟩ : pb' = pb ∧ po' = po := by
            injection hpp with hpp
            injection hpp with h1 h2
            exact ⟨h1.symm, h2.symm⟩
          have := hc2 k hkn 0 (by omega)
          rw [Nat.mul_one, Nat.add_zero] at this
          rw [this]
          show some (I (at0 D k)) = _
          rw [hj]
        have z9 := ovr_cell (HJ.out Y hbz)
        have HST : Hid (trK l D x (k + 1) = stp9 (at0 l j) y) := by
          show (if (trK l D x k).2 = 0 then stp9 (at0 l (at0 D k).toNat) (trK l D x k).1 else trK l D x k) = _
          rw [HTK.out, hj]
          rfl
        have HKN := Lib.hid hkn
        clear e0 hcc hj hpi
        obtain ⟨gb, go, rfl, _, f0, f1, f2, f3, f4, f5⟩ := rd_gag (HRD.out Y (HWZ.out Y hbz)).1 hjl
        obtain ⟨r, hr⟩ : ∃ r, at0 l j = r := ⟨_, rfl⟩
        rw [hr] at f0 f1 f2 f3 f4 f5 HST
        have HRJ := Lib.hid hr
        have g1 := ovr_cell f1
        have g2 := ovr_cell f2
        clear hr f0 f1 f2 f3 f4 f5
        have reY : ∀ v, ∃ x, ovr Y v = ovr Z x := fun v => ovr_reB hbz v
        have SZ_yW00 := Lib.hid yW00
        replace yW00 := tr_cell reY yW00
        have SZ_yW01 := Lib.hid yW01
        replace yW01 := tr_cell reY yW01
        have SZ_RrowW0 := Lib.hid RrowW0.out
        replace RrowW0 := Lib.hid (tr_row reY RrowW0.out)
        have SZ_yW10 := Lib.hid yW10
        replace yW10 := tr_cell reY yW10
        have SZ_yW11 := Lib.hid yW11
        replace yW11 := tr_cell reY yW11
        have SZ_RrowW1 := Lib.hid RrowW1.out
        replace RrowW1 := Lib.hid (tr_row reY RrowW1.out)
        have yY00 := ovr_cell (W := Y) (b := Z.heap.size) (o := 0) (v := I y.lo) (by rw [cell_of_row _ _ _ _ _ _ hrow]; rfl)
        have yY01 := ovr_cell (W := Y) (b := Z.heap.size) (o := 1) (v := I y.hi) (by rw [cell_of_row _ _ _ _ _ _ hrow]; rfl)
        have RrowY0 := Lib.hid (ovr_row hrow)
        clear hrow
        have HBY : Hid (∀ u, Below Z.heap.size Z (ovr Y u)) := fun u => by obtain ⟨x, hx⟩ := reY u; rw [hx]; exact ovr_below _ _
        clear reY hbz
        obtain ⟨t, ht⟩ : ∃ t, tmF y r.f 1000000 = t := ⟨_, rfl⟩
        have CT : Hid (∀ V, Calls Try.prog 56 #[.agg #[I y.lo, I y.hi], .agg #[I r.f.lo, I r.f.hi], I 1000000] V fun e w' => e = .returned (.tuple #[.agg #[I t.1.lo, I t.1.hi], I t.2]) ∧ Below V.heap.size V w') := fun V => by
          rw [← ht, ← tmR_eq]
          exact refTimes_any y r.f 1000000 V
        have HSTP : Hid (stp9 r y = if t.2 = 0 then suF [t.1, r.o] else t) := by show _ = _; unfold stp9; rw [ht]
        clear ht
        obtain ⟨v0, hv0⟩ := ovr_self Y
        rw [hv0]
        clear hv0
        go_upto_region 16 with fail
        have hbT := ovr_below Y v0
        obtain ⟨T, hT⟩ : ∃ T, T = ovr Y v0 := ⟨_, rfl⟩
        rw [← hT] at hbT
        rw [← hT]
        have hT' := Lib.hid hT
        clear hT
        have hbT' := Lib.hid hbT
        have reT : ∀ v, ∃ x, ovr T v = ovr Y x := fun v => ovr_reB hbT v
        replace yW00 := tr_cell reT yW00
        replace yW01 := tr_cell reT yW01
        replace RrowW0 := Lib.hid (tr_row reT RrowW0.out)
        replace yW10 := tr_cell reT yW10
        replace yW11 := tr_cell reT yW11
        replace RrowW1 := Lib.hid (tr_row reT RrowW1.out)
        replace yY00 := tr_cell reT yY00
        replace yY01 := tr_cell reT yY01
        replace RrowY0 := Lib.hid (tr_row reT RrowY0.out)
        have HBT : Hid (∀ u, Below Y.heap.size Y (ovr T u)) := fun u => by obtain ⟨x, hx⟩ := reT u; rw [hx]; exact ovr_below _ _
        clear reT hbT
        replace g1 := tr_cell (fun v => ovr_reB hbT'.out v) g1
        replace g2 := tr_cell (fun v => ovr_reB hbT'.out v) g2
        replace z9 := tr_cell (fun v => ovr_reB hbT'.out v) z9
        refine Dm.wp_region_late 13 [12] (fun j => if j = 9 then some (fun u _ => u = .tuple #[.agg #[I t.1.lo, I t.1.hi], I t.2]) else none) (by kernel_rfl) (by kernel_rfl) (by kernel_rfl) (by kernel_rfl) [] (E := 24) ⟨by kernel_rfl, alloc_rng9, fun j hj => by cases hj⟩ (by kernel_rfl) (fun i hi => by simp only [List.mem_cons, List.not_mem_nil, or_false] at hi; rcases hi with rfl; rfl) (fun c a d v w h => by cases d <;> exact h) (by kernel_rfl) ?_
        simp only [List.take_succ_cons, List.take_zero, List.drop_succ_cons, List.drop_zero]
        repeat (first | (refine Dk.wpG_one rfl rfl rfl ?_; intro K hK; go_big_quiet_op; go_big_quiet_on) | (refine Dk.wpG_skip rfl ?_; simp only [Act.put, List.setIfInBounds_toArray, List.set_cons_zero, List.set_cons_succ]))
        refine Dk.wpG_make (fun u _ => u = .tuple #[.agg #[I t.1.lo, I t.1.hi], I t.2]) rfl rfl (fun w' hw' hk => ?_) (fun u hu => ?_)
        · go_simp
          exact call_grow (CT.out w')
        obtain ⟨_, _, rfl⟩ := hu
        simp only [Act.put, List.setIfInBounds_toArray, List.set_cons_zero, List.set_cons_succ]
        repeat (first | (refine Dk.wpG_one rfl rfl rfl ?_; intro K hK; go_big_quiet_op; go_big_quiet_on) | (refine Dk.wpG_skip rfl ?_; simp only [Act.put, List.setIfInBounds_toArray, List.set_cons_zero, List.set_cons_succ]))
        refine Dk.wpG_nil (fun w5 hw5 hG => ?_)
        clear hG
        obtain ⟨x5, rfl⟩ : ∃ z, w5 = ovr T z := ⟨w5, ovr_of hw5.le⟩
        clear hw5
        refine Dl.wpTailH_cons (wp_store_row 24 _ _ rfl Z.heap.size rfl _ _ (RrowY0.out x5) _ rfl (one2 rfl rfl) rfl (by kernel_rfl) ⟨trivial, ?_⟩)
        refine Dl.wpTailH_cons (wp_assign _ (I t.2) rfl rfl ⟨trivial, ?_⟩)
        refine Dl.wpTailH_nil ?_
        simp only [Act.put, List.setIfInBounds_toArray, List.set_cons_zero, List.set_cons_succ]
        go_upto_region 17 with fail
        refine name_w fun V hV => ?_
        have HBZV : Below Z.heap.size Z V := by
          rw [hV]
          exact below_setRow ((HBZ.out.trans (hbT'.out.mono HBZ.out.size)).trans ((ovr_below T x5).mono (Nat.le_trans HBZ.out.size hbT'.out.size))) (Nat.le_refl _) _
        have hrV : V.heap[Z.heap.size]? = some (.cells #[I t.1.lo, I t.1.hi] 24 (0, 0)) := by rw [hV]; exact setRow_same (RrowY0.out x5)
        clear hV
        have HBZ2 := Lib.hid HBZV
        clear CT z9
        by_cases ht0 : t.2 = 0
        case neg =>
          have d6 : (t.2 != 0) = true := by simpa using ht0
          rw [if_neg ht0] at HSTP
          have HERR : Hid (trF l g day x = (⟨0, 0⟩, [], t.2)) := by
            show _ = _
            have h1 : trK l D x (k + 1) = t := by rw [HST.out, HSTP.out]
            have h2 := trK_none (l := l) (p := D) (x := x) (k := k + 1) (by rw [h1]; exact ht0) n HKN.out
            rw [hf.out, h2, h1, if_neg ht0]
          clear ht0
          have reV : ∀ v, ∃ x, ovr V v = ovr Z x := fun v => ovr_reB HBZV v
          have yW00 := SZ_yW00.out
          replace yW00 := tr_cell reV yW00
          have yW01 := SZ_yW01.out
          replace yW01 := tr_cell reV yW01
          have RrowW0 := SZ_RrowW0
          replace RrowW0 := Lib.hid (tr_row reV RrowW0.out)
          have yW10 := SZ_yW10.out
          replace yW10 := tr_cell reV yW10
          have yW11 := SZ_yW11.out
          replace yW11 := tr_cell reV yW11
          have RrowW1 := SZ_RrowW1
          replace RrowW1 := Lib.hid (tr_row reV RrowW1.out)
          have yV00 := ovr_cell (W := V) (b := Z.heap.size) (o := 0) (v := I t.1.lo) (by rw [cell_of_row _ _ _ _ _ _ hrV]; rfl)
          have yV01 := ovr_cell (W := V) (b := Z.heap.size) (o := 1) (v := I t.1.hi) (by rw [cell_of_row _ _ _ _ _ _ hrV]; rfl)
          have RrowV0 := Lib.hid (ovr_row hrV)
          clear hrV
          have HBV : Hid (∀ u, Below Z.heap.size Z (ovr V u)) := fun u => by obtain ⟨x, hx⟩ := reV u; rw [hx]; exact ovr_below _ _
          clear reV HBZV
          obtain ⟨v1, hv1⟩ := ovr_self V
          rw [hv1]
          clear hv1
          go_wp2_with (with_reducible show wpList _ _ _ _ _ _; refine wpList_store_row rfl 24 _ _ rfl (w.heap.size + 1) rfl _ _ (RrowW1.out _) #[I 0, I 0] rfl (one2 rfl rfl) rfl (by kernel_rfl) ?_)
          refine bodyPost_ret (results_cell_tt9 rfl _ _ (w.heap.size + 1) 24 _ (0, 0) _ rfl (setRow_same (RrowW1.out _)) Try.underlying24 rfl (by kernel_rfl)) rfl ?_
          rw [HERR.out]
          exact RetTr.nil rfl (below_setRow (HWZ.out _ (HBZ2.out.trans ((ovr_below V v1).mono HBZ2.out.size))) (by omega) _)
        have d6 : (t.2 != 0) = false := by simpa using ht0
        rw [if_pos ht0] at HSTP
        clear ht0
        have z9 := ovr_cell (HJ.out V HBZV)
        have reV : ∀ v, ∃ x, ovr V v = ovr Z x := fun v => ovr_reB HBZV v
        have yW00 := SZ_yW00.out
        replace yW00 := tr_cell reV yW00
        have yW01 := SZ_yW01.out
        replace yW01 := tr_cell reV yW01
        have RrowW0 := SZ_RrowW0
        replace RrowW0 := Lib.hid (tr_row reV RrowW0.out)
        have yW10 := SZ_yW10.out
        replace yW10 := tr_cell reV yW10
        have yW11 := SZ_yW11.out
        replace yW11 := tr_cell reV yW11
        have RrowW1 := SZ_RrowW1
        replace RrowW1 := Lib.hid (tr_row reV RrowW1.out)
        have yV00 := ovr_cell (W := V) (b := Z.heap.size) (o := 0) (v := I t.1.lo) (by rw [cell_of_row _ _ _ _ _ _ hrV]; rfl)
        have yV01 := ovr_cell (W := V) (b := Z.heap.size) (o := 1) (v := I t.1.hi) (by rw [cell_of_row _ _ _ _ _ _ hrV]; rfl)
        have RrowV0 := Lib.hid (ovr_row hrV)
        clear hrV
        have HBV : Hid (∀ u, Below Z.heap.size Z (ovr V u)) := fun u => by obtain ⟨x, hx⟩ := reV u; rw [hx]; exact ovr_below _ _
        clear reV HBZV
        obtain ⟨v1, hv1⟩ := ovr_self V
        rw [hv1]
        clear hv1
        go_upto_region 19 with fail
        obtain ⟨gb', go', hgo, _, _, _, _, f3, f4, _⟩ := rd_gag (HRD.out V (HWZ.out V HBZ2.out)).1 hjl
        obtain ⟨rfl, rfl⟩ : gb' = gb ∧ go' = go := by
          injection hgo with hgo
          injection hgo with h1 h2
          exact ⟨h1.symm, h2.symm⟩
        rw [HRJ.out] at f3 f4
        have g3 := ovr_cell f3
        have g4 := ovr_cell f4
        clear f3 f4 hgo g1 g2
        have hbU := ovr_below V v1
        obtain ⟨U, hU⟩ : ∃ U, U = ovr V v1 := ⟨_, rfl⟩
        rw [← hU] at hbU
        rw [← hU]
        have hU' := Lib.hid hU
        clear hU
        have hbU' := Lib.hid hbU
        have reU : ∀ v, ∃ x, ovr U v = ovr V x := fun v => ovr_reB hbU v
        replace yW00 := tr_cell reU yW00
        replace yW01 := tr_cell reU yW01
        replace RrowW0 := Lib.hid (tr_row reU RrowW0.out)
        replace yW10 := tr_cell reU yW10
        replace yW11 := tr_cell reU yW11
        replace RrowW1 := Lib.hid (tr_row reU RrowW1.out)
        replace yV00 := tr_cell reU yV00
        replace yV01 := tr_cell reU yV01
        replace RrowV0 := Lib.hid (tr_row reU RrowV0.out)
        have HBU : Hid (∀ u, Below V.heap.size V (ovr U u)) := fun u => by obtain ⟨x, hx⟩ := reU u; rw [hx]; exact ovr_below _ _
        clear reU hbU
        replace g3 := tr_cell (fun v => ovr_reB hbU'.out v) g3
        replace g4 := tr_cell (fun v => ovr_reB hbU'.out v) g4
        replace z9 := tr_cell (fun v => ovr_reB hbU'.out v) z9
        obtain ⟨s, hs⟩ : ∃ s, suF [t.1, r.o] = s := ⟨_, rfl⟩
        rw [hs] at HSTP
        have HSU := Lib.hid hs
        clear hs
        refine Dm.wp_region_late 14 [13] (fun j => if j = 9 then some (SlN U #[I t.1.lo, I t.1.hi, I r.o.lo, I r.o.hi] 24 2) else if j = 10 then some (fun u _ => u = .tuple #[.agg #[I s.1.lo, I s.1.hi], I s.2]) else none) (by kernel_rfl) (by kernel_rfl) (by kernel_rfl) (by kernel_rfl) [] (E := 24) ⟨by kernel_rfl, alloc_rng9, fun j hj => by cases hj⟩ (by kernel_rfl) (fun i hi => by simp only [List.mem_cons, List.not_mem_nil, or_false] at hi; rcases hi with rfl; rfl) (fun c a d v w h => by cases d <;> exact h) (by kernel_rfl) ?_
        simp only [List.take_succ_cons, List.take_zero, List.drop_succ_cons, List.drop_zero]
        repeat (first | (refine Dk.wpG_one rfl rfl rfl ?_; intro K hK; go_big_quiet_op; go_big_quiet_on) | (refine Dk.wpG_skip rfl ?_; simp only [Act.put, List.setIfInBounds_toArray, List.set_cons_zero, List.set_cons_succ]))
        refine Dk.wpG_make (SlN U #[I t.1.lo, I t.1.hi, I r.o.lo, I r.o.hi] 24 2) rfl rfl (fun w' hw' hk => ?_) (fun u hu => ?_)
        · go_simp
          exact sln_grow hw'
        obtain ⟨_, _, b2, rfl, _, _⟩ := hu
        simp only [Act.put, List.setIfInBounds_toArray, List.set_cons_zero, List.set_cons_succ]
        repeat (first | (refine Dk.wpG_one rfl rfl rfl ?_; intro K hK; go_big_quiet_op; go_big_quiet_on) | (refine Dk.wpG_skip rfl ?_; simp only [Act.put, List.setIfInBounds_toArray, List.set_cons_zero, List.set_cons_succ]))
        refine Dk.wpG_make (fun u _ => u = .tuple #[.agg #[I s.1.lo, I s.1.hi], I s.2]) rfl rfl (fun w' hw' hk => ?_) (fun u hu => ?_)
        · have hk3 := (hk ⟨9, .data⟩ (by simp) rfl _ _ _ rfl rfl rfl (by simp) rfl).now.at
          have h9 := refSumRow (r := t.1) (s := r.o) hk3.1
          rw [HSU.out] at h9
          go_simp
          exact call_grow h9
        obtain ⟨_, _, rfl⟩ := hu
        simp only [Act.put, List.setIfInBounds_toArray, List.set_cons_zero, List.set_cons_succ]
        repeat (first | (refine Dk.wpG_one rfl rfl rfl ?_; intro K hK; go_big_quiet_op; go_big_quiet_on) | (refine Dk.wpG_skip rfl ?_; simp only [Act.put, List.setIfInBounds_toArray, List.set_cons_zero, List.set_cons_succ]))
        refine Dk.wpG_nil (fun w5 hw5 hG => ?_)
        clear hG
        obtain ⟨x6, rfl⟩ : ∃ z, w5 = ovr U z := ⟨w5, ovr_of hw5.le⟩
        clear hw5
        refine Dl.wpTailH_cons (wp_store_row 24 _ _ rfl Z.heap.size rfl _ _ (RrowV0.out x6) _ rfl (one2 rfl rfl) rfl (by kernel_rfl) ⟨trivial, ?_⟩)
        refine Dl.wpTailH_cons (wp_assign _ (I s.2) rfl rfl ⟨trivial, ?_⟩)
        refine Dl.wpTailH_nil ?_
        simp only [Act.put, List.setIfInBounds_toArray, List.set_cons_zero, List.set_cons_succ]
        go_upto_region 20 with fail
        refine name_w fun V2 hV2 => ?_
        have HBZV2 : Below Z.heap.size Z V2 := by
          rw [hV2]
          exact below_setRow ((HBZ2.out.trans (hbU'.out.mono HBZ2.out.size)).trans ((ovr_below U x6).mono (Nat.le_trans HBZ2.out.size hbU'.out.size))) (Nat.le_refl _) _
        have hrV2 : V2.heap[Z.heap.size]? = some (.cells #[I s.1.lo, I s.1.hi] 24 (0, 0)) := by rw [hV2]; exact setRow_same (RrowV0.out x6)
        clear hV2
        have HBZ3 := Lib.hid HBZV2
        have HRV2 := Lib.hid hrV2
        by_cases hs0 : s.2 = 0
        case neg =>
          have d6 : (s.2 != 0) = true := by simpa using hs0
          have HERR : Hid (trF l g day x = (⟨0, 0⟩, [], s.2)) := by
            show _ = _
            have h1 : trK l D x (k + 1) = s := by rw [HST.out, HSTP.out]
            have h2 := trK_none (l := l) (p := D) (x := x) (k := k + 1) (by rw [h1]; exact hs0) n HKN.out
            rw [hf.out, h2, h1, if_neg hs0]
          clear hs0
          have reV2 : ∀ v, ∃ x, ovr V2 v = ovr Z x := fun v => ovr_reB HBZV2 v
          have yW00 := SZ_yW00.out
          replace yW00 := tr_cell reV2 yW00
          have yW01 := SZ_yW01.out
          replace yW01 := tr_cell reV2 yW01
          have RrowW0 := SZ_RrowW0
          replace RrowW0 := Lib.hid (tr_row reV2 RrowW0.out)
          have yW10 := SZ_yW10.out
          replace yW10 := tr_cell reV2 yW10
          have yW11 := SZ_yW11.out
          replace yW11 := tr_cell reV2 yW11
          have RrowW1 := SZ_RrowW1
          replace RrowW1 := Lib.hid (tr_row reV2 RrowW1.out)
          have yV200 := ovr_cell (W := V2) (b := Z.heap.size) (o := 0) (v := I s.1.lo) (by rw [cell_of_row _ _ _ _ _ _ hrV2]; rfl)
          have yV201 := ovr_cell (W := V2) (b := Z.heap.size) (o := 1) (v := I s.1.hi) (by rw [cell_of_row _ _ _ _ _ _ hrV2]; rfl)
          have RrowV20 := Lib.hid (ovr_row hrV2)
          clear hrV2
          have HBV2 : Hid (∀ u, Below Z.heap.size Z (ovr V2 u)) := fun u => by obtain ⟨x, hx⟩ := reV2 u; rw [hx]; exact ovr_below _ _
          clear reV2 HBZV2
          obtain ⟨v2, hv2⟩ := ovr_self V2
          rw [hv2]
          clear hv2
          go_wp2_with (with_reducible show wpList _ _ _ _ _ _; refine wpList_store_row rfl 24 _ _ rfl (w.heap.size + 1) rfl _ _ (RrowW1.out _) #[I 0, I 0] rfl (one2 rfl rfl) rfl (by kernel_rfl) ?_)
          refine bodyPost_ret (results_cell_tt9 rfl _ _ (w.heap.size + 1) 24 _ (0, 0) _ rfl (setRow_same (RrowW1.out _)) Try.underlying24 rfl (by kernel_rfl)) rfl ?_
          rw [HERR.out]
          exact RetTr.nil rfl (below_setRow (HWZ.out _ (HBZ3.out.trans ((ovr_below V2 v2).mono HBZ3.out.size))) (by omega) _)
        have d6 : (s.2 != 0) = false := by simpa using hs0
        have HNX : Hid (trK l D x (k + 1) = (s.1, 0)) := by show _ = _; rw [HST.out, HSTP.out, ← hs0]
        have HS0 := Lib.hid hs0
        clear hrV2 HBZV2
        rw [hs0]
        rw [hs0] at d6
        clear hs0
        have hn9 := HDL.out
        have hk9 := HKN.out
        go_wp2_with fail
        go_roundw
        case rel => exact ⟨k + 1, s.1, HKN.out, by go_num, rfl, HNX.out, HBZ3.out, HRV2.out⟩
        case measure => have := HKN.out; simp [intOf]; omega
    have d2 : decide (0 ≤ q) = true := decide_eq_true hq
    obtain ⟨k, rfl⟩ : ∃ k : Nat, q = k := ⟨q.toNat, by omega⟩
    have hk : k < l.length := by have := HQ.out; omega
    obtain ⟨b, o, rfl, _, e0, _, _, _, _, e5⟩ := rd_gag (HRD.out _ (HUW.out u)).1 hk
    have HBY := Lib.hid (gag_by HO.out hk)
    have HKL := Lib.hid hk
    have hk30 : k ≤ 30 := by have := okGag_len HO.out; omega
    have HOL : Hid (old9 l day (k : Int) = decide ((at0 l k).u < day)) := by show _ = _; unfold old9; rw [Int.toNat_natCast]
    have HPE : Hid (∃ r, path9 l g = D ++ (k : Int) :: r) := by
      show ∃ r, _
      rw [HP.out]
      have h1 := HQ.out
      obtain ⟨f', rfl⟩ : ∃ f', f = f' + 1 := ⟨f - 1, by omega⟩
      exact ⟨_, by rw [pth, if_neg (by omega)]⟩
    obtain ⟨r, hr⟩ : ∃ r, (at0 l k).by_ = r := ⟨_, rfl⟩
    have HF : Hid (path9 l g = (D ++ [(k : Int)]) ++ pth l (f - 1) r ∧ r + 1 ≤ ((f - 1 : Nat) : Int)) := by
      show _ ∧ _
      have h1 := HQ.out
      have h2 := HBY.out
      rw [HP.out]
      obtain ⟨f', rfl⟩ : ∃ f', f = f' + 1 := ⟨f - 1, by omega⟩
      rw [Nat.add_sub_cancel]
      refine ⟨?_, by omega⟩
      rw [List.append_assoc]
      show D ++ pth l (f' + 1) k = _
      rw [pth, if_neg (by omega), Int.toNat_natCast, hr]
      rfl
    obtain ⟨uu, huu⟩ : ∃ v, (at0 l k).u = v := ⟨_, rfl⟩
    have HRB := Lib.hid hr
    rw [hr] at HBY
    rw [huu] at e5 HOL
    clear hq hr huu
    by_cases hol : uu < day
    · have d3 : decide (uu < day) = true := decide_eq_true hol
      have HNY : Hid (trF l g day x = (⟨0, 0⟩, [], 90)) := by
        show _ = _
        obtain ⟨r, hr⟩ := HPE.out
        rw [hf.out, if_pos (by rw [hr, List.any_append, List.any_cons, HOL.out, d3]; simp)]
      clear hol
      go_wp2_with (with_reducible show wpList _ _ _ _ _ _; refine wpList_store_row rfl 24 _ _ rfl (w.heap.size + 1) rfl _ _ (RrowW1.out _) #[I 0, I 0] rfl (one2 rfl rfl) rfl (by kernel_rfl) ?_)
      refine bodyPost_ret (results_cell_tt9 rfl _ _ (w.heap.size + 1) 24 _ (0, 0) _ rfl (setRow_same (RrowW1.out _)) Try.underlying24 rfl (by kernel_rfl)) rfl ?_
      rw [HNY.out]
      exact RetTr.nil rfl (below_setRow (HUW.out _) (by omega) _)
    have d3 : decide (uu < day) = false := decide_eq_false hol
    have HAN2 : Hid ((D ++ [(k : Int)]).any (old9 l day) = false) := by
      show _ = _
      rw [List.any_append, HAN.out]
      simp [HOL.out, d3]
    clear e0 hol
    go_wp2_with (at_builtin; go_loud (refine wpList_app_soc rfl _ _ 30 rfl 3 i0 _ 1 8 Try.underlying30 hi0 iz0 iz1 iz2 rfl (by decide) W.heap.size D.length (D.map fun x => I x) u11 rfl (HSO.out.over ((Below.refl _ _).alloc (Nat.le_refl _) _)) ⟨(ovr W u).heap.size, 0, none⟩ 1 [I k] rfl rfl (news_lit (cs := #[I k]) (heap_last _ _ _ rfl)) (by simp [Value.oneCell']) (Nat.le_trans (ovr_below W u).size (by simp)) (by have := HDL.out; omega) (by decide) ?_))
    intro v9 w9 hso9 hb9
    obtain ⟨u10, rfl⟩ : ∃ z, w9 = ovr W z := ⟨w9, ovr_of (((ovr_below W u).alloc (ovr_below W u).size _).trans hb9)⟩
    have HSO9 : Hid (SoC 3 1 W.heap.size (D ++ [(k : Int)]).length ((D ++ [(k : Int)]).map fun x => I x) v9 (ovr W u10)) := by
      show SoC _ _ _ _ _ _ _
      rw [← app_one, List.length_append]
      exact hso9
    clear hso9 hb9 e5
    obtain ⟨b', o', hbo, _, g0, _⟩ := rd_gag (HRD.out _ (HUW.out u10)).1 HKL.out
    obtain ⟨rfl, rfl⟩ : b' = b ∧ o' = o := by
      injection hbo with hbo
      injection hbo with h1 h2
      exact ⟨h1.symm, h2.symm⟩
    rw [HRB.out] at g0
    clear hbo
    go_wp2_with fail
    go_roundw
    case rel => exact ⟨D ++ [(k : Int)], f - 1, r, u10, rfl, HF.out.1, HF.out.2, HBY.out.1, by have := HBY.out.2; have := HKL.out; omega, rfl, HSO9.out, HAN2.out⟩
    case measure => have := HBY.out; show (r + 1).toNat < ((k : Int) + 1).toNat; omega
end Go.Proofs.Ytljjpidigckheaa.Un
