/- bouleref09.Variation. -/
import Derived.Test.YtljjpidigckheaaQaf
import Derived.Test.YtljjpidigckheaaKe
import Derived.Test.YtljjpidigckheaaFg
namespace Go.Proofs.Ytljjpidigckheaa.Un
open Go.RowKit
theorem vaS_same {xs : List Rng} (ha : all9 (-1000000) 1000000 xs = true) {i : Nat} (hi : i < xs.length) {s : Vst} (h : VaB s) : vaS xs i s i = s := by
  have a1 := all9_at ha hi
  unfold VaB at h
  unfold vaS
  rw [if_neg (fun h => h.1 rfl), Int.max_eq_left (by omega)]
/-- What holds while pairs are looked at. -/
def VrW (w0 : World) (x : Sht) (A : Option Addr) (n q : Nat) (s : Vst) (wr : World) : Prop := Below w0.heap.size w0 wr ∧ (w0.heap.size + 2 ≤ q ∧ q < wr.heap.size) ∧ wr.heap[w0.heap.size]? = some (.cells #[I x.w, I x.h, I x.c.lo, I x.c.hi, .slice A x.s.length n] 37 (0, 0)) ∧ wr.heap[w0.heap.size + 1]? = some (.cells #[I 0, I 0] 24 (0, 0)) ∧ wr.heap[q]? = some (.cells #[I s.lo, I s.hi] 24 (0, 0))
theorem VrW.below {w0 : World} {x : Sht} {A : Option Addr} {n q : Nat} {s : Vst} {V U : World} (h : VrW w0 x A n q s V) (hb : Below V.heap.size V U) : VrW w0 x A n q s U := by
  obtain ⟨g1, g2, g3, g4, g5⟩ := h
  exact ⟨g1.trans (hb.mono g1.size), ⟨g2.1, Nat.lt_of_lt_of_le g2.2 hb.size⟩, (hb.block _ (lt_of_row g3)).trans g3, (hb.block _ (lt_of_row g4)).trans g4, (hb.block _ (lt_of_row g5)).trans g5⟩
theorem VrW.lo {w0 : World} {x : Sht} {A : Option Addr} {n q : Nat} {s : Vst} {V : World} (h : VrW w0 x A n q s V) (v : Int) : VrW w0 x A n q ⟨v, s.hi, s.a, s.b⟩ (V.setCell ⟨q, 0, none⟩ (I v)) := by
  obtain ⟨g1, g2, g3, g4, g5⟩ := h
  exact ⟨sc_below g1 (by omega) 0 _, ⟨g2.1, Nat.lt_of_lt_of_le g2.2 (sc_size _ _ _ _)⟩, sc_other g3 (by omega), sc_other g4 (by omega), rs g5 0 _⟩
theorem VrW.hi {w0 : World} {x : Sht} {A : Option Addr} {n q : Nat} {s : Vst} {V : World} (h : VrW w0 x A n q s V) (v a b : Int) : VrW w0 x A n q ⟨s.lo, v, a, b⟩ (V.setCell ⟨q, 1, none⟩ (I v)) := by
  obtain ⟨g1, g2, g3, g4, g5⟩ := h
  exact ⟨sc_below g1 (by omega) 1 _, ⟨g2.1, Nat.lt_of_lt_of_le g2.2 (sc_size _ _ _ _)⟩, sc_other g3 (by omega), sc_other g4 (by omega), rs g5 1 _⟩
set_option maxRecDepth 100000 in
set_option maxHeartbeats 4000000 in
theorem refVariation_any (x : Sht) (A : Option Addr) (n : Nat) (w : World) (B : Nat) (ho : okSh x = true) (hB : B ≤ w.heap.size) (hx : Rd w B 2 A x.s.length (rR x.s)) :
    Calls Try.prog 26 #[.agg (shA x A n)] w fun e w' => e = .returned (.tuple #[.agg #[I (va9 x).lo, I (va9 x).hi], I (va9 x).a, I (va9 x).b]) ∧ Below w.heap.size w w' := by
  have HX : Hid (∀ V, Below w.heap.size w V → Rd V B 2 A x.s.length (rR x.s) ∧ B ≤ V.heap.size) := fun V hV => ⟨hx.below (hV.mono hB), Nat.le_trans hB hV.size⟩
  have hf : Hid (va9 x = if okSh x then vaO x.s x.s.length else ⟨0, 0, 0, 0⟩) := rfl
  rw [ho] at hf
  have HA := Lib.hid (okSh_iff.1 ho).2.2.2.1
  have H36 := Lib.hid (sh_small ho)
  clear hx hB ho
  obtain ⟨W, hW⟩ : ∃ W, W = ((w.alloc (.cells #[I x.w, I x.h, I x.c.lo, I x.c.hi, .slice A x.s.length n] 37)).alloc (.cells #[I 0, I 0] 24)) := ⟨_, rfl⟩
  have rowW0 : W.heap[w.heap.size]? = some (.cells #[I x.w, I x.h, I x.c.lo, I x.c.hi, .slice A x.s.length n] 37 (0, 0)) := by rw [hW]; exact heap_before (heap_last _ _ _ rfl)
  have yW00 := ovr_cell (W := W) (b := w.heap.size) (o := 0) (v := I x.w) (by rw [cell_of_row _ _ _ _ _ _ rowW0]; rfl)
  have yW01 := ovr_cell (W := W) (b := w.heap.size) (o := 1) (v := I x.h) (by rw [cell_of_row _ _ _ _ _ _ rowW0]; rfl)
  have yW02 := ovr_cell (W := W) (b := w.heap.size) (o := 2) (v := I x.c.lo) (by rw [cell_of_row _ _ _ _ _ _ rowW0]; rfl)
  have yW03 := ovr_cell (W := W) (b := w.heap.size) (o := 3) (v := I x.c.hi) (by rw [cell_of_row _ _ _ _ _ _ rowW0]; rfl)
  have yW04 := ovr_cell (W := W) (b := w.heap.size) (o := 4) (v := .slice A x.s.length n) (by rw [cell_of_row _ _ _ _ _ _ rowW0]; rfl)
  have RrowW0 := Lib.hid (ovr_row rowW0)
  clear rowW0
  have rowW1 : W.heap[w.heap.size + 1]? = some (.cells #[I 0, I 0] 24 (0, 0)) := by rw [hW]; exact heap_last _ _ _ (by simp)
  have yW10 := ovr_cell (W := W) (b := w.heap.size + 1) (o := 0) (v := I 0) (by rw [cell_of_row _ _ _ _ _ _ rowW1]; rfl)
  have yW11 := ovr_cell (W := W) (b := w.heap.size + 1) (o := 1) (v := I 0) (by rw [cell_of_row _ _ _ _ _ _ rowW1]; rfl)
  have RrowW1 := Lib.hid (ovr_row rowW1)
  clear rowW1
  have HUW : Hid (∀ u, Below w.heap.size w (ovr W u)) := U2 hW
  have HW := Lib.hid hW
  clear hW
  go_enter Try.func26, Try.ntmps26
  go_upto_region 1 with (fail)
  rw [← HW.out]
  obtain ⟨u0, hu0⟩ := ovr_self W
  rw [hu0]
  clear hu0
  obtain ⟨q, hq⟩ : ∃ q, q = (ovr W u0).heap.size := ⟨_, rfl⟩
  go_upto_region 2 with (with_reducible show wpList _ _ _ _ _ _; refine wpList_store_row rfl 24 _ _ rfl (ovr W u0).heap.size rfl _ _ (heap_last _ _ _ rfl) #[I 0, I (-1)] rfl (one2 rfl rfl) rfl (by kernel_rfl) ?_)
  refine name_w fun V hV => ?_
  have HVW : Hid (VrW w x A n q (vaO x.s 0) V) := by
    have hb9 : Below (ovr W u0).heap.size (ovr W u0) ((ovr W u0).alloc (.cells #[I 0, I 0] 24)) := (Below.refl _ _).alloc (Nat.le_refl _) _
    have l0 := lt_of_row (RrowW0.out u0)
    have l1 := lt_of_row (RrowW1.out u0)
    show VrW _ _ _ _ _ _ _
    rw [hV, hq]
    refine ⟨below_setRow ((HUW.out u0).trans (hb9.mono (HUW.out u0).size)) (by omega) _, ⟨by omega, by rw [setRow_size]; simp⟩, (setRow_other (by omega)).trans ((hb9.block _ l0).trans (RrowW0.out u0)), (setRow_other (by omega)).trans ((hb9.block _ l1).trans (RrowW1.out u0)), setRow_same (heap_last _ _ _ rfl)⟩
  rw [← hq]
  clear hV hq
  obtain ⟨_, _, row0, _, _⟩ := HVW.out
  have yV00 := ovr_cell (W := V) (b := w.heap.size) (o := 0) (v := I x.w) (by rw [cell_of_row _ _ _ _ _ _ row0]; rfl)
  have zV00 : ∀ u, (ovr V u).frozen? ⟨w.heap.size, 0, none⟩ = false := fun u => frozen_of_row _ _ _ _ _ (ovr_row row0 u)
  have yV01 := ovr_cell (W := V) (b := w.heap.size) (o := 1) (v := I x.h) (by rw [cell_of_row _ _ _ _ _ _ row0]; rfl)
  have zV01 : ∀ u, (ovr V u).frozen? ⟨w.heap.size, 1, none⟩ = false := fun u => frozen_of_row _ _ _ _ _ (ovr_row row0 u)
  have yV02 := ovr_cell (W := V) (b := w.heap.size) (o := 2) (v := I x.c.lo) (by rw [cell_of_row _ _ _ _ _ _ row0]; rfl)
  have zV02 : ∀ u, (ovr V u).frozen? ⟨w.heap.size, 2, none⟩ = false := fun u => frozen_of_row _ _ _ _ _ (ovr_row row0 u)
  have yV03 := ovr_cell (W := V) (b := w.heap.size) (o := 3) (v := I x.c.hi) (by rw [cell_of_row _ _ _ _ _ _ row0]; rfl)
  have zV03 : ∀ u, (ovr V u).frozen? ⟨w.heap.size, 3, none⟩ = false := fun u => frozen_of_row _ _ _ _ _ (ovr_row row0 u)
  have yV04 := ovr_cell (W := V) (b := w.heap.size) (o := 4) (v := .slice A x.s.length n) (by rw [cell_of_row _ _ _ _ _ _ row0]; rfl)
  have zV04 : ∀ u, (ovr V u).frozen? ⟨w.heap.size, 4, none⟩ = false := fun u => frozen_of_row _ _ _ _ _ (ovr_row row0 u)
  have RrowV0 := Lib.hid (ovr_row row0)
  clear row0
  obtain ⟨v0, hv0⟩ := ovr_self V
  rw [hv0]
  clear hv0
  have HVv : Hid (VrW w x A n q (vaO x.s 0) (ovr V v0)) := HVW.out.below (ovr_below V v0)
  go_wp2_with fail
  clear RrowV0
  go_loopw [8, 6, 7] (fun iv av bv wr => ∃ (i : Nat) (s : Vst), i ≤ x.s.length ∧ iv = .int .i64 i ∧ av = I s.a ∧ bv = I s.b ∧ s = vaO x.s i ∧ VrW w x A n q s wr) (fun iv _ _ _ => x.s.length - (intOf iv).toNat)
  case atStart => exact ⟨0, _, by omega, rfl, rfl, rfl, rfl, HVv.out⟩
  case round =>
    obtain ⟨i, s, hi, rfl, rfl, rfl, hs, hvw⟩ := hrel
    have HS := Lib.hid hs
    have HVS := Lib.hid hvw
    clear hs hvw HVv HVW
    obtain ⟨hb, hsz, row0, row1, row2⟩ := HVS.out
    by_cases hlt : i < x.s.length
    case neg =>
      obtain rfl : i = x.s.length := by omega
      have HFI : Hid (va9 x = s) := by show _ = _; rw [hf.out, HS.out]; rfl
      have ywr00 := ovr_cell (W := wr) (b := q) (o := 0) (v := I s.lo) (by rw [cell_of_row _ _ _ _ _ _ row2]; rfl)
      have zwr00 : ∀ u, (ovr wr u).frozen? ⟨q, 0, none⟩ = false := fun u => frozen_of_row _ _ _ _ _ (ovr_row row2 u)
      have ywr01 := ovr_cell (W := wr) (b := q) (o := 1) (v := I s.hi) (by rw [cell_of_row _ _ _ _ _ _ row2]; rfl)
      have zwr01 : ∀ u, (ovr wr u).frozen? ⟨q, 1, none⟩ = false := fun u => frozen_of_row _ _ _ _ _ (ovr_row row2 u)
      have Rrowwr0 := Lib.hid (ovr_row row2)
      clear row2
      have ywr10 := ovr_cell (W := wr) (b := w.heap.size + 1) (o := 0) (v := I 0) (by rw [cell_of_row _ _ _ _ _ _ row1]; rfl)
      have zwr10 : ∀ u, (ovr wr u).frozen? ⟨w.heap.size + 1, 0, none⟩ = false := fun u => frozen_of_row _ _ _ _ _ (ovr_row row1 u)
      have ywr11 := ovr_cell (W := wr) (b := w.heap.size + 1) (o := 1) (v := I 0) (by rw [cell_of_row _ _ _ _ _ _ row1]; rfl)
      have zwr11 : ∀ u, (ovr wr u).frozen? ⟨w.heap.size + 1, 1, none⟩ = false := fun u => frozen_of_row _ _ _ _ _ (ovr_row row1 u)
      have Rrowwr1 := Lib.hid (ovr_row row1)
      clear row1
      have ywr20 := ovr_cell (W := wr) (b := w.heap.size) (o := 0) (v := I x.w) (by rw [cell_of_row _ _ _ _ _ _ row0]; rfl)
      have zwr20 : ∀ u, (ovr wr u).frozen? ⟨w.heap.size, 0, none⟩ = false := fun u => frozen_of_row _ _ _ _ _ (ovr_row row0 u)
      have ywr21 := ovr_cell (W := wr) (b := w.heap.size) (o := 1) (v := I x.h) (by rw [cell_of_row _ _ _ _ _ _ row0]; rfl)
      have zwr21 : ∀ u, (ovr wr u).frozen? ⟨w.heap.size, 1, none⟩ = false := fun u => frozen_of_row _ _ _ _ _ (ovr_row row0 u)
      have ywr22 := ovr_cell (W := wr) (b := w.heap.size) (o := 2) (v := I x.c.lo) (by rw [cell_of_row _ _ _ _ _ _ row0]; rfl)
      have zwr22 : ∀ u, (ovr wr u).frozen? ⟨w.heap.size, 2, none⟩ = false := fun u => frozen_of_row _ _ _ _ _ (ovr_row row0 u)
      have ywr23 := ovr_cell (W := wr) (b := w.heap.size) (o := 3) (v := I x.c.hi) (by rw [cell_of_row _ _ _ _ _ _ row0]; rfl)
      have zwr23 : ∀ u, (ovr wr u).frozen? ⟨w.heap.size, 3, none⟩ = false := fun u => frozen_of_row _ _ _ _ _ (ovr_row row0 u)
      have ywr24 := ovr_cell (W := wr) (b := w.heap.size) (o := 4) (v := .slice A x.s.length n) (by rw [cell_of_row _ _ _ _ _ _ row0]; rfl)
      have zwr24 : ∀ u, (ovr wr u).frozen? ⟨w.heap.size, 4, none⟩ = false := fun u => frozen_of_row _ _ _ _ _ (ovr_row row0 u)
      have Rrowwr2 := Lib.hid (ovr_row row0)
      clear row0
      have Hb := Lib.hid hb
      clear hb hsz
      obtain ⟨u5, hu5⟩ := ovr_self wr
      rw [hu5]
      clear hu5
      go_wp2_with (with_reducible show wpList _ _ _ _ _ _; refine wpList_store_row rfl 24 _ _ rfl (w.heap.size + 1) rfl _ _ (Rrowwr1.out _) #[I s.lo, I s.hi] rfl (one2 rfl rfl) rfl (by kernel_rfl) ?_)
      refine bodyPost_ret (results_cell_tt9 rfl _ _ (w.heap.size + 1) 24 _ (0, 0) _ rfl (setRow_same (Rrowwr1.out _)) Try.underlying24 rfl (by kernel_rfl)) rfl ?_
      exact ⟨by rw [HFI.out]; rfl, below_setRow (Hb.out.trans ((ovr_below _ _).mono Hb.out.size)) (by omega) _⟩
    obtain ⟨b, o, rfl, _, e0, e1⟩ := (HX.out _ hb).1.rng hlt
    have HAI := Lib.hid (all9_at HA.out hlt)
    have HBI : Hid (VaB s) := by show VaB s; rw [HS.out]; exact vaO_bd HA.out i (by omega)
    have HLT := Lib.hid hlt
    have hi36 : i ≤ 36 := by have := H36.out; omega
    have HVI : Hid (∀ k, vaI x.s i s (k + 1) = vaS x.s i (vaI x.s i s k) k) := fun k => rfl
    have HVO : Hid (vaI x.s i s x.s.length = vaO x.s (i + 1)) := by show _ = _; rw [HS.out]; rfl
    obtain ⟨p, hp⟩ : ∃ p, at0 x.s i = p := ⟨_, rfl⟩
    rw [hp] at HAI
    have HP := Lib.hid hp
    clear hp e0 e1
    have ywr00 := ovr_cell (W := wr) (b := w.heap.size) (o := 0) (v := I x.w) (by rw [cell_of_row _ _ _ _ _ _ row0]; rfl)
    have zwr00 : ∀ u, (ovr wr u).frozen? ⟨w.heap.size, 0, none⟩ = false := fun u => frozen_of_row _ _ _ _ _ (ovr_row row0 u)
    have ywr01 := ovr_cell (W := wr) (b := w.heap.size) (o := 1) (v := I x.h) (by rw [cell_of_row _ _ _ _ _ _ row0]; rfl)
    have zwr01 : ∀ u, (ovr wr u).frozen? ⟨w.heap.size, 1, none⟩ = false := fun u => frozen_of_row _ _ _ _ _ (ovr_row row0 u)
    have ywr02 := ovr_cell (W := wr) (b := w.heap.size) (o := 2) (v := I x.c.lo) (by rw [cell_of_row _ _ _ _ _ _ row0]; rfl)
    have zwr02 : ∀ u, (ovr wr u).frozen? ⟨w.heap.size, 2, none⟩ = false := fun u => frozen_of_row _ _ _ _ _ (ovr_row row0 u)
    have ywr03 := ovr_cell (W := wr) (b := w.heap.size) (o := 3) (v := I x.c.hi) (by rw [cell_of_row _ _ _ _ _ _ row0]; rfl)
    have zwr03 : ∀ u, (ovr wr u).frozen? ⟨w.heap.size, 3, none⟩ = false := fun u => frozen_of_row _ _ _ _ _ (ovr_row row0 u)
    have ywr04 := ovr_cell (W := wr) (b := w.heap.size) (o := 4) (v := .slice (some ⟨b, o, none⟩) x.s.length n) (by rw [cell_of_row _ _ _ _ _ _ row0]; rfl)
    have zwr04 : ∀ u, (ovr wr u).frozen? ⟨w.heap.size, 4, none⟩ = false := fun u => frozen_of_row _ _ _ _ _ (ovr_row row0 u)
    have Rrowwr0 := Lib.hid (ovr_row row0)
    clear row0
    clear row1 row2 hb hsz
    obtain ⟨u5, hu5⟩ := ovr_self wr
    rw [hu5]
    clear hu5
    have HV2u : Hid (VrW w x (some ⟨b, o, none⟩) n q (vaI x.s i s 0) (ovr wr u5)) := HVS.out.below (ovr_below wr u5)
    go_wp2_with fail
    clear Rrowwr0
    go_loopw [9, 6, 7] (fun iv av bv wr2 => ∃ (k : Nat) (t : Vst), k ≤ x.s.length ∧ iv = .int .i64 k ∧ av = I t.a ∧ bv = I t.b ∧ t = vaI x.s i s k ∧ VrW w x (some ⟨b, o, none⟩) n q t wr2) (fun iv _ _ _ => x.s.length - (intOf iv).toNat)
    case atStart => exact ⟨0, _, by omega, rfl, rfl, rfl, rfl, HV2u.out⟩
    case round =>
      obtain ⟨k, t, hk, rfl, rfl, rfl, ht, hvw⟩ := hrel
      rename World => Y
      have HT := Lib.hid ht
      have HVT := Lib.hid hvw
      clear ht hvw HV2u
      obtain ⟨hb, hsz, row0, row1, row2⟩ := HVT.out
      by_cases hkl : k < x.s.length
      case neg =>
        obtain rfl : k = x.s.length := by omega
        have HFI : Hid (t = vaO x.s (i + 1)) := by show _ = _; rw [HT.out, HVO.out]
        clear row1 row2 hb hsz
        have yY00 := ovr_cell (W := Y) (b := w.heap.size) (o := 0) (v := I x.w) (by rw [cell_of_row _ _ _ _ _ _ row0]; rfl)
        have zY00 : ∀ u, (ovr Y u).frozen? ⟨w.heap.size, 0, none⟩ = false := fun u => frozen_of_row _ _ _ _ _ (ovr_row row0 u)
        have yY01 := ovr_cell (W := Y) (b := w.heap.size) (o := 1) (v := I x.h) (by rw [cell_of_row _ _ _ _ _ _ row0]; rfl)
        have zY01 : ∀ u, (ovr Y u).frozen? ⟨w.heap.size, 1, none⟩ = false := fun u => frozen_of_row _ _ _ _ _ (ovr_row row0 u)
        have yY02 := ovr_cell (W := Y) (b := w.heap.size) (o := 2) (v := I x.c.lo) (by rw [cell_of_row _ _ _ _ _ _ row0]; rfl)
        have zY02 : ∀ u, (ovr Y u).frozen? ⟨w.heap.size, 2, none⟩ = false := fun u => frozen_of_row _ _ _ _ _ (ovr_row row0 u)
        have yY03 := ovr_cell (W := Y) (b := w.heap.size) (o := 3) (v := I x.c.hi) (by rw [cell_of_row _ _ _ _ _ _ row0]; rfl)
        have zY03 : ∀ u, (ovr Y u).frozen? ⟨w.heap.size, 3, none⟩ = false := fun u => frozen_of_row _ _ _ _ _ (ovr_row row0 u)
        have yY04 := ovr_cell (W := Y) (b := w.heap.size) (o := 4) (v := .slice (some ⟨b, o, none⟩) x.s.length n) (by rw [cell_of_row _ _ _ _ _ _ row0]; rfl)
        have zY04 : ∀ u, (ovr Y u).frozen? ⟨w.heap.size, 4, none⟩ = false := fun u => frozen_of_row _ _ _ _ _ (ovr_row row0 u)
        have RrowY0 := Lib.hid (ovr_row row0)
        clear row0
        obtain ⟨u7, hu7⟩ := ovr_self Y
        rw [hu7]
        clear hu7
        have HVU := Lib.hid (HVT.out.below (ovr_below Y u7))
        go_wp2_with fail
        go_roundw
        case rel => exact ⟨i + 1, t, HLT.out, by go_num, rfl, rfl, HFI.out, HVU.out⟩
        case measure => have := HLT.out; simp [intOf]; omega
      obtain ⟨b', o', hbo, _, e0, e1⟩ := (HX.out _ hb).1.rng hkl
      obtain ⟨b2, o2, hbo2, _, f0, f1⟩ := (HX.out _ hb).1.rng HLT.out
      obtain ⟨rfl, rfl⟩ : b' = b ∧ o' = o := by
        injection hbo with hbo
        injection hbo with h1 h2
        exact ⟨h1.symm, h2.symm⟩
      obtain ⟨rfl, rfl⟩ : b2 = b' ∧ o2 = o' := by
        injection hbo2 with hbo2
        injection hbo2 with h1 h2
        exact ⟨h1.symm, h2.symm⟩
      have z0 := ovr_cell e0
      have z1 := ovr_cell e1
      have y0 := ovr_cell f0
      have y1 := ovr_cell f1
      have HKI := Lib.hid (all9_at HA.out hkl)
      have HBT := Lib.hid (vaI_bd HA.out HLT.out HBI.out k (by omega))
      have HKL := Lib.hid hkl
      have hk36 : k ≤ 36 := by have := H36.out; omega
      have HSt : Hid (vaI x.s i s (k + 1) = vaS x.s i t k) := by show _ = _; rw [HVI.out, ← HT.out]
      rw [← HT.out] at HBT
      by_cases h1 : i = k
      · have HSM : Hid (vaI x.s i s (k + 1) = t) := by
          show _ = _
          rw [HSt.out]
          subst h1
          exact vaS_same HA.out HLT.out HBT.out
        have d1 : ((i : Int) == (k : Int)) = true := by subst h1; simp
        clear h1 row0 row1 row2 hb hsz e0 e1 f0 f1 z0 z1 y0 y1 hbo hbo2
        obtain ⟨_, _, row0, _, _⟩ := HVT.out
        have yY00 := ovr_cell (W := Y) (b := w.heap.size) (o := 0) (v := I x.w) (by rw [cell_of_row _ _ _ _ _ _ row0]; rfl)
        have zY00 : ∀ u, (ovr Y u).frozen? ⟨w.heap.size, 0, none⟩ = false := fun u => frozen_of_row _ _ _ _ _ (ovr_row row0 u)
        have yY01 := ovr_cell (W := Y) (b := w.heap.size) (o := 1) (v := I x.h) (by rw [cell_of_row _ _ _ _ _ _ row0]; rfl)
        have zY01 : ∀ u, (ovr Y u).frozen? ⟨w.heap.size, 1, none⟩ = false := fun u => frozen_of_row _ _ _ _ _ (ovr_row row0 u)
        have yY02 := ovr_cell (W := Y) (b := w.heap.size) (o := 2) (v := I x.c.lo) (by rw [cell_of_row _ _ _ _ _ _ row0]; rfl)
        have zY02 : ∀ u, (ovr Y u).frozen? ⟨w.heap.size, 2, none⟩ = false := fun u => frozen_of_row _ _ _ _ _ (ovr_row row0 u)
        have yY03 := ovr_cell (W := Y) (b := w.heap.size) (o := 3) (v := I x.c.hi) (by rw [cell_of_row _ _ _ _ _ _ row0]; rfl)
        have zY03 : ∀ u, (ovr Y u).frozen? ⟨w.heap.size, 3, none⟩ = false := fun u => frozen_of_row _ _ _ _ _ (ovr_row row0 u)
        have yY04 := ovr_cell (W := Y) (b := w.heap.size) (o := 4) (v := .slice (some ⟨b2, o2, none⟩) x.s.length n) (by rw [cell_of_row _ _ _ _ _ _ row0]; rfl)
        have zY04 : ∀ u, (ovr Y u).frozen? ⟨w.heap.size, 4, none⟩ = false := fun u => frozen_of_row _ _ _ _ _ (ovr_row row0 u)
        have RrowY0 := Lib.hid (ovr_row row0)
        clear row0
        obtain ⟨u7, hu7⟩ := ovr_self Y
        rw [hu7]
        clear hu7
        have HVU := Lib.hid (HVT.out.below (ovr_below Y u7))
        go_wp2_with fail
        go_roundw
        case rel => exact ⟨k + 1, t, HKL.out, by go_num, rfl, rfl, HSM.out.symm, HVU.out⟩
        case measure => have := HKL.out; simp [intOf]; omega
      obtain ⟨r, hr⟩ : ∃ r, at0 x.s k = r := ⟨_, rfl⟩
      have HR := Lib.hid hr
      rw [hr] at z0 z1 HKI
      rw [HP.out] at y0 y1
      have HST : Hid (vaS x.s i t k = if i ≠ k ∧ t.hi < p.hi - r.lo then ⟨max t.lo (p.lo - r.hi), p.hi - r.lo, i, k⟩ else ⟨max t.lo (p.lo - r.hi), t.hi, t.a, t.b⟩) := by
        show _ = _
        unfold vaS
        rw [HP.out, hr]
      have d1 : ((i : Int) == (k : Int)) = false := by simp; omega
      clear hr e0 e1 f0 f1 hbo hbo2
      have yY00 := ovr_cell (W := Y) (b := w.heap.size) (o := 0) (v := I x.w) (by rw [cell_of_row _ _ _ _ _ _ row0]; rfl)
      have zY00 : ∀ u, (ovr Y u).frozen? ⟨w.heap.size, 0, none⟩ = false := fun u => frozen_of_row _ _ _ _ _ (ovr_row row0 u)
      have yY01 := ovr_cell (W := Y) (b := w.heap.size) (o := 1) (v := I x.h) (by rw [cell_of_row _ _ _ _ _ _ row0]; rfl)
      have zY01 : ∀ u, (ovr Y u).frozen? ⟨w.heap.size, 1, none⟩ = false := fun u => frozen_of_row _ _ _ _ _ (ovr_row row0 u)
      have yY02 := ovr_cell (W := Y) (b := w.heap.size) (o := 2) (v := I x.c.lo) (by rw [cell_of_row _ _ _ _ _ _ row0]; rfl)
      have zY02 : ∀ u, (ovr Y u).frozen? ⟨w.heap.size, 2, none⟩ = false := fun u => frozen_of_row _ _ _ _ _ (ovr_row row0 u)
      have yY03 := ovr_cell (W := Y) (b := w.heap.size) (o := 3) (v := I x.c.hi) (by rw [cell_of_row _ _ _ _ _ _ row0]; rfl)
      have zY03 : ∀ u, (ovr Y u).frozen? ⟨w.heap.size, 3, none⟩ = false := fun u => frozen_of_row _ _ _ _ _ (ovr_row row0 u)
      have yY04 := ovr_cell (W := Y) (b := w.heap.size) (o := 4) (v := .slice (some ⟨b2, o2, none⟩) x.s.length n) (by rw [cell_of_row _ _ _ _ _ _ row0]; rfl)
      have zY04 : ∀ u, (ovr Y u).frozen? ⟨w.heap.size, 4, none⟩ = false := fun u => frozen_of_row _ _ _ _ _ (ovr_row row0 u)
      have RrowY0 := Lib.hid (ovr_row row0)
      clear row0
      have yY10 := ovr_cell (W := Y) (b := q) (o := 0) (v := I t.lo) (by rw [cell_of_row _ _ _ _ _ _ row2]; rfl)
      have zY10 : ∀ u, (ovr Y u).frozen? ⟨q, 0, none⟩ = false := fun u => frozen_of_row _ _ _ _ _ (ovr_row row2 u)
      have yY11 := ovr_cell (W := Y) (b := q) (o := 1) (v := I t.hi) (by rw [cell_of_row _ _ _ _ _ _ row2]; rfl)
      have zY11 : ∀ u, (ovr Y u).frozen? ⟨q, 1, none⟩ = false := fun u => frozen_of_row _ _ _ _ _ (ovr_row row2 u)
      have RrowY1 := Lib.hid (ovr_row row2)
      clear row2
      clear hb hsz row1
      obtain ⟨u7, hu7⟩ := ovr_self Y
      rw [hu7]
      clear hu7
      go_upto_region 9 with fail
      have k1 : IntKind.i64.wrap (p.hi - r.lo) = p.hi - r.lo := IntWalk.i64_in _ (by have := HAI.out; have := HKI.out; omega)
      have k2 : IntKind.i64.wrap (p.lo - r.hi) = p.lo - r.hi := IntWalk.i64_in _ (by have := HAI.out; have := HKI.out; omega)
      have kl : k < x.s.length := hkl
      have il : i < x.s.length := HLT.out
      have HVU := Lib.hid (HVT.out.below (ovr_below Y u7))
      refine name_w fun Z hZ => ?_
      rw [← hZ] at HVU
      obtain ⟨_, _, r0, _, r2⟩ := HVU.out
      have c0 : ∀ u, (ovr Z u).cell? ⟨w.heap.size, 4, none⟩ = some (.slice (some ⟨b2, o2, none⟩) x.s.length n) := cell_row9 r0 (j := 4) rfl
      have c1 : ∀ u, (ovr Z u).cell? ⟨q, 0, none⟩ = some (I t.lo) := cell_row9 r2 (j := 0) rfl
      have c2 : ∀ u, (ovr Z u).cell? ⟨q, 1, none⟩ = some (I t.hi) := cell_row9 r2 (j := 1) rfl
      have x0 : Z.cell? ⟨b2, o2 + k * 2, none⟩ = some (I r.lo) := by rw [hZ]; exact z0 u7
      have x1 : Z.cell? ⟨b2, o2 + k * 2 + 1, none⟩ = some (I r.hi) := by rw [hZ]; exact z1 u7
      have x2 : Z.cell? ⟨b2, o2 + i * 2, none⟩ = some (I p.lo) := by rw [hZ]; exact y0 u7
      have x3 : Z.cell? ⟨b2, o2 + i * 2 + 1, none⟩ = some (I p.hi) := by rw [hZ]; exact y1 u7
      clear z0 z1 y0 y1 hZ r0 r2
      have z0 := ovr_cell x0
      have z1 := ovr_cell x1
      have y0 := ovr_cell x2
      have y1 := ovr_cell x3
      refine wp_region_seq2 16 (fun _ => none) (by kernel_rfl) (by kernel_rfl) (by kernel_rfl) (by kernel_rfl) (by kernel_rfl) ?_
      simp only [List.take_succ_cons, List.take_zero, List.drop_succ_cons, List.drop_zero]
      repeat (first | (refine wpG_one rfl rfl rfl ?_; intro K hK; go_big_quiet_op; go_big_quiet_on) | (refine wpG_skip rfl ?_; simp only [Act.put, List.setIfInBounds_toArray, List.set_cons_zero, List.set_cons_succ]))
      refine wpG_nil (fun w5 hw5 hG => ?_)
      have HW5 := Lib.hid (HVU.out.below hw5.le)
      have g0 : w5.cell? ⟨q, 0, none⟩ = some (I t.lo) := by rw [cell_of_row _ _ _ _ _ _ HW5.out.2.2.2.2]; rfl
      have g1 := frozen_of_row _ _ 0 _ _ HW5.out.2.2.2.2
      clear hG hw5 c0 c1 c2 z0 z1 y0 y1 x0 x1 x2 x3
      refine wpTailIn_cons Wd.wide (by intro c h; cases h) ?_
      unfold Oper.wp
      go_simp
      refine wpTailIn_cons Wd.wide (by intro c h; cases h) ?_
      unfold Oper.wp
      go_simp
      refine wpTailIn_nil ?_
      (try simp only [Act.put])
      go_upto_region 10 with fail
      have HZ2 := Lib.hid (HW5.out.lo (max t.lo (p.lo - r.hi)))
      refine name_w fun Z2 hZ2 => ?_
      rw [← hZ2] at HZ2
      clear hZ2 g0 g1
      obtain ⟨gb, _, r0, _, r2⟩ := HZ2.out
      obtain ⟨b', o', hbo, _, e0, e1⟩ := (HX.out _ gb).1.rng hkl
      obtain ⟨b3, o3, hbo2, _, f0, f1⟩ := (HX.out _ gb).1.rng HLT.out
      obtain ⟨rfl, rfl⟩ : b' = b2 ∧ o' = o2 := by
        injection hbo with hbo
        injection hbo with h1 h2
        exact ⟨h1.symm, h2.symm⟩
      obtain ⟨rfl, rfl⟩ : b3 = b' ∧ o3 = o' := by
        injection hbo2 with hbo2
        injection hbo2 with h1 h2
        exact ⟨h1.symm, h2.symm⟩
      rw [HP.out] at f0 f1
      rw [HR.out] at e0 e1
      have c0 : ∀ u, (ovr Z2 u).cell? ⟨w.heap.size, 4, none⟩ = some (.slice (some ⟨b3, o3, none⟩) x.s.length n) := cell_row9 r0 (j := 4) rfl
      have z0 := ovr_cell e0
      have y1 := ovr_cell f1
      clear gb r0 r2 e0 e1 f0 f1 hbo hbo2
      refine wp_region_seq2 13 (fun _ => none) (by kernel_rfl) (by kernel_rfl) (by kernel_rfl) (by kernel_rfl) (by kernel_rfl) ?_
      simp only [List.take_succ_cons, List.take_zero, List.drop_succ_cons, List.drop_zero]
      repeat (first | (refine wpG_one rfl rfl rfl ?_; intro K hK; go_big_quiet_op; go_big_quiet_on) | (refine wpG_skip rfl ?_; simp only [Act.put, List.setIfInBounds_toArray, List.set_cons_zero, List.set_cons_succ]))
      refine wpG_nil (fun w5 hw5 hG => ?_)
      have HW6 := Lib.hid (HZ2.out.below hw5.le)
      rename World => w6
      clear hG hw5 c0 z0 y1
      refine wpTailIn_cons Wd.wide (by intro c h; cases h) ?_
      unfold Oper.wp
      go_simp
      refine wpTailIn_nil ?_
      (try simp only [Act.put])
      obtain ⟨_, _, _, _, r2⟩ := HW6.out
      have g0 : w6.cell? ⟨q, 1, none⟩ = some (I t.hi) := by rw [cell_of_row _ _ _ _ _ _ r2]; rfl
      have g1 := frozen_of_row _ _ 1 _ _ r2
      clear r2
      by_cases h2 : t.hi < p.hi - r.lo
      case neg =>
        have d2 : decide (t.hi < p.hi - r.lo) = false := decide_eq_false h2
        rw [if_neg (fun h => h2 h.2)] at HST
        have HSF : Hid (vaI x.s i s (k + 1) = ⟨max t.lo (p.lo - r.hi), t.hi, t.a, t.b⟩) := by show _ = _; rw [HSt.out, HST.out]
        clear h1 h2
        go_wp2_with fail
        go_roundw
        case rel => exact ⟨k + 1, ⟨max t.lo (p.lo - r.hi), t.hi, t.a, t.b⟩, HKL.out, by go_num, rfl, rfl, HSF.out.symm, HW6.out⟩
        case measure => have := HKL.out; simp [intOf]; omega
      have d2 : decide (t.hi < p.hi - r.lo) = true := decide_eq_true h2
      rw [if_pos ⟨h1, h2⟩] at HST
      have HSF : Hid (vaI x.s i s (k + 1) = ⟨max t.lo (p.lo - r.hi), p.hi - r.lo, i, k⟩) := by show _ = _; rw [HSt.out, HST.out]
      clear h1 h2
      have HW7 := Lib.hid (HW6.out.hi (p.hi - r.lo) i k)
      go_wp2_with fail
      go_roundw
      case rel => exact ⟨k + 1, ⟨max t.lo (p.lo - r.hi), p.hi - r.lo, i, k⟩, HKL.out, by go_num, rfl, rfl, HSF.out.symm, HW7.out⟩
      case measure => have := HKL.out; simp [intOf]; omega
end Go.Proofs.Ytljjpidigckheaa.Un
