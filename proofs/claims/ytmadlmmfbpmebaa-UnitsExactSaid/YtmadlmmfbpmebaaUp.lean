/- The contract of Simplest of package units. -/
import Derived.Test.YtmadlmmfbpmebaaUo
import Derived.Deep.RegionHeld3
namespace Go.Proofs.Ytmadlmmfbpmebaa
open Go.RowKit
/-- The simplest fraction between two, and an error's number. -/
def siF (a b : Frc) : Frc × Int := if fok a && (fok b && decide (fcm a b ≤ 0)) then (simF (b.d + a.d).toNat a b, 0) else (⟨0, 0⟩, 2)
theorem fle_of {a b : Frc} (h : fcm a b ≤ 0) : fle a b := by
  unfold fcm cmpI at h
  unfold fle
  split at h
  · omega
  · split at h <;> omega
theorem fcm_of {a b : Frc} (h : fle a b) : fcm a b ≤ 0 := by
  unfold fcm cmpI
  unfold fle at h
  split
  · omega
  · split <;> omega
set_option maxRecDepth 100000 in
set_option maxHeartbeats 2000000 in
theorem simplest2_any (a b : Frc) (w : World) : Calls Try.prog 46 #[a.val, b.val] w fun e w' => e = .returned (.tuple #[(siF a b).1.val, I (siF a b).2]) ∧ Below w.heap.size w w' := by
  have hf : Hid (siF a b = if fok a && (fok b && decide (fcm a b ≤ 0)) then (simF (b.d + a.d).toNat a b, 0) else (⟨0, 0⟩, 2)) := rfl
  have ca := fun w => fok_any a w
  have cb := fun w => fok_any b w
  have cc : Hid (∀ W, fok a = true → fok b = true → Calls Try.prog 91 #[a.val, b.val] W fun e w' => e = .returned (I (fcm a b)) ∧ Below W.heap.size W w') := fun W ha hb => fcmp_any a b W (fBd_ok ha) (fBd_ok hb)
  have cs : Hid (∀ W, fok a = true → fok b = true → fcm a b ≤ 0 → Calls Try.prog 93 #[a.val, b.val] W fun e w' => e = .returned ((simF (b.d + a.d).toNat a b).val) ∧ Below W.heap.size W w') := fun W ha hb hc => by
    have h1 := fok_iff.1 ha
    have h2 := fok_iff.1 hb
    exact simplest_any _ a b W (fBd_ok ha) (fBd_ok hb) h1.2.1 h2.2.1 (fle_of hc) (by omega)
  have Ca := Lib.hid ca
  have Cb := Lib.hid cb
  clear ca cb
  obtain ⟨W, hW⟩ : ∃ W, W = (((w.alloc (.cells #[I a.n, I a.d] 71)).alloc (.cells #[I b.n, I b.d] 71)).alloc (.cells #[I 0, I 0] 71)) := ⟨_, rfl⟩
  have rowW0 : W.heap[w.heap.size]? = some (.cells #[I a.n, I a.d] 71 (0, 0)) := by rw [hW]; exact heap_before (heap_before (heap_last _ _ _ rfl))
  have yW00 := ovr_cell (W := W) (b := w.heap.size) (o := 0) (v := I a.n) (by rw [cell_of_row _ _ _ _ _ _ rowW0]; rfl)
  have yW01 := ovr_cell (W := W) (b := w.heap.size) (o := 1) (v := I a.d) (by rw [cell_of_row _ _ _ _ _ _ rowW0]; rfl)
  have RrowW0 := Lib.hid (ovr_row rowW0)
  clear rowW0
  have rowW1 : W.heap[w.heap.size + 1]? = some (.cells #[I b.n, I b.d] 71 (0, 0)) := by rw [hW]; exact heap_before (heap_last _ _ _ (by simp))
  have yW10 := ovr_cell (W := W) (b := w.heap.size + 1) (o := 0) (v := I b.n) (by rw [cell_of_row _ _ _ _ _ _ rowW1]; rfl)
  have yW11 := ovr_cell (W := W) (b := w.heap.size + 1) (o := 1) (v := I b.d) (by rw [cell_of_row _ _ _ _ _ _ rowW1]; rfl)
  have RrowW1 := Lib.hid (ovr_row rowW1)
  clear rowW1
  have rowW2 : W.heap[w.heap.size + 1 + 1]? = some (.cells #[I 0, I 0] 71 (0, 0)) := by rw [hW]; exact heap_last _ _ _ (by simp)
  have yW20 := ovr_cell (W := W) (b := w.heap.size + 1 + 1) (o := 0) (v := I 0) (by rw [cell_of_row _ _ _ _ _ _ rowW2]; rfl)
  have yW21 := ovr_cell (W := W) (b := w.heap.size + 1 + 1) (o := 1) (v := I 0) (by rw [cell_of_row _ _ _ _ _ _ rowW2]; rfl)
  have RrowW2 := Lib.hid (ovr_row rowW2)
  clear rowW2
  have HUW : Hid (∀ u, Below w.heap.size w (ovr W u)) := U3 hW
  have HW := Lib.hid hW
  clear hW
  go_enter Try.func46, Try.ntmps46
  go_wp2_with fail
  rw [← HW.out]
  go_cut [6, 7] (fun s6 s7 wx => ∃ p q : Nat, s6 = .pointer (some ⟨p, 0, none⟩) ∧ s7 = .pointer (some ⟨q, 0, none⟩) ∧ wx.heap[p]? = some (.cells #[I a.n, I a.d] 128 (0, 0)) ∧ wx.heap[q]? = some (.cells #[I b.n, I b.d] 128 (0, 0)) ∧ Below W.heap.size W wx)
  case first =>
    obtain ⟨u0, h0⟩ := ovr_self W
    have xyW00 := yW00 u0
    rw [← h0] at xyW00
    have xyW01 := yW01 u0
    rw [← h0] at xyW01
    have xyW10 := yW10 u0
    rw [← h0] at xyW10
    have xyW11 := yW11 u0
    rw [← h0] at xyW11
    have xyW20 := yW20 u0
    rw [← h0] at xyW20
    have xyW21 := yW21 u0
    rw [← h0] at xyW21
    clear h0 yW00 yW01 yW10 yW11 yW20 yW21
    go_region_held3 (fun w' => w'.cell? ⟨w.heap.size, 0, none⟩ = some (I a.n) ∧ w'.cell? ⟨w.heap.size, 1, none⟩ = some (I a.d) ∧ w'.cell? ⟨w.heap.size + 1, 0, none⟩ = some (I b.n) ∧ w'.cell? ⟨w.heap.size + 1, 1, none⟩ = some (I b.d)) (go_keep) (fail)
    all_goals
      go_wp2_with fail
      go_meet
      case rel =>
        first
        | exact ⟨_, _, rfl, rfl, (by rw [heap_drew]; exact heap_before (heap_last _ _ _ rfl)), (by rw [heap_drew]; exact heap_last _ _ _ (by simp)), (((Below.refl _ _).alloc (Nat.le_refl _) _).alloc (by simp) _).drew⟩
        | exact ⟨_, _, rfl, rfl, (by rw [heap_drew]; exact heap_last _ _ _ (by simp)), (by rw [heap_drew]; exact heap_before (heap_last _ _ _ rfl)), (((Below.refl _ _).alloc (Nat.le_refl _) _).alloc (by simp) _).drew⟩
  case rest =>
    obtain ⟨p, q, rfl, rfl, rp, rq, hb⟩ := hcut
    rename World => V
    have reV : ∀ v, ∃ x, ovr V v = ovr W x := fun v => ovr_reB hb v
    replace yW00 := tr_cell reV yW00
    replace yW01 := tr_cell reV yW01
    replace RrowW0 := Lib.hid (tr_row reV RrowW0.out)
    replace yW10 := tr_cell reV yW10
    replace yW11 := tr_cell reV yW11
    replace RrowW1 := Lib.hid (tr_row reV RrowW1.out)
    replace yW20 := tr_cell reV yW20
    replace yW21 := tr_cell reV yW21
    replace RrowW2 := Lib.hid (tr_row reV RrowW2.out)
    have yV00 := ovr_cell (W := V) (b := p) (o := 0) (v := I a.n) (by rw [cell_of_row _ _ _ _ _ _ rp]; rfl)
    have yV01 := ovr_cell (W := V) (b := p) (o := 1) (v := I a.d) (by rw [cell_of_row _ _ _ _ _ _ rp]; rfl)
    have RrowV0 := Lib.hid (ovr_row rp)
    clear rp
    have yV10 := ovr_cell (W := V) (b := q) (o := 0) (v := I b.n) (by rw [cell_of_row _ _ _ _ _ _ rq]; rfl)
    have yV11 := ovr_cell (W := V) (b := q) (o := 1) (v := I b.d) (by rw [cell_of_row _ _ _ _ _ _ rq]; rfl)
    have RrowV1 := Lib.hid (ovr_row rq)
    clear rq
    have HUV : Hid (∀ u, Below w.heap.size w (ovr V u)) := fun u => by obtain ⟨x, hx⟩ := reV u; rw [hx]; exact HUW.out x
    clear reV hb
    obtain ⟨u0, hu0⟩ := ovr_self V
    rw [hu0]
    clear hu0
    go_wp2_with fail
    refine (Ca.out _).mono ?_
    rintro e w1 ⟨rfl, hb1⟩
    obtain ⟨u1, rfl⟩ := ovr_next hb1
    clear hb1
    rcases ha : fok a with _ | _
    · rw [ha] at hf
      go_wp2_with (refine wpList_store_row rfl 71 _ _ rfl (w.heap.size + 1 + 1) rfl _ _ (RrowW2.out _) _ rfl (one2 rfl rfl) rfl (by kernel_rfl) ?_)
      refine bodyPost_ret (results_cell_tmp rfl _ _ (w.heap.size + 1 + 1) 71 _ (0, 0) _ rfl (setRow_same (RrowW2.out _)) Try.underlying71 rfl (by kernel_rfl)) rfl ?_
      exact ⟨by rw [hf.out]; rfl, below_setRow (HUV.out _) (by omega) _⟩
    rw [ha] at hf
    have Cc := Lib.hid fun W => cc.out W ha
    have Cs := Lib.hid fun W => cs.out W ha
    clear ha cc cs
    go_wp2_with fail
    refine (Cb.out _).mono ?_
    rintro e w1 ⟨rfl, hb1⟩
    obtain ⟨u2, rfl⟩ := ovr_next hb1
    clear hb1
    rcases hb : fok b with _ | _
    · rw [hb] at hf
      go_wp2_with (refine wpList_store_row rfl 71 _ _ rfl (w.heap.size + 1 + 1) rfl _ _ (RrowW2.out _) _ rfl (one2 rfl rfl) rfl (by kernel_rfl) ?_)
      refine bodyPost_ret (results_cell_tmp rfl _ _ (w.heap.size + 1 + 1) 71 _ (0, 0) _ rfl (setRow_same (RrowW2.out _)) Try.underlying71 rfl (by kernel_rfl)) rfl ?_
      exact ⟨by rw [hf.out]; rfl, below_setRow (HUV.out _) (by omega) _⟩
    rw [hb] at hf
    have Cd := Lib.hid fun W => Cc.out W hb
    have Ct := Lib.hid fun W => Cs.out W hb
    clear hb Cc Cs
    go_wp2_with fail
    refine (Cd.out _).mono ?_
    rintro e w1 ⟨rfl, hb1⟩
    obtain ⟨u3, rfl⟩ := ovr_next hb1
    clear hb1
    rcases hc : decide (fcm a b ≤ 0) with _ | _
    · rw [hc] at hf
      have hc2 : decide (0 < fcm a b) = true := decide_eq_true (by have := of_decide_eq_false hc; omega)
      have hc3 : 0 < fcm a b := of_decide_eq_true hc2
      go_wp2_with (refine wpList_store_row rfl 71 _ _ rfl (w.heap.size + 1 + 1) rfl _ _ (RrowW2.out _) _ rfl (one2 rfl rfl) rfl (by kernel_rfl) ?_)
      refine bodyPost_ret (results_cell_tmp rfl _ _ (w.heap.size + 1 + 1) 71 _ (0, 0) _ rfl (setRow_same (RrowW2.out _)) Try.underlying71 rfl (by kernel_rfl)) rfl ?_
      exact ⟨by rw [hf.out]; rfl, below_setRow (HUV.out _) (by omega) _⟩
    · rw [hc] at hf
      have hc2 : decide (0 < fcm a b) = false := decide_eq_false (by have := of_decide_eq_true hc; omega)
      have Cu := Lib.hid fun W => Ct.out W (of_decide_eq_true hc)
      clear hc Ct
      obtain ⟨s, hs⟩ : ∃ s, simF (b.d + a.d).toNat a b = s := ⟨_, rfl⟩
      rw [hs] at Cu hf
      clear hs
      obtain ⟨sn, sd⟩ := s
      go_wp2_with fail
      refine (Cu.out _).mono ?_
      rintro e w1 ⟨rfl, hb1⟩
      obtain ⟨u4, rfl⟩ := ovr_next hb1
      clear hb1
      go_wp2_with (refine wpList_store_row rfl 71 _ _ rfl (w.heap.size + 1 + 1) rfl _ _ (RrowW2.out _) _ rfl (one2 rfl rfl) rfl (by kernel_rfl) ?_)
      refine bodyPost_ret (results_cell_tmp rfl _ _ (w.heap.size + 1 + 1) 71 _ (0, 0) _ rfl (setRow_same (RrowW2.out _)) Try.underlying71 rfl (by kernel_rfl)) rfl ?_
      exact ⟨by rw [hf.out]; rfl, below_setRow (HUV.out _) (by omega) _⟩
end Go.Proofs.Ytmadlmmfbpmebaa
