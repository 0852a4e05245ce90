/- The contract of Inverse of package units. -/
import Derived.Test.YtmadlmmfbpmebaaVh
namespace Go.Proofs.Ytmadlmmfbpmebaa
open Go.RowKit
def inF (q : List Rng × Int) : Rng × Int := if q.2 = 0 then (if q.1.length = 0 then (⟨0, 0⟩, 7) else (⟨(at0 q.1 0).lo, (at0 q.1 (q.1.length - 1)).hi⟩, 0)) else (⟨0, 0⟩, q.2)
set_option maxRecDepth 100000 in
set_option maxHeartbeats 4000000 in
theorem inverse_any (A : Option Addr) (n c : Nat) (t : List Rng) (y : Rng) (w : World) (B : Nat) (hn : n = t.length) (hm : n ≤ maxLen) (hB : B ≤ w.heap.size) (hx : Rd w B 2 A n (rR t)) :
    Calls Try.prog 50 #[.slice A n c, y.val] w (RetRn w (inF (weF t y))) := by
  subst hn
  have hf : Hid (inF (weF t y) = if (weF t y).2 = 0 then (if (weF t y).1.length = 0 then (⟨0, 0⟩, 7) else (⟨(at0 (weF t y).1 0).lo, (at0 (weF t y).1 ((weF t y).1.length - 1)).hi⟩, 0)) else (⟨0, 0⟩, (weF t y).2)) := rfl
  have HX : Hid (∀ W', Below w.heap.size w W' → Rd W' B 2 A t.length (rR t) ∧ B ≤ W'.heap.size) := fun W' h => ⟨hx.below (h.mono hB), Nat.le_trans hB h.size⟩
  have ct : Hid (∀ W', Rd W' B 2 A t.length (rR t) ∧ B ≤ W'.heap.size → Calls Try.prog 41 #[.slice A t.length c, y.val] W' (RetL W' (weF t y))) := fun W' h => where2_any A t.length c t y W' B rfl hm h.2 h.1
  have hln : (weF t y).1.length ≤ 100 := by
    unfold weF
    split
    · rename_i h
      rw [Bool.and_eq_true] at h
      have ht := tab_iff.1 h.1
      have h1 := (whL_facts ht h.2 (pcs t (t.length - 1))).2
      have h2 := pcs_len (t := t) (k := t.length - 1) (by have := ht.n2; omega)
      have := ht.n60
      simp only
      omega
    · simp
  clear hx hB hm
  obtain ⟨q, hq⟩ : ∃ q, weF t y = q := ⟨_, rfl⟩
  rw [hq] at hf ct hln
  rw [hq]
  clear hq
  obtain ⟨L, ec⟩ := q
  simp only at hf hln
  obtain ⟨W, hW⟩ : ∃ W, W = ((w.alloc (.cells #[I y.lo, I y.hi] 38)).alloc (.cells #[I 0, I 0] 38)) := ⟨_, rfl⟩
  have rowW0 : W.heap[w.heap.size]? = some (.cells #[I y.lo, I y.hi] 38 (0, 0)) := by rw [hW]; exact heap_before (heap_last _ _ _ rfl)
  have yW00 := ovr_cell (W := W) (b := w.heap.size) (o := 0) (v := I y.lo) (by rw [cell_of_row _ _ _ _ _ _ rowW0]; rfl)
  have yW01 := ovr_cell (W := W) (b := w.heap.size) (o := 1) (v := I y.hi) (by rw [cell_of_row _ _ _ _ _ _ rowW0]; rfl)
  have RrowW0 := Lib.hid (ovr_row rowW0)
  clear rowW0
  have rowW1 : W.heap[w.heap.size + 1]? = some (.cells #[I 0, I 0] 38 (0, 0)) := by rw [hW]; exact heap_last _ _ _ (by simp)
  have yW10 := ovr_cell (W := W) (b := w.heap.size + 1) (o := 0) (v := I 0) (by rw [cell_of_row _ _ _ _ _ _ rowW1]; rfl)
  have yW11 := ovr_cell (W := W) (b := w.heap.size + 1) (o := 1) (v := I 0) (by rw [cell_of_row _ _ _ _ _ _ rowW1]; rfl)
  have RrowW1 := Lib.hid (ovr_row rowW1)
  clear rowW1
  have HUW : Hid (∀ u, Below w.heap.size w (ovr W u)) := U2 hW
  have HW := Lib.hid hW
  clear hW
  go_enter Try.func50, Try.ntmps50
  go_upto_region 1 with (fail)
  rw [← HW.out]
  obtain ⟨u0, hu0⟩ := ovr_self W
  rw [hu0]
  clear hu0
  go_wp2_with fail
  refine (ct.out _ (HX.out _ (HUW.out _))).mono ?_
  rintro e w1 ⟨A', n', c', rfl, hn', hc', hR, hb1⟩
  simp only at hn'
  subst hn'
  obtain ⟨u1, rfl⟩ := ovr_next hb1
  have HR := Lib.hid hR
  clear hb1 hc' hR
  by_cases h0 : ec = 0
  case neg =>
    rw [if_neg h0] at hf
    have h0b : (ec == 0) = false := by simpa using h0
    have h0c : (ec != 0) = true := by simpa using h0
    clear h0
    go_wp2_with (refine wpList_store_row rfl 38 _ _ rfl (w.heap.size + 1) rfl _ _ (RrowW1.out _) _ rfl (one2 rfl rfl) rfl (by kernel_rfl) ?_)
    refine bodyPost_ret (results_cell_tmp rfl _ _ (w.heap.size + 1) 38 _ (0, 0) _ rfl (setRow_same (RrowW1.out _)) Try.underlying38 rfl (by kernel_rfl)) rfl ?_
    exact ⟨by rw [hf.out]; rfl, below_setRow (HUW.out _) (by omega) _⟩
  subst h0
  rw [if_pos rfl] at hf
  rcases Nat.eq_zero_or_pos L.length with h1 | h1
  · rw [if_pos h1] at hf
    have h1b : ((L.length : Int) == 0) = true := by rw [h1]; rfl
    have H1 := Lib.hid h1
    clear h1
    go_wp2_with (refine wpList_store_row rfl 38 _ _ rfl (w.heap.size + 1) rfl _ _ (RrowW1.out _) _ rfl (one2 rfl rfl) rfl (by kernel_rfl) ?_)
    refine bodyPost_ret (results_cell_tmp rfl _ _ (w.heap.size + 1) 38 _ (0, 0) _ rfl (setRow_same (RrowW1.out _)) Try.underlying38 rfl (by kernel_rfl)) rfl ?_
    exact ⟨by rw [hf.out]; rfl, below_setRow (HUW.out _) (by omega) _⟩
  rw [if_neg (by omega)] at hf
  have h1b : ((L.length : Int) == 0) = false := by rw [beq_eq_false_iff_ne]; omega
  obtain ⟨b, o, rfl, hcc⟩ := rng_all HR.out h1
  go_upto_region 6 with (fail)
  have e0 := (hcc 0 h1).1
  have e1 := (hcc (L.length - 1) (by omega)).2
  rw [Nat.zero_mul, Nat.add_zero] at e0
  have hbX := ovr_below W u1
  obtain ⟨X, hX⟩ : ∃ X, X = ovr W u1 := ⟨_, rfl⟩
  rw [← hX] at hbX
  rw [← hX]
  have hX' := Lib.hid hX
  clear hX
  have hbX' := Lib.hid hbX
  have reX : ∀ v, ∃ x, ovr X v = ovr W x := fun v => ovr_reB hbX v
  replace yW00 := tr_cell reX yW00
  replace yW01 := tr_cell reX yW01
  replace RrowW0 := Lib.hid (tr_row reX RrowW0.out)
  replace yW10 := tr_cell reX yW10
  replace yW11 := tr_cell reX yW11
  replace RrowW1 := Lib.hid (tr_row reX RrowW1.out)
  have HUX : Hid (∀ u, Below w.heap.size w (ovr X u)) := fun u => by obtain ⟨x, hx⟩ := reX u; rw [hx]; exact HUW.out x
  clear reX hbX
  rw [← hX'.out] at e0 e1
  have e0 := ovr_cell e0
  have e1 := ovr_cell e1
  have s1 : IntKind.i64.wrap ((L.length : Int) - 1) = (L.length : Int) - 1 := IntWalk.i64_in _ (by omega)
  have s2 : (0 : Int) ≤ (L.length : Int) - 1 := by omega
  have s3 : ((L.length : Int) - 1).toNat = L.length - 1 := by omega
  have s4 : (L.length : Int) - 1 < (L.length : Int) := by omega
  have s5 : (1 : Int) ≤ (L.length : Int) := by omega
  clear hcc
  refine wp_region_seq 12 (fun _ => none) (by kernel_rfl) (by kernel_rfl) (by kernel_rfl) (by kernel_rfl) ?_
  simp only [List.take_succ_cons, List.take_zero, List.drop_succ_cons, List.drop_zero]
  repeat (first | (refine wpG_one rfl rfl rfl ?_; intro K hK; go_big_quiet_op; go_big_quiet_on) | (refine wpG_skip rfl ?_; simp only [Act.put, List.setIfInBounds_toArray, List.set_cons_zero, List.set_cons_succ]))
  refine wpG_nil (fun w5 hw5 hG => ?_)
  clear hG
  obtain ⟨u9, rfl⟩ : ∃ x, w5 = ovr X x := ⟨w5, ovr_of hw5.le⟩
  clear hw5 s1 s2 s3 s4 s5
  refine wpTail_cons ?_
  refine wp_store_row 38 _ _ rfl (w.heap.size + 1) rfl _ _ (RrowW1.out _) _ rfl (one2 rfl rfl) rfl (by kernel_rfl) ?_
  refine wpTail_cons ?_
  refine wp_assign _ (I 0) rfl rfl ?_
  refine wpTail_nil ?_
  simp only [Act.put, List.setIfInBounds_toArray, List.set_cons_zero, List.set_cons_succ]
  go_wp2_with fail
  refine bodyPost_ret (results_cell_tmp rfl _ _ (w.heap.size + 1) 38 _ (0, 0) _ rfl (setRow_same (RrowW1.out _)) Try.underlying38 rfl (by kernel_rfl)) rfl ?_
  exact ⟨by rw [hf.out]; rfl, below_setRow (HUX.out _) (by omega) _⟩
end Go.Proofs.Ytmadlmmfbpmebaa
