/- Narrower ranges: the contracts of narrowed and inside; a copy of steps of one's own, with stores into it. -/
import Derived.Test.YtfifdfagikbahaaDoorCm5
import Derived.Test.YtfifdfagikbahaaDoorLmc
import Derived.Test.YtfifdfagikbahaaDoorNoa
namespace Go.Proofs.YtfifdfagikbahaaDoor
open Go.RowKit
attribute [local go_sem] Oper.semAt_some
theorem narrowed_any (a b : Int) (low : Bool) (w : World) (hb : -1000000000000000 ≤ a ∧ b ≤ 1000000000000000) : Calls Tryd.prog 25 #[.agg #[I a, I b], .bool low] w fun e w' => e = .returned (.agg #[I (nrL a b low), I (nrH a b low)]) ∧ Below w.heap.size w w' := by
  have hB : Hid (∀ r q : Array Value, Below w.heap.size w ((w.alloc (.cells r 23)).alloc (.cells q 23))) := fun r q => ((Below.refl _ _).alloc (Nat.le_refl _) _).alloc (by simp) _
  by_cases h : a < b
  · have h1 : decide (b ≤ a) = false := decide_eq_false (by omega)
    have w1 : IntKind.i64.wrap (a + 1) = a + 1 := IntWalk.i64_in _ (by omega)
    have w2 : IntKind.i64.wrap (b - 1) = b - 1 := IntWalk.i64_in _ (by omega)
    have e1 : nrL a b low = if low then a + 1 else a := by unfold nrL; rw [if_pos h]
    have e2 : nrH a b low = if low then b else b - 1 := by unfold nrH; rw [if_pos h]
    have E1 := Lib.hid e1
    have E2 := Lib.hid e2
    clear h e1 e2 hb
    rcases low with _ | _
    · go_enter Tryd.func25, Tryd.ntmps25
      go_wp2_with fail
      refine bodyPost_ret (results_cell_only rfl _ _ (w.heap.size + 1) 23 #[I _, I _] (0, 0) _ rfl (heap_last _ _ _ (by simp)) Tryd.underlying23 rfl (by kernel_rfl)) rfl ?_
      exact ⟨by rw [E1.out, E2.out] <;> rfl, hB.out _ _⟩
    · go_enter Tryd.func25, Tryd.ntmps25
      go_wp2_with fail
      refine bodyPost_ret (results_cell_only rfl _ _ (w.heap.size + 1) 23 #[I _, I _] (0, 0) _ rfl (heap_last _ _ _ (by simp)) Tryd.underlying23 rfl (by kernel_rfl)) rfl ?_
      exact ⟨by rw [E1.out, E2.out] <;> rfl, hB.out _ _⟩
  · have h1 : decide (b ≤ a) = true := decide_eq_true (by omega)
    have e1 : nrL a b low = a := by unfold nrL; rw [if_neg h]
    have e2 : nrH a b low = b := by unfold nrH; rw [if_neg h]
    have E1 := Lib.hid e1
    have E2 := Lib.hid e2
    clear h e1 e2 hb
    go_enter Tryd.func25, Tryd.ntmps25
    go_wp2_with fail
    refine bodyPost_ret (results_cell_only rfl _ _ (w.heap.size + 1) 23 #[I _, I _] (0, 0) _ rfl (heap_last _ _ _ (by simp)) Tryd.underlying23 rfl (by kernel_rfl)) rfl ?_
    exact ⟨by rw [E1.out, E2.out] <;> rfl, hB.out _ _⟩
theorem bd_row {W : World} {q : Nat} {t : TypeId} {a : Nat → Int} (h : W.heap[q]? = some (.cells (bdArr a) t (0, 0))) {s : Nat} (hs : s < 3) : W.cell? ⟨q, s * 2, none⟩ = some (I (a (s * 2))) ∧ W.cell? ⟨q, s * 2 + 1, none⟩ = some (I (a (s * 2 + 1))) := by
  rw [cell_of_row _ _ _ _ _ _ h, cell_of_row _ _ _ _ _ _ h]
  match s, hs with
  | 0, _ => exact ⟨rfl, rfl⟩
  | 1, _ => exact ⟨rfl, rfl⟩
  | 2, _ => exact ⟨rfl, rfl⟩
set_option maxHeartbeats 1000000 in
theorem insideT (a b : Nat → Int) (h : ∀ s, s < 3 → InR (a (s * 2)) (a (s * 2 + 1)) (b (s * 2)) (b (s * 2 + 1))) (w : World) : Calls Tryd.prog 26 #[.agg (bdArr a), .agg (bdArr b)] w fun e w' => e = .returned (.bool true) ∧ Below w.heap.size w w' := by
  obtain ⟨W, hW⟩ : ∃ W, W = (w.alloc (.cells (bdArr a) 25)).alloc (.cells (bdArr b) 25) := ⟨_, rfl⟩
  have hB : Hid (Below w.heap.size w W ∧ w.heap.size + 2 = W.heap.size) := by show _ ∧ _; rw [hW]; exact ⟨((Below.refl _ _).alloc (Nat.le_refl _) _).alloc (by simp) _, by simp⟩
  have r0 : Hid (W.heap[w.heap.size]? = some (.cells (bdArr a) 25 (0, 0))) := by show W.heap[_]? = _; rw [hW]; exact heap_before (heap_last _ _ _ rfl)
  have r1 : Hid (W.heap[w.heap.size + 1]? = some (.cells (bdArr b) 25 (0, 0))) := by show W.heap[_]? = _; rw [hW]; exact heap_last _ _ _ (by simp)
  have H := Lib.hid h
  have HW := Lib.hid hW
  clear hW h
  go_enter Tryd.func26, Tryd.ntmps26
  go_upto_region 1 with (fail)
  rw [← HW.out]
  go_wp2_with fail
  go_loopw [5] (fun i wr => ∃ s : Nat, s ≤ 3 ∧ i = .int .i64 s ∧ Below W.heap.size W wr) (fun i _ => 3 - (intOf i).toNat)
  case atStart => exact ⟨0, by omega, rfl, Below.refl _ _⟩
  case round =>
    rename World => X
    obtain ⟨s, hs, rfl, hbX⟩ := hrel
    have HX := Lib.hid hbX
    clear hbX
    by_cases hs3 : s < 3
    · have hsi : decide ((s : Int) < 3) = true := decide_eq_true (by omega)
      have hsn : decide (s < 3) = true := decide_eq_true hs3
      have hs0 : decide (0 ≤ (s : Int)) = true := decide_eq_true (by omega)
      have hq := H.out s hs3
      have x := bd_row ((HX.out.block w.heap.size (by have := hB.out.2; omega)).trans r0.out) hs3
      have y := bd_row ((HX.out.block (w.heap.size + 1) (by have := hB.out.2; omega)).trans r1.out) hs3
      have x0 := ovr_cell x.1
      have x1 := ovr_cell x.2
      have y0 := ovr_cell y.1
      have y1 := ovr_cell y.2
      have d1 : decide (a (s * 2) < b (s * 2)) = false := decide_eq_false (by have := hq.lo; omega)
      have d2 : decide (b (s * 2 + 1) < a (s * 2 + 1)) = false := decide_eq_false (by have := hq.hi; omega)
      have d3 : decide (a (s * 2 + 1) < a (s * 2)) = false := decide_eq_false (by have := hq.ok; omega)
      clear x y hq
      generalize a (s * 2) = a1 at *
      generalize a (s * 2 + 1) = a2 at *
      generalize b (s * 2) = b1 at *
      generalize b (s * 2 + 1) = b2 at *
      go_upto_region 4 with (fail)
      refine wp_region_below_lit (by kernel_rfl) (by kernel_rfl) ?_
      repeat (go_big_quiet_step (fail))
      refine wpQuiet_nil ?_
      intro X2 hbX2
      have HX2 : Hid (Below W.heap.size W X2) := HX.out.trans (hbX2.mono HX.out.size)
      clear hbX2 x0 x1 y0 y1 d1 d2 d3
      go_wp2_with fail
      go_roundw
      case rel => exact ⟨s + 1, hs3, by go_num, HX2.out⟩
      case measure => simp [intOf]; omega
    · obtain rfl : s = 3 := by omega
      have hsi : decide (((3 : Nat) : Int) < 3) = false := rfl
      go_wp2_with fail
      go_ret
      exact ⟨rfl, hB.out.1.trans (HX.out.mono (by have := hB.out.2; omega))⟩
theorem inside12 (a0 a1 a2 a3 a4 a5 b0 b1 b2 b3 b4 b5 : Int) (h0 : InR a0 a1 b0 b1) (h1 : InR a2 a3 b2 b3) (h2 : InR a4 a5 b4 b5) (w : World) : Calls Tryd.prog 26 #[.agg #[I a0, I a1, I a2, I a3, I a4, I a5], .agg #[I b0, I b1, I b2, I b3, I b4, I b5]] w fun e w' => e = .returned (.bool true) ∧ Below w.heap.size w w' :=
  insideT (fun j => [a0, a1, a2, a3, a4, a5].getD j 0) (fun j => [b0, b1, b2, b3, b4, b5].getD j 0) (fun s hs => by
    match s, hs with
    | 0, _ => exact h0
    | 1, _ => exact h1
    | 2, _ => exact h2) w
/-- A list of one's own, by its row. -/
def StIn (B : Nat) (w : World) (sl : Value) (n : Nat) (f : Nat → Nat → Value) : Prop := n = 0 ∨ ∃ b c cs, sl = .slice (some ⟨b, 0, none⟩) n c ∧ B ≤ b ∧ w.heap[b]? = some (.cells cs 58 (0, 0)) ∧ ∀ k j, k < n → j < 8 → cs[k * 8 + j]? = some (f k j)
theorem StIn.row {B : Nat} {w w' : World} {sl : Value} {n : Nat} {f : Nat → Nat → Value} (h : StIn B w sl n f) (hk : ∀ b o, B ≤ b → w.heap[b]? = some o → (∃ cs fr, o = .cells cs 58 fr) → w'.heap[b]? = some o) : StIn B w' sl n f := by
  rcases h with h | ⟨b, c, cs, rfl, h1, h2, h3⟩
  · exact .inl h
  · exact .inr ⟨b, c, cs, rfl, h1, hk b _ h1 h2 ⟨_, _, rfl⟩, h3⟩
theorem StIn.of_own {w : World} {B n : Nat} {v : Value} {f : Nat → Nat → Value} (h : w.ownsRow B 58 8 v n (flat 8 f n)) : StIn B w v n f := by
  rcases h.2 with ⟨rfl, h0⟩ | ⟨q, cap, cur, rfl, hq, hh, hn, hc, hsz, ht⟩
  · have h1 := flat_len 8 f n
    rw [h0] at h1
    simp at h1
    exact .inl (by omega)
  · refine .inr ⟨q, cap, cur, rfl, hq, hh, fun k j hk hj => ?_⟩
    have e := flat_get f hk hj
    rw [← ht, List.getElem?_take, if_pos (idx_lt hk hj)] at e
    simpa using e
theorem StIn.rd {B : Nat} {w : World} {a : Option Addr} {n c : Nat} {f : Nat → Nat → Value} (h : StIn B w (.slice a n c) n f) : Rd w w.heap.size 8 a n f := by
  intro hn
  rcases h with h | ⟨b, c', cs, he, _, h2, h3⟩
  · omega
  · cases he
    refine ⟨b, 0, rfl, (Array.getElem?_eq_some_iff.1 h2).1, fun k hk j hj => ?_⟩
    rw [cell_of_row _ _ _ _ _ _ h2, Nat.zero_add]
    exact h3 k j hk hj
/-- A copy of one's own. -/
theorem ownSteps_row (A : Option Addr) (n c : Nat) (g : Nat → Nat → Value) (w : World) (B : Nat) (hn : n ≤ 1000) (hB : B ≤ w.heap.size) (hx : Rd w B 8 A n g) : Calls Tryd.prog 13 #[.slice A n c] w fun e w' => ∃ A' c', e = .returned (.slice A' n c') ∧ n ≤ c' ∧ c' ≤ maxLen ∧ StIn w.heap.size w' (.slice A' n c') n g ∧ Below w.heap.size w w' := by
  obtain ⟨i0, hi0, iz0, iz1, iz2⟩ := info_parts stp_info
  have HX := Lib.hid hx
  have HB := Lib.hid hB
  have HN := Lib.hid hn
  clear hx hB hn
  go_enter Tryd.func13, Tryd.ntmps13
  go_wp2_with (at_builtin; go_loud (refine wpList_app_lit_soc rfl _ _ 28 rfl 58 i0 _ 8 64 Tryd.underlying28 hi0 iz0 iz1 iz2 rfl (by decide) _ rfl A n c rfl g ?hr ?hn (by decide) ?_))
  case hr => exact (HX.out.alloc HB.out _).more (by have := HB.out; simp; omega)
  case hn => have := HN.out; omega
  intro v' w' h1 h2
  have H1 : Hid (Below w.heap.size w w') := ((Below.refl _ _).alloc (Nat.le_refl _) _).trans (h1.mono (by simp))
  have h3 : ∃ A' c', v' = .slice A' n c' ∧ n ≤ c' ∧ c' ≤ maxLen ∧ StIn w.heap.size w' v' n g := by
    obtain ⟨A', c', e, k1, k2, _⟩ := h2.rd
    refine ⟨A', c', e, k1, k2, ?_⟩
    rcases h2 with ⟨h0, _⟩ | ho
    · exact .inl h0
    · rcases StIn.of_own ho with h | ⟨b, c, cs, e1, e2, e3, e4⟩
      · exact .inl h
      · exact .inr ⟨b, c, cs, e1, Nat.le_trans (by first | exact Nat.le_refl _ | simp) e2, e3, e4⟩
  obtain ⟨A', c', rfl, k1, k2, k3⟩ := h3
  have H3 := Lib.hid k3
  clear h1 h2 k3
  go_wp2_with fail
  go_ret
  exact ⟨A', c', rfl, k1, k2, H3.out, H1.out⟩
theorem StIn.set2 {B b c n i s : Nat} {w : World} {cs : Array Value} {f f' : Nat → Nat → Value} (h1 : B ≤ b) (h2 : w.heap[b]? = some (.cells cs 58 (0, 0))) (h3 : ∀ k j, k < n → j < 8 → cs[k * 8 + j]? = some (f k j)) (hi : i < n) (hs : s < 3) (x y : Int)
    (hf : ∀ k j, k < n → j < 8 → f' k j = if k = i ∧ j = 2 + s * 2 then I x else if k = i ∧ j = 2 + s * 2 + 1 then I y else f k j) :
    StIn B ((w.setCell ⟨b, i * 8 + 2 + s * 2, none⟩ (I x)).setCell ⟨b, i * 8 + 2 + s * 2 + 1, none⟩ (I y)) (.slice (some ⟨b, 0, none⟩) n c) n f' := by
  refine .inr ⟨b, c, _, rfl, h1, rs (rs h2 _ _) _ _, fun k' j' hk' hj' => ?_⟩
  have hg := h3 k' j' hk' hj'
  have hlt : k' * 8 + j' < cs.size := (Array.getElem?_eq_some_iff.1 hg).1
  rw [hf k' j' hk' hj', Array.getElem?_setIfInBounds, Array.getElem?_setIfInBounds]
  by_cases e1 : k' = i ∧ j' = 2 + s * 2
  · obtain ⟨rfl, rfl⟩ := e1
    rw [if_neg (by omega), if_pos (by omega), if_pos (by omega), if_pos ⟨rfl, rfl⟩]
  · rw [if_neg e1]
    by_cases e2 : k' = i ∧ j' = 2 + s * 2 + 1
    · obtain ⟨rfl, rfl⟩ := e2
      rw [if_pos (by omega), if_pos (by rw [Array.size_setIfInBounds]; omega), if_pos ⟨rfl, rfl⟩]
    · rw [if_neg e2, if_neg (by omega), if_neg (by omega)]
      exact hg
theorem nrK_zero (b : Nat → Int) (low : Bool) : nrK b low 0 = b := by
  funext j
  exact nrK_else (by omega)
theorem nrS_zero (bit : Nat → Bool) (x : Stp) (k : Nat) : nrS bit x k 0 = x := by
  unfold nrS
  rw [nrK_zero]
  split <;> rfl
section
variable {bit : Nat → Bool} {l : List Stp} {s i : Nat}
theorem nrA_zero {k j : Nat} (hk : k < l.length) : rT (nrA bit l 0 0) k j = rT l k j := by
  unfold rT
  rw [nrA_at hk, if_neg (show ¬ k < 0 by omega), nrS_zero]
theorem nrA_skip (hb : bit i = false) : nrA bit l s (i + 1) = nrA bit l s i := by
  unfold nrA
  refine List.map_congr_left fun k hk => ?_
  by_cases h : k = i
  · subst h
    unfold nrS
    rw [hb]
    rfl
  · by_cases h2 : k < i
    · rw [if_pos h2, if_pos (by omega)]
    · rw [if_neg h2, if_neg (by omega)]
theorem nrA_full : nrA bit l s l.length = nrA bit l (s + 1) 0 := by
  unfold nrA
  refine List.map_congr_left fun k hk => ?_
  rw [if_pos (by simpa using hk), if_neg (by omega)]
theorem nrA_b (hi : i < l.length) : (at0 (nrA bit l s i) i).b (s * 2) = (at0 l i).b (s * 2) ∧ (at0 (nrA bit l s i) i).b (s * 2 + 1) = (at0 l i).b (s * 2 + 1) := by
  rw [nrA_at hi, if_neg (by omega)]
  unfold nrS
  split
  · exact ⟨nrK_else (by omega), nrK_else (by omega)⟩
  · exact ⟨rfl, rfl⟩
theorem nrA_step (hb : bit i = true) (hi : i < l.length) (hs : s < 3) : ∀ k j, k < l.length → j < 8 → rT (nrA bit l s (i + 1)) k j = if k = i ∧ j = 2 + s * 2 then I (nrL ((at0 l i).b (s * 2)) ((at0 l i).b (s * 2 + 1)) (i % 2 == 0)) else if k = i ∧ j = 2 + s * 2 + 1 then I (nrH ((at0 l i).b (s * 2)) ((at0 l i).b (s * 2 + 1)) (i % 2 == 0)) else rT (nrA bit l s i) k j := by
  intro k j hk hj
  by_cases hki : k = i
  · subst hki
    have key : ∀ n, nrS bit (at0 l k) k n = ⟨(at0 l k).kd, (at0 l k).ms, nrK (at0 l k).b (k % 2 == 0) n⟩ := fun n => by unfold nrS; rw [if_pos hb]
    have eA : at0 (nrA bit l s (k + 1)) k = ⟨(at0 l k).kd, (at0 l k).ms, nrK (at0 l k).b (k % 2 == 0) (s + 1)⟩ := by rw [nrA_at hk, if_pos (show k < k + 1 by omega), key]
    have eB : at0 (nrA bit l s k) k = ⟨(at0 l k).kd, (at0 l k).ms, nrK (at0 l k).b (k % 2 == 0) s⟩ := by rw [nrA_at hk, if_neg (show ¬ k < k by omega), key]
    unfold rT
    rw [eA, eB]
    by_cases h0 : j = 0
    · subst h0
      rw [if_pos rfl, if_neg (show ¬ (k = k ∧ 0 = 2 + s * 2) by omega), if_neg (show ¬ (k = k ∧ 0 = 2 + s * 2 + 1) by omega), if_pos rfl]
    · by_cases h1 : j = 1
      · subst h1
        rw [if_neg h0, if_pos rfl, if_neg (show ¬ (k = k ∧ 1 = 2 + s * 2) by omega), if_neg (show ¬ (k = k ∧ 1 = 2 + s * 2 + 1) by omega), if_neg h0, if_pos rfl]
      · rw [if_neg h0, if_neg h1, if_neg h0, if_neg h1]
        by_cases e1 : j = 2 + s * 2
        · rw [if_pos ⟨rfl, e1⟩]
          subst e1
          show I (nrK (at0 l k).b (k % 2 == 0) (s + 1) (2 + s * 2 - 2)) = _
          rw [show 2 + s * 2 - 2 = s * 2 by omega, nrK_lo (by omega)]
        · rw [if_neg (by omega)]
          by_cases e2 : j = 2 + s * 2 + 1
          · rw [if_pos ⟨rfl, e2⟩]
            subst e2
            show I (nrK (at0 l k).b (k % 2 == 0) (s + 1) (2 + s * 2 + 1 - 2)) = _
            rw [show 2 + s * 2 + 1 - 2 = s * 2 + 1 by omega, nrK_hi (by omega)]
          · rw [if_neg (by omega)]
            show I (nrK (at0 l k).b (k % 2 == 0) (s + 1) (j - 2)) = I (nrK (at0 l k).b (k % 2 == 0) s (j - 2))
            rw [nrK_next (by omega) (by omega)]
  · rw [if_neg (by omega), if_neg (by omega)]
    have e : at0 (nrA bit l s (i + 1)) k = at0 (nrA bit l s i) k := by
      rw [nrA_at hk, nrA_at hk]
      by_cases h2 : k < i
      · rw [if_pos h2, if_pos (show k < i + 1 by omega)]
      · rw [if_neg h2, if_neg (show ¬ k < i + 1 by omega)]
    unfold rT
    rw [e]
theorem nrM_set {m : Mlt} {low : Bool} (hs : s < 3) : ((mltArr (nrM m low s)).setIfInBounds (1 + s * 2) (I (nrL (m.ct (s * 2)) (m.ct (s * 2 + 1)) low))).setIfInBounds (1 + s * 2 + 1) (I (nrH (m.ct (s * 2)) (m.ct (s * 2 + 1)) low)) = mltArr (nrM m low (s + 1)) := by
  match s, hs with
  | 0, _ => rfl
  | 1, _ => rfl
  | 2, _ => rfl
theorem nrM_at {m : Mlt} {low : Bool} : (nrM m low s).ct (s * 2) = m.ct (s * 2) ∧ (nrM m low s).ct (s * 2 + 1) = m.ct (s * 2 + 1) := ⟨nrK_else (by omega), nrK_else (by omega)⟩
end
end Go.Proofs.YtfifdfagikbahaaDoor
