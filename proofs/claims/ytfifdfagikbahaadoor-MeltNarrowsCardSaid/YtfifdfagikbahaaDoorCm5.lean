/- Plain law of narrower runs, with the narrowing spelled out, and of runs that are cut in two. -/
import Derived.Test.YtfifdfagikbahaaDoorCm4
namespace Go.Proofs.YtfifdfagikbahaaDoor
open Go.RowKit
/-- A range that is one number narrower at an end. -/
def nrL (a b : Int) (low : Bool) : Int := if a < b then (if low then a + 1 else a) else a
def nrH (a b : Int) (low : Bool) : Int := if a < b then (if low then b else b - 1) else b
theorem nr_in {a b : Int} (low : Bool) (h : a ≤ b) : a ≤ nrL a b low ∧ nrL a b low ≤ nrH a b low ∧ nrH a b low ≤ b := by
  unfold nrL nrH
  split
  · rcases low with _ | _
    · simp; omega
    · simp; omega
  · omega
/-- The first n ranges narrower. -/
def nrK (b : Nat → Int) (low : Bool) (n j : Nat) : Int := if j < n * 2 then (if j % 2 = 0 then nrL (b j) (b (j + 1)) low else nrH (b (j - 1)) (b j) low) else b j
theorem nrK_lo {b : Nat → Int} {low : Bool} {n s : Nat} (h : s < n) : nrK b low n (s * 2) = nrL (b (s * 2)) (b (s * 2 + 1)) low := by
  unfold nrK
  rw [if_pos (by omega), if_pos (by omega)]
theorem nrK_hi {b : Nat → Int} {low : Bool} {n s : Nat} (h : s < n) : nrK b low n (s * 2 + 1) = nrH (b (s * 2)) (b (s * 2 + 1)) low := by
  unfold nrK
  rw [if_pos (by omega), if_neg (by omega), Nat.add_sub_cancel]
theorem nrK_else {b : Nat → Int} {low : Bool} {n j : Nat} (h : n * 2 ≤ j) : nrK b low n j = b j := by
  unfold nrK
  rw [if_neg (by omega)]
theorem nrK_next {b : Nat → Int} {low : Bool} {n j : Nat} (h : j ≠ n * 2) (h' : j ≠ n * 2 + 1) : nrK b low (n + 1) j = nrK b low n j := by
  unfold nrK
  by_cases hj : j < n * 2
  · rw [if_pos hj, if_pos (by omega)]
  · rw [if_neg hj, if_neg (by omega)]
theorem nrK_bd {b : Nat → Int} {low : Bool} {n : Nat} {m : Int} (h : bdB b m = true) : bdB (nrK b low n) m = true := by
  have key : ∀ s, s < 3 → 0 ≤ nrK b low n (s * 2) ∧ nrK b low n (s * 2) ≤ nrK b low n (s * 2 + 1) ∧ nrK b low n (s * 2 + 1) ≤ m := by
    intro s hs
    have hb := bdB_at h hs
    by_cases hn : s < n
    · rw [nrK_lo hn, nrK_hi hn]
      have := nr_in low hb.2.1
      omega
    · rw [nrK_else (by omega), nrK_else (by omega)]
      exact hb
  have k0 := key 0 (by omega)
  have k1 := key 1 (by omega)
  have k2 := key 2 (by omega)
  unfold bdB
  rw [Bool.and_eq_true, Bool.and_eq_true, rgB_iff, rgB_iff, rgB_iff]
  exact ⟨⟨k0, k1⟩, k2⟩
/-- A step, narrower in its first n ranges if bit says so. -/
def nrS (bit : Nat → Bool) (x : Stp) (k n : Nat) : Stp := if bit k then ⟨x.kd, x.ms, nrK x.b (k % 2 == 0) n⟩ else x
/-- The steps when s species are done, and i steps of the next one. -/
def nrA (bit : Nat → Bool) (l : List Stp) (s i : Nat) : List Stp := (List.range l.length).map fun k => nrS bit (at0 l k) k (if k < i then s + 1 else s)
theorem nrA_len (bit : Nat → Bool) (l : List Stp) (s i : Nat) : (nrA bit l s i).length = l.length := by simp [nrA]
theorem nrA_at {bit : Nat → Bool} {l : List Stp} {s i k : Nat} (hk : k < l.length) : at0 (nrA bit l s i) k = nrS bit (at0 l k) k (if k < i then s + 1 else s) := by
  unfold nrA
  rw [at0_get (by simpa using hk)]
  simp
theorem nrS_isS {bit : Nat → Bool} {x : Stp} {k n : Nat} (h : isS x = true) : isS (nrS bit x k n) = true := by
  unfold nrS
  split
  · unfold isS at h ⊢
    show (if x.kd = 1 then wiB x.ms 1 1000000000 && bdB (nrK x.b (k % 2 == 0) n) 20000 else if x.kd = 2 then wiB x.ms 1 1000000000 && bdB (nrK x.b (k % 2 == 0) n) 1000000000000 else if x.kd = 3 then (x.ms == 0) && bdB (nrK x.b (k % 2 == 0) n) 1000000000000 else if x.kd = 4 then (x.ms == 0) && bdB (nrK x.b (k % 2 == 0) n) 10000 else false) = true
    split
    · rename_i h1
      rw [if_pos h1, Bool.and_eq_true] at h
      rw [Bool.and_eq_true]
      exact ⟨h.1, nrK_bd h.2⟩
    · rename_i h1
      rw [if_neg h1] at h
      split
      · rename_i h2
        rw [if_pos h2, Bool.and_eq_true] at h
        rw [Bool.and_eq_true]
        exact ⟨h.1, nrK_bd h.2⟩
      · rename_i h2
        rw [if_neg h2] at h
        split
        · rename_i h3
          rw [if_pos h3, Bool.and_eq_true] at h
          rw [Bool.and_eq_true]
          exact ⟨h.1, nrK_bd h.2⟩
        · rename_i h3
          rw [if_neg h3] at h
          split
          · rename_i h4
            rw [if_pos h4, Bool.and_eq_true] at h
            rw [Bool.and_eq_true]
            exact ⟨h.1, nrK_bd h.2⟩
          · rename_i h4
            rw [if_neg h4] at h
            exact h
  · exact h
theorem nrS_in {bit : Nat → Bool} {x : Stp} {k n : Nat} (h : isS x = true) : NrwS (nrS bit x k n) x := by
  have e : ∀ s, s < 3 → x.b (s * 2) ≤ (nrS bit x k n).b (s * 2) ∧ (nrS bit x k n).b (s * 2 + 1) ≤ x.b (s * 2 + 1) := by
    intro s hs
    have hb := isS_by h hs
    unfold nrS
    split
    · show _ ≤ nrK x.b (k % 2 == 0) n (s * 2) ∧ nrK x.b (k % 2 == 0) n (s * 2 + 1) ≤ _
      by_cases hn : s < n
      · rw [nrK_lo hn, nrK_hi hn]
        have := nr_in (k % 2 == 0) hb.2.1
        omega
      · rw [nrK_else (by omega), nrK_else (by omega)]
        omega
    · omega
  refine ⟨?_, ?_, fun s hs => (e s hs).1, fun s hs => (e s hs).2⟩
  · unfold nrS; split <;> rfl
  · unfold nrS; split <;> rfl
def nrM (m : Mlt) (low : Bool) (n : Nat) : Mlt := ⟨m.ms, nrK m.ct low n⟩
theorem ckF_zero {m : Mlt} {l : List Stp} (h1 : isM m = true) (h2 : l.length ≤ 200) (h3 : ∀ j, j < l.length → stE m l j = 0) : ckF m l = 0 := by
  unfold ckF
  rw [if_neg (by rw [h1]; decide), if_neg (by omega)]
  exact ckK_at h3
section
variable {bit : Nat → Bool} {low : Bool} {m : Mlt} {l : List Stp} {n i : Nat}
theorem nrw_R (h : ckF m l = 0) : NrwR (nrM m low n) (nrA bit l n i) m l := by
  have hv := vld_of h
  have e : ∀ s, s < 3 → m.ct (s * 2) ≤ nrK m.ct low n (s * 2) ∧ nrK m.ct low n (s * 2 + 1) ≤ m.ct (s * 2 + 1) := by
    intro s hs
    have hb := hv.ct hs
    by_cases hn : s < n
    · rw [nrK_lo hn, nrK_hi hn]
      have := nr_in low hb.2.1
      omega
    · rw [nrK_else (by omega), nrK_else (by omega)]
      omega
  refine ⟨rfl, fun s hs => (e s hs).1, fun s hs => (e s hs).2, nrA_len _ _ _ _, fun k hk => ?_⟩
  rw [nrA_at hk]
  exact nrS_in (hv.isS hk)
theorem nrw_ok (h : ckF m l = 0) : ckF (nrM m low n) (nrA bit l n i) = 0 := by
  have hv := vld_of h
  have hr := nrw_R (bit := bit) (low := low) (n := n) (i := i) h
  have hm := hv.hm
  refine ckF_zero ?_ (by rw [nrA_len]; exact hv.hn) fun j hj => ?_
  · unfold isM at hm ⊢
    rw [Bool.and_eq_true] at hm ⊢
    exact ⟨hm.1, nrK_bd hm.2⟩
  · rw [nrA_len] at hj
    have h1 := hv.he j hj
    unfold stE at h1 ⊢
    rw [nrA_at hj, nrS_isS (hv.isS hj), hr.msK (j + 1) (by omega)]
    rw [hv.isS hj] at h1
    exact h1
/-- What is told of the narrower run. -/
structure Nrwd (m' : Mlt) (l' : List Stp) (m : Mlt) (l : List Stp) : Prop where
  fz : fzK l' l'.length = fzK l l.length
  en : ∀ s, s < 3 → InR (prR m' l' (2 + s * 2)) (prR m' l' (2 + s * 2 + 1)) (prR m l (2 + s * 2)) (prR m l (2 + s * 2 + 1))
  ad : ∀ s, s < 3 → InR (prR m' l' (8 + s * 2)) (prR m' l' (8 + s * 2 + 1)) (prR m l (8 + s * 2)) (prR m l (8 + s * 2 + 1))
  so : ∀ s, s < 3 → InR (prR m' l' (14 + s * 2)) (prR m' l' (14 + s * 2 + 1)) (prR m l (14 + s * 2)) (prR m l (14 + s * 2 + 1))
  va : ∀ s, s < 3 → InR (prR m' l' (20 + s * 2)) (prR m' l' (20 + s * 2 + 1)) (prR m l (20 + s * 2)) (prR m l (20 + s * 2 + 1))
  ms : ∀ i, i < fzK l l.length → prS m' l' i 0 = prS m l i 0
  sl : ∀ i, i < fzK l l.length → ∀ s, s < 3 → InR (prS m' l' i (1 + s * 2)) (prS m' l' i (1 + s * 2 + 1)) (prS m l i (1 + s * 2)) (prS m l i (1 + s * 2 + 1))
theorem prS_ms (m : Mlt) {l : List Stp} {k : Nat} (hk : k < l.length) (h1 : (at0 l k).kd = 1) : prS m l (fzK l k) 0 = (at0 l k).ms := by
  show slK m l 2 (slK m l 1 (slK m l 0 (gI l) l.length) l.length) l.length _ 0 = _
  rw [slK_else (by omega), slK_else (by omega), slK_else (by omega)]
  unfold gI
  rw [if_pos rfl, (frz_at hk h1).2]
theorem nrw_all (h : ckF m l = 0) : Nrwd (nrM m low n) (nrA bit l n i) m l := by
  have hv := vld_of h
  have hv' := vld_of (nrw_ok (bit := bit) (low := low) (n := n) (i := i) h)
  have hr := nrw_R (bit := bit) (low := low) (n := n) (i := i) h
  refine ⟨?_, fun s hs => ?_, fun s hs => ?_, fun s hs => ?_, fun s hs => ?_, fun i' hi => ?_, fun i' hi s hs => ?_⟩
  · rw [hr.len]; exact hr.fz _ (Nat.le_refl _)
  · rw [(prR_val _ _ hs).e0, (prR_val _ _ hs).e1, (prR_val _ _ hs).e0, (prR_val _ _ hs).e1]
    exact nrw_end hr hv hv' hs
  · rw [(prR_val _ _ hs).a0, (prR_val _ _ hs).a1, (prR_val _ _ hs).a0, (prR_val _ _ hs).a1]
    rw [hr.len]
    exact nrw_added hr hv' hs _ (Nat.le_refl _)
  · rw [(prR_val _ _ hs).f0, (prR_val _ _ hs).f1, (prR_val _ _ hs).f0, (prR_val _ _ hs).f1]
    exact nrw_solid hr hv hv' hs
  · rw [(prR_val _ _ hs).v0, (prR_val _ _ hs).v1, (prR_val _ _ hs).v0, (prR_val _ _ hs).v1]
    exact nrw_gone hr hv hv' hs
  · obtain ⟨k, hk, h1, rfl⟩ := fz_ex _ _ hi
    have e := prS_ms (nrM m low n) (l := nrA bit l n i) (k := k) (by rw [hr.len]; exact hk) (by rw [(hr.st k hk).kd]; exact h1)
    rw [hr.fz k (by omega)] at e
    rw [e, prS_ms m hk h1, (hr.st k hk).ms]
  · obtain ⟨k, hk, h1, rfl⟩ := fz_ex _ _ hi
    have e := prS_at (m := nrM m low n) (l := nrA bit l n i) hs (k := k) (by rw [hr.len]; exact hk) (by rw [(hr.st k hk).kd]; exact h1)
    rw [hr.fz k (by omega)] at e
    rw [e.1, e.2, (prS_at hs hk h1).1, (prS_at hs hk h1).2]
    exact nrw_slice hr hv hv' hs hk h1
end
/-- A piece of a run, from place c on. -/
structure Part (m' : Mlt) (l' : List Stp) (m : Mlt) (l : List Stp) (c : Nat) : Prop where
  len : c + l'.length ≤ l.length
  at' : ∀ k, k < l'.length → at0 l' k = at0 l (c + k)
  ms : m'.ms = msK m l c
  lo : ∀ s, s < 3 → m'.ct (s * 2) = wkD m crsPoor s (m.ct (s * 2)) l c
  hi : ∀ s, s < 3 → m'.ct (s * 2 + 1) = wkD m crsRich s (m.ct (s * 2 + 1)) l c
section
variable {m' : Mlt} {l' : List Stp} {m : Mlt} {l : List Stp} {c s : Nat}
theorem Part.msK (h : Part m' l' m l c) : ∀ k, k ≤ l'.length → msK m' l' k = msK m l (c + k)
  | 0, _ => h.ms
  | k + 1, hk => by
    show grF (Go.Proofs.YtfifdfagikbahaaDoor.msK m' l' k) (at0 l' k) = grF (Go.Proofs.YtfifdfagikbahaaDoor.msK m l (c + k)) (at0 l (c + k))
    rw [h.msK k (by omega), h.at' k (by omega)]
theorem Part.fz (h : Part m' l' m l c) : ∀ k, k ≤ l'.length → fzK l c + fzK l' k = fzK l (c + k)
  | 0, _ => rfl
  | k + 1, hk => by
    have ih := h.fz k (by omega)
    rw [show c + (k + 1) = (c + k) + 1 by omega, fzK, fzK, h.at' k (by omega)]
    split <;> omega
theorem Part.wk (h : Part m' l' m l c) (q : Crs) (st st' : Int) (h0 : st' = wkD m q s st l c) : ∀ k, k ≤ l'.length → wkD m' q s st' l' k = wkD m q s st l (c + k)
  | 0, _ => h0
  | k + 1, hk => by
    have ih := h.wk q st st' h0 k (by omega)
    rw [show c + (k + 1) = (c + k) + 1 by omega, wkD, wkD, ih, h.at' k (by omega), h.msK k (by omega)]
theorem Part.slice (h : Part m' l' m l c) {i : Nat} (hi : i < fzK l' l'.length) : ∀ j, j < 7 → prS m' l' i j = prS m l (fzK l c + i) j := by
  obtain ⟨k, hk, h1, rfl⟩ := fz_ex _ _ hi
  have hl := h.len
  have hk2 : c + k < l.length := by omega
  have h2 : (at0 l (c + k)).kd = 1 := by rw [← h.at' k hk]; exact h1
  have hf := h.fz k (by omega)
  have key : ∀ s, s < 3 → prS m' l' (fzK l' k) (1 + s * 2) = prS m l (fzK l c + fzK l' k) (1 + s * 2) ∧ prS m' l' (fzK l' k) (1 + s * 2 + 1) = prS m l (fzK l c + fzK l' k) (1 + s * 2 + 1) := by
    intro s hs
    rw [hf, (prS_at hs hk h1).1, (prS_at hs hk h1).2, (prS_at hs hk2 h2).1, (prS_at hs hk2 h2).2]
    unfold lwK hgK
    rw [h.wk crsPoor _ _ (h.lo s hs) k (by omega), h.wk crsRich _ _ (h.hi s hs) k (by omega), h.at' k hk, h.msK k (by omega)]
    exact ⟨rfl, rfl⟩
  intro j hj
  match j, hj with
  | 0, _ => rw [hf, prS_ms m' hk h1, prS_ms m hk2 h2, h.at' k hk]
  | 1, _ => exact (key 0 (by omega)).1
  | 2, _ => exact (key 0 (by omega)).2
  | 3, _ => exact (key 1 (by omega)).1
  | 4, _ => exact (key 1 (by omega)).2
  | 5, _ => exact (key 2 (by omega)).1
  | 6, _ => exact (key 2 (by omega)).2
theorem Part.end' (h : Part m' l' m l c) (hl : c + l'.length = l.length) : ∀ j, 1 ≤ j → j ≤ 7 → prR m' l' j = prR m l j := by
  have key : ∀ s, s < 3 → prR m' l' (2 + s * 2) = prR m l (2 + s * 2) ∧ prR m' l' (2 + s * 2 + 1) = prR m l (2 + s * 2 + 1) := by
    intro s hs
    rw [(prR_val m' l' hs).e0, (prR_val m' l' hs).e1, (prR_val m l hs).e0, (prR_val m l hs).e1, h.wk crsPoor _ _ (h.lo s hs) _ (Nat.le_refl _), h.wk crsRich _ _ (h.hi s hs) _ (Nat.le_refl _), hl]
    exact ⟨rfl, rfl⟩
  intro j h1 hj
  match j, h1, hj with
  | 1, _, _ => rw [prR_1, prR_1, h.msK _ (Nat.le_refl _), hl]
  | 2, _, _ => exact (key 0 (by omega)).1
  | 3, _, _ => exact (key 0 (by omega)).2
  | 4, _, _ => exact (key 1 (by omega)).1
  | 5, _, _ => exact (key 1 (by omega)).2
  | 6, _, _ => exact (key 2 (by omega)).1
  | 7, _, _ => exact (key 2 (by omega)).2
/-- The melt at the end of a run. -/
def mEnd (m : Mlt) (l : List Stp) : Mlt := ⟨prR m l 1, fun j => prR m l (2 + j)⟩
theorem at0_take {l : List Stp} {c k : Nat} (hk : k < c) (hc : c ≤ l.length) : at0 (l.take c) k = at0 l k := by
  rw [at0_get (by rw [List.length_take]; omega), at0_get (by omega), List.getElem_take]
theorem at0_drop (l : List Stp) (m j : Nat) : at0 (l.drop m) j = at0 l (m + j) := by
  unfold at0
  rw [List.getD_eq_getElem?_getD, List.getD_eq_getElem?_getD, List.getElem?_drop]
theorem part_take (m : Mlt) {l : List Stp} {c : Nat} (hc : c ≤ l.length) : Part m (l.take c) m l 0 := by
  have hl : (l.take c).length = c := by rw [List.length_take]; omega
  refine ⟨by omega, fun k hk => ?_, rfl, fun s _ => rfl, fun s _ => rfl⟩
  rw [at0_take (by omega) hc, Nat.zero_add]
theorem part_drop (m : Mlt) {l : List Stp} {c : Nat} (hc : c ≤ l.length) : Part (mEnd m (l.take c)) (l.drop c) m l c := by
  have hl : (l.take c).length = c := by rw [List.length_take]; omega
  have ht := part_take m hc
  refine ⟨by rw [List.length_drop]; omega, fun k hk => at0_drop _ _ _, ?_, fun s hs => ?_, fun s hs => ?_⟩
  · show prR m (l.take c) 1 = _
    rw [prR_1, ht.msK _ (Nat.le_refl _), hl, Nat.zero_add]
  · show prR m (l.take c) (2 + s * 2) = _
    rw [(prR_val _ _ hs).e0, ht.wk crsPoor (m.ct (s * 2)) (m.ct (s * 2)) rfl _ (Nat.le_refl _), hl, Nat.zero_add]
  · show prR m (l.take c) (2 + (s * 2 + 1)) = _
    rw [show 2 + (s * 2 + 1) = 2 + s * 2 + 1 by omega, (prR_val _ _ hs).e1, ht.wk crsRich (m.ct (s * 2 + 1)) (m.ct (s * 2 + 1)) rfl _ (Nat.le_refl _), hl, Nat.zero_add]
theorem Part.he (h : Part m' l' m l c) (hv : Vld m l) : ∀ j, j < l'.length → stE m' l' j = 0 := by
  intro j hj
  have hl := h.len
  have h1 := hv.he (c + j) (by omega)
  unfold stE at h1 ⊢
  rw [h.at' j hj, h.msK (j + 1) (by omega)]
  exact h1
theorem cut_ok (h : ckF m l = 0) (hc : c ≤ l.length) : ckF m (l.take c) = 0 := by
  have hv := vld_of h
  have hn := hv.hn
  exact ckF_zero hv.hm (by rw [List.length_take]; omega) ((part_take m hc).he hv)
theorem cut_or (h : ckF m l = 0) (hc : c ≤ l.length) : ckF (mEnd m (l.take c)) (l.drop c) ≠ 0 → ckF (mEnd m (l.take c)) (l.drop c) = 2 := by
  have hv := vld_of h
  have hn := hv.hn
  intro h0
  by_cases hm : isM (mEnd m (l.take c)) = true
  · exact absurd (ckF_zero hm (by rw [List.length_drop]; omega) ((part_drop m hc).he hv)) h0
  · unfold ckF
    rw [if_pos (by simpa using hm)]
/-- What is told of both parts. -/
structure Cuts (m : Mlt) (l : List Stp) (c : Nat) : Prop where
  fz : fzK (l.take c) (l.take c).length + fzK (l.drop c) (l.drop c).length = fzK l l.length
  en : ∀ j, 1 ≤ j → j ≤ 7 → prR (mEnd m (l.take c)) (l.drop c) j = prR m l j
  s1 : ∀ i, i < fzK (l.take c) (l.take c).length → ∀ j, j < 7 → prS m (l.take c) i j = prS m l i j
  s2 : ∀ i, i < fzK (l.drop c) (l.drop c).length → ∀ j, j < 7 → prS (mEnd m (l.take c)) (l.drop c) i j = prS m l (fzK (l.take c) (l.take c).length + i) j
theorem cut_all (m : Mlt) {l : List Stp} {c : Nat} (hc : c ≤ l.length) : Cuts m l c := by
  have hl : (l.take c).length = c := by rw [List.length_take]; omega
  have hd : c + (l.drop c).length = l.length := by rw [List.length_drop]; omega
  have ht := part_take m hc
  have hp := part_drop m hc
  have f1 := ht.fz _ (Nat.le_refl _)
  have f2 := hp.fz _ (Nat.le_refl _)
  rw [hl, Nat.zero_add, show fzK l 0 = 0 from rfl, Nat.zero_add] at f1
  rw [hd] at f2
  refine ⟨by rw [hl]; omega, hp.end' hd, fun i hi j hj => ?_, fun i hi j hj => ?_⟩
  · rw [ht.slice hi j hj, show fzK l 0 = 0 from rfl, Nat.zero_add]
  · rw [hp.slice hi j hj, hl, f1]
end
end Go.Proofs.YtfifdfagikbahaaDoor
