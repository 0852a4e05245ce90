/- Plain laws of the runs of Where of package units. -/
import Derived.Test.YtmadlmmfbpmebaaVg
namespace Go.Proofs.Ytmadlmmfbpmebaa
open Go.RowKit
/-- One more piece's run is taken in. -/
def whStep (y : Rng) (l : List Rng) (p q : Rng) : List Rng :=
  if (whF p q y).hi < (whF p q y).lo then l else if l.length ≠ 0 ∧ (whF p q y).lo ≤ (at0 l (l.length - 1)).hi + 1 then l.take (l.length - 1) ++ [⟨(at0 l (l.length - 1)).lo, (whF p q y).hi⟩] else l ++ [whF p q y]
def whL (t : List Rng) (y : Rng) (pre : List (Pc t)) : List Rng := pre.foldl (fun l x => whStep y l (at0 t x.1) (at0 t (x.1 + 1))) []
theorem whL_snoc (t : List Rng) (y : Rng) (pre : List (Pc t)) (x : Pc t) : whL t y (pre ++ [x]) = whStep y (whL t y pre) (at0 t x.1) (at0 t (x.1 + 1)) := by simp [whL]
theorem pc_ok {t : List Rng} {y : Rng} (ht : Tab t) (hy : rngOk y = true) (x : Pc t) : PcOk (at0 t x.1) (at0 t (x.1 + 1)) y :=
  ⟨(ht.x x.1 (by have := x.2; omega)).1, ht.y x.1 (by have := x.2; omega), (ht.x (x.1 + 1) x.2).2, ht.y (x.1 + 1) x.2, ht.asc x.1 (x.1 + 1) (by omega) x.2, hy⟩
theorem ut_bd {p q : Rng} {y : Int} (h : RsOk p q y) : -3000000000000 ≤ utF p q y ∧ utF p q y ≤ 3000000000000 := by
  obtain ⟨h1, h2, h3, h4, h5, h6, h7⟩ := h
  unfold utF
  split
  · omega
  · split
    · omega
    · have hp := part_le (a := q.lo - p.lo) (b := y - p.hi) (c := q.hi - p.hi) (by omega) (by omega) (by omega)
      rw [Int.mul_comm] at hp
      omega
theorem fr_bd {p q : Rng} {y : Int} (h : RsOk p q y) : -3000000000000 ≤ frF p q y ∧ frF p q y ≤ 3000000000001 := by
  obtain ⟨h1, h2, h3, h4, h5, h6, h7⟩ := h
  unfold frF
  split
  · omega
  · split
    · omega
    · have hp := part_le (a := q.lo - p.lo) (b := y - p.hi) (c := q.hi - p.hi) (by omega) (by omega) (by omega)
      rw [Int.mul_comm] at hp
      split <;> omega
theorem wh_bd {p q y : Rng} (h : PcOk p q y) : (-3000000000000 ≤ (whF p q y).lo ∧ (whF p q y).lo ≤ 3000000000001) ∧ -3000000000000 ≤ (whF p q y).hi ∧ (whF p q y).hi ≤ 3000000000000 := by
  have hn := rngOk_iff.1 h.num
  unfold whF
  split
  · rename_i hd
    have hr : ∀ z, (-1000000000000000 ≤ z ∧ z ≤ 1000000000000000) → RsOk ⟨p.lo, -p.hi⟩ ⟨q.lo, -q.hi⟩ z := fun z hz => ⟨h.x0, by have := h.y0; simp only; omega, h.x1, by have := h.y1; simp only; omega, h.up, by simp only; omega, hz⟩
    exact ⟨fr_bd (hr _ (by omega)), ut_bd (hr _ (by omega))⟩
  · rename_i hd
    have hr : ∀ z, (-1000000000000000 ≤ z ∧ z ≤ 1000000000000000) → RsOk p q z := fun z hz => ⟨h.x0, h.y0, h.x1, h.y1, h.up, by omega, hz⟩
    exact ⟨fr_bd (hr _ (by omega)), ut_bd (hr _ (by omega))⟩
def RunBd (l : List Rng) : Prop := ∀ j, j < l.length → -3000000000000 ≤ (at0 l j).hi ∧ (at0 l j).hi ≤ 3000000000000
theorem step_bd {y : Rng} {l : List Rng} {p q : Rng} (h : PcOk p q y) (hl : RunBd l) : RunBd (whStep y l p q) := by
  have hw := wh_bd h
  unfold whStep
  split
  · exact hl
  · split
    · rename_i h2
      intro j hj
      have hlen : (l.take (l.length - 1)).length = l.length - 1 := by simp
      rw [List.length_append, hlen] at hj
      simp only [List.length_cons, List.length_nil] at hj
      rcases Nat.lt_or_ge j (l.length - 1) with h3 | h3
      · rw [at0_app _ _ (by omega), at0_get (by omega), List.getElem_take, ← at0_get (by omega)]
        exact hl j (by omega)
      · obtain rfl : j = l.length - 1 := by omega
        have := at0_last (l.take (l.length - 1)) (⟨(at0 l (l.length - 1)).lo, (whF p q y).hi⟩ : Rng)
        rw [hlen] at this
        rw [this]
        exact hw.2
    · intro j hj
      rw [List.length_append] at hj
      simp only [List.length_cons, List.length_nil] at hj
      rcases Nat.lt_or_ge j l.length with h3 | h3
      · rw [at0_app _ _ h3]; exact hl j h3
      · obtain rfl : j = l.length := by omega
        rw [at0_last]; exact hw.2
theorem whStep_len {y : Rng} {l : List Rng} {p q : Rng} : (whStep y l p q).length ≤ l.length + 1 := by
  unfold whStep
  split
  · omega
  · split
    · simp
    · simp
theorem whL_facts {t : List Rng} {y : Rng} (ht : Tab t) (hy : rngOk y = true) (pre : List (Pc t)) : RunBd (whL t y pre) ∧ (whL t y pre).length ≤ pre.length := by
  have : ∀ (l : List (Pc t)) (a : List Rng), RunBd a → RunBd (l.foldl (fun l x => whStep y l (at0 t x.1) (at0 t (x.1 + 1))) a) ∧ (l.foldl (fun l x => whStep y l (at0 t x.1) (at0 t (x.1 + 1))) a).length ≤ a.length + l.length := by
    intro l
    induction l with
    | nil => intro a ha; exact ⟨ha, by simp⟩
    | cons x r ih =>
      intro a ha
      obtain ⟨i1, i2⟩ := ih _ (step_bd (pc_ok ht hy x) ha)
      refine ⟨i1, Nat.le_trans i2 ?_⟩
      have := whStep_len (y := y) (l := a) (p := at0 t x.1) (q := at0 t (x.1 + 1))
      simp only [List.length_cons]
      omega
  obtain ⟨h1, h2⟩ := this pre [] (fun j hj => absurd hj (by simp))
  exact ⟨h1, by rw [List.length_nil, Nat.zero_add] at h2; exact h2⟩
/-- The last run is made longer. -/
theorem rc_set {l : List Rng} (h : l.length ≠ 0) (v : Int) : rc (l.take (l.length - 1) ++ [⟨(at0 l (l.length - 1)).lo, v⟩]) = (rc l).set ((l.length - 1) * 2 + 1) (I v) := by
  obtain ⟨i, x, rfl⟩ : ∃ i x, l = i ++ [x] := ⟨l.dropLast, l.getLast (by intro e; subst e; simp at h), (List.dropLast_concat_getLast _).symm⟩
  have hl : (i ++ [x]).length - 1 = i.length := by simp
  have hr : (rc i).length = i.length * 2 := by rw [rc_flat, flat_len]
  rw [hl, at0_last, List.take_left' rfl, rc_app, rc_app, List.set_append_right _ _ (by omega), hr]
  have : i.length * 2 + 1 - i.length * 2 = 1 := by omega
  rw [this]
  rfl
end Go.Proofs.Ytmadlmmfbpmebaa
