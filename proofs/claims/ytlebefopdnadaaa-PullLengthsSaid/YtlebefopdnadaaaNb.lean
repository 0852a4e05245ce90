/- Bounds of what is known at each second, and the memory of a chart that is being drawn. -/
import Derived.Test.YtlebefopdnadaaaNw
namespace Go.Proofs.Ytlebefopdnadaaa
open Go.RowKit
/-- Both numbers lie within m of 0. -/
def knIn (m : Int) (k : Kn) : Prop := (-m ≤ k.lo ∧ k.lo ≤ m) ∧ (-m ≤ k.hi ∧ k.hi ≤ m)
theorem knIn.more {m m' : Int} {k : Kn} (h : knIn m k) (hm : m ≤ m') : knIn m' k := by
  obtain ⟨⟨_, _⟩, _, _⟩ := h
  exact ⟨⟨by omega, by omega⟩, by omega, by omega⟩
theorem knIn_meet {m : Int} {k o : Kn} (hk : knIn m k) (ho : knIn m o) : knIn m (meetK k o) := by
  unfold meetK
  split
  · exact hk
  · split
    · exact ho
    · obtain ⟨⟨_, _⟩, _, _⟩ := hk
      obtain ⟨⟨_, _⟩, _, _⟩ := ho
      exact ⟨⟨by show _ ≤ max _ _; omega, by show max _ _ ≤ _; omega⟩, by show _ ≤ min _ _; omega, by show min _ _ ≤ _; omega⟩
theorem knIn_later {m g s : Int} {k : Kn} (hk : knIn m k) (hg : 0 ≤ g ∧ g ≤ 1000000) (hs : 0 ≤ s ∧ s ≤ 1000000) : knIn (m + 1000000) (laterK k g s) := by
  obtain ⟨⟨_, _⟩, _, _⟩ := hk
  exact ⟨⟨by show _ ≤ k.lo - s; omega, by show k.lo - s ≤ _; omega⟩, by show _ ≤ k.hi + g; omega, by show k.hi + g ≤ _; omega⟩
theorem knIn_seenK {R : Run} (h : VRun R) : ∀ j, j ≤ R.ms.length → ∀ t, knIn 1000000 (seenK R j t)
  | 0, _, t => ⟨⟨by show _ ≤ (0 : Int); omega, by show (0 : Int) ≤ _; omega⟩, by show _ ≤ (0 : Int); omega, by show (0 : Int) ≤ _; omega⟩
  | j + 1, hj, t => by
    have := h.mr j (by omega)
    have ih := knIn_seenK h j (by omega) t
    unfold seenK updK
    split
    · exact ⟨⟨by show _ ≤ (at0 R.ms j).lo; omega, by show (at0 R.ms j).lo ≤ _; omega⟩, by show _ ≤ (at0 R.ms j).hi; omega, by show (at0 R.ms j).hi ≤ _; omega⟩
    · exact ih
theorem knIn_bef {p : Vec} {R : Run} (h : VRun R) (hp : VPul p) : ∀ t : Nat, knIn (1000000 * (t + 1)) (befF p R t)
  | 0 => knIn_seenK h _ (Nat.le_refl _) 0
  | t + 1 => by
    have hs : knIn (1000000 * ((t + 1 : Nat) + 1)) (seenF R (t + 1)) := (knIn_seenK h _ (Nat.le_refl _) (t + 1)).more (by omega)
    exact knIn_meet hs ((knIn_later (knIn_bef h hp t) hp.grow hp.shrink).more (by omega))
theorem knIn_frm {p : Vec} {R : Run} (h : VRun R) (hp : VPul p) : ∀ d : Nat, knIn (1000000 * (d + 1)) (frmD p R d)
  | 0 => knIn_seenK h _ (Nat.le_refl _) _
  | d + 1 => by
    have hs : knIn (1000000 * ((d + 1 : Nat) + 1)) (seenF R (R.e.toNat - (d + 1))) := (knIn_seenK h _ (Nat.le_refl _) _).more (by omega)
    exact knIn_meet hs ((knIn_later (knIn_frm h hp d) hp.shrink hp.grow).more (by omega))
theorem bd_bef {p : Vec} {R : Run} (h : VRun R) (hp : VPul p) {t : Nat} (ht : t ≤ 200000) : knBd (befF p R t) := by
  have := (knIn_bef h hp t).more (m' := 100000000000000) (by omega)
  exact this
theorem bd_frm {p : Vec} {R : Run} (h : VRun R) (hp : VPul p) (t : Nat) : knBd (frmF p R t) := by
  have hl := h.last
  have := (knIn_frm h hp (R.e.toNat - t)).more (m' := 100000000000000) (by omega)
  exact this
/-- The blocks of a chart: what is seen, what is known before and from each second, and the chart itself. -/
structure Ch (w : World) (sb bb fb cb N : Nat) (p : Vec) (S B F : Nat → Kn) : Prop where
  s : w.heap[sb]? = some (.cells (kArr S N) 147 (0, 0))
  b : w.heap[bb]? = some (.cells (kArr B N) 147 (0, 0))
  f : w.heap[fb]? = some (.cells (kArr F N) 147 (0, 0))
  c : w.heap[cb]? = some (.cells (ia 117 p ++ #[.slice (some ⟨bb, 0, none⟩) N N, .slice (some ⟨fb, 0, none⟩) N N]) 150 (0, 0))
  sb : sb ≠ bb ∧ sb ≠ fb ∧ sb ≠ cb
  bf : bb ≠ fb ∧ bb ≠ cb ∧ fb ≠ cb
section
variable {w w' : World} {sb bb fb cb N : Nat} {p : Vec} {S B F : Nat → Kn}
theorem Ch.below (h : Ch w sb bb fb cb N p S B F) (hb : Below w.heap.size w w') : Ch w' sb bb fb cb N p S B F where
  s := (hb.block _ (Array.getElem?_eq_some_iff.1 h.s).1).trans h.s
  b := (hb.block _ (Array.getElem?_eq_some_iff.1 h.b).1).trans h.b
  f := (hb.block _ (Array.getElem?_eq_some_iff.1 h.f).1).trans h.f
  c := (hb.block _ (Array.getElem?_eq_some_iff.1 h.c).1).trans h.c
  sb := h.sb
  bf := h.bf
theorem Ch.setB (h : Ch w sb bb fb cb N p S B F) (B' : Nat → Kn) : Ch (w.setRow bb (kArr B' N)) sb bb fb cb N p S B' F where
  s := (setRow_other h.sb.1).trans h.s
  b := setRow_same h.b
  f := (setRow_other (Ne.symm h.bf.1)).trans h.f
  c := (setRow_other (Ne.symm h.bf.2.1)).trans h.c
  sb := h.sb
  bf := h.bf
theorem Ch.setF (h : Ch w sb bb fb cb N p S B F) (F' : Nat → Kn) : Ch (w.setRow fb (kArr F' N)) sb bb fb cb N p S B F' where
  s := (setRow_other h.sb.2.1).trans h.s
  b := (setRow_other h.bf.1).trans h.b
  f := setRow_same h.f
  c := (setRow_other (Ne.symm h.bf.2.2)).trans h.c
  sb := h.sb
  bf := h.bf
theorem Ch.cellS (h : Ch w sb bb fb cb N p S B F) {k j : Nat} (hk : k < N) (hj : j < 3) : w.cell? ⟨sb, k * 3 + j, none⟩ = some ((S k).c j) := by
  rw [cell_of_row w sb _ _ _ _ h.s]; exact kArr_get S hk hj
theorem Ch.cellB (h : Ch w sb bb fb cb N p S B F) {k j : Nat} (hk : k < N) (hj : j < 3) : w.cell? ⟨bb, k * 3 + j, none⟩ = some ((B k).c j) := by
  rw [cell_of_row w bb _ _ _ _ h.b]; exact kArr_get B hk hj
theorem Ch.cellF (h : Ch w sb bb fb cb N p S B F) {k j : Nat} (hk : k < N) (hj : j < 3) : w.cell? ⟨fb, k * 3 + j, none⟩ = some ((F k).c j) := by
  rw [cell_of_row w fb _ _ _ _ h.f]; exact kArr_get F hk hj
theorem Ch.lb (h : Ch w sb bb fb cb N p S B F) : w.cell? ⟨cb, 117, none⟩ = some (.slice (some ⟨bb, 0, none⟩) N N) := by
  rw [cell_of_row w cb _ _ _ _ h.c, Array.getElem?_append_right (by rw [ia_size]; omega), ia_size]; rfl
theorem Ch.lf (h : Ch w sb bb fb cb N p S B F) : w.cell? ⟨cb, 118, none⟩ = some (.slice (some ⟨fb, 0, none⟩) N N) := by
  rw [cell_of_row w cb _ _ _ _ h.c, Array.getElem?_append_right (by rw [ia_size]; omega), ia_size]; rfl
theorem Ch.lp (h : Ch w sb bb fb cb N p S B F) {j : Nat} (hj : j < 117) : w.cell? ⟨cb, j, none⟩ = some (I (p j)) := by
  rw [cell_of_row w cb _ _ _ _ h.c, Array.getElem?_append_left (by rw [ia_size]; omega), ia_get hj]
theorem Ch.chart (h : Ch w sb bb fb cb N p S B F) {B' F' : Nat → Kn} (hB : ∀ k, k < N → B k = B' k) (hF : ∀ k, k < N → F k = F' k) : Chart w cb bb fb p N B' F' where
  c := fun j hj => h.lp hj
  cs := h.lb
  cf := h.lf
  b := fun k hk j hj => by rw [← hB k hk]; exact h.cellB hk hj
  f := fun k hk j hj => by rw [← hF k hk]; exact h.cellF hk hj
end
/-- What is drawn after k rounds, upwards. -/
def upto (f : Nat → Kn) (k t : Nat) : Kn := if t < k then f t else kn0
theorem upto_zero (f : Nat → Kn) : upto f 0 = fun _ => kn0 := by funext t; simp [upto]
theorem upto_upd (f : Nat → Kn) (k : Nat) : updK (upto f k) k (f k) = upto f (k + 1) := by
  funext t
  unfold updK upto
  by_cases h : t = k
  · subst h; rw [if_pos rfl, if_pos (by omega)]
  · rw [if_neg h]
    by_cases h2 : t < k
    · rw [if_pos h2, if_pos (by omega)]
    · rw [if_neg h2, if_neg (by omega)]
theorem upd_upd (f : Nat → Kn) (k : Nat) (a b : Kn) : updK (updK f k a) k b = updK f k b := by
  funext t
  unfold updK
  split <;> rfl
/-- What is drawn from second k on. -/
def from' (f : Nat → Kn) (k t : Nat) : Kn := if k ≤ t then f t else kn0
theorem from_upd (f : Nat → Kn) (k : Nat) : updK (from' f (k + 1)) k (f k) = from' f k := by
  funext t
  unfold updK from'
  by_cases h : t = k
  · subst h; rw [if_pos rfl, if_pos (by omega)]
  · rw [if_neg h]
    by_cases h2 : k + 1 ≤ t
    · rw [if_pos h2, if_pos (by omega)]
    · rw [if_neg h2, if_neg (by omega)]
theorem kArr_congr {f g : Nat → Kn} {n : Nat} (h : ∀ k, k < n → f k = g k) : kArr f n = kArr g n := by
  unfold kArr
  rw [flat_congr (g := rK f) (g' := rK g) fun k hk j _ => by show (f k).c j = (g k).c j; rw [h k hk]]
theorem Ch.congrF {w : World} {sb bb fb cb N : Nat} {p : Vec} {S B F F' : Nat → Kn} (h : Ch w sb bb fb cb N p S B F) (he : ∀ k, k < N → F k = F' k) : Ch w sb bb fb cb N p S B F' where
  s := h.s
  b := h.b
  f := by rw [← kArr_congr he]; exact h.f
  c := h.c
  sb := h.sb
  bf := h.bf
theorem frmF_last (p : Vec) (R : Run) : frmF p R R.e.toNat = seenF R R.e.toNat := by unfold frmF; rw [Nat.sub_self]; rfl
theorem frmF_succ (p : Vec) (R : Run) {i : Nat} (h : i < R.e.toNat) : frmF p R i = meetK (seenF R i) (laterK (frmF p R (i + 1)) (p 111) (p 110)) := by
  unfold frmF
  obtain ⟨d, hd⟩ : ∃ d, R.e.toNat - i = d + 1 := ⟨R.e.toNat - i - 1, by omega⟩
  rw [hd, show R.e.toNat - (i + 1) = d by omega]
  show meetK (seenF R (R.e.toNat - (d + 1))) _ = _
  rw [show R.e.toNat - (d + 1) = i by omega]
end Go.Proofs.Ytlebefopdnadaaa
