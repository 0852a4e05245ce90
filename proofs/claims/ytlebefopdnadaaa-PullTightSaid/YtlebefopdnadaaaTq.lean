/- What the statement on the true course asks in a round, in plain numbers; three blocks that a call boxes. -/
import Derived.Test.YtlebefopdnadaaaSn
import Derived.Test.YtlebefopdnadaaaRl
namespace Go.Proofs.Ytlebefopdnadaaa
open Go.RowKit
theorem tellE_ok {p : Vec} {R : Run} (h1 : okPuller p = true) (h2 : okRun R = true) (h3 : conf p R = none) (h4 : 0 < R.ms.length) {t last : Int} (ht : 0 ≤ t ∧ t ≤ last) : tellE p R t last = 0 := by
  unfold tellE
  rw [h1, h2, if_pos (show (true && true) = true from rfl), if_neg (by omega), if_neg (by omega), h3]
  rfl
theorem tellR_ok {p : Vec} {R : Run} {t last : Int} (h : tellE p R t last = 0) (k : Kn) : tellR p R t last k = ⟨k.lo, k.hi⟩ := if_pos h
theorem chE_ok {p : Vec} {R : Run} (h1 : okPuller p = true) (h2 : okRun R = true) (h3 : conf p R = none) : chE p R = 0 := by
  unfold chE
  rw [h1, h2, if_pos (show (true && true) = true from rfl), h3]
  rfl
theorem trueC_of {p : Vec} {x : Cry} {R : Run} (hp : VPul p) (hf : 0 ≤ x.f ∧ x.f ≤ 65535) (h : TrueS p x R.e R.ms) : TrueC p R (crs p x) where
  up t := (crs_step hf hp.grow.1 hp.shrink.1 t).2
  dn t := (crs_step hf hp.grow.1 hp.shrink.1 t).1
  sm k hk := by
    obtain ⟨t, ht, _, h1, h2⟩ := h k hk
    rw [ht]
    exact ⟨h1, h2⟩
theorem at_some {p : Vec} {R : Run} (hv : VRun R) (hn : 0 < R.ms.length) {t : Nat} (ht : (t : Int) ≤ R.e) : (atK p R t).some = true := by
  unfold atK
  rw [meetK_some, bef_all hv, frmF_all hv p ht]
  exact sd_some hn (by omega)
theorem at_bd {p : Vec} {R : Run} (hv : VRun R) (hp : VPul p) {t : Nat} (ht : t ≤ 200) : (-100000000000000 ≤ (atK p R t).lo ∧ (atK p R t).lo ≤ 100000000000000) ∧ (-100000000000000 ≤ (atK p R t).hi ∧ (atK p R t).hi ≤ 100000000000000) :=
  knIn_meet (bd_bef hv hp (by omega)) (bd_frm hv hp t)
theorem good_nums {p : Vec} {R : Run} (hv : VRun R) (hp : VPul p) (hn : 0 < R.ms.length) {t : Nat} (ht : (t : Int) + 1 ≤ R.e) : goodB p R t = (decide (p 112 ≤ (fromK p R t).lo) && decide ((fromK p R t).hi ≤ p 113)) := by
  rw [goodB_eq hv hp ht, decide_eq_true hn, Bool.true_and]
/-- No second is accepted: there are no runs. -/
theorem runs_none {f : Nat → Bool} {n : Nat} (h : ∀ t, t < n → f t = false) : runsF f n = [] := by
  have hr := runsL f n
  show (rnK f n).1 = []
  rcases hl : (rnK f n).1 with _ | ⟨r, l⟩
  · rfl
  · have hb := hr.bd 0 (by rw [hl]; simp)
    have ha := hr.has (at0 (rnK f n).1 0).lo.toNat
    have h1 : (rnK f n).1.any (haB (((at0 (rnK f n).1 0).lo.toNat : Nat) : Int)) = true := by
      refine List.any_eq_true.2 ⟨at0 (rnK f n).1 0, at0_in (by rw [hl]; simp), ?_⟩
      unfold haB
      simp
      omega
    rw [h1, h _ (by omega)] at ha
    simp at ha
theorem run_lim {p : Vec} {R : Run} {c : Nat → Int} {N : Nat} {rs : List Rng} {o : Bool} (hv : VRun R) (hp : VPul p) (htc : TrueC p R c) (hn : 0 < R.ms.length) (hN : R.e = N) (hr : RunsL (goodB p R) N rs o) {j : Nat} (hj : j < rs.length)
    {q : Nat} (h1 : (at0 rs j).lo ≤ q) (h2 : (q : Int) ≤ (at0 rs j).hi + 1) : p 112 ≤ c q ∧ c q ≤ p 113 := by
  have hb := hr.bd j hj
  have key : ∀ t : Nat, (at0 rs j).lo ≤ t → (t : Int) ≤ (at0 rs j).hi → (p 112 ≤ c t ∧ c t ≤ p 113) ∧ (p 112 ≤ c (t + 1) ∧ c (t + 1) ≤ p 113) := fun t a1 a2 => by
    have ht : t < N := by omega
    have hany : rs.any (haB t) = true := List.any_eq_true.2 ⟨at0 rs j, at0_in hj, by unfold haB; simp; omega⟩
    have hh := hr.has t
    rw [hany, decide_eq_true ht, Bool.true_and] at hh
    have hg := good_nums hv hp hn (t := t) (by omega)
    rw [← hh] at hg
    have hg := hg.symm
    rw [Bool.and_eq_true, decide_eq_true_eq, decide_eq_true_eq] at hg
    obtain ⟨f1, f2⟩ := inK_from htc hp.grow.1 hp.shrink.1 (t := t) (by rw [hN]; show t + 1 ≤ N; omega)
    have hs : (fromK p R t).some = true := by rw [from_some hv p (by omega), decide_eq_true hn]
    have f1 := f1 hs
    have f2 := f2 hs
    omega
  rcases Int.lt_or_le (at0 rs j).hi q with h | h
  · obtain ⟨t, rfl⟩ : ∃ t, q = t + 1 := ⟨q - 1, by omega⟩
    exact (key t (by omega) (by omega)).2
  · exact (key q h1 h).1
theorem has_yes (a b t : Int) (w : World) (h1 : a ≤ t) (h2 : t ≤ b) : Calls Try.prog 39 #[.agg #[I a, I b], I t] w fun e w' => e = .returned (.bool true) ∧ Below w.heap.size w w' := by
  have := has_any ⟨a, b⟩ t w
  rw [show haB t ⟨a, b⟩ = true by unfold haB; simp; omega] at this
  exact this
/-- Three blocks that a call boxes. -/
structure TriW (w W : World) (p : Vec) (rrow crow : Array Value) (ct : TypeId) : Prop where
  le : Below w.heap.size w W
  sz : w.heap.size + 3 ≤ W.heap.size
  pu : W.heap[w.heap.size]? = some (.cells (ia 117 p) 30 (0, 0))
  rn : W.heap[w.heap.size + 1]? = some (.cells rrow 35 (0, 0))
  cr : W.heap[w.heap.size + 2]? = some (.cells crow ct (0, 0))
variable {w W W' : World} {p : Vec} {rrow crow : Array Value} {ct : TypeId}
theorem TriW.next (h : TriW w W p rrow crow ct) (hl : Le W W') : TriW w W' p rrow crow ct where
  le := h.le.trans (Below.mono hl (by have := h.sz; omega))
  sz := by have := hl.size; have := h.sz; omega
  pu := (hl.block _ (by have := h.sz; omega)).trans h.pu
  rn := (hl.block _ (by have := h.sz; omega)).trans h.rn
  cr := (hl.block _ (by have := h.sz; omega)).trans h.cr
theorem TriW.setRun (h : TriW w W p rrow crow ct) (row : Array Value) : TriW w (W.setRow (w.heap.size + 1) row) p row crow ct where
  le := below_setRow h.le (by omega) _
  sz := by rw [setRow_size]; exact h.sz
  pu := by rw [setRow_other (by omega)]; exact h.pu
  rn := setRow_same h.rn
  cr := by rw [setRow_other (by omega)]; exact h.cr
theorem TriW.pcell (h : TriW w W p rrow crow ct) {j : Nat} (hj : j < 117) : W.cell? ⟨w.heap.size, 0 + j, none⟩ = some (I (p j)) := by
  rw [Nat.zero_add, cell_of_row _ _ _ _ _ _ h.pu]; exact ia_get hj
theorem TriW.rcells {A1 A2 A3 : Option Addr} {c1 c2 c3 : Nat} {R : Run} (h : TriW w W p (rnArr A1 A2 A3 c1 c2 c3 R) crow ct) :
    W.cell? ⟨w.heap.size + 1, 0, none⟩ = some (.slice A1 R.ss.length c1) ∧ W.cell? ⟨w.heap.size + 1, 1, none⟩ = some (I R.e) ∧ W.cell? ⟨w.heap.size + 1, 2, none⟩ = some (.slice A2 R.ms.length c2) ∧ W.cell? ⟨w.heap.size + 1, 3, none⟩ = some (.slice A3 R.es.length c3) :=
  ⟨by rw [cell_of_row _ _ _ _ _ _ h.rn]; rfl, by rw [cell_of_row _ _ _ _ _ _ h.rn]; rfl, by rw [cell_of_row _ _ _ _ _ _ h.rn]; rfl, by rw [cell_of_row _ _ _ _ _ _ h.rn]; rfl⟩
theorem TriW.ccell (h : TriW w W p rrow crow ct) {j : Nat} {v : Value} (hj : crow[j]? = some v) : W.cell? ⟨w.heap.size + 2, j, none⟩ = some v := by
  rw [cell_of_row _ _ _ _ _ _ h.cr]; exact hj
theorem tri_mk (w : World) (p : Vec) (rrow crow : Array Value) (ct : TypeId) : TriW w (((w.alloc (.cells (ia 117 p) 30)).alloc (.cells rrow 35)).alloc (.cells crow ct)) p rrow crow ct where
  le := (((Below.refl _ _).alloc (Nat.le_refl _) _).alloc (by simp) _).alloc (by simp; omega) _
  sz := by simp
  pu := heap_before (heap_before (heap_last _ _ _ rfl))
  rn := heap_before (heap_last _ _ _ (by simp))
  cr := heap_last _ _ _ (by simp)
end Go.Proofs.Ytlebefopdnadaaa
