/- What Print answers, read; stretches: the plain law of DefectSlices, further. -/
import Derived.Test.YteibgenkklpoaaaDow
import Derived.Test.YteibgenkklpoaaaDp3
import Derived.Test.YteibgenkklpoaaaDu2
import Derived.Test.YteibgenkklpoaaaDs1
import Derived.Test.YteibgenkklpoaaaWh2
namespace Go.Proofs.Yteibgenkklpoaaa.Un
open Go.RowKit
theorem map_flat1 (S : Nat → Value) : ∀ n, (List.range n).map S = flat 1 (fun i _ => S i) n
  | 0 => rfl
  | n + 1 => by
    rw [List.range_succ, List.map_append, flat_succ 1 (by omega), map_flat1 S n]
    rfl
theorem rd_one {w : World} {B b o n k : Nat} {f : Nat → Nat → Value} (h : Rd w B 1 (some ⟨b, o, none⟩) n f) (hk : k < n) : w.cell? ⟨b, o + k, none⟩ = some (f k 0) := by
  obtain ⟨b', o', e, _, hc⟩ := h (by omega)
  injection e with e
  injection e with e1 e2
  subst e1 e2
  have h9 := hc k hk 0 (by omega)
  rw [show o + k * 1 + 0 = o + k by omega] at h9
  exact h9
/-- One slice of sets, read. -/
def OnU (m : Mdl) (g : Gro) (x : Rng) (A : Option Addr) (w : World) : Prop := ∃ b o b' c', A = some ⟨b, o, none⟩ ∧ w.cell? ⟨b, o, none⟩ = some (.slice (some ⟨b', 0, none⟩) g.z.length c') ∧ b < w.heap.size ∧ Rd w w.heap.size 1 (some ⟨b', 0, none⟩) g.z.length (rU8 (slL m g x))
theorem OnU.below {m : Mdl} {g : Gro} {x : Rng} {A : Option Addr} {w w' : World} (h : OnU m g x A w) (hb : Below w.heap.size w w') : OnU m g x A w' := by
  obtain ⟨b, o, b', c', h1, h2, h3, h4⟩ := h
  exact ⟨b, o, b', c', h1, (hb.cell h3).trans h2, Nat.lt_of_lt_of_le h3 hb.size, (h4.below hb).more hb.size⟩
/-- The answer of Print for two cuts that are in order. -/
def PrO (m : Mdl) (g : Gro) (x : Rng) (V : Value) (w : World) : Prop := ∃ A c, V = .tuple #[.slice A 1 c, I 0] ∧ OnU m g x A w
theorem pr_two {m : Mdl} {g : Gro} (h1 : okMdl m = true) (h2 : okGro g = true) {x y : Int} (h3 : (at0 g.r 0).lo ≤ x) (h4 : x < y) (h5 : y ≤ lastX g.r) : prE m g [x, y] = 0 := by
  unfold prE ctE
  rw [h1, h2, if_pos (show (true && true) = true from rfl), if_neg (show ¬ 500 < [x, y].length by simp), if_neg]
  rw [Bool.not_eq_true, List.any_eq_false]
  intro k hk
  have hk := List.mem_range.1 hk
  unfold ctB
  rcases k with _ | _ | k
  · rw [show at0 [x, y] 0 = x from rfl, decide_eq_false (by omega), decide_eq_false (by omega)]
    simp
  · rw [show at0 [x, y] (0 + 1) = y from rfl, show at0 [x, y] (0 + 1 - 1) = x from rfl, decide_eq_false (by omega), decide_eq_false (by omega), decide_eq_false (show ¬ y ≤ x by omega)]
    simp
  · simp at hk
    omega
theorem pr_growO {P : Program} {f : FuncId} {args : Array Value} {w : World} {m : Mdl} {g : Gro} {x y : Int} (h0 : prE m g [x, y] = 0) (h : Calls P f args w (RetPr m g [x, y] w)) : Calls P f args w fun e w' => ∃ V, e = .returned V ∧ Le w w' ∧ Box (PrO m g ⟨x, y⟩) V w' :=
  h.mono fun _ w' ⟨V, bs, n, he, h1, _, hs, hb⟩ => by
    have hn : n = 1 := h1 h0
    subst hn
    have ho := hs.own
    rw [map_flat1] at ho
    obtain ⟨A, c, rfl, _, _, hr⟩ := Rd.of_own_max ho
    have h9 := sl_rd (hs.row 0 (by omega))
    rw [show (slL m g (cutR [x, y] 0)).length = g.z.length by simp [slL]] at h9
    obtain ⟨b, o, hA, hlt, _⟩ := hr (by omega)
    subst hA
    have hc := rd_one hr (k := 0) (by omega)
    rw [Nat.add_zero] at hc
    have hL : OnU m g ⟨x, y⟩ (some ⟨b, o, none⟩) w' := ⟨b, o, bs 0, g.z.length, rfl, hc, hlt, h9⟩
    rw [h0] at he
    exact ⟨_, he, hb, fun _ hl => ⟨_, c, rfl, hL.below hl⟩⟩
theorem PrO.same {m : Mdl} {g : Gro} {x : Rng} {A : Option Addr} {n c : Nat} {e : Int} {w : World} (h : PrO m g x (.tuple #[.slice A n c, I e]) w) : OnU m g x A w := by
  obtain ⟨A', c', he, hr⟩ := h
  injection he with he
  simp at he
  obtain ⟨⟨rfl, _, _⟩, _⟩ := he
  exact hr
/-- A new list of two integers. -/
def LsI (x y : Int) (u : Value) (w : World) : Prop := ∃ b, u = .slice (some ⟨b, 0, none⟩) 2 2 ∧ w.heap[b]? = some (.cells #[I x, I y] 3 (0, 0))
theorem lsi_grow {w : World} {x y : Int} : Le w (w.alloc (.cells #[I x, I y] 3)) ∧ Box (LsI x y) (.slice (some ⟨w.heap.size, 0, none⟩) 2 2) (w.alloc (.cells #[I x, I y] 3)) :=
  ⟨(Below.refl _ _).alloc (Nat.le_refl _) _, fun _ h2 => ⟨_, rfl, (h2.block _ (by simp)).trans (heap_alloc_new w _)⟩⟩
theorem LsI.at {w : World} {x y : Int} {b : Nat} (h : LsI x y (.slice (some ⟨b, 0, none⟩) 2 2) w) : Rd w w.heap.size 1 (some ⟨b, 0, none⟩) [x, y].length (rI [x, y]) := by
  obtain ⟨b', e, h1⟩ := h
  have : b = b' := by injection e with e1; injection e1 with e2; injection e2
  subst this
  exact rd_rowI h1 rfl
def usM (g : Gro) : Nat := (lastX g.r - (at0 g.r 0).lo).toNat
theorem us_fin (m : Mdl) (g : Gro) (v : Int) (h0 : 0 ≤ (at0 g.r 0).lo) (h1 : (at0 g.r 0).lo < lastX g.r) : usF m g v = usR (fineG m g v) (at0 g.r 0).lo (usM g) := by
  unfold usF
  rw [show usN g = usM g + 1 from rfl]
  have hl : (at0 g.r 0).lo + (usM g : Int) = lastX g.r := by unfold usM; omega
  have hf : fineG m g v ((at0 g.r 0).lo + (usM g : Int)) = false := by
    unfold fineG
    rw [hl, decide_eq_false (by omega)]
    rfl
  rcases us_rel (fineG m g v) h0 (usM g) with ⟨h2, h3, _⟩ | ⟨h2, _, h3, _⟩
  · unfold usP
    rw [hf, if_neg (by decide), if_pos h2, h3]
  · unfold usP
    rw [hf, if_neg (by decide), if_neg (by omega), h3]
def gdAll (v : Int) (l : List Int) (j : Nat) : Bool := (l.take j).all fun y => !badS v y
theorem gdAll_succ (v : Int) (l : List Int) {j : Nat} (hj : j < l.length) : gdAll v l (j + 1) = (gdAll v l j && !badS v (at0 l j)) := by
  unfold gdAll
  rw [List.take_add_one, List.getElem?_eq_getElem hj, at0_get hj, List.all_append]
  simp
theorem gdAll_end (v : Int) (l : List Int) : gdAll v l l.length = !(l.any (badS v)) := by
  unfold gdAll
  rw [List.take_length, List.not_any_eq_all_not]
/-- Whether a place lies in one of the first stretches. -/
def inB (l : List Rng) (x : Int) (k : Nat) : Bool := (l.take k).any fun r => decide (r.lo ≤ x) && decide (x < r.hi)
theorem inB_succ (l : List Rng) (x : Int) {k : Nat} (hk : k < l.length) : inB l x (k + 1) = (inB l x k || (decide ((at0 l k).lo ≤ x) && decide (x < (at0 l k).hi))) := by
  unfold inB
  rw [List.take_add_one, List.getElem?_eq_getElem hk, at0_get hk, List.any_append]
  simp
/-- What holds of the stretches. -/
structure UsOk (fine : Int → Bool) (first : Int) (N : Nat) (l : List Rng) : Prop where
  bd : ∀ i, i < l.length → first ≤ (at0 l i).lo ∧ (at0 l i).lo < (at0 l i).hi ∧ (at0 l i).hi ≤ first + N
  asc : ∀ i, i + 1 < l.length → (at0 l i).hi < (at0 l (i + 1)).lo
  inn : ∀ x, first ≤ x → x < first + N → inB l x l.length = fine x
theorem us_ok (fine : Int → Bool) {first : Int} (h0 : 0 ≤ first) (N : Nat) : UsOk fine first N (usR fine first N) := by
  have hw := us_win fine h0 N
  generalize usR fine first N = l at hw ⊢
  have hat : ∀ i, i < l.length → at0 (l.map shr) i = shr (at0 l i) := fun i hi => by
    rw [at0_get (by simpa using hi), List.getElem_map, at0_get hi]
  have hb : ∀ i, i < l.length → first ≤ (at0 l i).lo ∧ (at0 l i).lo < (at0 l i).hi ∧ (at0 l i).hi ≤ first + N := fun i hi => by
    have hm : shr (at0 l i) ∈ l.map shr := List.mem_map.2 ⟨at0 l i, by rw [at0_get hi]; exact List.getElem_mem hi, rfl⟩
    have h1 := hw.runs.lo _ hm
    have h2 := hw.hi _ hm
    unfold shr at h1 h2
    simp only at h1 h2
    have h3 := (hw.same (at0 l i).lo h1.1 (by omega)).1 ⟨_, hm, Int.le_refl _, h1.2⟩
    have h4 := Classical.not_not.1 h3
    omega
  refine ⟨hb, fun i hi => ?_, fun x h1 h2 => ?_⟩
  · have h3 := runs_at hw.runs i (by simpa using hi)
    rw [hat i (by omega), hat (i + 1) hi] at h3
    unfold shr at h3
    simp only at h3
    omega
  · have h3 := hw.same x (by omega) h2
    rw [Bool.eq_iff_iff]
    have h4 : inB l x l.length = true ↔ inL (l.map shr) x := by
      unfold inB inL inR
      rw [List.take_length]
      simp only [List.any_eq_true, Bool.and_eq_true, decide_eq_true_eq, List.mem_map]
      constructor
      · rintro ⟨r, hr, h5, h6⟩
        exact ⟨shr r, ⟨r, hr, rfl⟩, h5, by show x ≤ r.hi - 1; omega⟩
      · rintro ⟨_, ⟨r, hr, rfl⟩, h5, h6⟩
        have h7 : x ≤ r.hi - 1 := h6
        exact ⟨r, hr, h5, by omega⟩
    rw [h4, h3]
    constructor
    · intro h; exact (Classical.not_not.1 h).2
    · intro h h'; exact h' ⟨h1, h⟩
end Go.Proofs.Yteibgenkklpoaaa.Un
