/- The plain law of UnitsBalanced. -/
import Derived.Test.YtmadlmmfbpmebaaJd
import Derived.Test.YtmadlmmfbpmebaaJx
namespace Go.Proofs.Ytmadlmmfbpmebaa
open Go.RowKit
/-- A sum of k numbers. -/
def fs (f : Nat → Int) : Nat → Int
  | 0 => 0 | k + 1 => fs f k + f k
theorem fs_congr {f g : Nat → Int} : ∀ k, (∀ j, j < k → f j = g j) → fs f k = fs g k
  | 0, _ => rfl
  | k + 1, h => by simp only [fs]; rw [fs_congr k (fun j hj => h j (by omega)), h k (by omega)]
theorem fs_le {f g : Nat → Int} : ∀ k, (∀ j, j < k → f j ≤ g j) → fs f k ≤ fs g k
  | 0, _ => Int.le_refl _
  | k + 1, h => by have := fs_le k (fun j hj => h j (by omega)); have := h k (by omega); simp only [fs]; omega
theorem fs_skip {f : Nat → Int} {i : Nat} : ∀ k, fs (fun j => if j = i then 0 else f j) k = if i < k then fs f k - f i else fs f k
  | 0 => by simp [fs]
  | k + 1 => by
    simp only [fs]
    rw [fs_skip k]
    rcases Nat.lt_trichotomy i k with h | h | h
    · rw [if_pos h, if_neg (by omega), if_pos (by omega)]; omega
    · subst h; rw [if_neg (by omega), if_pos rfl, if_pos (by omega)]; omega
    · rw [if_neg (by omega), if_neg (by omega), if_neg (by omega)]
/-- The sum but for one. -/
theorem fs_but {f g : Nat → Int} {k i : Nat} (hi : i < k) (h : ∀ j, j < k → f j ≤ g j) : fs f k - f i ≤ fs g k - g i := by
  have h1 := fs_le (f := fun j => if j = i then 0 else f j) (g := fun j => if j = i then 0 else g j) k (fun j hj => by
    show (if j = i then (0 : Int) else f j) ≤ if j = i then 0 else g j
    split
    · exact Int.le_refl _
    · exact h j hj)
  rw [fs_skip, fs_skip, if_pos hi, if_pos hi] at h1
  exact h1
theorem fs_min {f : Nat → Int} {d : Int} (hd : 0 ≤ d) : ∀ k, (∀ j, j < k → 0 ≤ f j) → min (fs f k) d ≤ fs (fun j => min (f j) d) k
  | 0, _ => by simp only [fs]; omega
  | k + 1, h => by
    have h1 := fs_min hd k (fun j hj => h j (by omega))
    have h2 := h k (by omega)
    have h3 : 0 ≤ fs f k := by
      have := fs_le (f := fun _ => 0) (g := f) k (fun j hj => h j (by omega))
      have e : fs (fun _ => 0) k = 0 := by
        clear h1 this h h2
        induction k with
        | zero => rfl
        | succ k ih => simp only [fs]; rw [ih]; rfl
      omega
    simp only [fs]
    omega
theorem fs_min_but {f : Nat → Int} {d : Int} (hd : 0 ≤ d) {k i : Nat} (hi : i < k) (h : ∀ j, j < k → 0 ≤ f j) : min (fs f k - f i) d ≤ fs (fun j => min (f j) d) k - min (f i) d := by
  have h1 := fs_min (f := fun j => if j = i then 0 else f j) hd k (fun j hj => by
    show 0 ≤ if j = i then (0 : Int) else f j
    split
    · exact Int.le_refl _
    · exact h j hj)
  have h2 : fs (fun j => min (if j = i then 0 else f j) d) k = fs (fun j => if j = i then 0 else min (f j) d) k := fs_congr k (fun j _ => by
    show min (if j = i then 0 else f j) d = if j = i then 0 else min (f j) d
    split <;> omega)
  rw [h2, fs_skip, fs_skip, if_pos hi, if_pos hi] at h1
  exact h1
theorem fs_sub {f g : Nat → Int} : ∀ k, fs (fun j => f j - g j) k = fs f k - fs g k
  | 0 => rfl
  | k + 1 => by simp only [fs]; rw [fs_sub k]; omega
theorem fs_add {f g : Nat → Int} : ∀ k, fs (fun j => f j + g j) k = fs f k + fs g k
  | 0 => rfl
  | k + 1 => by simp only [fs]; rw [fs_add k]; omega
theorem addK_fs (xs : List Rng) : ∀ k, addK xs k = (fs (fun j => (at0 xs j).lo) k, fs (fun j => (at0 xs j).hi) k)
  | 0 => rfl
  | k + 1 => by simp only [addK, fs]; rw [addK_fs xs k]
/-- What the law has shown before it asks for the balance. -/
structure BaIn (xs : List Rng) (tr : Nat → Int) (S : Rng) : Prop where
  make ::
  len : xs.length ≤ 12
  ok : ∀ j, j < xs.length → (at0 xs j).lo ≤ (at0 xs j).hi ∧ -1000000000000 ≤ (at0 xs j).lo ∧ (at0 xs j).hi ≤ 1000000000000
  tin : ∀ j, j < xs.length → (at0 xs j).lo ≤ tr j ∧ tr j ≤ (at0 xs j).hi
  s0 : S.lo ≤ fs tr xs.length ∧ fs tr xs.length - 4294967295 ≤ S.lo
  s1 : fs tr xs.length ≤ S.hi ∧ S.hi ≤ fs tr xs.length + 4294967295
theorem fs_const {c : Int} : ∀ k : Nat, fs (fun _ => c) k = c * k
  | 0 => by simp [fs]
  | k + 1 => by simp only [fs]; rw [fs_const k, show ((k + 1 : Nat) : Int) = (k : Int) + 1 by omega, Int.mul_add, Int.mul_one]
section
variable {xs : List Rng} {tr : Nat → Int} {S : Rng} (h : BaIn xs tr S)
include h
theorem BaIn.bd : ∀ k, k ≤ xs.length → -12000000000000 ≤ fs tr k ∧ fs tr k ≤ 12000000000000 := fun k hk => by
  have h1 := fs_le (f := fun _ => -1000000000000) (g := tr) k (fun j hj => by have := h.tin j (by omega); have := h.ok j (by omega); show -1000000000000 ≤ tr j; omega)
  have h2 := fs_le (f := tr) (g := fun _ => 1000000000000) k (fun j hj => by have := h.tin j (by omega); have := h.ok j (by omega); show tr j ≤ 1000000000000; omega)
  rw [fs_const] at h1 h2
  have := h.len
  omega
theorem BaIn.lh : ∀ k, k ≤ xs.length → -12000000000000 ≤ (addK xs k).1 ∧ (addK xs k).1 ≤ fs tr k ∧ fs tr k ≤ (addK xs k).2 ∧ (addK xs k).2 ≤ 12000000000000 := fun k hk => by
  rw [addK_fs]
  have h1 := fs_le (f := fun _ => -1000000000000) (g := fun j => (at0 xs j).lo) k (fun j hj => (h.ok j (by omega)).2.1)
  have h2 := fs_le (f := fun j => (at0 xs j).hi) (g := fun _ => 1000000000000) k (fun j hj => (h.ok j (by omega)).2.2)
  have h3 := fs_le (f := fun j => (at0 xs j).lo) (g := tr) k (fun j hj => (h.tin j (by omega)).1)
  have h4 := fs_le (f := tr) (g := fun j => (at0 xs j).hi) k (fun j hj => (h.tin j (by omega)).2)
  rw [fs_const] at h1 h2
  have := h.len
  simp only
  omega
omit h in
/-- The cut sum. -/
theorem BaIn.cut : ∃ c, cuF ⟨(addK xs xs.length).1, (addK xs xs.length).2⟩ S = c ∧ c.lo = max (addK xs xs.length).1 S.lo ∧ c.hi = min (addK xs xs.length).2 S.hi := ⟨_, rfl, rfl, rfl⟩
theorem BaIn.chk : chk xs = 0 := by
  unfold Go.Proofs.Ytmadlmmfbpmebaa.chk
  have := h.len
  rw [if_neg (by omega), if_pos]
  unfold rngsOk
  rw [Bool.not_eq_true', List.any_eq_false]
  intro r hr
  obtain ⟨j, hj, rfl⟩ := at0_mem hr
  have := h.ok j hj
  have : rngOk (at0 xs j) = true := rngOk_iff.2 (by omega)
  unfold badR
  rw [this]
  decide
theorem BaIn.first {c : Rng} (hc : cuF ⟨(addK xs xs.length).1, (addK xs xs.length).2⟩ S = c) : baF xs S = (mk (naF (addK xs xs.length).1 (addK xs xs.length).2 c) xs xs.length, c, 0) := by
  have h1 := h.bd xs.length (Nat.le_refl _)
  have h2 := h.lh xs.length (Nat.le_refl _)
  have h3 := h.s0
  have h4 := h.s1
  unfold baF
  rw [if_pos h.chk, if_pos (rngOk_iff.2 (by omega)), hc, if_neg (by rw [← hc]; unfold cuF; simp only; omega)]
/-- The k-th range that is left. -/
def leF2 (xs : List Rng) (c : Rng) (k : Nat) : Rng := naF (addK xs xs.length).1 (addK xs xs.length).2 c (at0 xs k)
theorem BaIn.part {k : Nat} (hk : k < xs.length) : fs tr xs.length - tr k ≤ (addK xs xs.length).2 - (at0 xs k).hi ∧ (addK xs xs.length).1 - (at0 xs k).lo ≤ fs tr xs.length - tr k := by
  rw [addK_fs]
  exact ⟨fs_but (f := tr) (g := fun j => (at0 xs j).hi) hk (fun j hj => (h.tin j hj).2), fs_but (f := fun j => (at0 xs j).lo) (g := tr) hk (fun j hj => (h.tin j hj).1)⟩
/-- What the law asks of the k-th range. -/
theorem BaIn.one {c : Rng} (hc : cuF ⟨(addK xs xs.length).1, (addK xs xs.length).2⟩ S = c) {k : Nat} (hk : k < xs.length) :
    ((at0 xs k).lo ≤ (leF2 xs c k).lo ∧ (leF2 xs c k).hi ≤ (at0 xs k).hi ∧ (leF2 xs c k).lo ≤ (leF2 xs c k).hi) ∧ ((leF2 xs c k).lo ≤ tr k ∧ tr k ≤ (leF2 xs c k).hi) ∧
    (S.lo ≤ (leF2 xs c k).lo + ((addK xs xs.length).2 - (at0 xs k).hi) ∧ (leF2 xs c k).lo + ((addK xs xs.length).1 - (at0 xs k).lo) ≤ S.hi ∧ (leF2 xs c k).hi + ((addK xs xs.length).1 - (at0 xs k).lo) ≤ S.hi ∧ S.lo ≤ (leF2 xs c k).hi + ((addK xs xs.length).2 - (at0 xs k).hi)) ∧
    ((at0 xs k).lo < (leF2 xs c k).lo → (leF2 xs c k).lo - 1 + ((addK xs xs.length).2 - (at0 xs k).hi) < S.lo) ∧ ((leF2 xs c k).hi < (at0 xs k).hi → S.hi < (leF2 xs c k).hi + 1 + ((addK xs xs.length).1 - (at0 xs k).lo)) := by
  have h1 := h.part hk
  have h2 := h.lh xs.length (Nat.le_refl _)
  have h3 := h.s0
  have h4 := h.s1
  have h5 := h.tin k hk
  have h6 := h.ok k hk
  obtain ⟨c', hc', e1, e2⟩ := BaIn.cut (xs := xs) (S := S)
  rw [hc] at hc'
  subst hc'
  unfold leF2 naF cuF
  simp only
  rw [e1, e2]
  omega
theorem BaIn.again {c : Rng} (hc : cuF ⟨(addK xs xs.length).1, (addK xs xs.length).2⟩ S = c) : baF (mk (naF (addK xs xs.length).1 (addK xs xs.length).2 c) xs xs.length) c = (mk (naF (addK xs xs.length).1 (addK xs xs.length).2 c) xs xs.length, c, 0) := by
  obtain ⟨ys, hys⟩ : ∃ ys, mk (naF (addK xs xs.length).1 (addK xs xs.length).2 c) xs xs.length = ys := ⟨_, rfl⟩
  have hyl : ys.length = xs.length := by rw [← hys, mk_len]
  have hya : ∀ j, j < xs.length → at0 ys j = leF2 xs c j := fun j hj => by rw [← hys, mk_at _ _ hj]; rfl
  have h2 := h.lh xs.length (Nat.le_refl _)
  have h3 := h.s0
  have h4 := h.s1
  obtain ⟨c', hc', e1, e2⟩ := BaIn.cut (xs := xs) (S := S)
  rw [hc] at hc'
  subst hc'
  have hin : BaIn ys tr c := ⟨by rw [hyl]; exact h.len, fun j hj => by
      rw [hyl] at hj; rw [hya j hj]; have := (h.one hc hj).1; have := h.ok j hj; omega, fun j hj => by
      rw [hyl] at hj; rw [hya j hj]; exact (h.one hc hj).2.1, by rw [hyl]; omega, by rw [hyl]; omega⟩
  have f1 := hin.first rfl
  have w0 : ∀ j, j < xs.length → 0 ≤ (at0 xs j).hi - (at0 xs j).lo := fun j hj => by have := h.ok j hj; omega
  -- the sums of what is left
  have l1 : ∀ j, j < xs.length → (leF2 xs c j).lo = (at0 xs j).hi - min ((at0 xs j).hi - (at0 xs j).lo) ((addK xs xs.length).2 - c.lo) := fun j hj => by
    unfold leF2 naF cuF; simp only; omega
  have l2 : ∀ j, j < xs.length → (leF2 xs c j).hi = (at0 xs j).lo + min ((at0 xs j).hi - (at0 xs j).lo) (c.hi - (addK xs xs.length).1) := fun j hj => by
    unfold leF2 naF cuF; simp only; omega
  have a1 : (addK ys ys.length).1 = (addK xs xs.length).2 - fs (fun j => min ((at0 xs j).hi - (at0 xs j).lo) ((addK xs xs.length).2 - c.lo)) xs.length := by
    rw [addK_fs ys, hyl]
    show fs (fun j => (at0 ys j).lo) xs.length = _
    rw [fs_congr (g := fun j => (at0 xs j).hi - min ((at0 xs j).hi - (at0 xs j).lo) ((addK xs xs.length).2 - c.lo)) xs.length (fun j hj => by rw [hya j hj, l1 j hj]), fs_sub]
    congr 1
    rw [addK_fs xs]
  have a2 : (addK ys ys.length).2 = (addK xs xs.length).1 + fs (fun j => min ((at0 xs j).hi - (at0 xs j).lo) (c.hi - (addK xs xs.length).1)) xs.length := by
    rw [addK_fs ys, hyl]
    show fs (fun j => (at0 ys j).hi) xs.length = _
    rw [fs_congr (g := fun j => (at0 xs j).lo + min ((at0 xs j).hi - (at0 xs j).lo) (c.hi - (addK xs xs.length).1)) xs.length (fun j hj => by rw [hya j hj, l2 j hj]), fs_add]
    congr 1
    rw [addK_fs xs]
  have ww : fs (fun j => (at0 xs j).hi - (at0 xs j).lo) xs.length = (addK xs xs.length).2 - (addK xs xs.length).1 := by rw [fs_sub, addK_fs xs]
  have d1 : 0 ≤ (addK xs xs.length).2 - c.lo := by omega
  have d2 : 0 ≤ c.hi - (addK xs xs.length).1 := by omega
  have m1 := fs_min d1 xs.length w0
  have m2 := fs_min d2 xs.length w0
  rw [ww] at m1 m2
  have hcc : cuF ⟨(addK ys ys.length).1, (addK ys ys.length).2⟩ c = c := by
    unfold cuF
    rw [a1, a2]
    simp only
    have x1 : max ((addK xs xs.length).2 - fs (fun j => min ((at0 xs j).hi - (at0 xs j).lo) ((addK xs xs.length).2 - c.lo)) xs.length) c.lo = c.lo := by omega
    have x2 : min ((addK xs xs.length).1 + fs (fun j => min ((at0 xs j).hi - (at0 xs j).lo) (c.hi - (addK xs xs.length).1)) xs.length) c.hi = c.hi := by omega
    rw [x1, x2]
  rw [hys, f1, hcc]
  congr 1
  -- every range stays
  have hlist : ∀ j, j < xs.length → naF (addK ys ys.length).1 (addK ys ys.length).2 c (at0 ys j) = at0 ys j := fun j hj => by
    have b1 := fs_min_but d1 hj w0
    have b2 := fs_min_but d2 hj w0
    rw [ww] at b1 b2
    have o := h.ok j hj
    have t := h.part hj
    have u := h.one hc hj
    rw [hya j hj]
    have y1 : c.lo - ((addK ys ys.length).2 - (leF2 xs c j).hi) ≤ (leF2 xs c j).lo := by rw [a2, l2 j hj, l1 j hj]; omega
    have y2 : (leF2 xs c j).hi ≤ c.hi - ((addK ys ys.length).1 - (leF2 xs c j).lo) := by rw [a1, l2 j hj, l1 j hj]; omega
    unfold naF cuF
    simp only
    rw [show max (leF2 xs c j).lo (c.lo - ((addK ys ys.length).2 - (leF2 xs c j).hi)) = (leF2 xs c j).lo by omega, show min (leF2 xs c j).hi (c.hi - ((addK ys ys.length).1 - (leF2 xs c j).lo)) = (leF2 xs c j).hi by omega]
  refine List.ext_getElem (by rw [mk_len]) fun j h1 h2 => ?_
  have hj : j < xs.length := by rw [← hyl]; exact h2
  have := mk_at (naF (addK ys ys.length).1 (addK ys ys.length).2 c) ys (k := ys.length) (j := j) h2
  rw [hlist j hj, at0_get h1, at0_get h2] at this
  exact this
end
end Go.Proofs.Ytmadlmmfbpmebaa
