/- Plain law of chapter 9: points of which any four are near a plane are all near one plane (no program in sight). Plain law of chapter 9: a plane that is near all points, and as far as can be from three of them (no program in sight). Plain law of chapter 9: a plane that is near all points can be one that is as far as can be from three of them (no program in sight). Plain law of chapter 9: what is proved by balanced weights of four points, the best of it, and what it says of planes (no program in sight). Plain law of chapter 9: the least distance of a plane from heights is what balanced weights prove (no program in sight). -/
import Derived.Test.YtliolnfcgaflcaaGreatU3
namespace Go.Proofs.YtliolnfcgaflcaaGreat.Un
structure Pt where
 at_ : Nat
 x : Int
 y : Int
def crs (a b c : Pt) : Int := (b.x - a.x) * (c.y - a.y) - (c.x - a.x) * (b.y - a.y)
structure Pln where
 a : Int
 b : Int
 c : Int
 d : Int
def Pln.on (p : Pln) (q : Pt) : Int := p.a * q.x + p.b * q.y + p.c
def Pln.off (p : Pln) (q : Pt) (z : Int) : Int := z * p.d - p.on q
def Nr (z : Nat → Int) (N D : Int) (p : Pln) (q : Pt) : Prop := -(N * p.d) ≤ D * p.off q (z q.at_) ∧ D * p.off q (z q.at_) ≤ N * p.d
def Pln.add (p q : Pln) : Pln := ⟨p.a + q.a, p.b + q.b, p.c + q.c, p.d + q.d⟩
def Pln.mul (p : Pln) (m : Int) : Pln := ⟨m * p.a, m * p.b, m * p.c, m * p.d⟩
theorem on_add (p q : Pln) (r : Pt) : (p.add q).on r = p.on r + q.on r := by simp only [Pln.on, Pln.add]; grind
theorem on_mul (p : Pln) (m : Int) (r : Pt) : (p.mul m).on r = m * p.on r := by simp only [Pln.on, Pln.mul]; grind
theorem off_add (p q : Pln) (r : Pt) (z : Int) : (p.add q).off r z = p.off r z + q.off r z := by
 show z * (p.d + q.d) - (p.add q).on r = (z * p.d - p.on r) + (z * q.d - q.on r)
 rw [on_add, Int.mul_add]
 omega
theorem off_mul (p : Pln) (m : Int) (r : Pt) (z : Int) : (p.mul m).off r z = m * p.off r z := by
 show z * (m * p.d) - (p.mul m).on r = m * (z * p.d - p.on r)
 rw [on_mul]
 grind
theorem nr_zero (z : Nat → Int) (N D : Int) (q : Pt) : Nr z N D ⟨0, 0, 0, 0⟩ q := by simp [Nr, Pln.off, Pln.on]
theorem nr_add {z : Nat → Int} {N D : Int} {q : Pt} (p1 p2 : Pln) (h1 : Nr z N D p1 q) (h2 : Nr z N D p2 q) : Nr z N D (p1.add p2) q := by
 unfold Nr at *
 rw [off_add, Int.mul_add, show (p1.add p2).d = p1.d + p2.d from rfl, Int.mul_add]
 omega
theorem nr_mul {z : Nat → Int} {N D : Int} {q : Pt} (m : Int) (p : Pln) (hm : 0 ≤ m) (h : Nr z N D p q) : Nr z N D (p.mul m) q := by
 unfold Nr at *
 rw [off_mul, show (p.mul m).d = m * p.d from rfl, show D * (m * p.off q (z q.at_)) = m * (D * p.off q (z q.at_)) by grind, show N * (m * p.d) = m * (N * p.d) by grind]
 have h1 := Int.mul_le_mul_of_nonneg_left h.1 hm
 have h2 := Int.mul_le_mul_of_nonneg_left h.2 hm
 rw [Int.mul_neg] at h1
 exact ⟨h1, h2⟩
/-! Sums. -/
def Sm (f : Nat → Int) : Nat → Int
 | 0 => 0 | n + 1 => Sm f n + f n
theorem Sm_congr {f g : Nat → Int} : ∀ n, (∀ i, i < n → f i = g i) → Sm f n = Sm g n
 | 0, _ => rfl
 | n + 1, h => by
   show Sm f n + f n = Sm g n + g n
   rw [Sm_congr n (fun i hi => h i (by omega)), h n (by omega)]
theorem Sm_sub (f g : Nat → Int) : ∀ n, Sm (fun i => f i - g i) n = Sm f n - Sm g n
 | 0 => rfl
 | n + 1 => by
   show Sm (fun i => f i - g i) n + (f n - g n) = Sm f n + f n - (Sm g n + g n)
   rw [Sm_sub f g n]
   omega
theorem Sm_mulr (f : Nat → Int) (c : Int) : ∀ n, Sm (fun i => f i * c) n = Sm f n * c
 | 0 => by simp [Sm]
 | n + 1 => by
   show Sm (fun i => f i * c) n + f n * c = (Sm f n + f n) * c
   rw [Sm_mulr f c n, Int.add_mul]
theorem Sm_none {f : Nat → Int} : ∀ n, (∀ i, i < n → f i = 0) → Sm f n = 0
 | 0, _ => rfl
 | n + 1, h => by
   show Sm f n + f n = 0
   rw [Sm_none n (fun i hi => h i (by omega)), h n (by omega)]
   rfl
theorem Sm_nonneg {f : Nat → Int} : ∀ n, (∀ i, i < n → 0 ≤ f i) → 0 ≤ Sm f n
 | 0, _ => Int.le_refl _
 | n + 1, h => by
   show 0 ≤ Sm f n + f n
   have := Sm_nonneg n (fun i hi => h i (by omega))
   have := h n (by omega)
   omega
theorem Sm_pos {f : Nat → Int} : ∀ n, (∀ i, i < n → 0 ≤ f i) → (∃ i, i < n ∧ 0 < f i) → 0 < Sm f n
 | 0, _, ⟨i, hi, _⟩ => absurd hi (by omega)
 | n + 1, h, ⟨i, hi, hp⟩ => by
   show 0 < Sm f n + f n
   have h0 := h n (by omega)
   rcases Nat.lt_or_ge i n with h1 | h1
   · have := Sm_pos n (fun i hi => h i (by omega)) ⟨i, h1, hp⟩
     omega
   · obtain rfl : i = n := by omega
     have := Sm_nonneg (f := f) i (fun i hi => h i (by omega))
     omega
def skp (i0 i : Nat) : Nat := if i < i0 then i else i + 1
theorem Sm_skip (f : Nat → Int) (i0 : Nat) : ∀ n, i0 ≤ n → Sm f (n + 1) = Sm (fun i => f (skp i0 i)) n + f i0
 | 0, h => by
   obtain rfl : i0 = 0 := by omega
   rfl
 | n + 1, h => by
   show Sm f (n + 1) + f (n + 1) = Sm (fun i => f (skp i0 i)) n + f (skp i0 n) + f i0
   rcases Nat.lt_or_ge n i0 with h1 | h1
   · obtain rfl : i0 = n + 1 := by omega
     have e : Sm (fun i => f (skp (n + 1) i)) n = Sm f n := Sm_congr n fun i hi => by rw [skp, if_pos (by omega)]
     rw [e, skp, if_pos (by omega)]
     rfl
   · rw [Sm_skip f i0 n h1, show skp i0 n = n + 1 from if_neg (by omega)]
     omega
theorem dep : ∀ (n : Nat) (v : Nat → Nat → Int), ∃ c : Nat → Int, (∃ i, i ≤ n ∧ c i ≠ 0) ∧ ∀ j, j < n → Sm (fun i => c i * v i j) (n + 1) = 0
 | 0, _ => ⟨fun _ => 1, ⟨0, Nat.le_refl _, by decide⟩, fun j hj => absurd hj (by omega)⟩
 | n + 1, v => by
   by_cases h : ∃ i, i ≤ n + 1 ∧ v i n ≠ 0
   · obtain ⟨i0, hi0, hv⟩ := h
     obtain ⟨c, ⟨i, hi, hc⟩, hs⟩ := dep n (fun i j => v i0 n * v (skp i0 i) j - v (skp i0 i) n * v i0 j)
     have he : ∀ k, (if skp i0 k = i0 then -(Sm (fun i => c i * v (skp i0 i) n) (n + 1)) else c (if skp i0 k < i0 then skp i0 k else skp i0 k - 1) * v i0 n) = c k * v i0 n := fun k => by
       unfold skp
       by_cases hk : k < i0
       · rw [if_pos hk, if_neg (by omega), if_pos hk]
       · rw [if_neg hk, if_neg (by omega), if_neg (by omega), Nat.add_sub_cancel]
     refine ⟨fun k => if k = i0 then -(Sm (fun i => c i * v (skp i0 i) n) (n + 1)) else c (if k < i0 then k else k - 1) * v i0 n, ⟨skp i0 i, by unfold skp; split <;> omega, ?_⟩, fun j hj => ?_⟩
     · show (if skp i0 i = i0 then -(Sm (fun i => c i * v (skp i0 i) n) (n + 1)) else c (if skp i0 i < i0 then skp i0 i else skp i0 i - 1) * v i0 n) ≠ 0
       rw [he]
       exact Int.mul_ne_zero hc hv
     · rw [Sm_skip _ i0 (n + 1) hi0]
       have e1 : Sm (fun k => (if skp i0 k = i0 then -(Sm (fun i => c i * v (skp i0 i) n) (n + 1)) else c (if skp i0 k < i0 then skp i0 k else skp i0 k - 1) * v i0 n) * v (skp i0 k) j) (n + 1) = Sm (fun k => c k * v i0 n * v (skp i0 k) j) (n + 1) := Sm_congr _ fun k _ => by rw [he]
       have e2 : Sm (fun i => c i * (v i0 n * v (skp i0 i) j - v (skp i0 i) n * v i0 j)) (n + 1) = 0 := by
        rcases Nat.lt_or_ge j n with h1 | h1
        · exact hs j h1
        · obtain rfl : j = n := by omega
          exact Sm_none _ fun i _ => by rw [Int.mul_comm (v i0 j), Int.sub_self, Int.mul_zero]
       have e3 : Sm (fun i => c i * (v i0 n * v (skp i0 i) j - v (skp i0 i) n * v i0 j)) (n + 1) = Sm (fun k => c k * v i0 n * v (skp i0 k) j) (n + 1) - Sm (fun i => c i * v (skp i0 i) n) (n + 1) * v i0 j := by
        rw [← Sm_mulr, ← Sm_sub]
        exact Sm_congr _ fun k _ => by grind
       show Sm (fun k => (if skp i0 k = i0 then -(Sm (fun i => c i * v (skp i0 i) n) (n + 1)) else c (if skp i0 k < i0 then skp i0 k else skp i0 k - 1) * v i0 n) * v (skp i0 k) j) (n + 1) + (if i0 = i0 then -(Sm (fun i => c i * v (skp i0 i) n) (n + 1)) else c (if i0 < i0 then i0 else i0 - 1) * v i0 n) * v i0 j = 0
       rw [e1, if_pos rfl, Int.neg_mul]
       rw [e2] at e3
       omega
   · have h' : ∀ i, i ≤ n + 1 → v i n = 0 := fun i hi => Classical.byContradiction fun hc => h ⟨i, hi, hc⟩
     obtain ⟨c, ⟨i, hi, hc⟩, hs⟩ := dep n v
     refine ⟨fun k => if k ≤ n then c k else 0, ⟨i, by omega, by show (if i ≤ n then c i else 0) ≠ 0; rw [if_pos hi]; exact hc⟩, fun j hj => ?_⟩
     rcases Nat.lt_or_ge j n with h1 | h1
     · show Sm (fun i => (if i ≤ n then c i else 0) * v i j) (n + 1) + (if n + 1 ≤ n then c (n + 1) else 0) * v (n + 1) j = 0
       rw [if_neg (by omega), Int.zero_mul, Int.add_zero, ← hs j h1]
       exact Sm_congr _ fun i hi => by rw [if_pos (by omega)]
     · obtain rfl : j = n := by omega
       exact Sm_none _ fun i hi => by rw [h' i (by omega), Int.mul_zero]
/-! Radon. -/
def Ps (m : Nat → Int) (p : Nat → Pln) : Nat → Pln
 | 0 => ⟨0, 0, 0, 0⟩ | n + 1 => (Ps m p n).add ((p n).mul (m n))
theorem Ps_fn (m : Nat → Int) (p : Nat → Pln) (f : Pln → Int) (h0 : f ⟨0, 0, 0, 0⟩ = 0) (ha : ∀ p q, f (p.add q) = f p + f q) (hm : ∀ p m, f (p.mul m) = m * f p) : ∀ n, f (Ps m p n) = Sm (fun i => m i * f (p i)) n
 | 0 => h0
 | n + 1 => by
   show f ((Ps m p n).add ((p n).mul (m n))) = Sm (fun i => m i * f (p i)) n + m n * f (p n)
   rw [ha, hm, Ps_fn m p f h0 ha hm n]
theorem Ps_cone (m : Nat → Int) (p : Nat → Pln) (K : Pln → Prop) (h0 : K ⟨0, 0, 0, 0⟩) (ha : ∀ p q, K p → K q → K (p.add q)) (hm : ∀ m p, 0 ≤ m → K p → K (p.mul m)) : ∀ n, (∀ i, i < n → 0 ≤ m i) → (∀ i, i < n → m i ≠ 0 → K (p i)) → K (Ps m p n)
 | 0, _, _ => h0
 | n + 1, hn, hk => by
   refine ha _ _ (Ps_cone m p K h0 ha hm n (fun i hi => hn i (by omega)) (fun i hi => hk i (by omega))) ?_
   by_cases hz : m n = 0
   · rw [hz]
     have : (p n).mul 0 = ⟨0, 0, 0, 0⟩ := by simp [Pln.mul]
     rw [this]
     exact h0
   · exact hm _ _ (hn n (by omega)) (hk n (by omega) hz)
theorem radon (n : Nat) (f : Nat → Pln → Int) (h0 : ∀ j, f j ⟨0, 0, 0, 0⟩ = 0) (ha : ∀ j p q, f j (p.add q) = f j p + f j q) (hm : ∀ j p m, f j (p.mul m) = m * f j p) (p : Nat → Pln) (hd : ∀ i, i ≤ n → 0 < (p i).d) {jd : Nat} (hj : jd < n) (hjd : ∀ q, f jd q = q.d) :
 ∃ P Q : Pln, 0 < P.d ∧ 0 < Q.d ∧ (∀ j, j < n → f j P = f j Q) ∧ ∀ K : Pln → Prop, K ⟨0, 0, 0, 0⟩ → (∀ p q, K p → K q → K (p.add q)) → (∀ m p, 0 ≤ m → K p → K (p.mul m)) → ∀ k, (∀ i, i ≤ n → i ≠ k → K (p i)) → K P ∨ K Q := by
 obtain ⟨c, ⟨i, hi, hc⟩, hs⟩ := dep n fun i j => f j (p i)
 obtain ⟨mp, hmp⟩ : ∃ m : Nat → Int, m = fun i => if 0 < c i then c i else 0 := ⟨_, rfl⟩
 obtain ⟨mn, hmn⟩ : ∃ m : Nat → Int, m = fun i => if c i < 0 then - c i else 0 := ⟨_, rfl⟩
 have hmp0 : ∀ i, 0 ≤ mp i := fun i => by rw [hmp]; show 0 ≤ if 0 < c i then c i else 0; split <;> omega
 have hmn0 : ∀ i, 0 ≤ mn i := fun i => by rw [hmn]; show 0 ≤ if c i < 0 then - c i else 0; split <;> omega
 have hcm : ∀ i, mp i - mn i = c i := fun i => by rw [hmp, hmn]; show (if 0 < c i then c i else 0) - (if c i < 0 then - c i else 0) = c i; split <;> split <;> omega
 have heq : ∀ j, j < n → f j (Ps mp p (n + 1)) = f j (Ps mn p (n + 1)) := fun j hj => by
  rw [Ps_fn mp p (f j) (h0 j) (ha j) (hm j), Ps_fn mn p (f j) (h0 j) (ha j) (hm j)]
  have := hs j hj
  have e : Sm (fun i => c i * f j (p i)) (n + 1) = Sm (fun i => mp i * f j (p i)) (n + 1) - Sm (fun i => mn i * f j (p i)) (n + 1) := by
   rw [← Sm_sub]
   exact Sm_congr _ fun i _ => by rw [← hcm i, Int.sub_mul]
  omega
 have hed := heq jd hj
 rw [hjd, hjd] at hed
 have hpd : ∀ m : Nat → Int, (Ps m p (n + 1)).d = Sm (fun i => m i * (p i).d) (n + 1) := fun m => by
  have := Ps_fn m p (f jd) (h0 jd) (ha jd) (hm jd) (n + 1)
  simp only [hjd] at this
  exact this
 have hpos : 0 < (Ps mp p (n + 1)).d := by
  rcases Int.lt_or_lt_of_ne hc with h | h
  · rw [hed, hpd]
    exact Sm_pos _ (fun k hk => Int.mul_nonneg (hmn0 k) (Int.le_of_lt (hd k (by omega)))) ⟨i, by omega, Int.mul_pos (by rw [hmn]; show 0 < if c i < 0 then - c i else 0; rw [if_pos h]; omega) (hd i hi)⟩
  · rw [hpd]
    exact Sm_pos _ (fun k hk => Int.mul_nonneg (hmp0 k) (Int.le_of_lt (hd k (by omega)))) ⟨i, by omega, Int.mul_pos (by rw [hmp]; show 0 < if 0 < c i then c i else 0; rw [if_pos h]; exact h) (hd i hi)⟩
 refine ⟨Ps mp p (n + 1), Ps mn p (n + 1), hpos, by omega, heq, fun K k0 ka km k hk => ?_⟩
 rcases Int.lt_or_le 0 (c k) with h | h
 · refine .inr (Ps_cone mn p K k0 ka km _ (fun i _ => hmn0 i) fun i hi hne => hk i (by omega) fun e => hne ?_)
   rw [e, hmn]
   exact if_neg (by omega)
 · refine .inl (Ps_cone mp p K k0 ka km _ (fun i _ => hmp0 i) fun i hi hne => hk i (by omega) fun e => hne ?_)
   rw [e, hmp]
   exact if_neg (by omega)
/-! Helly. -/
def Fs (z : Nat → Int) (N D : Int) (l : List Pt) : Prop := ∃ p : Pln, 0 < p.d ∧ ∀ q ∈ l, Nr z N D p q
def pt0 : Nat → Pln → Int
 | 0, p => p.a | 1, p => p.b | 2, p => p.c | _, p => p.d
theorem pt0_eq {p q : Pln} (h : ∀ j, j < 4 → pt0 j p = pt0 j q) : p = q := by
 obtain ⟨a, b, c, d⟩ := p
 obtain ⟨a', b', c', d'⟩ := q
 have h0 := h 0 (by omega)
 have h1 := h 1 (by omega)
 have h2 := h 2 (by omega)
 have h3 := h 3 (by omega)
 simp only [pt0] at h0 h1 h2 h3
 subst h0 h1 h2 h3
 rfl
theorem pt0_zero : ∀ j, pt0 j ⟨0, 0, 0, 0⟩ = 0
 | 0 => rfl | 1 => rfl | 2 => rfl | _ + 3 => rfl
theorem pt0_add : ∀ j (p q : Pln), pt0 j (p.add q) = pt0 j p + pt0 j q
 | 0, _, _ => rfl | 1, _, _ => rfl | 2, _, _ => rfl | _ + 3, _, _ => rfl
theorem pt0_mul : ∀ j (p : Pln) (m : Int), pt0 j (p.mul m) = m * pt0 j p
 | 0, _, _ => rfl | 1, _, _ => rfl | 2, _, _ => rfl | _ + 3, _, _ => rfl
def pick5 (a b c d e : Pln) : Nat → Pln
 | 0 => a | 1 => b | 2 => c | 3 => d | _ => e
theorem helly (z : Nat → Int) (N D : Int) : ∀ (n : Nat) (l : List Pt), l.length = n → 4 ≤ n → (∀ s, s.Sublist l → s.length = 4 → Fs z N D s) → Fs z N D l
 | 0, _, _, h4, _ => absurd h4 (by omega)
 | n + 1, l, hl, h4, hs => by
   by_cases h5 : n + 1 = 4
   · exact hs l (List.Sublist.refl _) (by omega)
   match l, hl, hs with
   | q0 :: q1 :: q2 :: q3 :: q4 :: R, hl, hs =>
     simp only [List.length_cons] at hl
     have ih : ∀ m, m.length = n → m.Sublist (q0 :: q1 :: q2 :: q3 :: q4 :: R) → Fs z N D m := fun m hm hsub => helly z N D n m hm (by omega) fun s h1 h2 => hs s (h1.trans hsub) h2
     obtain ⟨p0, d0, k0⟩ := ih (q1 :: q2 :: q3 :: q4 :: R) (by simp only [List.length_cons]; omega) (.cons _ (List.Sublist.refl _))
     obtain ⟨p1, d1, k1⟩ := ih (q0 :: q2 :: q3 :: q4 :: R) (by simp only [List.length_cons]; omega) (.cons_cons _ (.cons _ (List.Sublist.refl _)))
     obtain ⟨p2, d2, k2⟩ := ih (q0 :: q1 :: q3 :: q4 :: R) (by simp only [List.length_cons]; omega) (.cons_cons _ (.cons_cons _ (.cons _ (List.Sublist.refl _))))
     obtain ⟨p3, d3, k3⟩ := ih (q0 :: q1 :: q2 :: q4 :: R) (by simp only [List.length_cons]; omega) (.cons_cons _ (.cons_cons _ (.cons_cons _ (.cons _ (List.Sublist.refl _)))))
     obtain ⟨p4, d4, k4⟩ := ih (q0 :: q1 :: q2 :: q3 :: R) (by simp only [List.length_cons]; omega) (.cons_cons _ (.cons_cons _ (.cons_cons _ (.cons_cons _ (.cons _ (List.Sublist.refl _))))))
     obtain ⟨P, Q, hP, _, hPQ, hK⟩ := radon 4 pt0 pt0_zero pt0_add pt0_mul (pick5 p0 p1 p2 p3 p4) (fun i hi => by
       match i, hi with
       | 0, _ => exact d0
       | 1, _ => exact d1
       | 2, _ => exact d2
       | 3, _ => exact d3
       | 4, _ => exact d4) (jd := 3) (by omega) (fun _ => rfl)
     obtain rfl := pt0_eq hPQ
     refine ⟨P, hP, fun q hq => ?_⟩
     have key : ∀ k, (∀ i, i ≤ 4 → i ≠ k → Nr z N D (pick5 p0 p1 p2 p3 p4 i) q) → Nr z N D P q := fun k hk => by
       rcases hK (fun p => Nr z N D p q) (nr_zero _ _ _ _) (fun p q' h1 h2 => nr_add p q' h1 h2) (fun m p hm h => nr_mul m p hm h) k hk with h | h <;> exact h
     simp only [List.mem_cons] at hq k0 k1 k2 k3 k4
     have cs : ∀ k, (k ≠ 0 → Nr z N D p0 q) → (k ≠ 1 → Nr z N D p1 q) → (k ≠ 2 → Nr z N D p2 q) → (k ≠ 3 → Nr z N D p3 q) → (k ≠ 4 → Nr z N D p4 q) → Nr z N D P q := fun k a0 a1 a2 a3 a4 => key k fun i hi hne => by
       match i, hi, hne with
       | 0, _, hne => exact a0 (Ne.symm hne)
       | 1, _, hne => exact a1 (Ne.symm hne)
       | 2, _, hne => exact a2 (Ne.symm hne)
       | 3, _, hne => exact a3 (Ne.symm hne)
       | 4, _, hne => exact a4 (Ne.symm hne)
     rcases hq with rfl | rfl | rfl | rfl | rfl | hR
     · exact cs 0 (fun h => absurd rfl h) (fun _ => k1 _ (by simp)) (fun _ => k2 _ (by simp)) (fun _ => k3 _ (by simp)) (fun _ => k4 _ (by simp))
     · exact cs 1 (fun _ => k0 _ (by simp)) (fun h => absurd rfl h) (fun _ => k2 _ (by simp)) (fun _ => k3 _ (by simp)) (fun _ => k4 _ (by simp))
     · exact cs 2 (fun _ => k0 _ (by simp)) (fun _ => k1 _ (by simp)) (fun h => absurd rfl h) (fun _ => k3 _ (by simp)) (fun _ => k4 _ (by simp))
     · exact cs 3 (fun _ => k0 _ (by simp)) (fun _ => k1 _ (by simp)) (fun _ => k2 _ (by simp)) (fun h => absurd rfl h) (fun _ => k4 _ (by simp))
     · exact cs 4 (fun _ => k0 _ (by simp)) (fun _ => k1 _ (by simp)) (fun _ => k2 _ (by simp)) (fun _ => k3 _ (by simp)) (fun h => absurd rfl h)
     · exact cs 5 (fun _ => k0 _ (by simp [hR])) (fun _ => k1 _ (by simp [hR])) (fun _ => k2 _ (by simp [hR])) (fun _ => k3 _ (by simp [hR])) (fun _ => k4 _ (by simp [hR]))
   | [], hl, _ => simp at hl
   | [_], hl, _ => simp at hl; omega
   | [_, _], hl, _ => simp at hl; omega
   | [_, _, _], hl, _ => simp at hl; omega
   | [_, _, _, _], hl, _ => simp at hl; omega
end Go.Proofs.YtliolnfcgaflcaaGreat.Un
namespace Go.Proofs.YtliolnfcgaflcaaGreat.Un
def mxa (n : Int) : Int := max n (-n)
def Tw (z : Nat → Int) (a b c d : Pt) : Int := crs b c d * z a.at_ + -crs a c d * z b.at_ + crs a b d * z c.at_ + -crs a b c * z d.at_
def Sz (a b c d : Pt) : Int := mxa (crs b c d) + mxa (-crs a c d) + mxa (crs a b d) + mxa (-crs a b c)
def Hb (z : Nat → Int) (N D : Int) (a b c d : Pt) : Prop := D * Tw z a b c d ≤ N * Sz a b c d ∧ -(N * Sz a b c d) ≤ D * Tw z a b c d
theorem mo0 (a b c d : Pt) : crs b c d + -crs a c d + crs a b d + -crs a b c = 0 := by unfold crs; grind
theorem mo1 (a b c d : Pt) : crs b c d * a.x + -crs a c d * b.x + crs a b d * c.x + -crs a b c * d.x = 0 := by unfold crs; grind
theorem mo2 (a b c d : Pt) : crs b c d * a.y + -crs a c d * b.y + crs a b d * c.y + -crs a b c * d.y = 0 := by unfold crs; grind
def sgn (w : Int) : Int := if 0 < w then 1 else if w < 0 then -1 else 0
theorem sgn_mul (w : Int) : w * sgn w = mxa w := by
 unfold sgn mxa
 split
 · omega
 · split <;> omega
theorem sgn_cases (w : Int) : sgn w = 1 ∨ sgn w = -1 ∨ sgn w = 0 := by
 unfold sgn
 split
 · exact .inl rfl
 · split
   · exact .inr (.inl rfl)
   · exact .inr (.inr rfl)
def thr0 (a b c : Pt) (ha hb hc s : Int) : Pln :=
 ⟨(hb - ha) * (c.y - a.y) - (hc - ha) * (b.y - a.y), (b.x - a.x) * (hc - ha) - (c.x - a.x) * (hb - ha),
   crs a b c * ha - ((hb - ha) * (c.y - a.y) - (hc - ha) * (b.y - a.y)) * a.x - ((b.x - a.x) * (hc - ha) - (c.x - a.x) * (hb - ha)) * a.y, crs a b c * s⟩
theorem thr0_a (a b c : Pt) (ha hb hc s : Int) : (thr0 a b c ha hb hc s).on a = crs a b c * ha := by simp only [thr0, Pln.on]; grind
theorem thr0_b (a b c : Pt) (ha hb hc s : Int) : (thr0 a b c ha hb hc s).on b = crs a b c * hb := by simp only [thr0, Pln.on, crs]; grind
theorem thr0_c (a b c : Pt) (ha hb hc s : Int) : (thr0 a b c ha hb hc s).on c = crs a b c * hc := by simp only [thr0, Pln.on, crs]; grind
theorem on_comb (p : Pln) {a b c d : Pt} {wa wb wc wd : Int} (m0 : wa + wb + wc + wd = 0) (m1 : wa * a.x + wb * b.x + wc * c.x + wd * d.x = 0) (m2 : wa * a.y + wb * b.y + wc * c.y + wd * d.y = 0) :
 wa * p.on a + wb * p.on b + wc * p.on c + wd * p.on d = 0 := by
 have e : wa * p.on a + wb * p.on b + wc * p.on c + wd * p.on d = p.a * (wa * a.x + wb * b.x + wc * c.x + wd * d.x) + p.b * (wa * a.y + wb * b.y + wc * c.y + wd * d.y) + p.c * (wa + wb + wc + wd) := by simp only [Pln.on]; grind
 rw [e, m0, m1, m2]
 simp
theorem nr_of_off {z : Nat → Int} {N D n t s g : Int} {p : Pln} {q : Pt} (hp : p.d = n * s) (ho : p.off q (z q.at_) = n * (t * g)) (hn : 0 < n) (hg : g = 1 ∨ g = -1 ∨ g = 0) (h1 : D * t ≤ N * s) (h2 : -(N * s) ≤ D * t) : Nr z N D p q := by
 unfold Nr
 rw [hp, ho, show N * (n * s) = n * (N * s) by grind, show D * (n * (t * g)) = n * (D * t * g) by grind, ← Int.mul_neg]
 have hn' := Int.le_of_lt hn
 refine ⟨Int.mul_le_mul_of_nonneg_left ?_ hn', Int.mul_le_mul_of_nonneg_left ?_ hn'⟩ <;> rcases hg with rfl | rfl | rfl <;> omega
theorem fourth {n wa wb wc wd ha hb hc he x : Int} (h : wa * (n * ha) + wb * (n * hb) + wc * (n * hc) + wd * x = 0) (hs : wa * ha + wb * hb + wc * hc + wd * he = 0) : wd * x = wd * (n * he) := by
 have e2 : n * (wa * ha + wb * hb + wc * hc + wd * he) = 0 := by rw [hs, Int.mul_zero]
 rw [Int.mul_add, Int.mul_add, Int.mul_add] at e2
 rw [show wa * (n * ha) = n * (wa * ha) by grind, show wb * (n * hb) = n * (wb * hb) by grind, show wc * (n * hc) = n * (wc * hc) by grind] at h
 rw [show wd * (n * he) = n * (wd * he) by grind]
 omega
theorem near4 {z : Nat → Int} {N D : Int} {a b c d : Pt} {wa wb wc wd : Int} (m0 : wa + wb + wc + wd = 0) (m1 : wa * a.x + wb * b.x + wc * c.x + wd * d.x = 0) (m2 : wa * a.y + wb * b.y + wc * c.y + wd * d.y = 0)
 (hn : crs a b c ≠ 0) (hd : wd ≠ 0) {t s : Int} (ht : t = wa * z a.at_ + wb * z b.at_ + wc * z c.at_ + wd * z d.at_) (hs : s = mxa wa + mxa wb + mxa wc + mxa wd) (h1 : D * t ≤ N * s) (h2 : -(N * s) ≤ D * t) :
 ∃ p : Pln, 0 < p.d ∧ Nr z N D p a ∧ Nr z N D p b ∧ Nr z N D p c ∧ Nr z N D p d := by
 obtain ⟨n, hnn⟩ : ∃ n, crs a b c = n := ⟨_, rfl⟩
 have hspos : 0 < s := by unfold mxa at hs; omega
 obtain ⟨ha, hha⟩ : ∃ h, h = z a.at_ * s - t * sgn wa := ⟨_, rfl⟩
 obtain ⟨hb, hhb⟩ : ∃ h, h = z b.at_ * s - t * sgn wb := ⟨_, rfl⟩
 obtain ⟨hc, hhc⟩ : ∃ h, h = z c.at_ * s - t * sgn wc := ⟨_, rfl⟩
 obtain ⟨he, hhe⟩ : ∃ h, h = z d.at_ * s - t * sgn wd := ⟨_, rfl⟩
 obtain ⟨p, hp⟩ : ∃ p, p = thr0 a b c ha hb hc s := ⟨_, rfl⟩
 have oa : p.on a = n * ha := by rw [hp, thr0_a, hnn]
 have ob : p.on b = n * hb := by rw [hp, thr0_b, hnn]
 have oc : p.on c = n * hc := by rw [hp, thr0_c, hnn]
 have hpd : p.d = n * s := by rw [hp, ← hnn]; rfl
 have hsum : wa * ha + wb * hb + wc * hc + wd * he = 0 := by
  have ga := sgn_mul wa
  have gb := sgn_mul wb
  have gc := sgn_mul wc
  have gd := sgn_mul wd
  have e : wa * ha + wb * hb + wc * hc + wd * he = s * (wa * z a.at_ + wb * z b.at_ + wc * z c.at_ + wd * z d.at_) - t * (wa * sgn wa + wb * sgn wb + wc * sgn wc + wd * sgn wd) := by
   rw [hha, hhb, hhc, hhe]
   grind
  rw [e, ga, gb, gc, gd, ← ht, ← hs, Int.mul_comm, Int.sub_self]
 have od : p.on d = n * he := by
  have h := on_comb p m0 m1 m2
  rw [oa, ob, oc] at h
  have e : wd * p.on d = wd * (n * he) := fourth h hsum
  exact Int.eq_of_mul_eq_mul_left hd e
 have fa : p.off a (z a.at_) = n * (t * sgn wa) := by unfold Pln.off; rw [oa, hpd, hha]; grind
 have fb : p.off b (z b.at_) = n * (t * sgn wb) := by unfold Pln.off; rw [ob, hpd, hhb]; grind
 have fc : p.off c (z c.at_) = n * (t * sgn wc) := by unfold Pln.off; rw [oc, hpd, hhc]; grind
 have fd : p.off d (z d.at_) = n * (t * sgn wd) := by unfold Pln.off; rw [od, hpd, hhe]; grind
 rw [hnn] at hn
 rcases Int.lt_or_lt_of_ne hn with hneg | hpos
 · refine ⟨p.mul (-1), ?_, ?_, ?_, ?_, ?_⟩
   · show 0 < -1 * p.d
     rw [hpd]
     have := Int.mul_pos (show 0 < -n by omega) hspos
     rw [Int.neg_mul] at this
     omega
   all_goals refine nr_of_off (n := -n) (t := t) (s := s) (by show -1 * p.d = _; rw [hpd, Int.neg_mul, Int.one_mul, Int.neg_mul]) (by rw [off_mul]; (first | rw [fa] | rw [fb] | rw [fc] | rw [fd]); rw [Int.neg_mul, Int.one_mul, Int.neg_mul]) (by omega) (sgn_cases _) h1 h2
 · refine ⟨p, by rw [hpd]; exact Int.mul_pos hpos hspos, nr_of_off hpd fa hpos (sgn_cases _) h1 h2, nr_of_off hpd fb hpos (sgn_cases _) h1 h2, nr_of_off hpd fc hpos (sgn_cases _) h1 h2, nr_of_off hpd fd hpos (sgn_cases _) h1 h2⟩
theorem nd4 {z : Nat → Int} {N D : Int} {a b c d : Pt} (h : Hb z N D a b c d) (hn : crs b c d ≠ 0 ∨ crs a c d ≠ 0 ∨ crs a b d ≠ 0 ∨ crs a b c ≠ 0) : Fs z N D [a, b, c, d] := by
 have m0 := mo0 a b c d
 have m1 := mo1 a b c d
 have m2 := mo2 a b c d
 obtain ⟨h1, h2⟩ := h
 have done : ∀ p : Pln, 0 < p.d → Nr z N D p a → Nr z N D p b → Nr z N D p c → Nr z N D p d → Fs z N D [a, b, c, d] := fun p hp ka kb kc kd => ⟨p, hp, fun q hq => by
  simp only [List.mem_cons, List.not_mem_nil, or_false] at hq
  rcases hq with rfl | rfl | rfl | rfl <;> assumption⟩
 rcases hn with hn | hn | hn | hn
 · obtain ⟨p, hp, k1, k2, k3, k4⟩ := near4 (z := z) (N := N) (D := D) (a := b) (b := c) (c := d) (d := a) (wa := -crs a c d) (wb := crs a b d) (wc := -crs a b c) (wd := crs b c d) (by omega) (by omega) (by omega) hn hn (t := Tw z a b c d) (s := Sz a b c d) (by unfold Tw; omega) (by unfold Sz; omega) h1 h2
   exact done p hp k4 k1 k2 k3
 · obtain ⟨p, hp, k1, k2, k3, k4⟩ := near4 (z := z) (N := N) (D := D) (a := a) (b := c) (c := d) (d := b) (wa := crs b c d) (wb := crs a b d) (wc := -crs a b c) (wd := -crs a c d) (by omega) (by omega) (by omega) hn (by omega) (t := Tw z a b c d) (s := Sz a b c d) (by unfold Tw; omega) (by unfold Sz; omega) h1 h2
   exact done p hp k1 k4 k2 k3
 · obtain ⟨p, hp, k1, k2, k3, k4⟩ := near4 (z := z) (N := N) (D := D) (a := a) (b := b) (c := d) (d := c) (wa := crs b c d) (wb := -crs a c d) (wc := -crs a b c) (wd := crs a b d) (by omega) (by omega) (by omega) hn hn (t := Tw z a b c d) (s := Sz a b c d) (by unfold Tw; omega) (by unfold Sz; omega) h1 h2
   exact done p hp k1 k2 k4 k3
 · obtain ⟨p, hp, k1, k2, k3, k4⟩ := near4 (z := z) (N := N) (D := D) (a := a) (b := b) (c := c) (d := d) (wa := crs b c d) (wb := -crs a c d) (wc := crs a b d) (wd := -crs a b c) m0 m1 m2 hn (by omega) (t := Tw z a b c d) (s := Sz a b c d) rfl rfl h1 h2
   exact done p hp k1 k2 k3 k4
/-! Four points on one line. -/
theorem crs_self (a b : Pt) : crs a a b = 0 := by unfold crs; grind
theorem crs_self2 (a b : Pt) : crs a b b = 0 := by unfold crs; grind
theorem crs_self3 (a b : Pt) : crs a b a = 0 := by unfold crs; grind
theorem crs_sw (a b c : Pt) : crs b a c = -crs a b c := by unfold crs; grind
theorem crs_sw2 (a b c : Pt) : crs a c b = -crs a b c := by unfold crs; grind
theorem crs_ro (a b c : Pt) : crs b c a = crs a b c := by unfold crs; grind
theorem on_line {p q : Pln} {a b x : Pt} (hab : a.x ≠ b.x ∨ a.y ≠ b.y) (hx : crs a b x = 0) (ha : p.on a = q.on a) (hb : p.on b = q.on b) : p.on x = q.on x := by
 unfold crs at hx
 rcases hab with h | h
 · refine Int.eq_of_mul_eq_mul_left (a := b.x - a.x) (by omega) ?_
   have e : ∀ r : Pln, (b.x - a.x) * r.on x = (b.x - x.x) * r.on a + (x.x - a.x) * r.on b := fun r => by
    have : (b.x - a.x) * r.on x - ((b.x - x.x) * r.on a + (x.x - a.x) * r.on b) = r.b * ((b.x - a.x) * (x.y - a.y) - (x.x - a.x) * (b.y - a.y)) := by simp only [Pln.on]; grind
    rw [hx, Int.mul_zero] at this
    omega
   rw [e, e, ha, hb]
 · refine Int.eq_of_mul_eq_mul_left (a := b.y - a.y) (by omega) ?_
   have e : ∀ r : Pln, (b.y - a.y) * r.on x = (b.y - x.y) * r.on a + (x.y - a.y) * r.on b := fun r => by
    have : (b.y - a.y) * r.on x - ((b.y - x.y) * r.on a + (x.y - a.y) * r.on b) = -r.a * ((b.x - a.x) * (x.y - a.y) - (x.x - a.x) * (b.y - a.y)) := by simp only [Pln.on]; grind
    rw [hx, Int.mul_zero] at this
    omega
   rw [e, e, ha, hb]
theorem nr_same {z : Nat → Int} {N D : Int} {p q : Pln} {x : Pt} (hd : p.d = q.d) (ho : p.on x = q.on x) (h : Nr z N D p x) : Nr z N D q x := by
 unfold Nr Pln.off at *
 rw [← hd, ← ho]
 exact h
def lin3 (a b : Pt) : Nat → Pln → Int
 | 0, p => p.on a | 1, p => p.on b | _, p => p.d
def pick4 (a b c d : Pln) : Nat → Pln
 | 0 => a | 1 => b | 2 => c | _ => d
theorem on_zero (q : Pt) : (⟨0, 0, 0, 0⟩ : Pln).on q = 0 := by simp [Pln.on]
theorem col4 {z : Nat → Int} {N D : Int} {a b c d : Pt} (hab : a.x ≠ b.x ∨ a.y ≠ b.y) (hc : crs a b c = 0) (hd : crs a b d = 0)
 (f0 : Fs z N D [b, c, d]) (f1 : Fs z N D [a, c, d]) (f2 : Fs z N D [a, b, d]) (f3 : Fs z N D [a, b, c]) : Fs z N D [a, b, c, d] := by
 obtain ⟨p0, d0, k0⟩ := f0
 obtain ⟨p1, d1, k1⟩ := f1
 obtain ⟨p2, d2, k2⟩ := f2
 obtain ⟨p3, d3, k3⟩ := f3
 obtain ⟨P, Q, hP, _, hPQ, hK⟩ := radon 3 (lin3 a b) (fun j => match j with | 0 => on_zero a | 1 => on_zero b | _ + 2 => rfl) (fun j p q => match j with | 0 => on_add p q a | 1 => on_add p q b | _ + 2 => rfl) (fun j p m => match j with | 0 => on_mul p m a | 1 => on_mul p m b | _ + 2 => rfl)
  (pick4 p0 p1 p2 p3) (fun i hi => by
   match i, hi with
   | 0, _ => exact d0
   | 1, _ => exact d1
   | 2, _ => exact d2
   | 3, _ => exact d3) (jd := 2) (by omega) (fun _ => rfl)
 have ea : P.on a = Q.on a := hPQ 0 (by omega)
 have eb : P.on b = Q.on b := hPQ 1 (by omega)
 have ed : P.d = Q.d := hPQ 2 (by omega)
 have key : ∀ q, P.on q = Q.on q → ∀ k, (k ≠ 0 → Nr z N D p0 q) → (k ≠ 1 → Nr z N D p1 q) → (k ≠ 2 → Nr z N D p2 q) → (k ≠ 3 → Nr z N D p3 q) → Nr z N D P q := fun q hq k a0 a1 a2 a3 => by
  have hk : ∀ i, i ≤ 3 → i ≠ k → Nr z N D (pick4 p0 p1 p2 p3 i) q := fun i hi hne => by
   match i, hi, hne with
   | 0, _, hne => exact a0 (Ne.symm hne)
   | 1, _, hne => exact a1 (Ne.symm hne)
   | 2, _, hne => exact a2 (Ne.symm hne)
   | 3, _, hne => exact a3 (Ne.symm hne)
  rcases hK (fun p => Nr z N D p q) (nr_zero _ _ _ _) (fun p q' h1 h2 => nr_add p q' h1 h2) (fun m p hm h => nr_mul m p hm h) k hk with h | h
  · exact h
  · exact nr_same ed.symm hq.symm h
 refine ⟨P, hP, fun q hq => ?_⟩
 simp only [List.mem_cons, List.not_mem_nil, or_false] at hq k0 k1 k2 k3
 rcases hq with rfl | rfl | rfl | rfl
 · exact key _ ea 0 (fun h => absurd rfl h) (fun _ => k1 _ (by simp)) (fun _ => k2 _ (by simp)) (fun _ => k3 _ (by simp))
 · exact key _ eb 1 (fun _ => k0 _ (by simp)) (fun h => absurd rfl h) (fun _ => k2 _ (by simp)) (fun _ => k3 _ (by simp))
 · exact key _ (on_line hab hc ea eb) 2 (fun _ => k0 _ (by simp)) (fun _ => k1 _ (by simp)) (fun h => absurd rfl h) (fun _ => k3 _ (by simp))
 · exact key _ (on_line hab hd ea eb) 3 (fun _ => k0 _ (by simp)) (fun _ => k1 _ (by simp)) (fun _ => k2 _ (by simp)) (fun h => absurd rfl h)
theorem sub_ins {α : Type} {u l : List α} (h : u.Sublist l) {e : α} (he : e ∈ l) (hn : e ∉ u) : ∃ s : List α, s.Sublist l ∧ s.length = u.length + 1 ∧ (∀ x ∈ u, x ∈ s) ∧ e ∈ s := by
 induction h with
 | slnil => cases he
 | @cons u t x hs ih =>
   rcases List.mem_cons.1 he with rfl | ht
   · exact ⟨e :: u, .cons_cons _ hs, rfl, fun y hy => List.mem_cons_of_mem _ hy, List.mem_cons_self⟩
   · obtain ⟨s, h1, h2, h3, h4⟩ := ih ht hn
     exact ⟨s, .cons _ h1, h2, h3, h4⟩
 | @cons_cons u t x hs ih =>
   rcases List.mem_cons.1 he with rfl | ht
   · exact absurd List.mem_cons_self hn
   · obtain ⟨s, h1, h2, h3, h4⟩ := ih ht (fun hc => hn (List.mem_cons_of_mem _ hc))
     exact ⟨x :: s, .cons_cons _ h1, by simp [h2], fun y hy => by
        rcases List.mem_cons.1 hy with rfl | hy
        · exact List.mem_cons_self
        · exact List.mem_cons_of_mem _ (h3 y hy), List.mem_cons_of_mem _ h4⟩
theorem crs_flat {p q r t : Pt} (h0 : crs q r t = 0) (h1 : crs p r t = 0) (h2 : crs p q t = 0) (h3 : crs p q r = 0) {a b e : Pt} (ha : a ∈ [p, q, r, t]) (hb : b ∈ [p, q, r, t]) (he : e ∈ [p, q, r, t]) : crs a b e = 0 := by
 have s1 := crs_sw
 have s2 := crs_sw2
 simp only [List.mem_cons, List.not_mem_nil, or_false] at ha hb he
 rcases ha with rfl | rfl | rfl | rfl <;> rcases hb with rfl | rfl | rfl | rfl <;> rcases he with rfl | rfl | rfl | rfl <;> first
  | exact crs_self _ _ | exact crs_self2 _ _ | exact crs_self3 _ _ | assumption
  | (rw [crs_sw]; omega) | (rw [crs_sw2]; omega) | (rw [crs_ro]; omega) | (rw [crs_ro, crs_ro]; omega) | (rw [crs_sw, crs_ro]; omega) | (rw [crs_ro, crs_sw]; omega) | (rw [crs_sw2, crs_sw]; omega) | (rw [crs_sw, crs_sw2]; omega) | (rw [crs_sw, crs_sw2, crs_sw]; omega)
theorem three_flat {a b r0 r1 r2 : Pt} (hab : a.x ≠ b.x ∨ a.y ≠ b.y) (h0 : crs a b r0 = 0) (h1 : crs a b r1 = 0) (h2 : crs a b r2 = 0) : crs r0 r1 r2 = 0 := by
 have e : ∀ u v : Int, u * (b.x - a.x) + v * (b.y - a.y) ≠ 0 → crs r0 r1 r2 = 0 := fun u v huv => by
  have h9 : crs r0 r1 r2 * (u * (b.x - a.x) + v * (b.y - a.y)) = 0 := by
   unfold crs at *
   grind
  exact (Int.mul_eq_zero.1 h9).resolve_right huv
 rcases hab with h | h
 · exact e 1 0 (by omega)
 · exact e 0 1 (by omega)
def Dis (p q : Pt) : Prop := p.x ≠ q.x ∨ p.y ≠ q.y
theorem four_near {z : Nat → Int} {N D : Int} {l : List Pt} (hp : l.Pairwise Dis) {r0 r1 r2 : Pt} (m0 : r0 ∈ l) (m1 : r1 ∈ l) (m2 : r2 ∈ l) (hr : crs r0 r1 r2 ≠ 0) (hb : ∀ a b c d, [a, b, c, d].Sublist l → Hb z N D a b c d) (s : List Pt) (hs : s.Sublist l) (h4 : s.length = 4) : Fs z N D s := by
 match s, h4 with
 | [a, b, c, d], _ =>
   by_cases hn : crs b c d ≠ 0 ∨ crs a c d ≠ 0 ∨ crs a b d ≠ 0 ∨ crs a b c ≠ 0
   · exact nd4 (hb a b c d hs) hn
   have hz : crs b c d = 0 ∧ crs a c d = 0 ∧ crs a b d = 0 ∧ crs a b c = 0 := by
    refine ⟨Classical.byContradiction fun h => hn (.inl h), Classical.byContradiction fun h => hn (.inr (.inl h)), Classical.byContradiction fun h => hn (.inr (.inr (.inl h))), Classical.byContradiction fun h => hn (.inr (.inr (.inr h)))⟩
   obtain ⟨z0, z1, z2, z3⟩ := hz
   have hpw := hp.sublist hs
   have hab : Dis a b := List.rel_of_pairwise_cons hpw (by simp)
   have hac : Dis a c := List.rel_of_pairwise_cons hpw (by simp)
   have hbc : Dis b c := List.rel_of_pairwise_cons (List.Pairwise.of_cons hpw) (by simp)
   have hof : ∀ x y, x ∈ [a, b, c, d] → y ∈ [a, b, c, d] → Dis x y → ∃ e, e ∈ l ∧ crs x y e ≠ 0 := fun x y _ _ hxy => by
    by_cases q0 : crs x y r0 = 0
    · by_cases q1 : crs x y r1 = 0
      · by_cases q2 : crs x y r2 = 0
        · exact absurd (three_flat hxy q0 q1 q2) hr
        · exact ⟨r2, m2, q2⟩
      · exact ⟨r1, m1, q1⟩
    · exact ⟨r0, m0, q0⟩
   have tri : ∀ x y v, [x, y, v].Sublist [a, b, c, d] → Dis x y → Fs z N D [x, y, v] := fun x y v hsub hxy => by
    have hx : x ∈ [a, b, c, d] := hsub.subset (by simp)
    have hy : y ∈ [a, b, c, d] := hsub.subset (by simp)
    have hv : v ∈ [a, b, c, d] := hsub.subset (by simp)
    obtain ⟨e, hel, hen⟩ := hof x y hx hy hxy
    have hni : e ∉ [x, y, v] := fun hc => hen (crs_flat z0 z1 z2 z3 hx hy (hsub.subset hc))
    obtain ⟨s, s1, s2, s3, s4⟩ := sub_ins (hsub.trans hs) hel hni
    match s, s2 with
    | [p, q, r, t], _ =>
      have hF := nd4 (hb p q r t s1) (by
       by_cases c0 : crs q r t = 0
       · by_cases c1 : crs p r t = 0
         · by_cases c2 : crs p q t = 0
           · by_cases c3 : crs p q r = 0
             · exact absurd (crs_flat c0 c1 c2 c3 (s3 x (by simp)) (s3 y (by simp)) s4) hen
             · exact .inr (.inr (.inr c3))
           · exact .inr (.inr (.inl c2))
         · exact .inr (.inl c1)
       · exact .inl c0)
      obtain ⟨P, hP, hk⟩ := hF
      exact ⟨P, hP, fun q hq => hk q (s3 q hq)⟩
   refine col4 hab z3 z2 (tri b c d (.cons _ (List.Sublist.refl _)) hbc) (tri a c d (.cons_cons _ (.cons _ (List.Sublist.refl _))) hac) (tri a b d (.cons_cons _ (.cons_cons _ (.cons _ (List.Sublist.refl _)))) hab) (tri a b c (.cons_cons _ (.cons_cons _ (.cons_cons _ (.cons _ (List.Sublist.refl _))))) hab)
theorem all_near {z : Nat → Int} {N D : Int} {l : List Pt} (h4 : 4 ≤ l.length) (hp : l.Pairwise Dis) {r0 r1 r2 : Pt} (m0 : r0 ∈ l) (m1 : r1 ∈ l) (m2 : r2 ∈ l) (hr : crs r0 r1 r2 ≠ 0) (hb : ∀ a b c d, [a, b, c, d].Sublist l → Hb z N D a b c d) : Fs z N D l :=
 helly z N D _ l rfl h4 fun s h1 h2 => four_near hp m0 m1 m2 hr hb s h1 h2
end Go.Proofs.YtliolnfcgaflcaaGreat.Un
namespace Go.Proofs.YtliolnfcgaflcaaGreat.Un
def Tg (z : Nat → Int) (N D : Int) (p : Pln) (q : Pt) : Prop := D * p.off q (z q.at_) = N * p.d ∨ D * p.off q (z q.at_) = -(N * p.d)
theorem mxa_pos {n : Int} (h : n ≠ 0) : 0 < mxa n := by unfold mxa; omega
theorem mxa_nonneg (n : Int) : 0 ≤ mxa n := by unfold mxa; omega
theorem argmin (g num : Pt → Int) : ∀ l : List Pt, (∃ r ∈ l, g r ≠ 0) → ∃ q ∈ l, g q ≠ 0 ∧ ∀ r ∈ l, g r ≠ 0 → num q * mxa (g r) ≤ num r * mxa (g q)
 | [], ⟨_, h, _⟩ => by cases h
 | a :: t, h => by
   by_cases ht : ∃ r ∈ t, g r ≠ 0
   · obtain ⟨q, hq, hg, hm⟩ := argmin g num t ht
     by_cases ha : g a = 0
     · exact ⟨q, List.mem_cons_of_mem _ hq, hg, fun r hr hr0 => by
        rcases List.mem_cons.1 hr with rfl | hr
        · exact absurd ha hr0
        · exact hm r hr hr0⟩
     · rcases Int.lt_or_le (num q * mxa (g a)) (num a * mxa (g q)) with hlt | hle
       · exact ⟨q, List.mem_cons_of_mem _ hq, hg, fun r hr hr0 => by
           rcases List.mem_cons.1 hr with rfl | hr
           · exact Int.le_of_lt hlt
           · exact hm r hr hr0⟩
       · refine ⟨a, List.mem_cons_self, ha, fun r hr hr0 => ?_⟩
         rcases List.mem_cons.1 hr with rfl | hr
         · exact Int.le_refl _
         · have h1 := Int.mul_le_mul_of_nonneg_right hle (mxa_nonneg (g r))
           have h2 := Int.mul_le_mul_of_nonneg_right (hm r hr hr0) (mxa_nonneg (g a))
           refine Int.le_of_mul_le_mul_left (a := mxa (g q)) ?_ (mxa_pos hg)
           rw [show mxa (g q) * (num a * mxa (g r)) = num a * mxa (g q) * mxa (g r) by grind, show mxa (g q) * (num r * mxa (g a)) = num r * mxa (g q) * mxa (g a) by grind]
           rw [show num q * mxa (g a) * mxa (g r) = num q * mxa (g r) * mxa (g a) by grind] at h1
           exact Int.le_trans h1 h2
   · obtain ⟨r, hr, hr0⟩ := h
     rcases List.mem_cons.1 hr with rfl | hr
     · refine ⟨r, List.mem_cons_self, hr0, fun r' hr' hr0' => ?_⟩
       rcases List.mem_cons.1 hr' with rfl | hr'
       · exact Int.le_refl _
       · exact absurd ⟨r', hr', hr0'⟩ ht
     · exact absurd ⟨r, hr, hr0⟩ ht
theorem slide_in {A B X M g : Int} (hA : 0 ≤ A) (hB : 0 ≤ B) (h1 : -M ≤ X) (h2 : X ≤ M) (hm : g ≠ 0 → B * mxa g ≤ (sgn g * X + M) * A) : -(A * M) ≤ A * X - B * g ∧ A * X - B * g ≤ A * M := by
 have a1 := Int.mul_le_mul_of_nonneg_left h1 hA
 have a2 := Int.mul_le_mul_of_nonneg_left h2 hA
 rw [Int.mul_neg] at a1
 rcases Int.lt_trichotomy g 0 with h | h | h
 · have hm := hm (by omega)
   rw [show mxa g = -g by unfold mxa; omega, show sgn g = -1 by unfold sgn; rw [if_neg (by omega), if_pos h]] at hm
   rw [show B * -g = -(B * g) by grind, show (-1 * X + M) * A = A * M - A * X by grind] at hm
   have := Int.mul_nonneg hB (show 0 ≤ -g by omega)
   rw [Int.mul_neg] at this
   omega
 · subst h
   rw [Int.mul_zero]
   omega
 · have hm := hm (by omega)
   rw [show mxa g = g by unfold mxa; omega, show sgn g = 1 by unfold sgn; rw [if_pos h]] at hm
   rw [show (1 * X + M) * A = A * M + A * X by grind] at hm
   have := Int.mul_nonneg hB (Int.le_of_lt h)
   omega
theorem slide_at {A B X M g : Int} (hA : A = mxa g) (hB : B = sgn g * X + M) (hg : g ≠ 0) : A * X - B * g = A * M ∨ A * X - B * g = -(A * M) := by
 rcases Int.lt_or_lt_of_ne hg with h | h
 · rw [show mxa g = -g by unfold mxa; omega] at hA
   rw [show sgn g = -1 by unfold sgn; rw [if_neg (by omega), if_pos h]] at hB
   subst hA hB
   exact .inl (by grind)
 · rw [show mxa g = g by unfold mxa; omega] at hA
   rw [show sgn g = 1 by unfold sgn; rw [if_pos h]] at hB
   subst hA hB
   exact .inr (by grind)
theorem slide {z : Nat → Int} {N D : Int} {l : List Pt} {p : Pln} (hD : 0 < D) (hd : 0 < p.d) (hn : ∀ q ∈ l, Nr z N D p q) (G : Pln) (hG : G.d = 0) (hr : ∃ r ∈ l, G.on r ≠ 0) :
 ∃ p' : Pln, 0 < p'.d ∧ (∀ q ∈ l, Nr z N D p' q) ∧ ∃ q ∈ l, G.on q ≠ 0 ∧ Tg z N D p' q ∧ ∀ r, G.on r = 0 → Tg z N D p r → Tg z N D p' r := by
 obtain ⟨s, hs, hg, hm⟩ := argmin (fun q => G.on q) (fun q => sgn (G.on q) * (D * p.off q (z q.at_)) + N * p.d) l hr
 obtain ⟨A, hA⟩ : ∃ A, A = mxa (G.on s) := ⟨_, rfl⟩
 obtain ⟨B, hB⟩ : ∃ B, B = sgn (G.on s) * (D * p.off s (z s.at_)) + N * p.d := ⟨_, rfl⟩
 have hA0 : 0 < A := by rw [hA]; exact mxa_pos hg
 have hB0 : 0 ≤ B := by
  have := hn s hs
  unfold Nr at this
  rw [hB]
  rcases sgn_cases (G.on s) with h | h | h <;> rw [h] <;> omega
 simp only [← hA, ← hB] at hm
 have hoff : ∀ r zz, ((p.mul (D * A)).add (G.mul B)).off r zz = D * A * p.off r zz - B * G.on r := fun r zz => by
  rw [off_add, off_mul, off_mul]
  have : G.off r zz = - G.on r := by unfold Pln.off; rw [hG]; omega
  rw [this, Int.mul_neg]
  omega
 have hdd : ((p.mul (D * A)).add (G.mul B)).d = D * A * p.d := by
  show D * A * p.d + B * G.d = _
  rw [hG]
  omega
 have e1 : ∀ r zz, D * (D * A * p.off r zz - B * G.on r) = D * (A * (D * p.off r zz) - B * G.on r) := fun r zz => by grind
 have e2 : N * (D * A * p.d) = D * (A * (N * p.d)) := by grind
 refine ⟨(p.mul (D * A)).add (G.mul B), by rw [hdd]; exact Int.mul_pos (Int.mul_pos hD hA0) hd, fun q hq => ?_, s, hs, hg, ?_, fun r hr0 ht => ?_⟩
 · have h9 := hn q hq
   unfold Nr at h9 ⊢
   rw [hoff, hdd, e1, e2, ← Int.mul_neg]
   have := slide_in (A := A) (B := B) (X := D * p.off q (z q.at_)) (M := N * p.d) (g := G.on q) (Int.le_of_lt hA0) hB0 h9.1 h9.2 (fun h => hm q hq h)
   exact ⟨Int.mul_le_mul_of_nonneg_left this.1 (Int.le_of_lt hD), Int.mul_le_mul_of_nonneg_left this.2 (Int.le_of_lt hD)⟩
 · unfold Tg
   rw [hoff, hdd, e1, e2, ← Int.mul_neg]
   rcases slide_at (X := D * p.off s (z s.at_)) (M := N * p.d) hA hB hg with h | h
   · exact .inl (by rw [h])
   · exact .inr (by rw [h])
 · unfold Tg at ht ⊢
   rw [hoff, hdd, e1, e2, hr0, ← Int.mul_neg]
   rcases ht with h | h
   · exact .inl (by rw [h, Int.mul_zero, Int.sub_zero])
   · exact .inr (by rw [h, Int.mul_zero, Int.sub_zero, Int.mul_neg])
theorem corner {z : Nat → Int} {N D : Int} {l : List Pt} (hD : 0 < D) (hf : Fs z N D l) {r0 r1 r2 : Pt} (m0 : r0 ∈ l) (m1 : r1 ∈ l) (m2 : r2 ∈ l) (hr : crs r0 r1 r2 ≠ 0) :
 ∃ p : Pln, 0 < p.d ∧ (∀ q ∈ l, Nr z N D p q) ∧ ∃ a ∈ l, ∃ b ∈ l, ∃ c ∈ l, crs a b c ≠ 0 ∧ Tg z N D p a ∧ Tg z N D p b ∧ Tg z N D p c := by
 obtain ⟨p0, d0, k0⟩ := hf
 obtain ⟨p1, d1, k1, a, ha, _, t1, _⟩ := slide hD d0 k0 ⟨0, 0, 1, 0⟩ rfl ⟨r0, m0, by simp [Pln.on]⟩
 have hx : ∃ r ∈ l, (⟨1, 0, -a.x, 0⟩ : Pln).on r ≠ 0 := by
  by_cases q0 : r0.x = a.x
  · by_cases q1 : r1.x = a.x
    · by_cases q2 : r2.x = a.x
      · refine absurd ?_ hr
        unfold crs
        rw [q0, q1, q2]
        grind
      · exact ⟨r2, m2, by simp only [Pln.on]; omega⟩
    · exact ⟨r1, m1, by simp only [Pln.on]; omega⟩
  · exact ⟨r0, m0, by simp only [Pln.on]; omega⟩
 obtain ⟨p2, d2, k2, b, hb, hbn, t2, u2⟩ := slide hD d1 k1 ⟨1, 0, -a.x, 0⟩ rfl hx
 have hab : a.x ≠ b.x ∨ a.y ≠ b.y := .inl fun h => hbn (by simp only [Pln.on]; omega)
 have ta2 := u2 a (by simp only [Pln.on]; omega) t1
 have hG : ∀ r, (⟨a.y - b.y, b.x - a.x, (b.y - a.y) * a.x - (b.x - a.x) * a.y, 0⟩ : Pln).on r = crs a b r := fun r => by simp only [Pln.on, crs]; grind
 have hy : ∃ r ∈ l, (⟨a.y - b.y, b.x - a.x, (b.y - a.y) * a.x - (b.x - a.x) * a.y, 0⟩ : Pln).on r ≠ 0 := by
  simp only [hG]
  by_cases q0 : crs a b r0 = 0
  · by_cases q1 : crs a b r1 = 0
    · by_cases q2 : crs a b r2 = 0
      · exact absurd (three_flat hab q0 q1 q2) hr
      · exact ⟨r2, m2, q2⟩
    · exact ⟨r1, m1, q1⟩
  · exact ⟨r0, m0, q0⟩
 obtain ⟨p3, d3, k3, c, hc, hcn, t3, u3⟩ := slide hD d2 k2 ⟨a.y - b.y, b.x - a.x, (b.y - a.y) * a.x - (b.x - a.x) * a.y, 0⟩ rfl hy
 rw [hG] at hcn
 refine ⟨p3, d3, k3, a, ha, b, hb, c, hc, hcn, u3 a ?_ ta2, u3 b ?_ t2, t3⟩
 · rw [hG]; exact crs_self3 a b
 · rw [hG]; exact crs_self2 a b
/-! The plane through three points. -/
def Pln.pos (p : Pln) : Pln := if p.d < 0 then ⟨-p.a, -p.b, -p.c, -p.d⟩ else p
theorem pos_on (p : Pln) (q : Pt) : p.pos.on q * p.d = p.on q * p.pos.d := by
 unfold Pln.pos
 split
 · simp only [Pln.on]; grind
 · rfl
theorem pos_d {p : Pln} (h : p.d ≠ 0) : 0 < p.pos.d := by
 unfold Pln.pos
 split
 · show 0 < -p.d
   omega
 · omega
def thr (a b c : Pt) (ha hb hc s : Int) : Pln := (thr0 a b c ha hb hc s).pos
theorem same_on {p q : Pln} {a b c : Pt} (hn : crs a b c ≠ 0) (ha : p.on a * q.d = q.on a * p.d) (hb : p.on b * q.d = q.on b * p.d) (hc : p.on c * q.d = q.on c * p.d) (r : Pt) : p.on r * q.d = q.on r * p.d := by
 have e : crs a b c * (p.on r * q.d - q.on r * p.d) = 0 := by
  unfold crs
  simp only [Pln.on] at *
  grind
 have := (Int.mul_eq_zero.1 e).resolve_left hn
 omega
theorem nr_scale {z : Nat → Int} {N D : Int} {p q : Pln} {x : Pt} (hp : 0 < p.d) (hq : 0 < q.d) (ho : p.on x * q.d = q.on x * p.d) (h : Nr z N D p x) : Nr z N D q x := by
 unfold Nr at *
 have e : D * p.off x (z x.at_) * q.d = D * q.off x (z x.at_) * p.d := by unfold Pln.off; grind
 have h1 := Int.mul_le_mul_of_nonneg_right h.1 (Int.le_of_lt hq)
 have h2 := Int.mul_le_mul_of_nonneg_right h.2 (Int.le_of_lt hq)
 rw [e] at h1 h2
 refine ⟨Int.le_of_mul_le_mul_right (a := p.d) ?_ hp, Int.le_of_mul_le_mul_right (a := p.d) ?_ hp⟩
 · rw [show -(N * q.d) * p.d = -(N * p.d) * q.d by grind]; exact h1
 · rw [show N * q.d * p.d = N * p.d * q.d by grind]; exact h2
def atH (z : Nat → Int) (N D : Int) (q : Pt) (s : Int) : Int := z q.at_ * D + N * s
theorem tg_sign {z : Nat → Int} {N D : Int} {p : Pln} {q : Pt} (h : Tg z N D p q) : ∃ s, (s = 1 ∨ s = -1) ∧ D * p.on q = atH z N D q s * p.d := by
 unfold Tg Pln.off at h
 rcases h with h | h
 · exact ⟨-1, .inr rfl, by unfold atH; grind⟩
 · exact ⟨1, .inl rfl, by unfold atH; grind⟩
theorem thr0_on {a b c : Pt} {ha hb hc s : Int} {q : Pt} {h : Int} (e : (thr0 a b c ha hb hc s).on q = crs a b c * h) : (thr0 a b c ha hb hc s).on q * s = h * (thr0 a b c ha hb hc s).d := by
 rw [e]
 show crs a b c * h * s = h * (crs a b c * s)
 grind
theorem thr_d {a b c : Pt} {ha hb hc s : Int} (hn : crs a b c ≠ 0) (hs : 0 < s) : 0 < (thr a b c ha hb hc s).d := pos_d (Int.mul_ne_zero hn (by omega))
theorem pos_h {p : Pln} {q : Pt} {s h : Int} (hd : p.d ≠ 0) (e : p.on q * s = h * p.d) : p.pos.on q * s = h * p.pos.d := by
 have h1 := pos_on p q
 refine Int.eq_of_mul_eq_mul_right hd ?_
 rw [show p.pos.on q * s * p.d = p.pos.on q * p.d * s by grind, h1, show h * p.pos.d * p.d = h * p.d * p.pos.d by grind, ← e]
 grind
theorem thr_on {a b c : Pt} {ha hb hc s : Int} (hn : crs a b c ≠ 0) (hs : 0 < s) : (thr a b c ha hb hc s).on a * s = ha * (thr a b c ha hb hc s).d ∧ (thr a b c ha hb hc s).on b * s = hb * (thr a b c ha hb hc s).d ∧ (thr a b c ha hb hc s).on c * s = hc * (thr a b c ha hb hc s).d := by
 have hd : (thr0 a b c ha hb hc s).d ≠ 0 := Int.mul_ne_zero hn (by omega)
 exact ⟨pos_h hd (thr0_on (thr0_a ..)), pos_h hd (thr0_on (thr0_b ..)), pos_h hd (thr0_on (thr0_c ..))⟩
theorem corner_thr {z : Nat → Int} {N D : Int} {l : List Pt} {p : Pln} (hD : 0 < D) (hp : 0 < p.d) (hk : ∀ q ∈ l, Nr z N D p q) {a b c : Pt} (hn : crs a b c ≠ 0) (ta : Tg z N D p a) (tb : Tg z N D p b) (tc : Tg z N D p c) :
 ∃ sa sb sc : Int, (sa = 1 ∨ sa = -1) ∧ (sb = 1 ∨ sb = -1) ∧ (sc = 1 ∨ sc = -1) ∧ ∀ q ∈ l, Nr z N D (thr a b c (atH z N D a sa) (atH z N D b sb) (atH z N D c sc) D) q := by
 obtain ⟨sa, h1, ea⟩ := tg_sign ta
 obtain ⟨sb, h2, eb⟩ := tg_sign tb
 obtain ⟨sc, h3, ec⟩ := tg_sign tc
 refine ⟨sa, sb, sc, h1, h2, h3, fun q hq => ?_⟩
 obtain ⟨fa, fb, fc⟩ := thr_on (ha := atH z N D a sa) (hb := atH z N D b sb) (hc := atH z N D c sc) hn hD
 obtain ⟨P, hP⟩ : ∃ P, thr a b c (atH z N D a sa) (atH z N D b sb) (atH z N D c sc) D = P := ⟨_, rfl⟩
 have hPd : 0 < P.d := by rw [← hP]; exact thr_d hn hD
 rw [hP] at fa fb fc ⊢
 have al : ∀ x h, D * p.on x = h * p.d → P.on x * D = h * P.d → p.on x * P.d = P.on x * p.d := fun x h e1 e2 => by
  refine Int.eq_of_mul_eq_mul_left (a := D) (by omega) ?_
  rw [show D * (p.on x * P.d) = D * p.on x * P.d by grind, e1, show D * (P.on x * p.d) = P.on x * D * p.d by grind, e2]
  grind
 exact nr_scale hp hPd (same_on hn (al _ _ ea fa) (al _ _ eb fb) (al _ _ ec fc) q) (hk q hq)
theorem thr_tg {z : Nat → Int} {N D : Int} {a b c : Pt} {sa sb sc : Int} (hD : 0 < D) (hn : crs a b c ≠ 0) (h1 : sa = 1 ∨ sa = -1) (h2 : sb = 1 ∨ sb = -1) (h3 : sc = 1 ∨ sc = -1) :
 Tg z N D (thr a b c (atH z N D a sa) (atH z N D b sb) (atH z N D c sc) D) a ∧ Tg z N D (thr a b c (atH z N D a sa) (atH z N D b sb) (atH z N D c sc) D) b ∧ Tg z N D (thr a b c (atH z N D a sa) (atH z N D b sb) (atH z N D c sc) D) c := by
 obtain ⟨fa, fb, fc⟩ := thr_on (ha := atH z N D a sa) (hb := atH z N D b sb) (hc := atH z N D c sc) hn hD
 have k : ∀ (P : Pln) (x : Pt) (s : Int), (s = 1 ∨ s = -1) → P.on x * D = atH z N D x s * P.d → Tg z N D P x := fun P x s hs e => by
  unfold Tg Pln.off
  unfold atH at e
  rcases hs with rfl | rfl
  · exact .inr (by grind)
  · exact .inl (by grind)
 exact ⟨k _ _ _ h1 fa, k _ _ _ h2 fb, k _ _ _ h3 fc⟩
theorem weak {z : Nat → Int} {N D : Int} {p : Pln} {a b c d : Pt} (hp : 0 < p.d) (ka : Nr z N D p a) (kb : Nr z N D p b) (kc : Nr z N D p c) (kd : Nr z N D p d) : Hb z N D a b c d := by
 have m := on_comb p (mo0 a b c d) (mo1 a b c d) (mo2 a b c d)
 have e : Tw z a b c d * p.d = crs b c d * p.off a (z a.at_) + -crs a c d * p.off b (z b.at_) + crs a b d * p.off c (z c.at_) + -crs a b c * p.off d (z d.at_) := by
  unfold Tw Pln.off
  grind
 have one : ∀ (w x M : Int), -M ≤ x → x ≤ M → w * x ≤ M * mxa w ∧ -(M * mxa w) ≤ w * x := fun w x M h1 h2 => by
  unfold mxa
  rcases Int.le_total 0 w with h | h
  · rw [show max w (-w) = w by omega]
    have a1 := Int.mul_le_mul_of_nonneg_left h1 h
    have a2 := Int.mul_le_mul_of_nonneg_left h2 h
    rw [Int.mul_neg] at a1
    rw [Int.mul_comm M]
    exact ⟨a2, a1⟩
  · rw [show max w (-w) = -w by omega]
    have a1 := Int.mul_le_mul_of_nonneg_left h1 (show 0 ≤ -w by omega)
    have a2 := Int.mul_le_mul_of_nonneg_left h2 (show 0 ≤ -w by omega)
    rw [show -w * -M = w * M by grind, show -w * x = -(w * x) by grind] at a1
    rw [show -w * x = -(w * x) by grind, show -w * M = -(w * M) by grind] at a2
    rw [show M * -w = -(w * M) by grind]
    omega
 unfold Nr at ka kb kc kd
 have oa := one (crs b c d) _ _ ka.1 ka.2
 have ob := one (-crs a c d) _ _ kb.1 kb.2
 have oc := one (crs a b d) _ _ kc.1 kc.2
 have od := one (-crs a b c) _ _ kd.1 kd.2
 have eD : D * Tw z a b c d * p.d = crs b c d * (D * p.off a (z a.at_)) + -crs a c d * (D * p.off b (z b.at_)) + crs a b d * (D * p.off c (z c.at_)) + -crs a b c * (D * p.off d (z d.at_)) := by
  rw [Int.mul_assoc, e]
  grind
 have eN : N * Sz a b c d * p.d = N * p.d * mxa (crs b c d) + N * p.d * mxa (-crs a c d) + N * p.d * mxa (crs a b d) + N * p.d * mxa (-crs a b c) := by
  unfold Sz
  grind
 refine ⟨Int.le_of_mul_le_mul_right (a := p.d) ?_ hp, Int.le_of_mul_le_mul_right (a := p.d) ?_ hp⟩
 · rw [eD, eN]; omega
 · rw [Int.neg_mul, eD, eN]; omega
end Go.Proofs.YtliolnfcgaflcaaGreat.Un
namespace Go.Proofs.YtliolnfcgaflcaaGreat.Un
open Go.RowKit
/-! Fractions in lowest terms. -/
def low9 (n d : Int) : Frc := ⟨n / (Int.gcd n d : Nat), d / (Int.gcd n d : Nat)⟩
theorem low9_uniq {n d p q : Int} (hd : 1 ≤ d) (hq : 1 ≤ q) (h : n * q = p * d) (hg : Int.gcd p q = 1) : low9 n d = ⟨p, q⟩ := by
 have hdv : q ∣ d := by
  have h1 : q ∣ p * d := ⟨n, by rw [← h, Int.mul_comm]⟩
  have h2 := Int.natAbs_dvd_natAbs.2 h1
  rw [Int.natAbs_mul] at h2
  have hc : Nat.Coprime q.natAbs p.natAbs := by unfold Nat.Coprime; rw [Nat.gcd_comm]; exact hg
  exact Int.natAbs_dvd_natAbs.1 (Nat.Coprime.dvd_of_dvd_mul_left hc h2)
 obtain ⟨k, rfl⟩ := hdv
 have hk : 0 < k := by
  rcases Int.lt_or_le 0 k with h1 | h1
  · exact h1
  · have := Int.mul_le_mul_of_nonneg_left h1 (show 0 ≤ q by omega)
    rw [Int.mul_zero] at this
    omega
 have hn : n = p * k := by
  refine Int.eq_of_mul_eq_mul_right (a := q) (by omega) ?_
  rw [h]; grind
 subst hn
 have hgk : ((Int.gcd (p * k) (q * k) : Nat) : Int) = k := by
  rw [Int.gcd_mul_right, hg, Nat.one_mul]
  omega
 unfold low9
 rw [hgk, Int.mul_ediv_cancel _ (by omega), Int.mul_ediv_cancel _ (by omega)]
theorem low9_si {n d : Int} (h : fok ⟨n, d⟩ = true) : siF ⟨n, d⟩ ⟨n, d⟩ = (low9 n d, 0) := by
 have h1 := fok_iff.1 h
 have hle : fle ⟨n, d⟩ ⟨n, d⟩ := Int.le_refl _
 unfold siF
 rw [h, decide_eq_true (fcm_of hle)]
 rw [if_pos (by rfl)]
 have hm : d + d ≤ (((d + d).toNat : Nat) : Int) := by omega
 have b := simF_between _ ⟨n, d⟩ ⟨n, d⟩ h1.2.1 h1.2.1 hle hm
 have c := simF_den _ ⟨n, d⟩ ⟨n, d⟩ h1.2.1 h1.2.1 hle hm
 have g := simF_gcd _ ⟨n, d⟩ ⟨n, d⟩ h1.2.1 h1.2.1 hle hm
 obtain ⟨f, hf⟩ : ∃ f, simF (d + d).toNat ⟨n, d⟩ ⟨n, d⟩ = f := ⟨_, rfl⟩
 simp only at b c g ⊢
 rw [hf] at b c g ⊢
 unfold fle at b
 simp only at b
 rw [low9_uniq (n := n) (d := d) (p := f.n) (q := f.d) h1.2.1 c.1 (by omega) g]
theorem low9_ok {n d : Int} (hd : 1 ≤ d) : 1 ≤ (low9 n d).d ∧ n * (low9 n d).d = (low9 n d).n * d ∧ Int.gcd (low9 n d).n (low9 n d).d = 1 ∧ (0 ≤ n → 0 ≤ (low9 n d).n) ∧ (low9 n d).d ≤ d := by
 have hg : 0 < Int.gcd n d := Int.gcd_pos_of_ne_zero_right _ (by omega)
 obtain ⟨g, hgg⟩ : ∃ g, Int.gcd n d = g := ⟨_, rfl⟩
 have h1 : ((g : Nat) : Int) ∣ n := by rw [← hgg]; exact Int.gcd_dvd_left ..
 have h2 : ((g : Nat) : Int) ∣ d := by rw [← hgg]; exact Int.gcd_dvd_right ..
 rw [hgg] at hg
 obtain ⟨a, rfl⟩ := h1
 obtain ⟨b, rfl⟩ := h2
 have hb : 1 ≤ b := by
  rcases Int.lt_or_le 0 b with h | h
  · omega
  · have := Int.mul_le_mul_of_nonneg_left h (show (0 : Int) ≤ (g : Int) by omega)
    rw [Int.mul_zero] at this
    omega
 have hab : Int.gcd a b = 1 := by
  rw [Int.gcd_mul_left] at hgg
  have : g * Int.gcd a b = g * 1 := by simpa using hgg
  exact Nat.eq_of_mul_eq_mul_left hg this
 unfold low9
 rw [hgg, Int.mul_ediv_cancel_left _ (by omega), Int.mul_ediv_cancel_left _ (by omega)]
 refine ⟨hb, by grind, hab, fun h0 => ?_, ?_⟩
 · simp only
   rcases Int.lt_or_le a 0 with h | h
   · have := Int.mul_le_mul_of_nonneg_left (show a ≤ -1 by omega) (show (0 : Int) ≤ (g : Int) by omega)
     omega
   · exact h
 · simp only
   have := Int.mul_le_mul_of_nonneg_right (show (1 : Int) ≤ (g : Int) by omega) (show 0 ≤ b by omega)
   omega
/-! The least upper bound of 0 and of some quotients. -/
def Lub {α : Type} (Y : List α) (val sz : α → Int) (f : Frc) : Prop := 1 ≤ f.d ∧ 0 ≤ f.n ∧ Int.gcd f.n f.d = 1 ∧ ∀ N D : Int, 0 < D → ((0 ≤ N ∧ ∀ b ∈ Y, val b * D ≤ N * sz b) ↔ f.n * D ≤ N * f.d)
theorem frc_eq {f g : Frc} (hf : 1 ≤ f.d) (hg : 1 ≤ g.d) (cf : Int.gcd f.n f.d = 1) (cg : Int.gcd g.n g.d = 1) (h : f.n * g.d = g.n * f.d) : f = g := by
 have h1 := low9_uniq (n := f.n) (d := f.d) (p := f.n) (q := f.d) hf hf rfl cf
 have h2 := low9_uniq (n := f.n) (d := f.d) (p := g.n) (q := g.d) hf hg h cg
 rw [h1] at h2
 obtain ⟨a, b⟩ := f
 obtain ⟨c, d⟩ := g
 exact h2
theorem Lub.le {α β : Type} {Y : List α} {Z : List β} {val sz val' sz'} {f g : Frc} (hf : Lub Y val sz f) (hg : Lub Z val' sz' g) (h : ∀ N D : Int, 0 < D → 0 ≤ N → (∀ b ∈ Z, val' b * D ≤ N * sz' b) → ∀ b ∈ Y, val b * D ≤ N * sz b) : f.n * g.d ≤ g.n * f.d := by
 have h1 := (hg.2.2.2 g.n g.d (by have := hg.1; omega)).2 (Int.le_refl _)
 exact (hf.2.2.2 g.n g.d (by have := hg.1; omega)).1 ⟨h1.1, h _ _ (by have := hg.1; omega) h1.1 h1.2⟩
theorem Lub.eq {α β : Type} {Y : List α} {Z : List β} {val sz val' sz'} {f g : Frc} (hf : Lub Y val sz f) (hg : Lub Z val' sz' g) (h : ∀ N D : Int, 0 < D → 0 ≤ N → ((∀ b ∈ Z, val' b * D ≤ N * sz' b) ↔ ∀ b ∈ Y, val b * D ≤ N * sz b)) : f = g :=
 frc_eq hf.1 hg.1 hf.2.2.1 hg.2.2.1 (Int.le_antisymm (hf.le hg fun N D h1 h2 => (h N D h1 h2).1) (hg.le hf fun N D h1 h2 => (h N D h1 h2).2))
/-! Balances. -/
structure Bal where
 a : Pt
 b : Pt
 c : Pt
 d : Pt
 w0 : Int
 w1 : Int
 w2 : Int
 w3 : Int
 sz : Int
def mkB (a b c d : Pt) : Bal := ⟨a, b, c, d, crs b c d, -crs a c d, crs a b d, -crs a b c, Sz a b c d⟩
def Bal.turn (b : Bal) : Bal := ⟨b.a, b.b, b.c, b.d, -b.w0, -b.w1, -b.w2, -b.w3, b.sz⟩
def tm9 (w : Int) (r : Rng) (g : Bool) : Int := if decide (0 < w) == g then w * r.hi else w * r.lo
def val9 (z : Nat → Rng) (g : Bool) (b : Bal) : Int := tm9 b.w0 (z b.a.at_) g + tm9 b.w1 (z b.b.at_) g + tm9 b.w2 (z b.c.at_) g + tm9 b.w3 (z b.d.at_) g
def B3 (a b c : Pt) : List Pt → List Bal
 | [] => [] | d :: t => if 0 < Sz a b c d then mkB a b c d :: B3 a b c t else B3 a b c t
def B2 (a b : Pt) : List Pt → List Bal
 | [] => [] | c :: t => B3 a b c t ++ B2 a b t
def B1 (a : Pt) : List Pt → List Bal
 | [] => [] | b :: t => B2 a b t ++ B1 a t
def bals : List Pt → List Bal
 | [] => [] | a :: t => B1 a t ++ bals t
theorem mem_B3 {a b c : Pt} {x : Bal} : ∀ {t : List Pt}, x ∈ B3 a b c t ↔ ∃ d, d ∈ t ∧ 0 < Sz a b c d ∧ x = mkB a b c d
 | [] => by simp [B3]
 | d :: t => by
   unfold B3
   split
   · rename_i h
     rw [List.mem_cons, mem_B3 (t := t)]
     constructor
     · rintro (rfl | ⟨d', h1, h2, h3⟩)
       · exact ⟨d, by simp, h, rfl⟩
       · exact ⟨d', by simp [h1], h2, h3⟩
     · rintro ⟨d', h1, h2, h3⟩
       rcases List.mem_cons.1 h1 with rfl | h1
       · exact .inl h3
       · exact .inr ⟨d', h1, h2, h3⟩
   · rename_i h
     rw [mem_B3 (t := t)]
     constructor
     · rintro ⟨d', h1, h2, h3⟩
       exact ⟨d', by simp [h1], h2, h3⟩
     · rintro ⟨d', h1, h2, h3⟩
       rcases List.mem_cons.1 h1 with rfl | h1
       · exact absurd h2 h
       · exact ⟨d', h1, h2, h3⟩
theorem mem_B2 {a b : Pt} {x : Bal} : ∀ {t : List Pt}, x ∈ B2 a b t ↔ ∃ c d, [c, d].Sublist t ∧ 0 < Sz a b c d ∧ x = mkB a b c d
 | [] => by simp [B2]
 | c :: t => by
   unfold B2
   rw [List.mem_append, mem_B3, mem_B2 (t := t)]
   constructor
   · rintro (⟨d, h1, h2, h3⟩ | ⟨c', d, h1, h2, h3⟩)
     · exact ⟨c, d, .cons_cons _ (List.singleton_sublist.2 h1), h2, h3⟩
     · exact ⟨c', d, .cons _ h1, h2, h3⟩
   · rintro ⟨c', d, h1, h2, h3⟩
     cases h1 with
     | cons _ h => exact .inr ⟨c', d, h, h2, h3⟩
     | cons_cons _ h => exact .inl ⟨d, List.singleton_sublist.1 h, h2, h3⟩
theorem mem_B1 {a : Pt} {x : Bal} : ∀ {t : List Pt}, x ∈ B1 a t ↔ ∃ b c d, [b, c, d].Sublist t ∧ 0 < Sz a b c d ∧ x = mkB a b c d
 | [] => by simp [B1]
 | b :: t => by
   unfold B1
   rw [List.mem_append, mem_B2, mem_B1 (t := t)]
   constructor
   · rintro (⟨c, d, h1, h2, h3⟩ | ⟨b', c, d, h1, h2, h3⟩)
     · exact ⟨b, c, d, .cons_cons _ h1, h2, h3⟩
     · exact ⟨b', c, d, .cons _ h1, h2, h3⟩
   · rintro ⟨b', c, d, h1, h2, h3⟩
     cases h1 with
     | cons _ h => exact .inr ⟨b', c, d, h, h2, h3⟩
     | cons_cons _ h => exact .inl ⟨c, d, h, h2, h3⟩
theorem mem_bals {x : Bal} : ∀ {t : List Pt}, x ∈ bals t ↔ ∃ a b c d, [a, b, c, d].Sublist t ∧ 0 < Sz a b c d ∧ x = mkB a b c d
 | [] => by simp [bals]
 | a :: t => by
   unfold bals
   rw [List.mem_append, mem_B1, mem_bals (t := t)]
   constructor
   · rintro (⟨b, c, d, h1, h2, h3⟩ | ⟨a', b, c, d, h1, h2, h3⟩)
     · exact ⟨a, b, c, d, .cons_cons _ h1, h2, h3⟩
     · exact ⟨a', b, c, d, .cons _ h1, h2, h3⟩
   · rintro ⟨a', b, c, d, h1, h2, h3⟩
     cases h1 with
     | cons _ h => exact .inr ⟨a', b, c, d, h, h2, h3⟩
     | cons_cons _ h => exact .inl ⟨b, c, d, h, h2, h3⟩
theorem bals_sz {l : List Pt} {b : Bal} (h : b ∈ bals l) : 0 < b.sz := by
 obtain ⟨_, _, _, _, _, h2, rfl⟩ := mem_bals.1 h
 exact h2
/-! The best proof so far. -/
structure Prf where
 b : Bal
 v : Int
 s : Bool
def take9 (p : Prf) (b : Bal) (v : Int) : Prf := if 0 < v ∧ (p.s = false ∨ p.v * b.sz < v * p.b.sz) then ⟨b, v, true⟩ else p
def PfOkF (val : Bal → Int) (Y : List Bal) (p : Prf) : Prop := (p.s = false → ∀ b ∈ Y, val b ≤ 0) ∧ (p.s = true → p.b ∈ Y ∧ p.v = val p.b ∧ 0 < p.v ∧ ∀ b ∈ Y, val b * p.b.sz ≤ p.v * b.sz)
theorem take_ok {val : Bal → Int} {Y : List Bal} {p : Prf} {b : Bal} (hY : ∀ b ∈ Y, 0 < b.sz) (hb : 0 < b.sz) (h : PfOkF val Y p) : PfOkF val (Y ++ [b]) (take9 p b (val b)) := by
 obtain ⟨h0, h1⟩ := h
 unfold take9
 rcases hs : p.s with _ | _
 · split
   · rename_i hc
     refine ⟨(fun h => by cases h), fun _ => ⟨by simp, rfl, hc.1, fun c hcm => ?_⟩⟩
     rcases List.mem_append.1 hcm with hm | hm
     · have a1 := h0 hs c hm
       have a2 := hY c hm
       have := Int.mul_le_mul_of_nonneg_right a1 (Int.le_of_lt hb)
       have := Int.mul_pos hc.1 a2
       simp only
       omega
     · obtain rfl : c = b := by simpa using hm
       exact Int.le_refl _
   · rename_i hc
     refine ⟨fun _ c hcm => ?_, fun h => by rw [hs] at h; cases h⟩
     rcases List.mem_append.1 hcm with hm | hm
     · exact h0 hs c hm
     · obtain rfl : c = b := by simpa using hm
       have : ¬ 0 < val c := fun h => hc ⟨h, .inl rfl⟩
       omega
 · obtain ⟨k1, k2, k3, k4⟩ := h1 hs
   split
   · rename_i hc
     have hlt := hc.2.resolve_left (by decide)
     refine ⟨(fun h => by cases h), fun _ => ⟨by simp, rfl, hc.1, fun c hcm => ?_⟩⟩
     rcases List.mem_append.1 hcm with hm | hm
     · have a1 := k4 c hm
       have a2 := hY c hm
       have a3 := hY _ k1
       have b1 := Int.mul_le_mul_of_nonneg_right a1 (Int.le_of_lt hb)
       have b2 := Int.mul_le_mul_of_nonneg_right (Int.le_of_lt hlt) (Int.le_of_lt a2)
       refine Int.le_of_mul_le_mul_right (a := p.b.sz) ?_ a3
       rw [show val c * b.sz * p.b.sz = val c * p.b.sz * b.sz by grind]
       refine Int.le_trans b1 ?_
       rw [show p.v * c.sz * b.sz = p.v * b.sz * c.sz by grind, show val b * c.sz * p.b.sz = val b * p.b.sz * c.sz by grind]
       exact b2
     · obtain rfl : c = b := by simpa using hm
       exact Int.le_refl _
   · rename_i hc
     refine ⟨(fun h => by rw [hs] at h; cases h), fun _ => ⟨by simp [k1], k2, k3, fun c hcm => ?_⟩⟩
     rcases List.mem_append.1 hcm with hm | hm
     · exact k4 c hm
     · obtain rfl : c = b := by simpa using hm
       rcases Int.lt_or_le 0 (val c) with h | h
       · have : ¬ p.v * c.sz < val c * p.b.sz := fun hh => hc ⟨h, .inr hh⟩
         omega
       · have a3 := hY _ k1
         have := Int.mul_le_mul_of_nonneg_right h (Int.le_of_lt a3)
         have := Int.mul_pos k3 hb
         omega
def step9 (z : Nat → Rng) (g : Bool) (p : Prf) (b : Bal) : Prf := take9 (take9 p b (val9 z g b)) b.turn (val9 z g b.turn)
def pf0 : Prf := ⟨⟨⟨0, 0, 0⟩, ⟨0, 0, 0⟩, ⟨0, 0, 0⟩, ⟨0, 0, 0⟩, 0, 0, 0, 0, 0⟩, 0, false⟩
def fl9 (l : List Pt) (z : Nat → Rng) (g : Bool) : Prf := (bals l).foldl (step9 z g) pf0
def both (Y : List Bal) : List Bal := Y.flatMap fun b => [b, b.turn]
theorem both_sz {Y : List Bal} (h : ∀ b ∈ Y, 0 < b.sz) : ∀ b ∈ both Y, 0 < b.sz := fun b hb => by
 unfold both at hb
 obtain ⟨c, hc, hbc⟩ := List.mem_flatMap.1 hb
 simp only [List.mem_cons, List.not_mem_nil, or_false] at hbc
 rcases hbc with rfl | rfl
 · exact h _ hc
 · exact h c hc
theorem fold_ok (z : Nat → Rng) (g : Bool) : ∀ (X Y : List Bal) (p : Prf), (∀ b ∈ Y, 0 < b.sz) → (∀ b ∈ X, 0 < b.sz) → PfOkF (val9 z g) Y p → PfOkF (val9 z g) (Y ++ both X) (X.foldl (step9 z g) p)
 | [], Y, p, _, _, h => by simpa [both] using h
 | b :: X, Y, p, hY, hX, h => by
   have hb := hX b (by simp)
   have h1 := take_ok hY hb h
   have hY1 : ∀ c ∈ Y ++ [b], 0 < c.sz := fun c hc => by
     rcases List.mem_append.1 hc with hm | hm
     · exact hY c hm
     · obtain rfl : c = b := by simpa using hm
       exact hb
   have h2 := take_ok (b := b.turn) hY1 hb h1
   have h3 := fold_ok z g X (Y ++ [b] ++ [b.turn]) (step9 z g p b) (fun c hc => by
     rcases List.mem_append.1 hc with hm | hm
     · exact hY1 c hm
     · obtain rfl : c = b.turn := by simpa using hm
       exact hb) (fun c hc => hX c (by simp [hc])) h2
   have e : Y ++ [b] ++ [b.turn] ++ both X = Y ++ both (b :: X) := by simp [both]
   rw [e] at h3
   exact h3
theorem fl9_ok (l : List Pt) (z : Nat → Rng) (g : Bool) : PfOkF (val9 z g) (both (bals l)) (fl9 l z g) := by
 have := fold_ok z g (bals l) [] pf0 (fun _ h => by cases h) (fun b h => bals_sz h) ⟨(fun _ b h => by cases h), (fun h => by cases h)⟩
 rw [List.nil_append] at this
 exact this
def ds9 (p : Prf) : Frc := if p.s then low9 p.v p.b.sz else ⟨0, 1⟩
theorem ds_lub {val : Bal → Int} {Y : List Bal} {p : Prf} (hY : ∀ b ∈ Y, 0 < b.sz) (h : PfOkF val Y p) : Lub Y val (fun b => b.sz) (ds9 p) := by
 obtain ⟨h0, h1⟩ := h
 unfold ds9
 rcases hs : p.s with _ | _
 · simp only [Bool.false_eq_true, if_false]
   refine ⟨by decide, by decide, by decide, fun N D hD => ⟨fun h => by simp only; have := h.1; omega, fun h => ?_⟩⟩
   simp only at h
   refine ⟨by omega, fun b hb => ?_⟩
   have := Int.mul_le_mul_of_nonneg_right (h0 hs b hb) (Int.le_of_lt hD)
   have := Int.mul_nonneg (show 0 ≤ N by omega) (Int.le_of_lt (hY b hb))
   show val b * D ≤ N * b.sz
   omega
 · simp only [if_true]
   obtain ⟨k1, k2, k3, k4⟩ := h1 hs
   have hsz := hY _ k1
   obtain ⟨l1, l2, l3, l4, _⟩ := low9_ok (n := p.v) (d := p.b.sz) (by omega)
   obtain ⟨f, hf⟩ : ∃ f, low9 p.v p.b.sz = f := ⟨_, rfl⟩
   rw [hf] at l1 l2 l3 l4 ⊢
   refine ⟨l1, l4 (Int.le_of_lt k3), l3, fun N D hD => ⟨fun h => ?_, fun h => ?_⟩⟩
   · have h9 := h.2 _ k1
     rw [← k2] at h9
     refine Int.le_of_mul_le_mul_right (a := p.b.sz) ?_ hsz
     rw [show f.n * D * p.b.sz = f.n * p.b.sz * D by grind, ← l2, show p.v * f.d * D = p.v * D * f.d by grind, show N * f.d * p.b.sz = N * p.b.sz * f.d by grind]
     exact Int.mul_le_mul_of_nonneg_right h9 (by omega)
   · have e1 : p.v * D ≤ N * p.b.sz := by
        refine Int.le_of_mul_le_mul_right (a := f.d) ?_ (by omega)
        rw [show p.v * D * f.d = p.v * f.d * D by grind, l2, show f.n * p.b.sz * D = f.n * D * p.b.sz by grind, show N * p.b.sz * f.d = N * f.d * p.b.sz by grind]
        exact Int.mul_le_mul_of_nonneg_right h (by omega)
     have hN : 0 ≤ N := by
        have := Int.mul_pos k3 hD
        rcases Int.lt_or_le N 0 with hh | hh
        · have := Int.mul_lt_mul_of_pos_right hh hsz
          omega
        · exact hh
     refine ⟨hN, fun b hb => ?_⟩
     have h4 := k4 b hb
     have hbs := hY b hb
     refine Int.le_of_mul_le_mul_right (a := p.b.sz) ?_ hsz
     have b1 := Int.mul_le_mul_of_nonneg_right h4 (Int.le_of_lt hD)
     have b2 := Int.mul_le_mul_of_nonneg_right e1 (Int.le_of_lt hbs)
     rw [show val b * D * p.b.sz = val b * p.b.sz * D by grind, show N * b.sz * p.b.sz = N * p.b.sz * b.sz by grind]
     refine Int.le_trans b1 ?_
     rw [show p.v * b.sz * D = p.v * D * b.sz by grind]
     exact b2
theorem fl_lub (l : List Pt) (z : Nat → Rng) (g : Bool) : Lub (both (bals l)) (val9 z g) (fun b => b.sz) (ds9 (fl9 l z g)) := ds_lub (both_sz fun _ h => bals_sz h) (fl9_ok l z g)
end Go.Proofs.YtliolnfcgaflcaaGreat.Un
namespace Go.Proofs.YtliolnfcgaflcaaGreat.Un
open Go.RowKit
def ex9 (z : Nat → Int) (k : Nat) : Rng := ⟨z k, z k⟩
theorem tm9_ex (w : Int) (z : Nat → Int) (k : Nat) (g : Bool) : tm9 w (ex9 z k) g = w * z k := by
 unfold tm9 ex9
 split <;> rfl
theorem val_ex (z : Nat → Int) (g : Bool) (a b c d : Pt) : val9 (ex9 z) g (mkB a b c d) = Tw z a b c d := by
 unfold val9 mkB Tw
 simp only [tm9_ex]
theorem val_ex_turn (z : Nat → Int) (g : Bool) (a b c d : Pt) : val9 (ex9 z) g (mkB a b c d).turn = -Tw z a b c d := by
 unfold val9 mkB Bal.turn Tw
 simp only [tm9_ex]
 grind
theorem tw_flat {z : Nat → Int} {a b c d : Pt} (h : ¬ 0 < Sz a b c d) : Tw z a b c d = 0 ∧ Sz a b c d = 0 := by
 have e : crs b c d = 0 ∧ crs a c d = 0 ∧ crs a b d = 0 ∧ crs a b c = 0 ∧ Sz a b c d = 0 := by
  unfold Sz mxa at *
  omega
 obtain ⟨e1, e2, e3, e4, e5⟩ := e
 refine ⟨?_, e5⟩
 unfold Tw
 rw [e1, e2, e3, e4]
 simp
theorem mem_both {l : List Pt} {x : Bal} : x ∈ both (bals l) ↔ ∃ a b c d, [a, b, c, d].Sublist l ∧ 0 < Sz a b c d ∧ (x = mkB a b c d ∨ x = (mkB a b c d).turn) := by
 unfold both
 rw [List.mem_flatMap]
 constructor
 · rintro ⟨y, hy, hx⟩
   obtain ⟨a, b, c, d, h1, h2, rfl⟩ := mem_bals.1 hy
   simp only [List.mem_cons, List.not_mem_nil, or_false] at hx
   exact ⟨a, b, c, d, h1, h2, hx⟩
 · rintro ⟨a, b, c, d, h1, h2, hx⟩
   exact ⟨_, mem_bals.2 ⟨a, b, c, d, h1, h2, rfl⟩, by simp only [List.mem_cons, List.not_mem_nil, or_false]; exact hx⟩
theorem both_hb {l : List Pt} {z : Nat → Int} {g : Bool} {N D : Int} : (∀ b ∈ both (bals l), val9 (ex9 z) g b * D ≤ N * b.sz) ↔ ∀ a b c d, [a, b, c, d].Sublist l → Hb z N D a b c d := by
 constructor
 · intro h a b c d hs
   by_cases h0 : 0 < Sz a b c d
   · have h1 := h _ (mem_both.2 ⟨a, b, c, d, hs, h0, .inl rfl⟩)
     have h2 := h _ (mem_both.2 ⟨a, b, c, d, hs, h0, .inr rfl⟩)
     rw [val_ex] at h1
     rw [val_ex_turn, Int.neg_mul] at h2
     change Tw z a b c d * D ≤ N * Sz a b c d at h1
     change -(Tw z a b c d * D) ≤ N * Sz a b c d at h2
     rw [Int.mul_comm (Tw z a b c d)] at h1 h2
     unfold Hb
     omega
   · obtain ⟨e1, e2⟩ := tw_flat (z := z) h0
     unfold Hb
     rw [e1, e2]
     simp
 · intro h x hx
   obtain ⟨a, b, c, d, h1, _, hx⟩ := mem_both.1 hx
   obtain ⟨k1, k2⟩ := h a b c d h1
   rcases hx with rfl | rfl
   · rw [val_ex]
     show Tw z a b c d * D ≤ N * Sz a b c d
     rw [Int.mul_comm]
     exact k1
   · rw [val_ex_turn]
     show -Tw z a b c d * D ≤ N * Sz a b c d
     rw [Int.neg_mul, Int.mul_comm]
     omega
structure Grd (l : List Pt) : Prop where
 four : 4 ≤ l.length
 dis : l.Pairwise Dis
 tri : ∃ a ∈ l, ∃ b ∈ l, ∃ c ∈ l, crs a b c ≠ 0
theorem fs_hb {z : Nat → Int} {N D : Int} {l : List Pt} (h : Fs z N D l) (a b c d : Pt) (hs : [a, b, c, d].Sublist l) : Hb z N D a b c d := by
 obtain ⟨p, hp, hk⟩ := h
 exact weak hp (hk a (hs.subset (by simp))) (hk b (hs.subset (by simp))) (hk c (hs.subset (by simp))) (hk d (hs.subset (by simp)))
theorem fs_num {z : Nat → Int} {N D : Int} {l : List Pt} (hl : Grd l) (h : Fs z N D l) : 0 ≤ N := by
 obtain ⟨p, hp, hk⟩ := h
 obtain ⟨a, ha, _⟩ := hl.tri
 have := hk a ha
 unfold Nr at this
 rcases Int.lt_or_le N 0 with h | h
 · have := Int.mul_lt_mul_of_pos_right h hp
   omega
 · exact h
theorem min_max {z : Nat → Int} {g : Bool} {f : Frc} {l : List Pt} (hl : Grd l) (hf : Lub (both (bals l)) (val9 (ex9 z) g) (fun b => b.sz) f) {N D : Int} (hD : 0 < D) : f.n * D ≤ N * f.d ↔ Fs z N D l := by
 rw [← hf.2.2.2 N D hD]
 obtain ⟨a, ha, b, hb, c, hc, hn⟩ := hl.tri
 constructor
 · intro h
   exact all_near hl.four hl.dis ha hb hc hn (both_hb.1 h.2)
 · intro h
   exact ⟨fs_num hl h, both_hb.2 (fs_hb h)⟩
theorem fs_mono {z : Nat → Int} {N D : Int} {l m : List Pt} (h : Fs z N D m) (hs : ∀ q ∈ l, q ∈ m) : Fs z N D l := by
 obtain ⟨p, hp, hk⟩ := h
 exact ⟨p, hp, fun q hq => hk q (hs q hq)⟩
theorem lub_all {z : Nat → Int} {g g' : Bool} {f f' : Frc} {l m : List Pt} (hl : Grd l) (hm : Grd m) (hs : ∀ q ∈ l, q ∈ m) (hf : Lub (both (bals l)) (val9 (ex9 z) g) (fun b => b.sz) f) (hf' : Lub (both (bals m)) (val9 (ex9 z) g') (fun b => b.sz) f')
 (h : Fs z f.n f.d m) : f = f' := by
 have h1 := (min_max hm hf' (N := f.n) (D := f.d) (by have := hf.1; omega)).2 h
 have h2 := (min_max hl hf (N := f'.n) (D := f'.d) (by have := hf'.1; omega)).2 (fs_mono ((min_max hm hf' (by have := hf'.1; omega)).1 (Int.le_refl _)) hs)
 exact frc_eq hf.1 hf'.1 hf.2.2.1 hf'.2.2.1 (Int.le_antisymm h2 h1)
/-! The grid. -/
def gridL (W n : Nat) : List Pt := (List.range n).map fun i => ⟨i, ((i % W : Nat) : Int), ((i / W : Nat) : Int)⟩
theorem grid_dis {W n : Nat} : (gridL W n).Pairwise Dis := by
 unfold gridL
 rw [List.pairwise_map]
 refine List.Pairwise.imp (R := fun a b => a < b) (fun {a b} hab => ?_) List.pairwise_lt_range
 unfold Dis
 simp only
 by_cases h : a % W = b % W
 · right
   intro hc
   have hc' : a / W = b / W := by omega
   have e1 := Nat.div_add_mod a W
   have e2 := Nat.div_add_mod b W
   rw [hc', h] at e1
   omega
 · left
   omega
theorem grid_mem {W n i : Nat} (h : i < n) : (⟨i, ((i % W : Nat) : Int), ((i / W : Nat) : Int)⟩ : Pt) ∈ gridL W n := by
 unfold gridL
 exact List.mem_map.2 ⟨i, List.mem_range.2 h, rfl⟩
theorem grid_grd {W H : Nat} (hW : 2 ≤ W) (hH : 2 ≤ H) : Grd (gridL W (W * H)) := by
 have h4 : 2 * W ≤ W * H := by
  have := Nat.mul_le_mul_left W hH
  omega
 refine ⟨by unfold gridL; simp; omega, grid_dis, _, grid_mem (i := 0) (by omega), _, grid_mem (i := 1) (by omega), _, grid_mem (i := W) (by omega), ?_⟩
 have e1 : W / W = 1 := Nat.div_self (by omega)
 have e2 : 1 / W = 0 := Nat.div_eq_of_lt (by omega)
 have e3 : 1 % W = 1 := Nat.mod_eq_of_lt (by omega)
 unfold crs
 simp only [Nat.zero_mod, Nat.zero_div, Nat.mod_self, e1, e2, e3]
 decide
end Go.Proofs.YtliolnfcgaflcaaGreat.Un
