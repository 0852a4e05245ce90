/- Plain laws of a run with one sample more, and of lesser speeds: which sample contradicts none, and that no range is wider. -/
import Derived.Test.YtlebefopdnadaaaTq
namespace Go.Proofs.Ytlebefopdnadaaa
open Go.RowKit
/-- The samples with one more put into their order, sample by sample. -/
def insMK (ms : List Smp) (x : Smp) : Nat → List Smp × Bool
  | 0 => ([], false)
  | k + 1 => if x.t < (at0 ms k).t ∧ (insMK ms x k).2 = false then ((insMK ms x k).1 ++ [x] ++ [at0 ms k], true) else ((insMK ms x k).1 ++ [at0 ms k], (insMK ms x k).2)
def insM (ms : List Smp) (x : Smp) : List Smp := if (insMK ms x ms.length).2 then (insMK ms x ms.length).1 else (insMK ms x ms.length).1 ++ [x]
def withR (R : Run) (x : Smp) : Run := { R with ms := insM R.ms x }
/-- No sample has the time t. -/
def noT (R : Run) (t : Int) : Prop := ∀ j, j < R.ms.length → (at0 R.ms j).t ≠ t
theorem tkM_at {l : List Smp} {k : Nat} (h : k < l.length) : l.take (k + 1) = l.take k ++ [at0 l k] := by
  rw [at0_get h, List.take_succ_eq_append_getElem h]
theorem insMK_at (ms : List Smp) (x : Smp) : ∀ k, k ≤ ms.length → ((insMK ms x k).2 = false ∧ (insMK ms x k).1 = ms.take k ∧ ∀ j, j < k → (at0 ms j).t ≤ x.t) ∨
    ((insMK ms x k).2 = true ∧ ∃ m, m < k ∧ (∀ j, j < m → (at0 ms j).t ≤ x.t) ∧ x.t < (at0 ms m).t ∧ (insMK ms x k).1 = ms.take m ++ x :: (ms.drop m).take (k - m))
  | 0, _ => .inl ⟨rfl, by simp [insMK], fun j h => by omega⟩
  | k + 1, hk => by
    rcases insMK_at ms x k (by omega) with ⟨h1, h2, h3⟩ | ⟨h1, m, hm, h2, h3, h4⟩
    · by_cases hc : x.t < (at0 ms k).t
      · right
        rw [insMK, if_pos ⟨hc, h1⟩]
        refine ⟨rfl, k, by omega, h3, hc, ?_⟩
        rw [show k + 1 - k = 0 + 1 by omega, tkM_at (l := ms.drop k) (by simp; omega), at0_drop, h2]
        simp
      · left
        rw [insMK, if_neg (fun h => hc h.1)]
        refine ⟨h1, ?_, fun j hj => ?_⟩
        · rw [tkM_at (by omega), h2]
        · rcases Nat.lt_or_ge j k with h | h
          · exact h3 j h
          · obtain rfl : j = k := by omega
            omega
    · right
      rw [insMK, if_neg (fun h => by rw [h1] at h; exact Bool.noConfusion h.2)]
      refine ⟨h1, m, by omega, h2, h3, ?_⟩
      rw [show k + 1 - m = (k - m) + 1 by omega, tkM_at (l := ms.drop m) (by simp; omega), at0_drop, show m + (k - m) = k by omega, h4]
      simp
theorem insM_at (ms : List Smp) (x : Smp) : ∃ m, m ≤ ms.length ∧ (∀ j, j < m → (at0 ms j).t ≤ x.t) ∧ (m < ms.length → x.t < (at0 ms m).t) ∧ insM ms x = ms.take m ++ x :: ms.drop m := by
  unfold insM
  rcases insMK_at ms x ms.length (Nat.le_refl _) with ⟨h1, h2, h3⟩ | ⟨h1, m, hm, h2, h3, h4⟩
  · refine ⟨ms.length, Nat.le_refl _, h3, fun h => by omega, ?_⟩
    rw [h1, h2]
    simp
  · refine ⟨m, by omega, h2, fun _ => h3, ?_⟩
    rw [h1, if_pos rfl, h4]
    congr 2
    rw [List.take_of_length_le (by simp)]
theorem insM_at0 {ms : List Smp} {x : Smp} {m : Nat} (hm : m ≤ ms.length) (j : Nat) : at0 (ms.take m ++ x :: ms.drop m) j = if j < m then at0 ms j else if j = m then x else at0 ms (j - 1) := by
  unfold at0
  simp only [List.getD_eq_getElem?_getD]
  rw [List.getElem?_append]
  simp only [List.length_take, Nat.min_eq_left hm]
  split
  · rw [List.getElem?_take_of_lt (by assumption)]
  · split
    · rename_i h1 h2
      subst h2
      simp
    · obtain ⟨i, hi⟩ : ∃ i, j - m = i + 1 := ⟨j - m - 1, by omega⟩
      rw [hi, List.getElem?_cons_succ, List.getElem?_drop, show m + i = j - 1 by omega]
theorem with_len (R : Run) (x : Smp) : (withR R x).ms.length = R.ms.length + 1 := by
  obtain ⟨m, h1, _, _, h4⟩ := insM_at R.ms x
  show (insM R.ms x).length = _
  rw [h4]
  simp
  omega
/-- Where the new sample lies, and what the others are. -/
theorem with_spot {R : Run} (h : VRun R) {x : Smp} (hn : noT R x.t) : ∃ m, m ≤ R.ms.length ∧ (∀ j, j < m → (at0 R.ms j).t < x.t) ∧ (∀ j, m ≤ j → j < R.ms.length → x.t < (at0 R.ms j).t) ∧
    ∀ j, at0 (withR R x).ms j = if j < m then at0 R.ms j else if j = m then x else at0 R.ms (j - 1) := by
  obtain ⟨m, h1, h2, h3, h4⟩ := insM_at R.ms x
  refine ⟨m, h1, fun j hj => ?_, fun j hj hl => ?_, fun j => ?_⟩
  · have := h2 j hj
    have := hn j (by omega)
    omega
  · have := h3 (by omega)
    rcases Nat.lt_or_ge m j with hmj | hmj
    · have := h.mle hmj hl
      omega
    · obtain rfl : j = m := by omega
      exact this
  · show at0 (insM R.ms x) j = _
    rw [h4, insM_at0 h1]
theorem with_vrun {R : Run} (h : VRun R) {x : Smp} (hn : noT R x.t) (h0 : 0 ≤ x.t) (h1 : x.t ≤ R.e) (hl : R.ms.length < 100) (hx : 0 ≤ x.lo ∧ x.lo ≤ x.hi ∧ x.hi ≤ 1000000) : VRun (withR R x) where
  n1 := h.n1
  n60 := h.n60
  m100 := by rw [with_len]; omega
  e20 := h.e20
  last := h.last
  first := h.first
  tlt := h.tlt
  tup := h.tup
  ph := h.ph
  v := h.v
  mt := fun k hk => by
    rw [with_len] at hk
    obtain ⟨m, g1, g2, g3, g4⟩ := with_spot h hn
    rw [g4]
    show 0 ≤ _ ∧ _ ≤ R.e
    split
    · exact h.mt k (by omega)
    · split
      · exact ⟨h0, h1⟩
      · exact h.mt _ (by omega)
  mup := fun k hk => by
    rw [with_len] at hk
    obtain ⟨m, g1, g2, g3, g4⟩ := with_spot h hn
    rw [g4, g4]
    rcases Nat.lt_trichotomy k m with hkm | hkm | hkm
    · rw [if_pos hkm]
      rcases Nat.lt_or_ge (k + 1) m with hk1 | hk1
      · rw [if_pos hk1]; exact h.mup k (by omega)
      · rw [if_neg (by omega), if_pos (by omega)]; exact g2 k hkm
    · subst hkm
      rw [if_neg (by omega), if_pos rfl, if_neg (by omega), if_neg (by omega), Nat.add_sub_cancel]
      exact g3 k (Nat.le_refl _) (by omega)
    · rw [if_neg (by omega), if_neg (by omega), if_neg (by omega), if_neg (by omega)]
      have := h.mup (k - 1) (by omega)
      rwa [show k - 1 + 1 = k + 1 - 1 by omega] at this
  mr := fun k hk => by
    rw [with_len] at hk
    obtain ⟨m, g1, g2, g3, g4⟩ := with_spot h hn
    rw [g4]
    split
    · exact h.mr k (by omega)
    · split
      · exact hx
      · exact h.mr _ (by omega)
  et := h.et
  eup := h.eup
  ek := h.ek
/-- Samples contradict each other where two of them do. -/
theorem conf_none_iff {p : Vec} {R : Run} : conf p R = none ↔ ∀ i j, i < j → j < R.ms.length → agB p (at0 R.ms i) (at0 R.ms j) = false := by
  constructor
  · intro h i j hij hj
    unfold conf at h
    rw [List.findSome?_eq_none_iff] at h
    have h1 := h j (List.mem_range.2 hj)
    rw [Option.map_eq_none_iff] at h1
    unfold confI at h1
    rw [List.find?_eq_none] at h1
    simpa using h1 i (List.mem_range.2 hij)
  · intro h
    unfold conf
    refine findSome_no fun j hj => ?_
    have : confI p R j = none := by
      unfold confI
      exact find_no fun i hi => h i j hi hj
    rw [this]; rfl
theorem inK_meet_iff {k o : Kn} {x : Int} : InK (meetK k o) x ↔ InK k x ∧ InK o x := by
  refine ⟨fun h => ?_, fun h => inK_meet h.1 h.2⟩
  unfold InK meetK at h
  constructor
  · intro hk
    rcases ho : o.some with _ | _
    · rw [if_pos ho] at h
      exact h hk
    · rw [if_neg (by rw [ho]; decide), if_neg (by rw [hk]; decide)] at h
      have := h rfl
      simp only at this
      omega
  · intro ho
    rcases hk : k.some with _ | _
    · rw [if_neg (by rw [ho]; decide), if_pos hk] at h
      exact h ho
    · rw [if_neg (by rw [ho]; decide), if_neg (by rw [hk]; decide)] at h
      have := h rfl
      simp only at this
      omega
theorem inK_kn0 (v : Int) : InK kn0 v := fun h => by cases h
def inTA (p : Vec) (s : Smp) (u v : Int) : Prop := s.lo - p 111 * (u - s.t) ≤ v ∧ v ≤ s.hi + p 110 * (u - s.t)
def inTB (p : Vec) (s : Smp) (f v : Int) : Prop := s.lo - p 110 * (s.t - f) ≤ v ∧ v ≤ s.hi + p 111 * (s.t - f)
theorem inK_sdA {p : Vec} {R : Run} {u v : Int} : ∀ k, InK (sdA p R u k) v ↔ ∀ j, j < k → (at0 R.ms j).t ≤ u → inTA p (at0 R.ms j) u v
  | 0 => ⟨fun _ j hj => absurd hj (by omega), fun _ => inK_kn0 v⟩
  | k + 1 => by
    have ih := inK_sdA (p := p) (R := R) (u := u) (v := v) k
    rw [sdA]
    have ht : InK (tellA p (at0 R.ms k) u) v ↔ inTA p (at0 R.ms k) u v := ⟨fun h => h rfl, fun h _ => h⟩
    split
    · rename_i hu
      rw [inK_meet_iff, ih, ht]
      refine ⟨fun h j hj hju => ?_, fun h => ⟨fun j hj => h j (by omega), h k (by omega) hu⟩⟩
      rcases Nat.lt_or_ge j k with hjk | hjk
      · exact h.1 j hjk hju
      · obtain rfl : j = k := by omega
        exact h.2
    · rename_i hu
      rw [ih]
      refine ⟨fun h j hj hju => ?_, fun h j hj => h j (by omega)⟩
      rcases Nat.lt_or_ge j k with hjk | hjk
      · exact h j hjk hju
      · obtain rfl : j = k := by omega
        exact absurd hju hu
theorem inK_sdB {p : Vec} {R : Run} {f v : Int} : ∀ k, InK (sdB p R f k) v ↔ ∀ j, j < k → f ≤ (at0 R.ms j).t → inTB p (at0 R.ms j) f v
  | 0 => ⟨fun _ j hj => absurd hj (by omega), fun _ => inK_kn0 v⟩
  | k + 1 => by
    have ih := inK_sdB (p := p) (R := R) (f := f) (v := v) k
    rw [sdB]
    have ht : InK (tellB p (at0 R.ms k) f) v ↔ inTB p (at0 R.ms k) f v := ⟨fun h => h rfl, fun h _ => h⟩
    split
    · rename_i hu
      rw [inK_meet_iff, ih, ht]
      refine ⟨fun h j hj hju => ?_, fun h => ⟨fun j hj => h j (by omega), h k (by omega) hu⟩⟩
      rcases Nat.lt_or_ge j k with hjk | hjk
      · exact h.1 j hjk hju
      · obtain rfl : j = k := by omega
        exact h.2
    · rename_i hu
      rw [ih]
      refine ⟨fun h j hj hju => ?_, fun h j hj => h j (by omega)⟩
      rcases Nat.lt_or_ge j k with hjk | hjk
      · exact h j hjk hju
      · obtain rfl : j = k := by omega
        exact absurd hju hu
theorem inK_at_iff {p : Vec} {R : Run} (h : VRun R) {t : Nat} (ht : (t : Int) ≤ R.e) {v : Int} : InK (atK p R t) v ↔ (∀ j, j < R.ms.length → (at0 R.ms j).t ≤ t → inTA p (at0 R.ms j) t v) ∧ (∀ j, j < R.ms.length → t ≤ (at0 R.ms j).t → inTB p (at0 R.ms j) t v) := by
  unfold atK
  rw [inK_meet_iff, bef_all h, frmF_all h p ht, inK_sdA, inK_sdB]
/-- A sample more contradicts none just if it is in what is known. -/
theorem conf_with {p : Vec} {R : Run} (h : VRun R) (hc : conf p R = none) {t : Nat} (ht : (t : Int) ≤ R.e) (hn : noT R t) (v : Int) : conf p (withR R ⟨t, v, v⟩) = none ↔ InK (atK p R t) v := by
  rw [inK_at_iff h ht, conf_none_iff]
  rw [conf_none_iff] at hc
  obtain ⟨m, g1, g2, g3, g4⟩ := with_spot (x := ⟨t, v, v⟩) h hn
  simp only at g2 g3
  have e1 : ∀ s : Smp, agB p s ⟨t, v, v⟩ = false ↔ inTA p s t v := fun s => by
    unfold agB inTA
    rw [Bool.or_eq_false_iff, decide_eq_false_iff_not, decide_eq_false_iff_not]
    simp only
    omega
  have e2 : ∀ s : Smp, agB p ⟨t, v, v⟩ s = false ↔ inTB p s t v := fun s => by
    unfold agB inTB
    rw [Bool.or_eq_false_iff, decide_eq_false_iff_not, decide_eq_false_iff_not]
    simp only
    omega
  rw [with_len]
  constructor
  · intro ha
    constructor
    · intro j hj hjt
      have hjm : j < m := by
        rcases Nat.lt_or_ge j m with hq | hq
        · exact hq
        · have := g3 j hq hj; omega
      have := ha j m hjm (by omega)
      rw [g4, g4, if_pos hjm, if_neg (by omega), if_pos rfl] at this
      exact (e1 _).1 this
    · intro j hj hjt
      have hjm : m ≤ j := by
        rcases Nat.lt_or_ge j m with hq | hq
        · have := g2 j hq; omega
        · exact hq
      have := ha m (j + 1) (by omega) (by omega)
      rw [g4, g4, if_neg (by omega), if_pos rfl, if_neg (by omega), if_neg (by omega), Nat.add_sub_cancel] at this
      exact (e2 _).1 this
  · rintro ⟨a1, a2⟩ i j hij hj
    rw [g4, g4]
    rcases Nat.lt_trichotomy i m with hi | hi | hi
    · rw [if_pos hi]
      rcases Nat.lt_trichotomy j m with hjm | hjm | hjm
      · rw [if_pos hjm]; exact hc i j hij (by omega)
      · rw [if_neg (by omega), if_pos hjm]
        have := g2 i hi
        exact (e1 _).2 (a1 i (by omega) (by omega))
      · rw [if_neg (by omega), if_neg (by omega)]
        exact hc i (j - 1) (by omega) (by omega)
    · rw [if_neg (by omega), if_pos hi, if_neg (by omega), if_neg (by omega)]
      have := g3 (j - 1) (by omega) (by omega)
      exact (e2 _).2 (a2 (j - 1) (by omega) (by omega))
    · rw [if_neg (by omega), if_neg (by omega), if_neg (by omega), if_neg (by omega)]
      exact hc (i - 1) (j - 1) (by omega) (by omega)
/-- Less is known of a run R at speeds p than of R' at lesser speeds q. -/
structure Tgt (p q : Vec) (R R' : Run) : Prop where
  v : VRun R
  v' : VRun R'
  g : q 110 ≤ p 110
  s : q 111 ≤ p 111
  g0 : 0 ≤ q 110
  s0 : 0 ≤ q 111
  e : R'.e = R.e
  sub : ∀ j, j < R.ms.length → ∃ i, i < R'.ms.length ∧ at0 R'.ms i = at0 R.ms j
theorem inTA_le {p q : Vec} {s : Smp} {u v : Int} (h1 : q 110 ≤ p 110) (h2 : q 111 ≤ p 111) (hu : s.t ≤ u) (h : inTA q s u v) : inTA p s u v := by
  unfold inTA at h ⊢
  have a := Int.mul_le_mul_of_nonneg_right h1 (show 0 ≤ u - s.t by omega)
  have b := Int.mul_le_mul_of_nonneg_right h2 (show 0 ≤ u - s.t by omega)
  omega
theorem inTB_le {p q : Vec} {s : Smp} {f v : Int} (h1 : q 110 ≤ p 110) (h2 : q 111 ≤ p 111) (hu : f ≤ s.t) (h : inTB q s f v) : inTB p s f v := by
  unfold inTB at h ⊢
  have a := Int.mul_le_mul_of_nonneg_right h1 (show 0 ≤ s.t - f by omega)
  have b := Int.mul_le_mul_of_nonneg_right h2 (show 0 ≤ s.t - f by omega)
  omega
variable {p q : Vec} {R R' : Run}
theorem Tgt.bef (h : Tgt p q R R') {t : Nat} {v : Int} (hv : InK (befF q R' t) v) : InK (befF p R t) v := by
  rw [bef_all h.v', inK_sdA] at hv
  rw [bef_all h.v, inK_sdA]
  intro j hj hjt
  obtain ⟨i, hi, he⟩ := h.sub j hj
  have := hv i hi (by rw [he]; exact hjt)
  rw [he] at this
  exact inTA_le h.g h.s hjt this
theorem Tgt.frm (h : Tgt p q R R') {t : Nat} (ht : (t : Int) ≤ R.e) {v : Int} (hv : InK (frmF q R' t) v) : InK (frmF p R t) v := by
  rw [frmF_all h.v' q (by rw [h.e]; exact ht), inK_sdB] at hv
  rw [frmF_all h.v p ht, inK_sdB]
  intro j hj hjt
  obtain ⟨i, hi, he⟩ := h.sub j hj
  have := hv i hi (by rw [he]; exact hjt)
  rw [he] at this
  exact inTB_le h.g h.s hjt this
theorem sdA_sm {p : Vec} {R : Run} {u : Int} : ∀ k, (sdA p R u k).some = true ↔ ∃ j, j < k ∧ (at0 R.ms j).t ≤ u
  | 0 => ⟨fun h => (by cases h), fun ⟨j, hj, _⟩ => absurd hj (by omega)⟩
  | k + 1 => by
    have ih := sdA_sm (p := p) (R := R) (u := u) k
    rw [sdA]
    split
    · rename_i hu
      rw [meetK_some]
      exact ⟨fun _ => ⟨k, by omega, hu⟩, fun _ => by simp [tellA]⟩
    · rename_i hu
      rw [ih]
      refine ⟨fun ⟨j, hj, h⟩ => ⟨j, by omega, h⟩, fun ⟨j, hj, h⟩ => ⟨j, ?_, h⟩⟩
      rcases Nat.lt_or_ge j k with hjk | hjk
      · exact hjk
      · obtain rfl : j = k := by omega
        exact absurd h hu
theorem sdB_sm {p : Vec} {R : Run} {f : Int} : ∀ k, (sdB p R f k).some = true ↔ ∃ j, j < k ∧ f ≤ (at0 R.ms j).t
  | 0 => ⟨fun h => (by cases h), fun ⟨j, hj, _⟩ => absurd hj (by omega)⟩
  | k + 1 => by
    have ih := sdB_sm (p := p) (R := R) (f := f) k
    rw [sdB]
    split
    · rename_i hu
      rw [meetK_some]
      exact ⟨fun _ => ⟨k, by omega, hu⟩, fun _ => by simp [tellB]⟩
    · rename_i hu
      rw [ih]
      refine ⟨fun ⟨j, hj, h⟩ => ⟨j, by omega, h⟩, fun ⟨j, hj, h⟩ => ⟨j, ?_, h⟩⟩
      rcases Nat.lt_or_ge j k with hjk | hjk
      · exact hjk
      · obtain rfl : j = k := by omega
        exact absurd h hu
/-- The narrower of two. -/
def KnLe (a b : Kn) : Prop := b.some = true → a.some = true ∧ b.lo ≤ a.lo ∧ a.hi ≤ b.hi
theorem knLe_of {a b : Kn} {x : Int} (hs : b.some = true → a.some = true) (hx : InK a x) (h : ∀ v, InK a v → InK b v) : KnLe a b := fun hb => by
  have ha := hs hb
  have hx := hx ha
  have h1 := h a.lo (fun _ => ⟨Int.le_refl _, by omega⟩) hb
  have h2 := h a.hi (fun _ => ⟨by omega, Int.le_refl _⟩) hb
  exact ⟨ha, h1.1, h2.2⟩
theorem Tgt.befLe (h : Tgt p q R R') {c : Nat → Int} (hc : TrueC q R' c) (t : Nat) : KnLe (befF q R' t) (befF p R t) := by
  refine knLe_of (fun hb => ?_) (inK_bef hc t) (fun v => h.bef)
  rw [bef_all h.v, sdA_sm] at hb
  rw [bef_all h.v', sdA_sm]
  obtain ⟨j, hj, hjt⟩ := hb
  obtain ⟨i, hi, he⟩ := h.sub j hj
  exact ⟨i, hi, by rw [he]; exact hjt⟩
theorem Tgt.frmLe (h : Tgt p q R R') {c : Nat → Int} (hc : TrueC q R' c) {t : Nat} (ht : (t : Int) ≤ R.e) : KnLe (frmF q R' t) (frmF p R t) := by
  refine knLe_of (fun hb => ?_) (inK_frm hc (t := t) (by rw [h.e]; omega)) (fun v => h.frm ht)
  rw [frmF_all h.v p ht, sdB_sm] at hb
  rw [frmF_all h.v' q (by rw [h.e]; exact ht), sdB_sm]
  obtain ⟨j, hj, hjt⟩ := hb
  obtain ⟨i, hi, he⟩ := h.sub j hj
  exact ⟨i, hi, by rw [he]; exact hjt⟩
theorem Tgt.atLe (h : Tgt p q R R') {c : Nat → Int} (hc : TrueC q R' c) {t : Nat} (ht : (t : Int) ≤ R.e) : KnLe (atK q R' t) (atK p R t) := by
  refine knLe_of (fun hb => ?_) (inK_at hc (t := t) (by rw [h.e]; omega)) (fun v hv => ?_)
  · unfold atK at hb ⊢
    rw [meetK_some] at hb ⊢
    have h1 := h.befLe hc t
    have h2 := h.frmLe hc ht
    rcases hb1 : (befF p R t).some with _ | _
    · rw [hb1, Bool.false_or] at hb
      rw [(h2 hb).1, Bool.or_true]
    · rw [(h1 hb1).1, Bool.true_or]
  · unfold atK at hv ⊢
    rw [inK_meet_iff] at hv ⊢
    exact ⟨h.bef hv.1, h.frm ht hv.2⟩
/-- When the peak is not above z. -/
theorem peakF_iff {a up b dn z : Int} (h1 : 0 ≤ up) (h2 : 0 ≤ dn) : peakF a up b dn ≤ z ↔ (a + up ≤ z ∨ b + dn ≤ z ∨ (a ≤ z ∧ b ≤ z ∧ up * dn ≤ (z - a) * dn + (z - b) * up)) := by
  unfold peakF
  split
  · omega
  · split
    · omega
    · rename_i h3 h4
      have hpos : 1 ≤ up + dn := by omega
      have hm : 0 ≤ up * (b + dn - a) := Int.mul_nonneg h1 (by omega)
      rw [ceilF_floor hm hpos, neg_floor hpos]
      have hq : (a + (up * (b + dn - a) + (up + dn) - 1) / (up + dn) ≤ z) ↔ up * (b + dn - a) ≤ (z - a) * (up + dn) := by
        rw [show (a + (up * (b + dn - a) + (up + dn) - 1) / (up + dn) ≤ z) ↔ (up * (b + dn - a) + (up + dn) - 1) / (up + dn) < z - a + 1 by omega, Int.ediv_lt_iff_lt_mul (by omega), Int.add_mul, Int.one_mul]
        omega
      have e : (z - a) * (up + dn) - up * (b + dn - a) = (z - a) * dn + (z - b) * up - up * dn := by
        simp only [Int.mul_add, Int.mul_sub, Int.sub_mul]
        rw [Int.mul_comm up b, Int.mul_comm up a]
        omega
      rw [hq]
      have k1 : ∀ x y : Int, 0 ≤ x → 0 ≤ y → 0 ≤ x * y := fun x y => Int.mul_nonneg
      constructor
      · intro hx
        refine .inr (.inr ⟨?_, ?_, by omega⟩)
        · rcases Int.lt_or_le z a with hz | hz
          · have := k1 (a - z - 1) (up + dn) (by omega) (by omega)
            rw [Int.sub_mul, Int.sub_mul, Int.one_mul] at this
            rw [Int.sub_mul] at hx
            omega
          · exact hz
        · rcases Int.lt_or_le z b with hz | hz
          · have u1 := k1 (b - z - 1) up (by omega) h1
            have u2 := k1 (up - (z - a) - 1) dn (by omega) h2
            rw [Int.sub_mul, Int.one_mul] at u1 u2
            rw [Int.sub_mul up] at u2
            have : (z - b) * up = -((b - z) * up) := by rw [← Int.neg_mul]; congr 1; omega
            omega
          · exact hz
      · rintro (hx | hx | ⟨_, _, hx⟩)
        · have u1 := k1 (z - a - up) dn (by omega) h2
          have u2 := k1 (z - b) up (by omega) h1
          rw [Int.sub_mul] at u1
          omega
        · have u1 := k1 (z - b - dn) up (by omega) h1
          have u2 := k1 (z - a) dn (by omega) h2
          rw [Int.sub_mul, Int.mul_comm dn up] at u1
          omega
        · omega
theorem peakF_mono {a up b dn a' up' b' dn' : Int} (h1 : 0 ≤ up) (h2 : 0 ≤ dn) (ha : a ≤ a') (hb : b ≤ b') (hu : up ≤ up') (hd : dn ≤ dn') : peakF a up b dn ≤ peakF a' up' b' dn' := by
  have h := (peakF_iff (a := a') (up := up') (b := b') (dn := dn') (z := peakF a' up' b' dn') (by omega) (by omega)).1 (Int.le_refl _)
  generalize peakF a' up' b' dn' = z at *
  rw [peakF_iff h1 h2]
  rcases h with h | h | ⟨h3, h4, h5⟩
  · left; omega
  · right; left; omega
  · right; right
    refine ⟨by omega, by omega, ?_⟩
    have k1 : ∀ x y : Int, 0 ≤ x → 0 ≤ y → 0 ≤ x * y := fun x y => Int.mul_nonneg
    rcases Int.lt_or_le 0 up with u0 | u0
    · rcases Int.lt_or_le 0 dn with d0 | d0
      · -- up dn up' dn' <= up dn (A' dn' + B' up') <= up' dn' (A dn + B up)
        have A : (z - a') * up ≤ (z - a) * up' := by
          have m1 := Int.mul_le_mul_of_nonneg_right (show z - a' ≤ z - a by omega) h1
          have m2 := Int.mul_le_mul_of_nonneg_left hu (show 0 ≤ z - a by omega)
          omega
        have B : (z - b') * dn ≤ (z - b) * dn' := by
          have m1 := Int.mul_le_mul_of_nonneg_right (show z - b' ≤ z - b by omega) h2
          have m2 := Int.mul_le_mul_of_nonneg_left hd (show 0 ≤ z - b by omega)
          omega
        have s1 := Int.mul_le_mul_of_nonneg_left h5 (k1 up dn h1 h2)
        have s2 := Int.mul_le_mul_of_nonneg_right A (k1 dn dn' h2 (by omega))
        have s3 := Int.mul_le_mul_of_nonneg_right B (k1 up up' h1 (by omega))
        have hp : 0 < up' * dn' := Int.mul_pos (by omega) (by omega)
        refine Int.le_of_mul_le_mul_right ?_ hp
        have e1 : up * dn * (up' * dn') ≤ up * dn * ((z - a') * dn' + (z - b') * up') := s1
        have e2 : up * dn * ((z - a') * dn' + (z - b') * up') = (z - a') * up * (dn * dn') + (z - b') * dn * (up * up') := by
          rw [Int.mul_add]
          simp only [Int.mul_assoc, Int.mul_comm, Int.mul_left_comm]
        have e3 : ((z - a) * dn + (z - b) * up) * (up' * dn') = (z - a) * up' * (dn * dn') + (z - b) * dn' * (up * up') := by
          rw [Int.add_mul]
          simp only [Int.mul_assoc, Int.mul_comm, Int.mul_left_comm]
        omega
      · obtain rfl : dn = 0 := by omega
        have := k1 (z - b) up (by omega) h1
        simp only [Int.mul_zero]
        omega
    · obtain rfl : up = 0 := by omega
      have := k1 (z - a) dn (by omega) h2
      simp only [Int.mul_zero, Int.zero_mul]
      omega
theorem bet_mono {a b a' b' : Kn} (h : Tgt p q R R') (ha : KnLe a a') (hb : KnLe b b') : KnLe (betK q a b) (betK p a' b') := by
  have hg := h.g
  have hs := h.s
  have hg0 := h.g0
  have hs0 := h.s0
  intro hsome
  unfold betK at hsome ⊢
  have q1 := peakF_le (a := a.hi) (b := b.hi) hg0 hs0
  have q2 := peakF_le (a := -a.lo) (b := -b.lo) hs0 hg0
  have bf : ∀ x : Bool, x = false ∨ x = true := fun x => by cases x <;> simp
  rcases bf a'.some with ha' | ha'
  · rw [if_pos ha'] at hsome ⊢
    have hb2 := hb hsome
    rcases bf a.some with has | has
    · rw [if_pos has]
      refine ⟨hb2.1, ?_, ?_⟩
      · show b'.lo - p 110 ≤ b.lo - q 110
        omega
      · show b.hi + q 111 ≤ b'.hi + p 111
        omega
    · rw [if_neg (by rw [has]; decide), if_neg (by rw [hb2.1]; decide)]
      refine ⟨rfl, ?_, ?_⟩
      · show b'.lo - p 110 ≤ -peakF _ _ _ _
        omega
      · show peakF _ _ _ _ ≤ b'.hi + p 111
        omega
  · have ha2 := ha ha'
    rw [if_neg (by rw [ha']; decide)] at hsome
    rw [if_neg (by rw [ha2.1]; decide), if_neg (show ¬ a'.some = false by rw [ha']; decide)]
    rcases bf b'.some with hb' | hb'
    · rw [if_pos hb']
      rcases bf b.some with hbs | hbs
      · rw [if_pos hbs]
        refine ⟨ha2.1, ?_, ?_⟩
        · show a'.lo - p 111 ≤ a.lo - q 111
          omega
        · show a.hi + q 110 ≤ a'.hi + p 110
          omega
      · rw [if_neg (by rw [hbs]; decide)]
        refine ⟨rfl, ?_, ?_⟩
        · show a'.lo - p 111 ≤ -peakF _ _ _ _
          omega
        · show peakF _ _ _ _ ≤ a'.hi + p 110
          omega
    · have hb2 := hb hb'
      rw [if_neg (show ¬ b'.some = false by rw [hb']; decide), if_neg (by rw [hb2.1]; decide)]
      have m1 := peakF_mono (a := a.hi) (b := b.hi) (a' := a'.hi) (b' := b'.hi) hg0 hs0 ha2.2.2 hb2.2.2 hg hs
      have m2 := peakF_mono (a := -a.lo) (b := -b.lo) (a' := -a'.lo) (b' := -b'.lo) hs0 hg0 (by omega) (by omega) hs hg
      refine ⟨rfl, ?_, ?_⟩
      · show -peakF _ _ _ _ ≤ -peakF _ _ _ _
        omega
      · exact m1
/-- A second that is accepted is accepted where more is known. -/
theorem good_more (h : Tgt p q R R') {c : Nat → Int} (hc : TrueC q R' c) (hl : q 112 = p 112 ∧ q 113 = p 113) {t : Nat} (ht : (t : Int) + 1 ≤ R.e) (hg : goodB p R t = true) : goodB q R' t = true := by
  have hb := bet_mono h (h.befLe hc t) (h.frmLe hc (t := t + 1) (by omega))
  have e1 : fromK p R t = betK p (befF p R t) (frmF p R (t + 1)) := rfl
  have e2 : fromK q R' t = betK q (befF q R' t) (frmF q R' (t + 1)) := rfl
  rw [← e1, ← e2] at hb
  unfold goodB accB at hg ⊢
  rw [Bool.and_eq_true, Bool.and_eq_true, decide_eq_true_eq, decide_eq_true_eq] at hg ⊢
  obtain ⟨b1, b2, b3⟩ := hb hg.1.1
  rw [hl.1, hl.2]
  exact ⟨⟨b1, by omega⟩, by omega⟩
theorem with_sub {R : Run} (h : VRun R) {x : Smp} (hn : noT R x.t) : ∀ j, j < R.ms.length → ∃ i, i < (withR R x).ms.length ∧ at0 (withR R x).ms i = at0 R.ms j := fun j hj => by
  obtain ⟨m, g1, g2, g3, g4⟩ := with_spot h hn
  rw [with_len]
  rcases Nat.lt_or_ge j m with hjm | hjm
  · exact ⟨j, by omega, by rw [g4, if_pos hjm]⟩
  · exact ⟨j + 1, by omega, by rw [g4, if_neg (by omega), if_neg (by omega), Nat.add_sub_cancel]⟩
theorem with_true {R : Run} (h : VRun R) {c : Nat → Int} (hc : TrueC p R c) {t : Nat} (hn : noT R t) : TrueC p (withR R ⟨t, c t, c t⟩) c where
  up := hc.up
  dn := hc.dn
  sm := fun k hk => by
    obtain ⟨m, g1, g2, g3, g4⟩ := with_spot (x := ⟨t, c t, c t⟩) h hn
    rw [with_len] at hk
    rw [g4]
    split
    · exact hc.sm k (by omega)
    · split
      · show c t ≤ c (Int.toNat (t : Int)) ∧ c (Int.toNat (t : Int)) ≤ c t
        rw [Int.toNat_natCast]
        exact ⟨Int.le_refl _, Int.le_refl _⟩
      · exact hc.sm _ (by omega)
end Go.Proofs.Ytlebefopdnadaaa
