/- The plain law of UnitsAllResults, for each of the four operations. -/
import Derived.Test.YtmadlmmfbpmebaaPx
namespace Go.Proofs.Ytmadlmmfbpmebaa
open Go.RowKit
theorem mul_ends {p q x : Int} (y : Int) (h : p ≤ x ∧ x ≤ q) : (p * y ≤ x * y ∨ q * y ≤ x * y) ∧ (x * y ≤ p * y ∨ x * y ≤ q * y) := by
  rcases Int.le_total 0 y with hy | hy
  · exact ⟨.inl (Int.mul_le_mul_of_nonneg_right h.1 hy), .inr (Int.mul_le_mul_of_nonneg_right h.2 hy)⟩
  · exact ⟨.inr (Int.mul_le_mul_of_nonpos_right h.2 hy), .inl (Int.mul_le_mul_of_nonpos_right h.1 hy)⟩
theorem fle_same {m n c : Int} (hc : 1 ≤ c) (h : m ≤ n) : fle ⟨m, c⟩ ⟨n, c⟩ := Int.mul_le_mul_of_nonneg_right h (by simp only; omega)
def tmV (a b : Rng) (c : Int) : List Frc := [⟨a.hi * b.hi, c⟩, ⟨a.hi * b.lo, c⟩, ⟨a.lo * b.hi, c⟩, ⟨a.lo * b.lo, c⟩]
theorem tm_btw {a b : Rng} {x y c : Int} (hx : a.lo ≤ x ∧ x ≤ a.hi) (hy : b.lo ≤ y ∧ y ≤ b.hi) (hc : 1 ≤ c) : (∃ v ∈ tmV a b c, fle v ⟨x * y, c⟩) ∧ ∃ v ∈ tmV a b c, fle ⟨x * y, c⟩ v := by
  have h1 := mul_ends y hx
  have h2 := mul_ends a.lo hy
  have h3 := mul_ends a.hi hy
  rw [Int.mul_comm b.lo, Int.mul_comm b.hi, Int.mul_comm y] at h2 h3
  constructor
  · rcases h1.1 with h | h
    · rcases h2.1 with g | g
      · exact ⟨⟨a.lo * b.lo, c⟩, by simp [tmV], fle_same hc (by omega)⟩
      · exact ⟨⟨a.lo * b.hi, c⟩, by simp [tmV], fle_same hc (by omega)⟩
    · rcases h3.1 with g | g
      · exact ⟨⟨a.hi * b.lo, c⟩, by simp [tmV], fle_same hc (by omega)⟩
      · exact ⟨⟨a.hi * b.hi, c⟩, by simp [tmV], fle_same hc (by omega)⟩
  · rcases h1.2 with h | h
    · rcases h2.2 with g | g
      · exact ⟨⟨a.lo * b.lo, c⟩, by simp [tmV], fle_same hc (by omega)⟩
      · exact ⟨⟨a.lo * b.hi, c⟩, by simp [tmV], fle_same hc (by omega)⟩
    · rcases h3.2 with g | g
      · exact ⟨⟨a.hi * b.lo, c⟩, by simp [tmV], fle_same hc (by omega)⟩
      · exact ⟨⟨a.hi * b.hi, c⟩, by simp [tmV], fle_same hc (by omega)⟩
structure Sub (a A : Rng) : Prop where
  lo : A.lo ≤ a.lo
  mid : a.lo ≤ a.hi
  hi : a.hi ≤ A.hi
theorem Sub.ok {a A : Rng} (h : Sub a A) (hA : rngOk A = true) : rngOk a = true := by
  have := rngOk_iff.1 hA
  obtain ⟨h1, h2, h3⟩ := h
  exact rngOk_iff.2 (by omega)
theorem less_part {A B a b X : Rng} (h : leF A B = (X, 0)) (ha : Sub a A) (hb : Sub b B) : leF a b = (⟨a.lo - b.hi, a.hi - b.lo⟩, 0) ∧ insB ⟨a.lo - b.hi, a.hi - b.lo⟩ X = true := by
  unfold leF fiF at h ⊢
  split at h
  · rename_i hk
    obtain ⟨k1, k2⟩ := Bool.and_eq_true_iff.1 hk
    split at h
    · rename_i hn
      obtain ⟨n1, n2⟩ := Bool.and_eq_true_iff.1 hn
      have m1 := numB_iff.1 n1
      have m2 := numB_iff.1 n2
      injection h with hX _
      obtain ⟨a1, a2, a3⟩ := ha
      obtain ⟨b1, b2, b3⟩ := hb
      rw [Sub.ok ⟨a1, a2, a3⟩ k1, Sub.ok ⟨b1, b2, b3⟩ k2, numB_iff.2 (show _ by omega), numB_iff.2 (show _ by omega)]
      refine ⟨rfl, insB_iff.2 ?_⟩
      rw [← hX]
      simp only
      omega
    · injection h with _ h2; cases h2
  · injection h with _ h2; cases h2
theorem times_part {A B a b X : Rng} {c : Int} (h : tmF A B c = (X, 0)) (ha : Sub a A) (hb : Sub b B) : ∃ Y : Rng, tmF a b c = (Y, 0) ∧ insB Y X = true ∧ (-1000000000000000 ≤ c ∧ c ≤ 1000000000000000) ∧ ∀ how, 1 ≤ how ∧ how ≤ 3 → ∃ n r, mdF a.lo b.hi c how = (n, r, 0) ∧ Y.lo ≤ n ∧ n ≤ Y.hi := by
  unfold tmF at h
  split at h
  · rename_i hk
    obtain ⟨k1, k2⟩ := Bool.and_eq_true_iff.1 hk
    split at h
    · rename_i hc
      have r1 := rngOk_iff.1 (ha.ok k1)
      have r2 := rngOk_iff.1 (hb.ok k2)
      obtain ⟨a1, a2, a3⟩ := ha
      obtain ⟨b1, b2, b3⟩ := hb
      obtain ⟨Y, hY, y1, y2, y3, y4⟩ := hull_in (vs := tmV A B c) (ws := tmV a b c) (X := X) (by simp [tmV]; omega) (by
        intro w hw
        simp only [tmV, List.mem_cons, List.not_mem_nil, or_false] at hw
        rcases hw with rfl | rfl | rfl | rfl
        all_goals exact ⟨by simp only; omega, tm_btw (by omega) (by omega) (by omega)⟩) (by simp [tmV]) (by simp [tmV]) h
      obtain ⟨_, hYe, n1, n2⟩ := re_ok hY
      refine ⟨Y, ?_, insB_iff.2 ⟨y1, y3, y2⟩, by omega, fun how hh => ?_⟩
      · unfold tmF
        rw [Sub.ok ⟨a1, a2, a3⟩ k1, Sub.ok ⟨b1, b2, b3⟩ k2, if_pos (by rfl), if_pos hc]
        exact hY
      · have := y4 ⟨a.lo * b.hi, c⟩ (by simp [tmV])
        exact md_in hh (numB_iff.2 (by omega)) (numB_iff.2 (by omega)) hc (by rw [hYe]; exact ⟨n1, n2⟩) this
    · injection h with _ h2; cases h2
  · injection h with _ h2; cases h2
def oeV (a b : Rng) (c : Int) : List Frc := [⟨a.hi * c, b.hi⟩, ⟨a.hi * c, b.lo⟩, ⟨a.lo * c, b.hi⟩, ⟨a.lo * c, b.lo⟩]
theorem div_ends {p q y v : Int} (h : p ≤ y ∧ y ≤ q) (_ : 1 ≤ p) : (fle ⟨v, p⟩ ⟨v, y⟩ ∨ fle ⟨v, q⟩ ⟨v, y⟩) ∧ (fle ⟨v, y⟩ ⟨v, p⟩ ∨ fle ⟨v, y⟩ ⟨v, q⟩) := by
  unfold fle
  simp only
  rcases Int.le_total 0 v with hv | hv
  · exact ⟨.inr (Int.mul_le_mul_of_nonneg_left h.2 hv), .inl (Int.mul_le_mul_of_nonneg_left h.1 hv)⟩
  · exact ⟨.inl (Int.mul_le_mul_of_nonpos_left hv h.1), .inr (Int.mul_le_mul_of_nonpos_left hv h.2)⟩
theorem oe_btw {a b : Rng} {x y c : Int} (hx : a.lo ≤ x ∧ x ≤ a.hi) (hy : b.lo ≤ y ∧ y ≤ b.hi) (hc : 1 ≤ c) (hb : 1 ≤ b.lo) : (∃ v ∈ oeV a b c, fle v ⟨x * c, y⟩) ∧ ∃ v ∈ oeV a b c, fle ⟨x * c, y⟩ v := by
  have l1 : fle ⟨a.lo * c, y⟩ ⟨x * c, y⟩ := fle_same (by omega) (Int.mul_le_mul_of_nonneg_right hx.1 (by omega))
  have l2 : fle ⟨x * c, y⟩ ⟨a.hi * c, y⟩ := fle_same (by omega) (Int.mul_le_mul_of_nonneg_right hx.2 (by omega))
  have d1 := div_ends (v := a.lo * c) hy hb
  have d2 := div_ends (v := a.hi * c) hy hb
  constructor
  · rcases d1.1 with g | g
    · exact ⟨⟨a.lo * c, b.lo⟩, by simp [oeV], fle_tr (by simp only; omega) (by simp only; omega) (by simp only; omega) g l1⟩
    · exact ⟨⟨a.lo * c, b.hi⟩, by simp [oeV], fle_tr (by simp only; omega) (by simp only; omega) (by simp only; omega) g l1⟩
  · rcases d2.2 with g | g
    · exact ⟨⟨a.hi * c, b.lo⟩, by simp [oeV], fle_tr (by simp only; omega) (by simp only; omega) (by simp only; omega) l2 g⟩
    · exact ⟨⟨a.hi * c, b.hi⟩, by simp [oeV], fle_tr (by simp only; omega) (by simp only; omega) (by simp only; omega) l2 g⟩
theorem over_part {A B a b X : Rng} {c : Int} (h : oeF A B c = (X, 0)) (ha : Sub a A) (hb : Sub b B) : ∃ Y : Rng, oeF a b c = (Y, 0) ∧ insB Y X = true ∧ (-1000000000000000 ≤ c ∧ c ≤ 1000000000000000) ∧ ∀ how, 1 ≤ how ∧ how ≤ 3 → ∃ n r, mdF a.hi c b.hi how = (n, r, 0) ∧ Y.lo ≤ n ∧ n ≤ Y.hi := by
  unfold oeF at h
  split at h
  · rename_i hk
    obtain ⟨k1, k2⟩ := Bool.and_eq_true_iff.1 hk
    split at h
    · rename_i hc
      have r1 := rngOk_iff.1 (ha.ok k1)
      have r2 := rngOk_iff.1 (hb.ok k2)
      have r3 := rngOk_iff.1 k2
      obtain ⟨a1, a2, a3⟩ := ha
      obtain ⟨b1, b2, b3⟩ := hb
      obtain ⟨Y, hY, y1, y2, y3, y4⟩ := hull_in (vs := oeV A B c) (ws := oeV a b c) (X := X) (by simp [oeV]; omega) (by
        intro w hw
        simp only [oeV, List.mem_cons, List.not_mem_nil, or_false] at hw
        rcases hw with rfl | rfl | rfl | rfl
        all_goals exact ⟨by simp only; omega, oe_btw (by omega) (by omega) (by omega) (by omega)⟩) (by simp [oeV]) (by simp [oeV]) h
      obtain ⟨_, hYe, n1, n2⟩ := re_ok hY
      refine ⟨Y, ?_, insB_iff.2 ⟨y1, y3, y2⟩, by omega, fun how hh => ?_⟩
      · unfold oeF
        rw [Sub.ok ⟨a1, a2, a3⟩ k1, Sub.ok ⟨b1, b2, b3⟩ k2, if_pos (by rfl), if_pos (by omega)]
        exact hY
      · have := y4 ⟨a.hi * c, b.hi⟩ (by simp [oeV])
        exact md_in hh (numB_iff.2 (by omega)) (numB_iff.2 (by omega)) (by omega) (by rw [hYe]; exact ⟨n1, n2⟩) this
    · injection h with _ h2; cases h2
  · injection h with _ h2; cases h2
def scV (a : Rng) (f : Frc) : List Frc := [⟨a.hi * f.n, f.d⟩, ⟨a.lo * f.n, f.d⟩]
theorem scale_part {A a X : Rng} {f : Frc} (h : scF A f = (X, 0)) (ha : Sub a A) : ∃ Y : Rng, scF a f = (Y, 0) ∧ insB Y X = true ∧ fok f = true ∧ ∀ how, 1 ≤ how ∧ how ≤ 3 → ∃ n r, mdF a.lo f.n f.d how = (n, r, 0) ∧ Y.lo ≤ n ∧ n ≤ Y.hi := by
  unfold scF at h
  split at h
  · rename_i hk
    obtain ⟨k1, k2⟩ := Bool.and_eq_true_iff.1 hk
    have hc := fok_iff.1 k2
    have r1 := rngOk_iff.1 (ha.ok k1)
    obtain ⟨a1, a2, a3⟩ := ha
    obtain ⟨Y, hY, y1, y2, y3, y4⟩ := hull_in (vs := scV A f) (ws := scV a f) (X := X) (by simp [scV]; omega) (by
      intro w hw
      simp only [scV, List.mem_cons, List.not_mem_nil, or_false] at hw
      have key : ∀ x, A.lo ≤ x ∧ x ≤ A.hi → (∃ v ∈ scV A f, fle v ⟨x * f.n, f.d⟩) ∧ ∃ v ∈ scV A f, fle ⟨x * f.n, f.d⟩ v := fun x hx => by
        have h1 := mul_ends f.n hx
        constructor
        · rcases h1.1 with g | g
          · exact ⟨⟨A.lo * f.n, f.d⟩, by simp [scV], fle_same hc.2.1 g⟩
          · exact ⟨⟨A.hi * f.n, f.d⟩, by simp [scV], fle_same hc.2.1 g⟩
        · rcases h1.2 with g | g
          · exact ⟨⟨A.lo * f.n, f.d⟩, by simp [scV], fle_same hc.2.1 g⟩
          · exact ⟨⟨A.hi * f.n, f.d⟩, by simp [scV], fle_same hc.2.1 g⟩
      rcases hw with rfl | rfl
      all_goals exact ⟨hc.2.1, key _ (by omega)⟩) (by simp [scV]) (by simp [scV]) h
    obtain ⟨_, hYe, n1, n2⟩ := re_ok hY
    refine ⟨Y, ?_, insB_iff.2 ⟨y1, y3, y2⟩, k2, fun how hh => ?_⟩
    · unfold scF
      rw [Sub.ok ⟨a1, a2, a3⟩ k1, k2, if_pos (by rfl)]
      exact hY
    · have := y4 ⟨a.lo * f.n, f.d⟩ (by simp [scV])
      exact md_in hh (numB_iff.2 (by omega)) (numB_iff.2 (by omega)) hc.2 (by rw [hYe]; exact ⟨n1, n2⟩) this
  · injection h with _ h2; cases h2
end Go.Proofs.Ytmadlmmfbpmebaa
