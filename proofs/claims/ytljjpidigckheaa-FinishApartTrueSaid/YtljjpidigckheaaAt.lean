/- The plain law of FinishApartTrue. -/
import Derived.Test.YtljjpidigckheaaOdp
import Derived.Test.YtljjpidigckheaaPlc
namespace Go.Proofs.Ytljjpidigckheaa.Un
open Go.RowKit
/-- The sum over a list of batches up to its m-th one. -/
def smI (t : Nat → Int) (l : List Int) : Nat → Int
  | 0 => 0 | m + 1 => smI t l m + t (at0 l m).toNat
/-- The sum of t over the batches below k that are in a list. -/
def smK (t : Nat → Int) (l : List Int) : Nat → Int
  | 0 => 0 | k + 1 => smK t l k + if (k : Int) ∈ l then t k else 0
theorem smK_add {t : Nat → Int} {l : List Int} {x : Nat} (hx : (x : Int) ∉ l) : ∀ k, smK t (l ++ [(x : Int)]) k = smK t l k + if x < k then t x else 0
  | 0 => by simp [smK]
  | k + 1 => by
    have ih := smK_add (t := t) hx k
    show smK t (l ++ [(x : Int)]) k + (if (k : Int) ∈ l ++ [(x : Int)] then t k else 0) = smK t l k + (if (k : Int) ∈ l then t k else 0) + if x < k + 1 then t x else 0
    rw [ih]
    by_cases h : x = k
    · subst h
      have m : (x : Int) ∈ l ++ [(x : Int)] := by simp
      rw [if_pos m, if_neg hx, if_neg (show ¬ x < x by omega), if_pos (show x < x + 1 by omega)]
    · have m : ((k : Int) ∈ l ++ [(x : Int)]) = ((k : Int) ∈ l) := by
        apply propext
        rw [List.mem_append]
        refine ⟨fun hq => hq.elim id fun h2 => ?_, Or.inl⟩
        rw [List.mem_singleton] at h2
        omega
      simp only [m]
      by_cases h3 : x < k
      · rw [if_pos h3, if_pos (show x < k + 1 by omega)]; omega
      · rw [if_neg h3, if_neg (show ¬ x < k + 1 by omega)]; omega
theorem smK_nil (t : Nat → Int) : ∀ k, smK t [] k = 0
  | 0 => rfl
  | k + 1 => by unfold smK; rw [smK_nil t k, if_neg (by simp)]; rfl
theorem smI_take {t : Nat → Int} {l : List Int} {n : Nat} (hq : trQ n l l.length = true) : ∀ m, m ≤ l.length → smI t l m = smK t (l.take m) n
  | 0, _ => (smK_nil t n).symm
  | m + 1, h => by
    have hb := trB_iff.1 (trQ_iff.1 hq m (by omega))
    obtain ⟨x, hx⟩ : ∃ x : Nat, at0 l m = x := ⟨(at0 l m).toNat, by omega⟩
    unfold smI
    have hn := not_take hq (show m < l.length by omega)
    rw [take_snoc (show m < l.length by omega), hx, smK_add (by rw [← hx]; exact hn), smI_take hq m (by omega), if_pos (by omega), Int.toNat_natCast]
theorem smI_all {t : Nat → Int} {l : List Int} {n : Nat} (hq : trQ n l l.length = true) : smI t l l.length = smK t l n := by
  rw [smI_take hq _ (Nat.le_refl _), List.take_length]
theorem smI_bd {t : Nat → Int} {l : List Int} (ht : ∀ k, 0 ≤ t k ∧ t k ≤ 10000000) : ∀ m : Nat, 0 ≤ smI t l m ∧ smI t l m ≤ 10000000 * (m : Int)
  | 0 => ⟨Int.le_refl _, Int.le_refl _⟩
  | m + 1 => by
    have ih := smI_bd (l := l) ht m
    have h1 := ht (at0 l m).toNat
    show 0 ≤ smI t l m + t (at0 l m).toNat ∧ smI t l m + t (at0 l m).toNat ≤ _
    omega
theorem apE_ok {bs : List Rng} {a b : Trt} (h : apE bs a b = 0) : bs.length ≤ 60 ∧ all9 0 10000000 bs = true ∧ trtOk bs.length a = true ∧ trtOk bs.length b = true := by
  unfold apE at h
  by_cases h1 : 60 < bs.length
  · rw [if_pos h1] at h; cases h
  rw [if_neg h1] at h
  rcases h2 : all9 0 10000000 bs with _ | _
  · rw [h2] at h; cases h
  rcases h3 : trtOk bs.length a with _ | _
  · rw [h2, h3] at h; cases h
  rcases h4 : trtOk bs.length b with _ | _
  · rw [h2, h3, h4] at h; cases h
  exact ⟨by omega, rfl, rfl, rfl⟩
theorem apE_of {bs : List Rng} {a b : Trt} (h : bs.length ≤ 60 ∧ all9 0 10000000 bs = true ∧ trtOk bs.length a = true ∧ trtOk bs.length b = true) : apE bs a b = 0 := by
  unfold apE
  rw [if_neg (by omega), h.2.1, h.2.2.1, h.2.2.2]
  rfl
theorem apE_sym (bs : List Rng) (a b : Trt) : apE bs b a = apE bs a b := by
  unfold apE
  rw [Bool.and_comm (trtOk bs.length b)]
theorem trtOk_iff {n : Nat} {t : Trt} : trtOk n t = true ↔ trQ n t.b t.b.length = true ∧ 0 ≤ t.s.lo ∧ t.s.lo ≤ t.s.hi ∧ t.s.hi ≤ 10000000 := by
  unfold trtOk
  rw [Bool.and_eq_true, spn9_iff]
theorem rfA_true {bs : List Rng} {a b : Trt} (h : apE bs a b = 0) {t : Nat → Int} (ht : ∀ k, k < bs.length → (at0 bs k).lo ≤ t k ∧ t k ≤ (at0 bs k).hi) {x y : Int} (hx : a.s.lo ≤ x ∧ x ≤ a.s.hi) (hy : b.s.lo ≤ y ∧ y ≤ b.s.hi) :
    ∀ k, k ≤ bs.length → (rfA bs a b k).lo ≤ (x - smK t a.b k) - (y - smK t b.b k) ∧ (x - smK t a.b k) - (y - smK t b.b k) ≤ (rfA bs a b k).hi
  | 0, _ => by simp [rfA, SmL, Sm, smK]; omega
  | k + 1, hk => by
    have ih := rfA_true h ht hx hy k (by omega)
    have h1 := ht k (by omega)
    unfold smK
    by_cases ha : (k : Int) ∈ a.b
    · by_cases hb : (k : Int) ∈ b.b
      · rw [rfA_n (by rw [decide_eq_true ha, decide_eq_true hb]), if_pos ha, if_pos hb]; omega
      · rw [rfA_a (decide_eq_true ha) (decide_eq_false hb), if_pos ha, if_neg hb]; simp only; omega
    · by_cases hb : (k : Int) ∈ b.b
      · rw [rfA_b (decide_eq_false ha) (decide_eq_true hb), if_neg ha, if_pos hb]; simp only; omega
      · rw [rfA_n (by rw [decide_eq_false ha, decide_eq_false hb]), if_neg ha, if_neg hb]; omega
theorem apart_true {bs : List Rng} {a b : Trt} (h : apE bs a b = 0) {t : Nat → Int} (ht : ∀ k, k < bs.length → (at0 bs k).lo ≤ t k ∧ t k ≤ (at0 bs k).hi) {x y : Int} (hx : a.s.lo ≤ x ∧ x ≤ a.s.hi) (hy : b.s.lo ≤ y ∧ y ≤ b.s.hi) :
    (apX bs a b).lo ≤ (x - smI t a.b a.b.length) - (y - smI t b.b b.b.length) ∧ (x - smI t a.b a.b.length) - (y - smI t b.b b.b.length) ≤ (apX bs a b).hi := by
  have ho := apE_ok h
  rw [smI_all (trtOk_iff.1 ho.2.2.1).1, smI_all (trtOk_iff.1 ho.2.2.2).1, ← rfA_end h]
  exact rfA_true h ht hx hy _ (Nat.le_refl _)
theorem rfA_sym {bs : List Rng} {a b : Trt} : ∀ k, rfA bs b a k = ⟨-(rfA bs a b k).hi, -(rfA bs a b k).lo⟩
  | 0 => by simp only [rfA, SmL, Sm]; congr 1 <;> omega
  | k + 1 => by
    have ih := rfA_sym (bs := bs) (a := a) (b := b) k
    by_cases ha : (k : Int) ∈ a.b
    · by_cases hb : (k : Int) ∈ b.b
      · rw [rfA_n (by rw [decide_eq_true ha, decide_eq_true hb]), rfA_n (by rw [decide_eq_true ha, decide_eq_true hb]), ih]
      · rw [rfA_b (decide_eq_false hb) (decide_eq_true ha), rfA_a (decide_eq_true ha) (decide_eq_false hb), ih]; simp only; congr 1 <;> omega
    · by_cases hb : (k : Int) ∈ b.b
      · rw [rfA_a (decide_eq_true hb) (decide_eq_false ha), rfA_b (decide_eq_false ha) (decide_eq_true hb), ih]; simp only; congr 1 <;> omega
      · rw [rfA_n (by rw [decide_eq_false ha, decide_eq_false hb]), rfA_n (by rw [decide_eq_false ha, decide_eq_false hb]), ih]
theorem apart_sym {bs : List Rng} {a b : Trt} (h : apE bs a b = 0) : apX bs b a = ⟨-(apX bs a b).hi, -(apX bs a b).lo⟩ := by
  rw [← rfA_end h, ← rfA_end (by rw [apE_sym]; exact h), rfA_sym]
theorem at0_ap9 {α : Type} [Inhabited α] (l r : List α) {k : Nat} (hk : k < l.length) : at0 (l ++ r) k = at0 l k := by
  rw [at0_get (by rw [List.length_append]; omega), at0_get hk, List.getElem_append_left]
theorem at0_la9 {α : Type} [Inhabited α] (l : List α) (x : α) : at0 (l ++ [x]) l.length = x := by
  rw [at0_get (by rw [List.length_append]; simp)]; simp
theorem trQ_more {n : Nat} {l : List Int} (h : trQ n l l.length = true) : trQ (n + 1) (l ++ [(n : Int)]) (l ++ [(n : Int)]).length = true := trQ_iff.2 fun k hk => by
  rw [List.length_append] at hk
  have hk : k < l.length + 1 := hk
  by_cases h1 : k < l.length
  · have hb := trB_iff.1 (trQ_iff.1 h k h1)
    refine trB_iff.2 ⟨by rw [at0_ap9 _ _ h1]; exact hb.1, by rw [at0_ap9 _ _ h1]; omega, ?_⟩
    rcases Nat.eq_zero_or_pos k with h0 | h0
    · exact .inl h0
    · right
      rw [at0_ap9 _ _ h1, at0_ap9 _ _ (by omega)]
      rcases hb.2.2 with h2 | h2
      · omega
      · exact h2
  · obtain rfl : k = l.length := by omega
    refine trB_iff.2 ⟨by rw [at0_la9]; omega, by rw [at0_la9]; omega, ?_⟩
    rcases Nat.eq_zero_or_pos l.length with h0 | h0
    · exact .inl h0
    · right
      rw [at0_la9, at0_ap9 _ _ (by omega)]
      exact (trB_iff.1 (trQ_iff.1 h (l.length - 1) (by omega))).2.1
theorem more_ok {bs : List Rng} {a b : Trt} (h : apE bs a b = 0) (hn : bs.length < 60) {r : Rng} (hr : spn9 r 0 10000000 = true) : apE (bs ++ [r]) ⟨a.s, a.b ++ [(bs.length : Int)]⟩ ⟨b.s, b.b ++ [(bs.length : Int)]⟩ = 0 := by
  have ho := apE_ok h
  refine apE_of ⟨by rw [List.length_append]; show bs.length + 1 ≤ 60; omega, all9_snoc ho.2.1 hr, ?_, ?_⟩
  · rw [List.length_append]
    exact trtOk_iff.2 ⟨trQ_more (trtOk_iff.1 ho.2.2.1).1, (trtOk_iff.1 ho.2.2.1).2⟩
  · rw [List.length_append]
    exact trtOk_iff.2 ⟨trQ_more (trtOk_iff.1 ho.2.2.2).1, (trtOk_iff.1 ho.2.2.2).2⟩
theorem more_rf {bs : List Rng} {a b : Trt} {r : Rng} : ∀ k, k ≤ bs.length → rfA (bs ++ [r]) ⟨a.s, a.b ++ [(bs.length : Int)]⟩ ⟨b.s, b.b ++ [(bs.length : Int)]⟩ k = rfA bs a b k
  | 0, _ => by simp only [rfA, SmL, Sm]
  | k + 1, hk => by
    have ih := more_rf (bs := bs) (a := a) (b := b) (r := r) k (by omega)
    have m : ∀ l : List Int, ((k : Int) ∈ l ++ [(bs.length : Int)]) = ((k : Int) ∈ l) := fun l => by
      apply propext
      rw [List.mem_append]
      constructor
      · rintro (h | h)
        · exact h
        · rw [List.mem_singleton] at h; omega
      · exact Or.inl
    by_cases ha : (k : Int) ∈ a.b
    · by_cases hb : (k : Int) ∈ b.b
      · rw [rfA_n (by simp only [m, ha, hb]), rfA_n (by rw [decide_eq_true ha, decide_eq_true hb]), ih]
      · rw [rfA_a (by simp only [m, ha, decide_true]) (by simp only [m, hb, decide_false]), rfA_a (decide_eq_true ha) (decide_eq_false hb), ih, at0_ap9 _ _ (by omega)]
    · by_cases hb : (k : Int) ∈ b.b
      · rw [rfA_b (by simp only [m, ha, decide_false]) (by simp only [m, hb, decide_true]), rfA_b (decide_eq_false ha) (decide_eq_true hb), ih, at0_ap9 _ _ (by omega)]
      · rw [rfA_n (by simp only [m, ha, hb]), rfA_n (by rw [decide_eq_false ha, decide_eq_false hb]), ih]
theorem apart_more {bs : List Rng} {a b : Trt} (h : apE bs a b = 0) (hn : bs.length < 60) {r : Rng} (hr : spn9 r 0 10000000 = true) : apX (bs ++ [r]) ⟨a.s, a.b ++ [(bs.length : Int)]⟩ ⟨b.s, b.b ++ [(bs.length : Int)]⟩ = apX bs a b := by
  rw [← rfA_end (more_ok h hn hr), ← rfA_end h, List.length_append]
  show rfA _ _ _ (bs.length + 1) = _
  rw [rfA_n (by simp), more_rf _ (Nat.le_refl _)]
end Go.Proofs.Ytljjpidigckheaa.Un
