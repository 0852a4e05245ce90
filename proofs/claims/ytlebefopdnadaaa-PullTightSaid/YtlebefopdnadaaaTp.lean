/- Plain laws of the true course: no samples contradict each other, what is known holds it, and the runs of what is accepted. -/
import Derived.Test.YtlebefopdnadaaaHs
namespace Go.Proofs.Ytlebefopdnadaaa
open Go.RowKit
/-- A course c that keeps the speeds and passes through all samples. -/
structure TrueC (p : Vec) (R : Run) (c : Nat → Int) : Prop where
  up : ∀ t, c (t + 1) ≤ c t + p 110
  dn : ∀ t, c t - p 111 ≤ c (t + 1)
  sm : ∀ k, k < R.ms.length → (at0 R.ms k).lo ≤ c (at0 R.ms k).t.toNat ∧ c (at0 R.ms k).t.toNat ≤ (at0 R.ms k).hi
def InK (k : Kn) (x : Int) : Prop := k.some = true → k.lo ≤ x ∧ x ≤ k.hi
theorem inK_meet {k o : Kn} {x : Int} (hk : InK k x) (ho : InK o x) : InK (meetK k o) x := by
  unfold meetK
  split
  · exact hk
  · split
    · exact ho
    · rename_i h1 h2
      have h1 := ho (by simpa using h1)
      have h2 := hk (by simpa using h2)
      intro _
      show max _ _ ≤ _ ∧ _ ≤ min _ _
      omega
theorem inK_later {k : Kn} {x y g s : Int} (hk : InK k x) (h1 : x - s ≤ y) (h2 : y ≤ x + g) : InK (laterK k g s) y := fun h => by
  have := hk h
  show k.lo - s ≤ y ∧ y ≤ k.hi + g
  omega
variable {p : Vec} {R : Run} {c : Nat → Int}
theorem inK_seen (h : TrueC p R c) (t : Nat) : ∀ j, j ≤ R.ms.length → InK (seenK R j t) (c t)
  | 0, _ => fun h => by cases h
  | j + 1, hj => by
    show InK (updK _ _ _ t) _
    unfold updK
    split
    · rename_i e
      intro _
      have := h.sm j (by omega)
      rw [e]; exact this
    · exact inK_seen h t j (by omega)
theorem inK_bef (h : TrueC p R c) : ∀ t, InK (befF p R t) (c t)
  | 0 => inK_seen h 0 _ (Nat.le_refl _)
  | t + 1 => inK_meet (inK_seen h _ _ (Nat.le_refl _)) (inK_later (inK_bef h t) (h.dn t) (h.up t))
theorem inK_frmD (h : TrueC p R c) : ∀ d, d ≤ R.e.toNat → InK (frmD p R d) (c (R.e.toNat - d))
  | 0, _ => inK_seen h _ _ (Nat.le_refl _)
  | d + 1, hd => by
    refine inK_meet (inK_seen h _ _ (Nat.le_refl _)) (inK_later (inK_frmD h d (by omega)) ?_ ?_)
    · have := h.up (R.e.toNat - (d + 1))
      rw [show R.e.toNat - (d + 1) + 1 = R.e.toNat - d by omega] at this
      omega
    · have := h.dn (R.e.toNat - (d + 1))
      rw [show R.e.toNat - (d + 1) + 1 = R.e.toNat - d by omega] at this
      omega
theorem inK_frm (h : TrueC p R c) {t : Nat} (ht : t ≤ R.e.toNat) : InK (frmF p R t) (c t) := by
  have := inK_frmD h (R.e.toNat - t) (by omega)
  rwa [show R.e.toNat - (R.e.toNat - t) = t by omega] at this
theorem inK_at (h : TrueC p R c) {t : Nat} (ht : t ≤ R.e.toNat) : InK (atK p R t) (c t) := inK_meet (inK_bef h t) (inK_frm h ht)
theorem peakF_ge {a up b dn x : Int} (h1 : 0 ≤ up) (h2 : 0 ≤ dn) (h : (x ≤ a ∧ x ≤ b + dn) ∨ (x ≤ b ∧ x ≤ a + up)) : x ≤ peakF a up b dn := by
  unfold peakF
  split
  · omega
  · split
    · omega
    · rename_i h3 h4
      have hpos : 1 ≤ up + dn := by omega
      have hm : 0 ≤ up * (b + dn - a) := Int.mul_nonneg h1 (by omega)
      have hc := ceilF_floor hm hpos
      rw [hc, neg_floor hpos]
      rcases Int.lt_or_le a x with hx | hx
      · have hxb : x ≤ b := by omega
        have hk : (b - a) * (up + dn) ≤ up * (b + dn - a) := by
          have e : up * (b + dn - a) = (b - a) * (up + dn) + dn * (up - (b - a)) := by
            simp only [Int.mul_sub, Int.sub_mul, Int.mul_add]
            rw [Int.mul_comm up b, Int.mul_comm up a, Int.mul_comm up dn, Int.mul_comm dn b, Int.mul_comm dn a]
            omega
          have := Int.mul_nonneg h2 (show 0 ≤ up - (b - a) by omega)
          omega
        have : b - a ≤ (up * (b + dn - a) + (up + dn) - 1) / (up + dn) := by
          rw [Int.le_ediv_iff_mul_le (by omega)]
          omega
        omega
      · have : 0 ≤ (up * (b + dn - a) + (up + dn) - 1) / (up + dn) := Int.ediv_nonneg (by omega) (by omega)
        omega
theorem peakF_le {a up b dn : Int} (h1 : 0 ≤ up) (h2 : 0 ≤ dn) : peakF a up b dn ≤ a + up ∧ peakF a up b dn ≤ b + dn := by
  unfold peakF
  split
  · omega
  · split
    · omega
    · rename_i h3 h4
      have hpos : 1 ≤ up + dn := by omega
      have hm : 0 ≤ up * (b + dn - a) := Int.mul_nonneg h1 (by omega)
      have hc := ceilF_floor hm hpos
      rw [hc, neg_floor hpos]
      have a1 : (up * (b + dn - a) + (up + dn) - 1) / (up + dn) ≤ up := by
        rw [← Int.lt_add_one_iff, Int.ediv_lt_iff_lt_mul (by omega)]
        have e : (up + 1) * (up + dn) = up * (b + dn - a) + up * (up + a - b) + up + dn := by
          simp only [Int.mul_sub, Int.mul_add, Int.add_mul, Int.one_mul]
          omega
        have := Int.mul_nonneg h1 (show 0 ≤ up + a - b by omega)
        omega
      have a2 : (up * (b + dn - a) + (up + dn) - 1) / (up + dn) ≤ b + dn - a := by
        rw [← Int.lt_add_one_iff, Int.ediv_lt_iff_lt_mul (by omega)]
        have e : (b + dn - a + 1) * (up + dn) = up * (b + dn - a) + dn * (b + dn - a) + up + dn := by
          rw [Int.add_mul, Int.mul_add, Int.one_mul, Int.mul_comm (b + dn - a) up, Int.mul_comm (b + dn - a) dn]
          omega
        have := Int.mul_nonneg h2 (show 0 ≤ b + dn - a by omega)
        omega
      omega
theorem inK_bet {a b : Kn} {x y : Int} (h1 : 0 ≤ p 110) (h2 : 0 ≤ p 111) (ha : InK a x) (hb : InK b y) (hu : y ≤ x + p 110) (hd : x - p 111 ≤ y) : InK (betK p a b) x ∧ InK (betK p a b) y := by
  unfold betK
  split
  · exact ⟨inK_later hb (by omega) (by omega), inK_later hb (by omega) (by omega)⟩
  · split
    · exact ⟨inK_later ha (by omega) (by omega), inK_later ha (by omega) (by omega)⟩
    · rename_i g1 g2
      have g1 := ha (by simpa using g1)
      have g2 := hb (by simpa using g2)
      have p1 := peakF_ge (a := a.hi) (b := b.hi) (x := x) h1 h2 (.inl (by omega))
      have p2 := peakF_ge (a := a.hi) (b := b.hi) (x := y) h1 h2 (.inr (by omega))
      have p3 := peakF_ge (a := -a.lo) (b := -b.lo) (x := -x) h2 h1 (.inl (by omega))
      have p4 := peakF_ge (a := -a.lo) (b := -b.lo) (x := -y) h2 h1 (.inr (by omega))
      constructor <;> (intro _; show -peakF _ _ _ _ ≤ _ ∧ _ ≤ peakF _ _ _ _; omega)
theorem inK_from (h : TrueC p R c) (h1 : 0 ≤ p 110) (h2 : 0 ≤ p 111) {t : Nat} (ht : t + 1 ≤ R.e.toNat) : InK (fromK p R t) (c t) ∧ InK (fromK p R t) (c (t + 1)) :=
  inK_bet h1 h2 (inK_bef h t) (inK_frm h ht) (h.up t) (h.dn t)
theorem course_far (h : TrueC p R c) (s : Nat) : ∀ d : Nat, c (s + d) ≤ c s + p 110 * (d : Int) ∧ c s - p 111 * (d : Int) ≤ c (s + d)
  | 0 => by simp
  | d + 1 => by
    have := course_far h s d
    have h1 := h.up (s + d)
    have h2 := h.dn (s + d)
    rw [show s + (d + 1) = s + d + 1 by omega]
    rw [show ((d + 1 : Nat) : Int) = (d : Int) + 1 from rfl, Int.mul_add, Int.mul_add, Int.mul_one, Int.mul_one]
    omega
theorem conf_true (h : TrueC p R c) (hv : VRun R) : conf p R = none := by
  unfold conf
  refine findSome_no fun j hj => ?_
  have : confI p R j = none := by
    unfold confI
    refine find_no fun i hi => ?_
    have hlt := hv.mle hi hj
    have h0 := (hv.mt i (by omega)).1
    have a1 := h.sm i (by omega)
    have a2 := h.sm j hj
    have f := course_far h (at0 R.ms i).t.toNat ((at0 R.ms j).t.toNat - (at0 R.ms i).t.toNat)
    rw [show (at0 R.ms i).t.toNat + ((at0 R.ms j).t.toNat - (at0 R.ms i).t.toNat) = (at0 R.ms j).t.toNat by omega] at f
    rw [show (((at0 R.ms j).t.toNat - (at0 R.ms i).t.toNat : Nat) : Int) = (at0 R.ms j).t - (at0 R.ms i).t by omega] at f
    unfold agB
    rw [Bool.or_eq_false_iff]
    exact ⟨decide_eq_false (by omega), decide_eq_false (by omega)⟩
  rw [this]; rfl
/-- What is known at two seconds, and from the first to the second one. -/
theorem from_lies (h1 : 0 ≤ p 110) (h2 : 0 ≤ p 111) {t : Nat} (ht : t + 1 ≤ R.e.toNat) (hx : (atK p R t).some = true) (hz : (atK p R (t + 1)).some = true) :
    (fromK p R t).lo ≤ min (atK p R t).lo (atK p R (t + 1)).lo ∧ max (atK p R t).hi (atK p R (t + 1)).hi ≤ (fromK p R t).hi ∧
    min (atK p R t).lo (atK p R (t + 1)).lo - p 110 - p 111 ≤ (fromK p R t).lo ∧ (fromK p R t).hi ≤ max (atK p R t).hi (atK p R (t + 1)).hi + p 110 + p 111 := by
  have ef : frmF p R t = meetK (seenF R t) (laterK (frmF p R (t + 1)) (p 111) (p 110)) := by
    unfold frmF
    rw [show R.e.toNat - t = R.e.toNat - (t + 1) + 1 by omega]
    show meetK (seenF R (R.e.toNat - (R.e.toNat - (t + 1) + 1))) _ = _
    rw [show R.e.toNat - (R.e.toNat - (t + 1) + 1) = t by omega]
  have eb : befF p R (t + 1) = meetK (seenF R (t + 1)) (laterK (befF p R t) (p 110) (p 111)) := rfl
  have sa : (seenF R t).some = true → (befF p R t).some = true ∧ (seenF R t).lo ≤ (befF p R t).lo ∧ (befF p R t).hi ≤ (seenF R t).hi := fun hs => by
    cases t with
    | zero => exact ⟨hs, Int.le_refl _, Int.le_refl _⟩
    | succ t =>
      have e : befF p R (t + 1) = meetK (seenF R (t + 1)) (laterK (befF p R t) (p 110) (p 111)) := rfl
      rw [e]
      unfold meetK
      split
      · exact ⟨hs, Int.le_refl _, Int.le_refl _⟩
      · rw [if_neg (by rw [hs]; decide)]
        exact ⟨rfl, by show _ ≤ max _ _; omega, by show min _ _ ≤ _; omega⟩
  have sb : (seenF R (t + 1)).some = true → (frmF p R (t + 1)).some = true ∧ (seenF R (t + 1)).lo ≤ (frmF p R (t + 1)).lo ∧ (frmF p R (t + 1)).hi ≤ (seenF R (t + 1)).hi := fun hs => by
    unfold frmF
    rcases Nat.eq_zero_or_pos (R.e.toNat - (t + 1)) with h0 | h0
    · have e : frmD p R (R.e.toNat - (t + 1)) = seenF R (t + 1) := by rw [h0]; show seenF R R.e.toNat = _; rw [show R.e.toNat = t + 1 by omega]
      rw [e]
      exact ⟨hs, Int.le_refl _, Int.le_refl _⟩
    · obtain ⟨d, hd⟩ : ∃ d, R.e.toNat - (t + 1) = d + 1 := ⟨R.e.toNat - (t + 1) - 1, by omega⟩
      rw [hd]
      have e : frmD p R (d + 1) = meetK (seenF R (t + 1)) (laterK (frmD p R d) (p 111) (p 110)) := by
        show meetK (seenF R (R.e.toNat - (d + 1))) _ = _
        rw [show R.e.toNat - (d + 1) = t + 1 by omega]
      rw [e]
      unfold meetK
      split
      · exact ⟨hs, Int.le_refl _, Int.le_refl _⟩
      · rw [if_neg (by rw [hs]; decide)]
        exact ⟨rfl, by show _ ≤ max _ _; omega, by show min _ _ ≤ _; omega⟩
  unfold atK at hx hz ⊢
  rw [ef] at hx ⊢
  rw [eb] at hz ⊢
  unfold fromK
  generalize befF p R t = a at *
  generalize frmF p R (t + 1) = b at *
  generalize seenF R t = u at *
  generalize seenF R (t + 1) = v at *
  have q1 := peakF_le (a := a.hi) (b := b.hi) h1 h2
  have q2 := peakF_le (a := -a.lo) (b := -b.lo) h2 h1
  have q3 := fun x => peakF_ge (a := a.hi) (b := b.hi) (x := x) h1 h2
  have q4 := fun x => peakF_ge (a := -a.lo) (b := -b.lo) (x := x) h2 h1
  have g1 := q3 (min a.hi (b.hi + p 111)) (.inl (by omega))
  have g2 := q3 (min b.hi (a.hi + p 110)) (.inr (by omega))
  have g3 := q4 (min (-a.lo) (-b.lo + p 110)) (.inl (by omega))
  have g4 := q4 (min (-b.lo) (-a.lo + p 111)) (.inr (by omega))
  clear q3 q4 ef eb
  rcases a with ⟨al, ah, _ | _⟩ <;> rcases b with ⟨bl, bh, _ | _⟩ <;> rcases u with ⟨ul, uh, _ | _⟩ <;> rcases v with ⟨vl, vh, _ | _⟩ <;>
    simp [meetK, laterK, betK] at * <;> omega
end Go.Proofs.Ytlebefopdnadaaa
