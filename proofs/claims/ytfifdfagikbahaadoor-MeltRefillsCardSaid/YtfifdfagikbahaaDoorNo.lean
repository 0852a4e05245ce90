/- Numbers by their digits in the base 1000000: plain laws of Sums, product and Compare of the reference. -/
import Derived.Test.YtfifdfagikbahaaDoorBa
namespace Go.Proofs.YtfifdfagikbahaaDoor
/-- The number of some digits, the last ones first. -/
def val : List Nat → Nat
  | [] => 0
  | x :: l => x + 1000000 * val l
def pw (k : Nat) : Nat := 1000000 ^ k
theorem pw_succ (k : Nat) : pw (k + 1) = 1000000 * pw k := by unfold pw; rw [Nat.pow_succ, Nat.mul_comm]
theorem pw_pos (k : Nat) : 1 ≤ pw k := Nat.pos_of_ne_zero (by unfold pw; exact Nat.ne_of_gt (Nat.pow_pos (by decide)))
theorem pw_mono {j k : Nat} (h : j ≤ k) : pw j ≤ pw k := Nat.pow_le_pow_right (by decide) h
theorem val_app_zero : ∀ (l : List Nat), val (l ++ [0]) = val l
  | [] => rfl
  | x :: l => by rw [List.cons_append, val, val, val_app_zero l]
theorem at0_cons {x : Nat} {l : List Nat} {k : Nat} : at0 (x :: l) (k + 1) = at0 l k := rfl
theorem val_set : ∀ (l : List Nat) (k v : Nat), k < l.length → val (l.set k v) + pw k * at0 l k = val l + pw k * v
  | [], k, v, h => absurd h (by simp)
  | x :: l, 0, v, h => by
    show v + 1000000 * val l + pw 0 * x = x + 1000000 * val l + pw 0 * v
    have : pw 0 = 1 := rfl
    rw [this]; omega
  | x :: l, k + 1, v, h => by
    have ih := val_set l k v (Nat.lt_of_succ_lt_succ h)
    show x + 1000000 * val (l.set k v) + pw (k + 1) * at0 l k = x + 1000000 * val l + pw (k + 1) * v
    rw [pw_succ, Nat.mul_assoc, Nat.mul_assoc]
    omega
/-- Every digit is below the base. -/
def Dig (l : List Nat) : Prop := ∀ x, x ∈ l → x < 1000000
theorem val_lt : ∀ (l : List Nat), Dig l → val l < pw l.length
  | [], _ => by decide
  | x :: l, h => by
    have ih := val_lt l fun y hy => h y (List.mem_cons_of_mem _ hy)
    have hx := h x (List.mem_cons_self ..)
    show x + 1000000 * val l < pw (l.length + 1)
    rw [pw_succ]
    omega
/-- The state of the inner loop: one step of long addition with carry. -/
theorem step_val {out : List Nat} {k carry part n : Nat} (hk : k < out.length) :
    val (out.set k ((carry + (at0 out k + part * (n % 1000000))) % 1000000)) + pw (k + 1) * ((carry + (at0 out k + part * (n % 1000000))) / 1000000 + part * (n / 1000000)) = val out + pw k * (carry + part * n) := by
  have h := val_set out k ((carry + (at0 out k + part * (n % 1000000))) % 1000000) hk
  obtain ⟨o, ho⟩ : ∃ o, at0 out k = o := ⟨_, rfl⟩
  rw [ho] at h ⊢
  have hn := Nat.div_add_mod n 1000000
  obtain ⟨q, hq⟩ : ∃ q, n / 1000000 = q := ⟨_, rfl⟩
  obtain ⟨r, hr⟩ : ∃ r, n % 1000000 = r := ⟨_, rfl⟩
  rw [hq, hr] at hn
  rw [hq, hr]
  rw [hr] at h
  have hc := Nat.div_add_mod (carry + (o + part * r)) 1000000
  obtain ⟨c, hcd⟩ : ∃ c, carry + (o + part * r) = c := ⟨_, rfl⟩
  rw [hcd] at h hc ⊢
  obtain ⟨cd, h1⟩ : ∃ x, c / 1000000 = x := ⟨_, rfl⟩
  obtain ⟨cm, h2⟩ : ∃ x, c % 1000000 = x := ⟨_, rfl⟩
  rw [h1, h2] at hc
  rw [h2] at h
  rw [h1, h2]
  have e1 : part * n = part * (1000000 * q) + part * r := by rw [← hn, Nat.mul_add]
  have e2 : pw (k + 1) * (cd + part * q) = pw k * (1000000 * (cd + part * q)) := by rw [pw_succ, Nat.mul_comm 1000000 (pw k), Nat.mul_assoc]
  have e3 : 1000000 * (cd + part * q) = 1000000 * cd + part * (1000000 * q) := by rw [Nat.mul_add, ← Nat.mul_assoc 1000000 part q, Nat.mul_comm 1000000 part, Nat.mul_assoc]
  rw [e2, e3]
  have e4 : pw k * (carry + part * n) + pw k * o = pw k * (1000000 * cd + part * (1000000 * q)) + pw k * cm := by
    rw [← Nat.mul_add, ← Nat.mul_add, e1]
    congr 1
    omega
  omega
theorem Dig.set {l : List Nat} {k v : Nat} (h : Dig l) (hv : v < 1000000) : Dig (l.set k v) := fun x hx => by
  rcases List.mem_or_eq_of_mem_set hx with h1 | h1
  · exact h x h1
  · rw [h1]; exact hv
theorem Dig.app {l : List Nat} (h : Dig l) : Dig (l ++ [0]) := fun x hx => by
  rcases List.mem_append.1 hx with h1 | h1
  · exact h x h1
  · simp at h1; omega
theorem Dig.at {l : List Nat} (h : Dig l) {k : Nat} (hk : k < l.length) : at0 l k < 1000000 := by
  rw [at0_get hk]; exact h _ (List.getElem_mem hk)
/-- The value of the digits from k on. -/
theorem val_drop : ∀ (l : List Nat) (k : Nat), k < l.length → val (l.drop k) = at0 l k + 1000000 * val (l.drop (k + 1))
  | [], k, h => absurd h (by simp)
  | x :: l, 0, h => rfl
  | x :: l, k + 1, h => by
    have := val_drop l k (Nat.lt_of_succ_lt_succ h)
    simpa [at0_cons] using this
/-- Comparing from the top digit down. -/
def dAt (l : List Nat) (k : Nat) : Nat := if k < l.length then at0 l k else 0
theorem dAt_lt {l : List Nat} (h : Dig l) (k : Nat) : dAt l k < 1000000 := by
  unfold dAt
  split
  · exact h.at (by assumption)
  · decide
theorem drop_dAt (l : List Nat) (k : Nat) : val (l.drop k) = dAt l k + 1000000 * val (l.drop (k + 1)) := by
  unfold dAt
  split
  · exact val_drop l k (by assumption)
  · rw [List.drop_eq_nil_of_le (by omega), List.drop_eq_nil_of_le (by omega)]; rfl
theorem drop_end {l : List Nat} {k : Nat} (h : l.length ≤ k) : val (l.drop k) = 0 := by rw [List.drop_eq_nil_of_le h]; rfl
def cm2 (a b : Nat) : Int := if a < b then -1 else if a = b then 0 else 1
/-- The first difference from the top tells. -/
theorem cmp_at {a b : List Nat} {k : Nat} (h1 : val (a.drop (k + 1)) = val (b.drop (k + 1))) (h2 : dAt a k ≠ dAt b k) : cm2 (val (a.drop k)) (val (b.drop k)) = if dAt a k < dAt b k then -1 else 1 := by
  rw [drop_dAt a k, drop_dAt b k, h1]
  unfold cm2
  split
  · rw [if_pos (by omega)]
  · rw [if_neg (by omega), if_neg (by omega)]
/-- Once the higher digits differ, the lower ones do not matter. -/
theorem cmp_down {a b : List Nat} (ha : Dig a) (hb : Dig b) : ∀ k, val (a.drop k) ≠ val (b.drop k) → cm2 (val a) (val b) = cm2 (val (a.drop k)) (val (b.drop k))
  | 0, _ => by rw [List.drop_zero, List.drop_zero]
  | k + 1, h => by
    have da := dAt_lt ha k
    have db := dAt_lt hb k
    have e1 := drop_dAt a k
    have e2 := drop_dAt b k
    have hk : val (a.drop k) ≠ val (b.drop k) := by omega
    rw [cmp_down ha hb k hk]
    unfold cm2
    by_cases h1 : val (a.drop (k + 1)) < val (b.drop (k + 1))
    · rw [if_pos h1, if_pos (by omega)]
    · rw [if_neg h1, if_neg h, if_neg (by omega), if_neg (by omega)]
end Go.Proofs.YtfifdfagikbahaaDoor
