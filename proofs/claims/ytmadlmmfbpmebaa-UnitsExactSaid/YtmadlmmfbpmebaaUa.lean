/- Plain arithmetic under bits.Div64: one digit of a long division. -/
namespace Go.Proofs.Ytmadlmmfbpmebaa
/-- The estimate is too great. -/
theorem est_high {u Y yn1 yn0 d1 q r : Nat} (hY : Y = yn1 * 4294967296 + yn0) (hu : u = q * yn1 + r) (ht : 4294967296 * r + d1 < q * yn0) : (u * 4294967296 + d1) / Y < q := by
  subst hY hu
  rcases Nat.eq_zero_or_pos (yn1 * 4294967296 + yn0) with h0 | h0
  · have : yn0 = 0 := by omega
    subst this
    omega
  rw [Nat.div_lt_iff_lt_mul h0]
  have e1 : q * (yn1 * 4294967296 + yn0) = q * yn1 * 4294967296 + q * yn0 := by rw [Nat.mul_add, Nat.mul_assoc]
  have e2 : (q * yn1 + r) * 4294967296 = q * yn1 * 4294967296 + r * 4294967296 := Nat.add_mul _ _ _
  omega
theorem est_low {u Y yn1 yn0 d1 q r : Nat} (h0 : 0 < Y) (hY : Y = yn1 * 4294967296 + yn0) (hu : u = q * yn1 + r) (ht : q * yn0 ≤ 4294967296 * r + d1) : q ≤ (u * 4294967296 + d1) / Y := by
  subst hY hu
  rw [Nat.le_div_iff_mul_le h0]
  have e1 : q * (yn1 * 4294967296 + yn0) = q * yn1 * 4294967296 + q * yn0 := by rw [Nat.mul_add, Nat.mul_assoc]
  have e2 : (q * yn1 + r) * 4294967296 = q * yn1 * 4294967296 + r * 4294967296 := Nat.add_mul _ _ _
  omega
/-- Where the loop stands: the estimate and what it leaves. -/
structure Est (u Y yn1 yn0 d1 q r : Nat) : Prop where
  hu : u = q * yn1 + r
  ge : (u * 4294967296 + d1) / Y ≤ q
  le : q ≤ 4294967297
  first : r < 4294967296
theorem est_start {u Y yn1 yn0 d1 : Nat} (hY : Y = yn1 * 4294967296 + yn0) (h0 : yn0 < 4294967296) (h1 : 2147483648 ≤ yn1) (h2 : yn1 < 4294967296) (hu : u < Y) (hd : d1 < 4294967296) : Est u Y yn1 yn0 d1 (u / yn1) (u % yn1) := by
  have hm := Nat.div_add_mod u yn1
  have hl := Nat.mod_lt u (show 0 < yn1 by omega)
  have hu1 : u = u / yn1 * yn1 + u % yn1 := by rw [Nat.mul_comm]; exact hm.symm
  have hYp : 0 < Y := by omega
  refine ⟨hu1, ?_, ?_, by omega⟩
  · rw [← Nat.lt_succ_iff, Nat.div_lt_iff_lt_mul hYp]
    have e : (u / yn1 + 1) * Y = (u / yn1 * yn1 + yn1) * 4294967296 + (u / yn1 + 1) * yn0 := by
      rw [hY, Nat.mul_add, Nat.add_mul, Nat.add_mul, Nat.one_mul, Nat.add_mul, Nat.mul_assoc]
    show u * 4294967296 + d1 < (u / yn1 + 1) * Y
    have := Nat.zero_le ((u / yn1 + 1) * yn0)
    omega
  · have : u / yn1 < 4294967298 := by
      rw [Nat.div_lt_iff_lt_mul (by omega)]
      omega
    omega
/-- The quotient's digit is below 2^32. -/
theorem digit_lt {u Y d1 : Nat} (hu : u < Y) (hd : d1 < 4294967296) : (u * 4294967296 + d1) / Y < 4294967296 := by
  rw [Nat.div_lt_iff_lt_mul (by omega)]
  have : (u + 1) * 4294967296 ≤ Y * 4294967296 := Nat.mul_le_mul_right _ hu
  rw [Nat.mul_comm 4294967296 Y]
  omega
/-- A round that lowers the estimate and goes on. -/
theorem est_next {u Y yn1 yn0 d1 q r : Nat} (h : Est u Y yn1 yn0 d1 q r) (hq : (u * 4294967296 + d1) / Y < q) (hr : r + yn1 < 4294967296) : Est u Y yn1 yn0 d1 (q - 1) (r + yn1) := by
  obtain ⟨h1, h2, h3, h4⟩ := h
  obtain ⟨k, rfl⟩ : ∃ k, q = k + 1 := ⟨q - 1, by have := Nat.lt_of_le_of_lt (Nat.zero_le _) hq; omega⟩
  refine ⟨?_, by omega, by omega, hr⟩
  rw [Nat.add_sub_cancel, h1, Nat.add_mul]
  omega
/-- A round that lowers the estimate and leaves the loop. -/
theorem est_break {u Y yn1 yn0 d1 q r : Nat} (hY : Y = yn1 * 4294967296 + yn0) (h0 : yn0 < 4294967296) (hp : 0 < Y) (h : Est u Y yn1 yn0 d1 q r) (hq : (u * 4294967296 + d1) / Y < q) (hr : 4294967296 ≤ r + yn1) : q - 1 = (u * 4294967296 + d1) / Y := by
  obtain ⟨h1, h2, h3, h4⟩ := h
  obtain ⟨k, rfl⟩ : ∃ k, q = k + 1 := ⟨q - 1, by have := Nat.lt_of_le_of_lt (Nat.zero_le _) hq; omega⟩
  have hk : k * yn0 ≤ 4294967296 * (r + yn1) + d1 := by
    have a1 : k * yn0 ≤ 4294967296 * yn0 := Nat.mul_le_mul_right _ (by omega)
    have a2 : 4294967296 * yn0 ≤ 4294967296 * (r + yn1) := Nat.mul_le_mul_left _ (by omega)
    omega
  have := est_low (u := u) (d1 := d1) hp hY (q := k) (r := r + yn1) (by rw [h1, Nat.add_mul]; omega) hk
  omega
/-- The test says no: the estimate is the digit. -/
theorem est_done {u Y yn1 yn0 d1 q r : Nat} (hY : Y = yn1 * 4294967296 + yn0) (hp : 0 < Y) (h : Est u Y yn1 yn0 d1 q r) (ht : q * yn0 ≤ 4294967296 * r + d1) : q = (u * 4294967296 + d1) / Y := by
  have := est_low (d1 := d1) hp hY h.hu ht
  have := h.ge
  omega
/-- Two digits make the quotient. -/
theorem two_digits {u Y d1 d0 K : Nat} (hp : 0 < Y) : (u * (K * K) + d1 * K + d0) / Y = (u * K + d1) / Y * K + ((u * K + d1) % Y * K + d0) / Y ∧
    (u * (K * K) + d1 * K + d0) % Y = ((u * K + d1) % Y * K + d0) % Y := by
  have hm := Nat.div_add_mod (u * K + d1) Y
  generalize (u * K + d1) / Y = a at *
  generalize (u * K + d1) % Y = b at *
  have h2 : (Y * a + b) * K = (u * K + d1) * K := by rw [hm]
  rw [Nat.add_mul, Nat.add_mul, Nat.mul_assoc, Nat.mul_assoc] at h2
  have e : u * (K * K) + d1 * K + d0 = (b * K + d0) + Y * (a * K) := by omega
  rw [e]
  exact ⟨by rw [Nat.add_mul_div_left _ _ hp]; omega, Nat.add_mul_mod_self_left _ _ _⟩
/-- Both sides grow by one factor. -/
theorem scaled (a y s : Nat) (hs : 0 < s) : a * s / (y * s) = a / y ∧ a * s % (y * s) = a % y * s := ⟨Nat.mul_div_mul_right _ _ hs, Nat.mul_mod_mul_right _ _ _⟩
end Go.Proofs.Ytmadlmmfbpmebaa
