/- The frame's arguments that are lists of integers, ranges or knots; integers of any kind. -/
import Derived.Test.YtljjpidigckheaaFu
namespace Go.Proofs.Ytljjpidigckheaa.Un
open Go.RowKit Go.ChangeShapes Go.WideShapes Go.Deep
section
variable {H : Type} {enc : TypeId × Value → H} {w : World} {base : Nat} {spare : Nat → Bool} {held : Bool} {r : Reach} {b0 : Nat} {v : Value} {d : DataW H} {ps : List MemPlace}
theorem toI_rd {B : Nat} {A : Option Addr} {n : Nat} {z : Nat → Nat → Int} {g : Nat → Nat → Value} (h : Rd w B 1 A n g) (hg : ∀ k, g k 0 = I (z k 0)) : Rd w B 1 A n (rI (toL n z)) :=
  h.same fun k hk j hj => by
    obtain rfl : j = 0 := by omega
    rw [hg]; show _ = I (at0 (toL n z) _); rw [toL_at z hk]
theorem toR_rd {B : Nat} {A : Option Addr} {n : Nat} {z : Nat → Nat → Int} {g : Nat → Nat → Value} (h : Rd w B 2 A n g) (h0 : ∀ k, g k 0 = I (z k 0)) (h1 : ∀ k, g k 1 = I (z k 1)) : Rd w B 2 A n (rR (toR n z)) :=
  h.same fun k hk j hj => by
    rcases (show j = 0 ∨ j = 1 by omega) with rfl | rfl
    · rw [h0]; show _ = (at0 (toR n z) _).c 0; rw [toR_at z hk]; rfl
    · rw [h1]; show _ = (at0 (toR n z) _).c 1; rw [toR_at z hk]; rfl
set_option maxRecDepth 100000 in
theorem open_listI (hv : Value.okWide Try.prog w r b0 30 v) (h : DataW.Trod enc Try.prog w base spare held 30 v d ps) :
    ∃ A c xs, v = .slice A (xs : List Int).length c ∧ xs.length ≤ c ∧ c ≤ maxLen ∧ Rd w w.heap.size 1 A xs.length (rI xs) ∧ ∀ j, j < xs.length → -9223372036854775808 ≤ at0 xs j ∧ at0 xs j ≤ 9223372036854775807 := by
  obtain ⟨a, l, c, rfl⟩ := okWide_slice Try.underlying30 hv
  obtain ⟨fuel, hf⟩ := h
  obtain ⟨A, n, c', z, e, h1, h2, h3, h4⟩ := open_listK (ks := [.i64]) Try.underlying30 (by kernel_rfl) (by decide) (by kernel_rfl) hf
  refine ⟨A, c', toL n z, by rw [e, toL_len], by rw [toL_len]; exact h1, h2, by rw [toL_len]; exact toI_rd h3 (fun _ => rfl), fun j hj => ?_⟩
  rw [toL_len] at hj
  rw [toL_at z hj]
  exact i64_bd (h4 j hj 0 (by decide))
set_option maxRecDepth 100000 in
theorem open_listR (hv : Value.okWide Try.prog w r b0 35 v) (h : DataW.Trod enc Try.prog w base spare held 35 v d ps) :
    ∃ A c xs, v = .slice A (xs : List Rng).length c ∧ xs.length ≤ c ∧ c ≤ maxLen ∧ Rd w w.heap.size 2 A xs.length (rR xs) ∧ ∀ j, j < xs.length → (-9223372036854775808 ≤ (at0 xs j).lo ∧ (at0 xs j).lo ≤ 9223372036854775807) ∧ (-9223372036854775808 ≤ (at0 xs j).hi ∧ (at0 xs j).hi ≤ 9223372036854775807) := by
  obtain ⟨a, l, c, rfl⟩ := okWide_slice Try.underlying35 hv
  obtain ⟨fuel, hf⟩ := h
  obtain ⟨A, n, c', z, e, h1, h2, h3, h4⟩ := open_listK (ks := [.i64, .i64]) Try.underlying35 (by kernel_rfl) (by decide) (by kernel_rfl) hf
  refine ⟨A, c', toR n z, by rw [e, toR_len], by rw [toR_len]; exact h1, h2, by rw [toR_len]; exact toR_rd h3 (fun _ => rfl) (fun _ => rfl), fun j hj => ?_⟩
  rw [toR_len] at hj
  rw [toR_at z hj]
  exact ⟨i64_bd (h4 j hj 0 (by decide)), i64_bd (h4 j hj 1 (by decide))⟩
set_option maxRecDepth 100000 in
theorem open_i (hv : Value.okWide Try.prog w r b0 3 v) (h : DataW.Trod enc Try.prog w base spare held 3 v d ps) : ∃ a : Int, v = I a ∧ -9223372036854775808 ≤ a ∧ a ≤ 9223372036854775807 := by
  obtain ⟨n, hn, _, _, hw⟩ := open_int Try.underlying3 hv h
  exact ⟨n, hn, (i64_bd hw).1, (i64_bd hw).2⟩
set_option maxRecDepth 100000 in
theorem open_u8 (hv : Value.okWide Try.prog w r b0 5 v) (h : DataW.Trod enc Try.prog w base spare held 5 v d ps) : ∃ a : Int, v = .int .u8 a ∧ 0 ≤ a ∧ a ≤ 255 := by
  obtain ⟨n, hn, _, _, hw⟩ := open_int Try.underlying5 hv h
  exact ⟨n, hn, (u8_bd hw).1, (u8_bd hw).2⟩
set_option maxRecDepth 100000 in
theorem open_listU (hv : Value.okWide Try.prog w r b0 78 v) (h : DataW.Trod enc Try.prog w base spare held 78 v d ps) :
    ∃ A c xs, v = .slice A (xs : List Int).length c ∧ xs.length ≤ c ∧ c ≤ maxLen ∧ Rd w w.heap.size 1 A xs.length (fun k _ => .int .u16 (at0 xs k)) ∧ ∀ j, j < xs.length → 0 ≤ at0 xs j ∧ at0 xs j ≤ 65535 := by
  obtain ⟨a, l, c, rfl⟩ := okWide_slice Try.underlying78 hv
  obtain ⟨fuel, hf⟩ := h
  obtain ⟨A, n, c', z, e, h1, h2, h3, h4⟩ := open_listK (ks := [.u16]) Try.underlying78 (by kernel_rfl) (by decide) (by kernel_rfl) hf
  refine ⟨A, c', toL n z, by rw [e, toL_len], by rw [toL_len]; exact h1, h2, ?_, fun j hj => ?_⟩
  · rw [toL_len]
    exact h3.same fun k hk j hj => by
      obtain rfl : j = 0 := by have : j < 1 := hj; omega
      show _ = Value.int .u16 (at0 (toL n z) k)
      rw [toL_at z hk]; rfl
  · rw [toL_len] at hj
    rw [toL_at z hj]
    exact ku16_bd (h4 j hj 0 (by decide))
end
end Go.Proofs.Ytljjpidigckheaa.Un
