/- The contracts of ok, cmp and split of a fraction, and of Compare, of package units. -/
import Derived.Test.YtmadlmmfbpmebaaUg
namespace Go.Proofs.Ytmadlmmfbpmebaa
open Go.RowKit
structure Frc where
  n : Int
  d : Int
deriving Inhabited
abbrev Frc.val (f : Frc) : Value := .agg #[I f.n, I f.d]
def fok (f : Frc) : Bool := numB f.n && (decide (1 ≤ f.d) && decide (f.d ≤ 1000000000000000))
theorem fok_iff {f : Frc} : fok f = true ↔ (-1000000000000000 ≤ f.n ∧ f.n ≤ 1000000000000000) ∧ 1 ≤ f.d ∧ f.d ≤ 1000000000000000 := by
  unfold fok
  rw [Bool.and_eq_true, numB_iff, Bool.and_eq_true, decide_eq_true_eq, decide_eq_true_eq]
theorem is_one (x : Int) (W : World) : Calls Try.prog 67 #[.slice (some ⟨W.heap.size, 0, none⟩) 1 1] (W.alloc (.cells #[I x] 3)) fun e w' => e = .returned (.bool (numB x)) ∧ W.alloc (.cells #[I x] 3) = w' := by
  have := is_any (some ⟨W.heap.size, 0, none⟩) 1 1 [x] (W.alloc (.cells #[I x] 3)) _ rfl (by unfold maxLen; omega) (Rd_new (heap_last _ _ _ rfl) _ _ _ _ (all1 (all1 rfl)))
  rw [isB_one] at this; exact this
set_option maxRecDepth 100000 in
set_option maxHeartbeats 1000000 in
theorem fok_any (f : Frc) (w : World) : Calls Try.prog 90 #[f.val] w fun e w' => e = .returned (.bool (fok f)) ∧ Below w.heap.size w w' := by
  obtain ⟨n, d⟩ := f
  have hf : Hid (fok ⟨n, d⟩ = (numB n && (decide (1 ≤ d) && decide (d ≤ 1000000000000000)))) := rfl
  have one : Hid (∀ (W : World) (k : Nat), W.heap.size = k → Calls Try.prog 67 #[.slice (some ⟨k, 0, none⟩) 1 1] (W.alloc (.cells #[I n] 3)) fun e w' => e = .returned (.bool (numB n)) ∧ W.alloc (.cells #[I n] 3) = w') := by
    rintro W k rfl; exact is_one n W
  rcases hn : numB n with _ | _ <;> (rw [hn] at hf one) <;> rcases h1 : decide (1 ≤ d) with _ | _ <;> (rw [h1] at hf)
  all_goals
    go_enter Try.func90, Try.ntmps90
    go_wp2_with fail
    refine (one.out (w.alloc (.cells #[I n, I d] 128)) (w.heap.size + 1) (by simp)).mono ?_
    rintro e w' ⟨rfl, rfl⟩
    go_wp2_with fail
    go_ret
    exact ⟨by rw [hf.out]; rfl, ((Below.refl _ _).alloc (Nat.le_refl _) _).alloc (by simp) _⟩
/-- Two fractions compared. -/
def fcm (a b : Frc) : Int := cmpI (a.n * b.d) (b.n * a.d)
def fBd (f : Frc) : Prop := (-2000000000000000 ≤ f.n ∧ f.n ≤ 2000000000000000) ∧ (-2000000000000000 ≤ f.d ∧ f.d ≤ 2000000000000000)
theorem fBd_ok {f : Frc} (h : fok f = true) : fBd f := by have := fok_iff.1 h; unfold fBd; omega
theorem prod_lt {a b : Int} (ha : -2000000000000000 ≤ a ∧ a ≤ 2000000000000000) (hb : -2000000000000000 ≤ b ∧ b ≤ 2000000000000000) : (a * b).natAbs < 18446744073709551616 * 18446744073709551616 := by
  rw [Int.natAbs_mul]
  have : a.natAbs * b.natAbs ≤ 2000000000000000 * 2000000000000000 := Nat.mul_le_mul (by omega) (by omega)
  omega
set_option maxRecDepth 100000 in
set_option maxHeartbeats 1000000 in
theorem fcmp_any (a b : Frc) (w : World) (ha : fBd a) (hb : fBd b) : Calls Try.prog 91 #[a.val, b.val] w fun e w' => e = .returned (I (fcm a b)) ∧ Below w.heap.size w w' := by
  obtain ⟨an, ad⟩ := a
  obtain ⟨bn, bd⟩ := b
  have hf : Hid (fcm ⟨an, ad⟩ ⟨bn, bd⟩ = cmpI (an * bd) (bn * ad)) := rfl
  obtain ⟨⟨a1, a2⟩, a3, a4⟩ := ha
  obtain ⟨⟨b1, b2⟩, b3, b4⟩ := hb
  simp only at a1 a2 a3 a4 b1 b2 b3 b4
  have p1 : Hid (∀ (x y : Int) (W : World), (x = an ∧ y = bd) ∨ (x = bn ∧ y = ad) → Calls Try.prog 68 #[I x, I y] W fun e w' => e = .returned (wdV (x * y)) ∧ Below W.heap.size W w') := by
    rintro x y W (⟨rfl, rfl⟩ | ⟨rfl, rfl⟩)
    · exact product_any _ _ W (by omega) (by omega)
    · exact product_any _ _ W (by omega) (by omega)
  have p3 := fun W => wcmp_any (an * bd) (bn * ad) W (prod_lt ⟨a1, a2⟩ ⟨b3, b4⟩) (prod_lt ⟨b1, b2⟩ ⟨a3, a4⟩)
  obtain ⟨W2, hW2⟩ : ∃ W2, W2 = (w.alloc (.cells #[I an, I ad] 128)).alloc (.cells #[I bn, I bd] 128) := ⟨_, rfl⟩
  have q1 : W2.heap[w.heap.size]? = some (.cells #[I an, I ad] 128 (0, 0)) := by rw [hW2]; exact heap_before (heap_last _ _ _ rfl)
  have q2 : W2.heap[w.heap.size + 1]? = some (.cells #[I bn, I bd] 128 (0, 0)) := by rw [hW2]; exact heap_last _ _ _ (by simp)
  have y1 := fun u => ovr_cell (W := W2) (b := w.heap.size) (o := 0) (v := I an) (by rw [cell_of_row _ _ _ _ _ _ q1]; rfl) u
  have y2 := fun u => ovr_cell (W := W2) (b := w.heap.size) (o := 1) (v := I ad) (by rw [cell_of_row _ _ _ _ _ _ q1]; rfl) u
  have y3 := fun u => ovr_cell (W := W2) (b := w.heap.size + 1) (o := 0) (v := I bn) (by rw [cell_of_row _ _ _ _ _ _ q2]; rfl) u
  have y4 := fun u => ovr_cell (W := W2) (b := w.heap.size + 1) (o := 1) (v := I bd) (by rw [cell_of_row _ _ _ _ _ _ q2]; rfl) u
  have HU : Hid (∀ W, Below W2.heap.size W2 W → Below w.heap.size w W) := fun W hW => by rw [hW2] at hW; exact under2 (under2 hW)
  have HW := Lib.hid hW2
  have P1 := p1
  have P3 := Lib.hid p3
  clear hW2 q1 q2 p1 p3 a1 a2 a3 a4 b1 b2 b3 b4
  go_enter Try.func91, Try.ntmps91
  go_wp2_with fail
  rw [← HW.out]
  refine wp_region_below_lit (by kernel_rfl) (by kernel_rfl) ?_
  repeat (go_big_quiet_step ((first | (go_at_call 68; exact call_below (P1.out _ _ _ (by simp))) | (go_at_call 119; exact call_below (P3.out _)))))
  refine wpQuiet_nil ?_
  intro w1 hb1
  have HB := Lib.hid (HU.out _ hb1)
  clear hb1 y1 y2 y3 y4
  go_wp2_with fail
  go_ret
  exact ⟨by rw [hf.out]; rfl, HB.out⟩
end Go.Proofs.Ytmadlmmfbpmebaa
