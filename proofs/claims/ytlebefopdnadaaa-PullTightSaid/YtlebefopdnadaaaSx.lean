/- The contracts of Against, Peak and down of the reference. -/
import Derived.Test.YtlebefopdnadaaaSet
import Derived.Test.YtlebefopdnadaaaMka
namespace Go.Proofs.Ytlebefopdnadaaa
open Go.RowKit
def agR (p : Vec) (a b : Smp) : Bool := decide (p 110 * (b.t - a.t) < b.lo - a.hi) || decide (p 111 * (b.t - a.t) < a.lo - b.hi)
abbrev smArr (s : Smp) : Array Value := #[I s.t, I s.lo, I s.hi]
def smBd (s : Smp) : Prop := (0 ≤ s.t ∧ s.t ≤ 100000) ∧ 0 ≤ s.lo ∧ s.lo ≤ s.hi ∧ s.hi ≤ 1000000
set_option maxHeartbeats 1000000 in
theorem against_any (p : Vec) (a b : Smp) (w : World) (hp : VPul p) (ha : smBd a) (hb : smBd b) :
    Calls Try.prog 63 #[.agg (ia 117 p), .agg (smArr a), .agg (smArr b)] w fun e w' => e = .returned (.bool (agR p a b)) ∧ Below w.heap.size w w' := by
  obtain ⟨⟨a1, a2⟩, a3, a4, a5⟩ := ha
  obtain ⟨⟨b1, b2⟩, b3, b4, b5⟩ := hb
  obtain ⟨g1, g2⟩ := hp.grow
  obtain ⟨s1, s2⟩ := hp.shrink
  have hB : Hid (Below w.heap.size w (((w.alloc (.cells (ia 117 p) 30)).alloc (.cells (smArr a) 75)).alloc (.cells (smArr b) 75))) := (((Below.refl _ _).alloc (Nat.le_refl _) _).alloc (by simp) _).alloc (by simp; omega) _
  have HP : Hid (∀ j, j < 117 → (((w.alloc (.cells (ia 117 p) 30)).alloc (.cells (smArr a) 75)).alloc (.cells (smArr b) 75)).cell? ⟨w.heap.size, j, none⟩ = some (I (p j))) := fun j hj => by
    rw [cell_of_row _ _ _ _ _ _ (heap_before (heap_before (heap_last _ _ _ rfl)))]; exact ia_get hj
  have x0 := HP.out 110 (by omega)
  have x1 := HP.out 111 (by omega)
  have m0 : -100000 ≤ b.t - a.t ∧ b.t - a.t ≤ 100000 := by omega
  have mul_bd : ∀ x y : Int, 0 ≤ x → x ≤ 1000000 → -100000 ≤ y → y ≤ 100000 → -100000000000 ≤ x * y ∧ x * y ≤ 100000000000 := fun x y h1 h2 h3 h4 => by
    constructor
    · have e1 := Int.mul_le_mul_of_nonneg_left h3 h1
      omega
    · have e1 := Int.mul_le_mul_of_nonneg_left h4 h1
      omega
  obtain ⟨m1, m2⟩ := mul_bd (p 110) (b.t - a.t) g1 g2 m0.1 m0.2
  obtain ⟨m3, m4⟩ := mul_bd (p 111) (b.t - a.t) s1 s2 m0.1 m0.2
  clear hp mul_bd m0
  by_cases t1 : p 110 * (b.t - a.t) < b.lo - a.hi
  · have hf : Hid (agR p a b = true) := by show _ = _; rw [agR, decide_eq_true t1]; rfl
    go_enter Try.func63, Try.ntmps63
    go_wp2
    go_ret
    exact ⟨by rw [hf.out]; rfl, hB.out⟩
  · by_cases t2 : p 111 * (b.t - a.t) < a.lo - b.hi
    · have hf : Hid (agR p a b = true) := by show _ = _; rw [agR, decide_eq_true t2]; simp
      go_enter Try.func63, Try.ntmps63
      go_wp2
      go_ret
      exact ⟨by rw [hf.out]; rfl, hB.out⟩
    · have hf : Hid (agR p a b = false) := by show _ = _; rw [agR, decide_eq_false t1, decide_eq_false t2]; rfl
      go_enter Try.func63, Try.ntmps63
      go_wp2
      go_ret
      exact ⟨by rw [hf.out]; rfl, hB.out⟩

set_option maxHeartbeats 1000000 in
theorem down_any (n d : Int) (w : World) (hn : -1000000000000000000 ≤ n ∧ n ≤ 1000000000000000000) (hd : 1 ≤ d ∧ d ≤ 10000000) :
    Calls Try.prog 66 #[.agg #[I n, I d]] w fun e w' => e = .returned (I (n / d)) ∧ Below w.heap.size w w' := by
  obtain ⟨n1, n2⟩ := hn
  obtain ⟨d1, d2⟩ := hd
  have hB : Hid (Below w.heap.size w (w.alloc (.cells #[I n, I d] 126))) := (Below.refl _ _).alloc (Nat.le_refl _) _
  have hne : (d == 0) = false := by simp; omega
  by_cases h : n < 0
  · have h0 : 0 ≤ -n + d - 1 := by omega
    have q1 : 0 ≤ (-n + d - 1) / d := Int.ediv_nonneg h0 (by omega)
    have q2 : (-n + d - 1) / d ≤ -n + d - 1 := Int.ediv_le_self _ h0
    have hf : Hid (-((-n + d - 1) / d) = n / d) := by
      show _ = _
      have b1 := Int.mul_ediv_self_le (x := -n + d - 1) (k := d) (by omega)
      have b2 := Int.lt_mul_ediv_self_add (x := -n + d - 1) (k := d) (by omega)
      have a1 := Int.mul_ediv_self_le (x := n) (k := d) (by omega)
      have a2 := Int.lt_mul_ediv_self_add (x := n) (k := d) (by omega)
      generalize n / d = q at *
      generalize (-n + d - 1) / d = r at *
      have e : d * (q + r) = d * q + d * r := Int.mul_add _ _ _
      rcases Int.lt_trichotomy (q + r) 0 with hh | hh | hh
      · have := Int.mul_le_mul_of_nonneg_left (show 1 ≤ -(q + r) by omega) (show 0 ≤ d by omega)
        rw [Int.mul_neg] at this
        omega
      · omega
      · have := Int.mul_le_mul_of_nonneg_left (show 1 ≤ q + r by omega) (show 0 ≤ d by omega)
        omega
    go_enter Try.func66, Try.ntmps66
    go_wp2
    go_ret
    exact ⟨ret_int hf.out, hB.out⟩
  · have q1 : 0 ≤ n / d := Int.ediv_nonneg (by omega) (by omega)
    have q2 : n / d ≤ n := Int.ediv_le_self _ (by omega)
    go_enter Try.func66, Try.ntmps66
    go_wp2
    go_ret
    exact ⟨rfl, hB.out⟩
end Go.Proofs.Ytlebefopdnadaaa
