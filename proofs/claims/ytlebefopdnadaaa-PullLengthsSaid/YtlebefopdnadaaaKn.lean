/- The contracts of meet, later, ceil and peak of package pull. -/
import Derived.Test.YtlebefopdnadaaaCf
namespace Go.Proofs.Ytlebefopdnadaaa
open Go.RowKit
/-- What is known: between which numbers, if anything. -/
structure Kn where
  lo : Int
  hi : Int
  some : Bool
  deriving Inhabited, DecidableEq
abbrev knArr (k : Kn) : Array Value := #[I k.lo, I k.hi, .bool k.some]
abbrev Kn.val (k : Kn) : Value := .agg (knArr k)
def meetK (k o : Kn) : Kn := if o.some = false then k else if k.some = false then o else ⟨max k.lo o.lo, min k.hi o.hi, true⟩
def laterK (k : Kn) (grow shrink : Int) : Kn := ⟨k.lo - shrink, k.hi + grow, k.some⟩
theorem knOne (k : Kn) : ∀ v ∈ (knArr k).toList, v.oneCell' = true := by intro v hv; simp at hv; rcases hv with rfl | rfl | rfl <;> rfl
set_option maxHeartbeats 400000 in
theorem meet_any (k o : Kn) (w : World) : Calls Try.prog 87 #[k.val, o.val] w fun e w' => e = .returned (meetK k o).val ∧ Below w.heap.size w w' := by
  have hB : ∀ a b c, Below w.heap.size w (((w.alloc a).alloc b).alloc c) := fun a b c => (((Below.refl _ _).alloc (Nat.le_refl _) a).alloc (by simp) b).alloc (by simp; omega) c
  have HB := Lib.hid hB
  clear hB
  have fin : Hid (∀ q : Kn, meetK k o = q → ∀ w', Below w.heap.size w w' → (Ending.returned (.agg (knArr q)) = .returned (meetK k o).val ∧ Below w.heap.size w w')) := fun q hq w' h => ⟨by rw [hq], h⟩
  rcases ho : o.some with _ | _
  · have hm : Hid (meetK k o = k) := by show _ = _; rw [meetK, if_pos ho]
    go_enter Try.func87, Try.ntmps87
    go_wp2
    refine bodyPost_ret (results_cell_only rfl _ _ (w.heap.size + 1 + 1) 147 (knArr k) (0, 0) _ rfl (heap_last _ _ _ (by simp)) Try.underlying147 rfl (by kernel_rfl)) rfl ?_
    exact fin.out k hm.out _ (HB.out _ _ _)
  · rcases hk : k.some with _ | _
    · have hm : Hid (meetK k o = o) := by show _ = _; rw [meetK, if_neg (by simp [ho]), if_pos hk]
      go_enter Try.func87, Try.ntmps87
      go_wp2
      refine bodyPost_ret (results_cell_only rfl _ _ (w.heap.size + 1 + 1) 147 #[I o.lo, I o.hi, .bool true] (0, 0) _ rfl ?hg Try.underlying147 rfl (by kernel_rfl)) rfl ?_
      case hg => exact heap_last _ _ _ (by simp)
      exact ⟨by rw [hm.out]; simp [ho], HB.out _ _ _⟩
    · have hm : Hid (meetK k o = ⟨max k.lo o.lo, min k.hi o.hi, true⟩) := by show _ = _; rw [meetK, if_neg (by simp [ho]), if_neg (by simp [hk])]
      rcases Int.lt_or_le k.lo o.lo with h1 | h1 <;> rcases Int.lt_or_le o.hi k.hi with h2 | h2
      · have hm2 : Hid (meetK k o = ⟨o.lo, o.hi, true⟩) := by show _ = _; rw [hm.out, Int.max_eq_right (by omega), Int.min_eq_right (by omega)]
        go_enter Try.func87, Try.ntmps87
        go_wp2
        refine bodyPost_ret (results_cell_only rfl _ _ (w.heap.size + 1 + 1) 147 #[I o.lo, I o.hi, .bool true] (0, 0) _ rfl ?_ Try.underlying147 rfl (by kernel_rfl)) rfl (fin.out _ hm2.out _ (HB.out _ _ _))
        exact heap_last _ _ _ (by simp)
      · have hm2 : Hid (meetK k o = ⟨o.lo, k.hi, true⟩) := by show _ = _; rw [hm.out, Int.max_eq_right (by omega), Int.min_eq_left (by omega)]
        go_enter Try.func87, Try.ntmps87
        go_wp2
        refine bodyPost_ret (results_cell_only rfl _ _ (w.heap.size + 1 + 1) 147 #[I o.lo, I k.hi, .bool true] (0, 0) _ rfl ?_ Try.underlying147 rfl (by kernel_rfl)) rfl (fin.out _ hm2.out _ (HB.out _ _ _))
        exact heap_last _ _ _ (by simp)
      · have hm2 : Hid (meetK k o = ⟨k.lo, o.hi, true⟩) := by show _ = _; rw [hm.out, Int.max_eq_left (by omega), Int.min_eq_right (by omega)]
        go_enter Try.func87, Try.ntmps87
        go_wp2
        refine bodyPost_ret (results_cell_only rfl _ _ (w.heap.size + 1 + 1) 147 #[I k.lo, I o.hi, .bool true] (0, 0) _ rfl ?_ Try.underlying147 rfl (by kernel_rfl)) rfl (fin.out _ hm2.out _ (HB.out _ _ _))
        exact heap_last _ _ _ (by simp)
      · have hm2 : Hid (meetK k o = ⟨k.lo, k.hi, true⟩) := by show _ = _; rw [hm.out, Int.max_eq_left (by omega), Int.min_eq_left (by omega)]
        go_enter Try.func87, Try.ntmps87
        go_wp2
        refine bodyPost_ret (results_cell_only rfl _ _ (w.heap.size + 1 + 1) 147 #[I k.lo, I k.hi, .bool true] (0, 0) _ rfl ?_ Try.underlying147 rfl (by kernel_rfl)) rfl (fin.out _ hm2.out _ (HB.out _ _ _))
        exact heap_last _ _ _ (by simp)
set_option maxHeartbeats 400000 in
theorem later_any (k : Kn) (grow shrink : Int) (w : World) (h1 : -1000000000000000 ≤ k.lo ∧ k.lo ≤ 1000000000000000) (h2 : -1000000000000000 ≤ k.hi ∧ k.hi ≤ 1000000000000000) (h3 : 0 ≤ grow ∧ grow ≤ 1000000) (h4 : 0 ≤ shrink ∧ shrink ≤ 1000000) :
    Calls Try.prog 88 #[k.val, I grow, I shrink] w fun e w' => e = .returned (laterK k grow shrink).val ∧ Below w.heap.size w w' := by
  obtain ⟨_, _⟩ := h1
  obtain ⟨_, _⟩ := h2
  obtain ⟨_, _⟩ := h3
  obtain ⟨_, _⟩ := h4
  go_enter Try.func88, Try.ntmps88
  go_wp2
  refine bodyPost_ret (results_cell_only rfl _ _ (w.heap.size + 1) 147 (knArr (laterK k grow shrink)) (0, 0) _ rfl (heap_last _ _ _ (by simp)) Try.underlying147 rfl (by kernel_rfl)) rfl ?_
  exact ⟨rfl, ((Below.refl _ _).alloc (Nat.le_refl _) _).alloc (by simp) _⟩
def ceilF (a b : Int) : Int := if 0 < a then (a + b - 1) / b else a.tdiv b
set_option maxHeartbeats 400000 in
theorem ceil_any (a b : Int) (w : World) (hb : 1 ≤ b ∧ b ≤ 10000000) (ha : -1000000000000000 ≤ a ∧ a ≤ 1000000000000000) :
    Calls Try.prog 93 #[I a, I b] w fun e w' => e = .returned (I (ceilF a b)) ∧ w = w' := by
  obtain ⟨b1, b2⟩ := hb
  obtain ⟨a1, a2⟩ := ha
  have hne : (b == 0) = false := by simp; omega
  by_cases h : 0 < a
  · have hfin : Hid (ceilF a b = (a + b - 1) / b) := if_pos h
    have h0 : 0 ≤ a + b - 1 := by omega
    have q1 : 0 ≤ (a + b - 1) / b := Int.ediv_nonneg h0 (by omega)
    have q2 : (a + b - 1) / b ≤ a + b - 1 := Int.ediv_le_self _ h0
    go_enter Try.func93, Try.ntmps93
    go_wp2
    go_ret
    exact ⟨ret_int (by rw [hfin.out]), rfl⟩
  · have hfin : Hid (ceilF a b = a.tdiv b) := if_neg h
    go_enter Try.func93, Try.ntmps93
    go_wp2
    go_ret
    exact ⟨ret_int (by rw [hfin.out]), rfl⟩
def peakF (a up b dn : Int) : Int := if b + dn ≤ a then b + dn else if a + up ≤ b then a + up else a + ceilF (up * (b + dn - a)) (up + dn)
theorem ceilF_bd (a b : Int) (hb : 1 ≤ b) (ha : 0 ≤ a) : 0 ≤ ceilF a b ∧ ceilF a b ≤ a + b := by
  unfold ceilF
  split
  · have h0 : 0 ≤ a + b - 1 := by omega
    have := Int.ediv_nonneg h0 (show 0 ≤ b by omega)
    have := Int.ediv_le_self b h0
    omega
  · have : a = 0 := by omega
    subst this
    simp; omega
set_option maxHeartbeats 400000 in
theorem peak_any (a up b dn : Int) (w : World) (h1 : -1000000000000000 ≤ a ∧ a ≤ 1000000000000000) (h2 : -1000000000000000 ≤ b ∧ b ≤ 1000000000000000) (h3 : 0 ≤ up ∧ up ≤ 1000000) (h4 : 0 ≤ dn ∧ dn ≤ 1000000) :
    Calls Try.prog 89 #[I a, I up, I b, I dn] w fun e w' => e = .returned (I (peakF a up b dn)) ∧ w = w' := by
  obtain ⟨_, _⟩ := h1
  obtain ⟨_, _⟩ := h2
  obtain ⟨u1, u2⟩ := h3
  obtain ⟨_, _⟩ := h4
  by_cases t1 : b + dn ≤ a
  · have hfin : Hid (peakF a up b dn = b + dn) := if_pos t1
    go_enter Try.func89, Try.ntmps89
    go_wp2
    go_ret
    exact ⟨ret_int (by rw [hfin.out]), rfl⟩
  by_cases t2 : a + up ≤ b
  · have hfin : Hid (peakF a up b dn = a + up) := by show _ = _; rw [peakF, if_neg t1, if_pos t2]
    go_enter Try.func89, Try.ntmps89
    go_wp2
    go_ret
    exact ⟨ret_int (by rw [hfin.out]), rfl⟩
  · have hfin : Hid (peakF a up b dn = a + ceilF (up * (b + dn - a)) (up + dn)) := by show _ = _; rw [peakF, if_neg t1, if_neg t2]
    have m1 : 0 ≤ up * (b + dn - a) := Int.mul_nonneg u1 (by omega)
    have m2 : up * (b + dn - a) ≤ 1000000 * 2000000 := Int.mul_le_mul u2 (by omega) (by omega) (by omega)
    have hc := ceilF_bd (up * (b + dn - a)) (up + dn) (by omega) m1
    obtain ⟨c1, c2⟩ := hc
    go_enter Try.func89, Try.ntmps89
    go_wp2_with fail
    refine (ceil_any _ _ _ ⟨by omega, by omega⟩ ⟨by omega, by omega⟩).mono ?_
    rintro e w1 ⟨rfl, rfl⟩
    go_wp2_with fail
    go_ret
    exact ⟨ret_int (by rw [hfin.out]), rfl⟩
end Go.Proofs.Ytlebefopdnadaaa
