/- Wide numbers of package melt that are not negative, and the bounds of a mix. -/
import Derived.Test.YtfifdfagikbahaaDoorMe
import Derived.Test.YtfifdfagikbahaaDoorSqf
import Derived.Laws.Externs
namespace Go.Proofs.YtfifdfagikbahaaDoor
open Go.RowKit
attribute [local go_sem] Oper.semAt_some
/-- A wide number. -/
abbrev wA (h l : Nat) : Value := .agg #[.int .u64 (h : Int), .int .u64 (l : Int)]
abbrev wN (v : Nat) : Value := wA (v / 18446744073709551616) (v % 18446744073709551616)
def add64E : Array Value → Sem Value := add64Entry
theorem add64_run (x y c : Int) (h1 : 0 ≤ x ∧ x < 18446744073709551616) (h2 : 0 ≤ y ∧ y < 18446744073709551616) (h3 : 0 ≤ c ∧ c ≤ 1) (w : World) :
    (callFunc 94 #[.int .u64 x, .int .u64 y, .int .u64 c]).run Tryd.prog w = .ok (.value (.tuple #[.int .u64 ((x + y + c) % 18446744073709551616), .int .u64 ((x + y + c) / 18446744073709551616)])) w := by
  have hf := run_callFunc_extern (P := Tryd.prog) (f := 94) (e := add64E) Tryd.func94 (by kernel_rfl) (by kernel_rfl) (by kernel_rfl) (by kernel_rfl) #[.int .u64 x, .int .u64 y, .int .u64 c] w
  rw [hf]
  have := run_add64 (P := Tryd.prog) x y c h1.1 h2.1 h3.1 h3.2 w
  show ((add64Entry #[.int .u64 x, .int .u64 y, .int .u64 c]).run Tryd.prog w).andThen _ = _
  rw [this]
  rfl
theorem wprod_any (a b : Nat) (w : World) (ha : a < 9223372036854775808) (hb : b < 9223372036854775808) : Calls Tryd.prog 75 #[I a, I b] w fun e w' => e = .returned (wN (a * b)) ∧ Below w.heap.size w w' := by
  have hc := mul64_any a b (by omega) (by omega)
  unfold wN
  obtain ⟨vh, hvh⟩ : ∃ k, a * b / 18446744073709551616 = k := ⟨_, rfl⟩
  obtain ⟨vl, hvl⟩ : ∃ k, a * b % 18446744073709551616 = k := ⟨_, rfl⟩
  rw [hvh, hvl] at hc ⊢
  have Hc := Lib.hid hc
  have w1 : IntKind.u64.wrap (a : Int) = (a : Int) := wrapN _ (by omega)
  have w2 : IntKind.u64.wrap (b : Int) = (b : Int) := wrapN _ (by omega)
  clear hc hvh hvl ha hb
  go_enter Tryd.func75, Tryd.ntmps75
  go_wp2_with fail
  refine (Hc.out _).mono ?_
  rintro e w' ⟨rfl, rfl⟩
  go_wp2_with fail
  refine bodyPost_ret (results_cell_only rfl _ _ w.heap.size 143 #[.int .u64 (vh : Int), .int .u64 (vl : Int)] (0, 0) _ rfl (heap_last _ _ _ rfl) Tryd.underlying143 rfl (by kernel_rfl)) rfl ?_
  exact ⟨rfl, (Below.refl _ _).alloc (Nat.le_refl _) _⟩
theorem wplus_any (u v : Nat) (w : World) (h : u + v < 340282366920938463463374607431768211456) : Calls Tryd.prog 76 #[wN u, wN v] w fun e w' => e = .returned (wN (u + v)) ∧ Below w.heap.size w w' := by
  have e1 : (u + v) % 18446744073709551616 = (u % 18446744073709551616 + v % 18446744073709551616) % 18446744073709551616 := by omega
  have e2 : (u + v) / 18446744073709551616 = u / 18446744073709551616 + v / 18446744073709551616 + (u % 18446744073709551616 + v % 18446744073709551616) / 18446744073709551616 := by omega
  have hlt : u / 18446744073709551616 + v / 18446744073709551616 + (u % 18446744073709551616 + v % 18446744073709551616) / 18446744073709551616 < 18446744073709551616 := by omega
  have hu := Nat.mod_lt u (show 0 < 18446744073709551616 by decide)
  have hv := Nat.mod_lt v (show 0 < 18446744073709551616 by decide)
  unfold wN
  rw [e1, e2]
  clear e1 e2 h
  obtain ⟨uh, huh⟩ : ∃ k, u / 18446744073709551616 = k := ⟨_, rfl⟩
  obtain ⟨ul, hul⟩ : ∃ k, u % 18446744073709551616 = k := ⟨_, rfl⟩
  obtain ⟨vh, hvh⟩ : ∃ k, v / 18446744073709551616 = k := ⟨_, rfl⟩
  obtain ⟨vl, hvl⟩ : ∃ k, v % 18446744073709551616 = k := ⟨_, rfl⟩
  rw [huh, hul, hvh, hvl] at hlt ⊢
  rw [hul] at hu
  rw [hvl] at hv
  have hadd := add64_run (ul : Int) (vl : Int) 0 (by omega) (by omega) (by omega)
  rw [show (ul : Int) + vl + 0 = ((ul + vl : Nat) : Int) by omega] at hadd
  rw [show (((ul + vl : Nat) : Int) % 18446744073709551616) = (((ul + vl) % 18446744073709551616 : Nat) : Int) by omega, show (((ul + vl : Nat) : Int) / 18446744073709551616) = (((ul + vl) / 18446744073709551616 : Nat) : Int) by omega] at hadd
  clear huh hul hvh hvl hu hv
  obtain ⟨c, hc⟩ : ∃ k, (ul + vl) / 18446744073709551616 = k := ⟨_, rfl⟩
  obtain ⟨d, hd⟩ : ∃ k, (ul + vl) % 18446744073709551616 = k := ⟨_, rfl⟩
  rw [hc, hd] at hadd
  rw [hc] at hlt ⊢
  rw [hd]
  clear hc hd
  have w1 : IntKind.u64.wrap ((uh : Int) + vh) = ((uh + vh : Nat) : Int) := by rw [addN]; exact wrapN _ (by omega)
  have w2 : IntKind.u64.wrap (((uh + vh : Nat) : Int) + c) = ((uh + vh + c : Nat) : Int) := by rw [addN]; exact wrapN _ (by omega)
  clear hlt
  have Hw2 := Lib.hid w2
  have Hw1 := Lib.hid w1
  obtain ⟨s1, hs1⟩ : ∃ k : Int, ((uh + vh : Nat) : Int) = k := ⟨_, rfl⟩
  obtain ⟨s2, hs2⟩ : ∃ k : Int, ((uh + vh + c : Nat) : Int) = k := ⟨_, rfl⟩
  rw [hs1] at w1 w2
  rw [hs2] at w2
  have Hs2 := Lib.hid hs2
  clear hs1 hs2 Hw1 Hw2
  show Calls _ _ _ _ fun e w' => e = .returned (.agg #[.int .u64 ((uh + vh + c : Nat) : Int), .int .u64 (d : Int)]) ∧ _
  rw [Hs2.out]
  go_enter Tryd.func76, Tryd.ntmps76
  go_wp2_with fail
  refine bodyPost_ret (results_cell_only rfl _ _ (w.heap.size + 1 + 1) 143 #[.int .u64 s2, .int .u64 (d : Int)] (0, 0) _ rfl (heap_last _ _ _ (by simp)) Tryd.underlying143 rfl (by kernel_rfl)) rfl ?_
  exact ⟨rfl, (((Below.refl _ _).alloc (Nat.le_refl _) _).alloc (by simp) _).alloc (by simp; omega) _⟩
theorem wtimes_any (u n : Nat) (w : World) (hn : n < 9223372036854775808) (h : u * n < 340282366920938463463374607431768211456) : Calls Tryd.prog 77 #[wN u, I n] w fun e w' => e = .returned (wN (u * n)) ∧ Below w.heap.size w w' := by
  have hu := Nat.mod_lt u (show 0 < 18446744073709551616 by decide)
  have hdm := Nat.div_add_mod u 18446744073709551616
  obtain ⟨uh, huh⟩ : ∃ k, u / 18446744073709551616 = k := ⟨_, rfl⟩
  obtain ⟨ul, hul⟩ : ∃ k, u % 18446744073709551616 = k := ⟨_, rfl⟩
  rw [hul] at hu
  rw [huh, hul] at hdm
  have hun : u * n = 18446744073709551616 * (uh * n) + ul * n := by rw [← hdm, Nat.add_mul, Nat.mul_assoc]
  have hc := mul64_any ul n hu (by omega)
  unfold wN
  rw [huh, hul]
  obtain ⟨A, hA⟩ : ∃ k, uh * n = k := ⟨_, rfl⟩
  obtain ⟨L, hL⟩ : ∃ k, ul * n = k := ⟨_, rfl⟩
  rw [hA, hL] at hun
  rw [hL] at hc
  have e1 : u * n / 18446744073709551616 = L / 18446744073709551616 + A := by omega
  have e2 : u * n % 18446744073709551616 = L % 18446744073709551616 := by omega
  have hlt : L / 18446744073709551616 + A < 18446744073709551616 := by omega
  rw [e1, e2]
  clear e1 e2 hun h hdm hL hul huh
  obtain ⟨c, hc'⟩ : ∃ k, L / 18446744073709551616 = k := ⟨_, rfl⟩
  obtain ⟨d, hd⟩ : ∃ k, L % 18446744073709551616 = k := ⟨_, rfl⟩
  rw [hc'] at hlt
  rw [hc', hd] at hc ⊢
  have Hc := Lib.hid hc
  have w0 : IntKind.u64.wrap (n : Int) = (n : Int) := wrapN _ (by omega)
  have w1 : IntKind.u64.wrap ((uh : Int) * n) = ((A : Nat) : Int) := by rw [mulN, hA]; exact wrapN _ (by omega)
  have w2 : IntKind.u64.wrap ((c : Int) + (A : Nat)) = ((c + A : Nat) : Int) := by rw [addN]; exact wrapN _ (by omega)
  obtain ⟨s2, hs2⟩ : ∃ k : Int, ((c + A : Nat) : Int) = k := ⟨_, rfl⟩
  rw [hs2] at w2
  have Hs2 := Lib.hid hs2
  show Calls _ _ _ _ fun e w' => e = .returned (.agg #[.int .u64 ((c + A : Nat) : Int), .int .u64 (d : Int)]) ∧ _
  rw [Hs2.out]
  obtain ⟨s1, hs1⟩ : ∃ k : Int, ((A : Nat) : Int) = k := ⟨_, rfl⟩
  rw [hs1] at w1 w2
  clear hs1 hs2 hc hlt hc' hd hA hu hn
  go_enter Tryd.func77, Tryd.ntmps77
  go_wp2_with fail
  refine (Hc.out _).mono ?_
  rintro e w' ⟨rfl, rfl⟩
  go_wp2_with fail
  refine bodyPost_ret (results_cell_only rfl _ _ (w.heap.size + 1) 143 #[.int .u64 s2, .int .u64 (d : Int)] (0, 0) _ rfl (heap_last _ _ _ (by simp)) Tryd.underlying143 rfl (by kernel_rfl)) rfl ?_
  exact ⟨rfl, ((Below.refl _ _).alloc (Nat.le_refl _) _).alloc (by simp) _⟩
def cmN (u v : Nat) : Int := if v < u then 1 else if u = v then 0 else -1
theorem wcmp_any (u v : Nat) (w : World) : Calls Tryd.prog 78 #[wN u, wN v] w fun e w' => e = .returned (I (cmN u v)) ∧ Below w.heap.size w w' := by
  have hu := Nat.mod_lt u (show 0 < 18446744073709551616 by decide)
  have hv := Nat.mod_lt v (show 0 < 18446744073709551616 by decide)
  have hdu := Nat.div_add_mod u 18446744073709551616
  have hdv := Nat.div_add_mod v 18446744073709551616
  unfold wN
  obtain ⟨uh, huh⟩ : ∃ k, u / 18446744073709551616 = k := ⟨_, rfl⟩
  obtain ⟨ul, hul⟩ : ∃ k, u % 18446744073709551616 = k := ⟨_, rfl⟩
  obtain ⟨vh, hvh⟩ : ∃ k, v / 18446744073709551616 = k := ⟨_, rfl⟩
  obtain ⟨vl, hvl⟩ : ∃ k, v % 18446744073709551616 = k := ⟨_, rfl⟩
  rw [huh, hul, hvh, hvl]
  rw [hul] at hu
  rw [hvl] at hv
  rw [huh, hul] at hdu
  rw [hvh, hvl] at hdv
  have HB : Hid (Below w.heap.size w ((w.alloc (.cells #[.int .u64 (uh : Int), .int .u64 (ul : Int)] 143)).alloc (.cells #[.int .u64 (vh : Int), .int .u64 (vl : Int)] 143))) := ((Below.refl _ _).alloc (Nat.le_refl _) _).alloc (by simp) _
  clear huh hul hvh hvl
  by_cases h1 : vh < uh
  · have hc : Hid (cmN u v = 1) := by show _ = _; unfold cmN; rw [if_pos (by omega)]
    have d1 : decide ((vh : Int) < (uh : Int)) = true := decide_eq_true (by omega)
    have d2 : decide (vh < uh) = true := decide_eq_true h1
    rw [hc.out]
    clear hu hv hdu hdv h1
    go_enter Tryd.func78, Tryd.ntmps78
    go_wp2_with fail
    go_ret
    exact ⟨rfl, HB.out⟩
  have d1 : decide ((vh : Int) < (uh : Int)) = false := decide_eq_false (by omega)
  have d2 : decide (vh < uh) = false := decide_eq_false h1
  by_cases h2 : uh = vh
  · have d3 : ((uh : Int) == (vh : Int)) = true := by rw [beq_iff_eq]; omega
    have d3n : (uh == vh) = true := by rw [beq_iff_eq]; omega
    by_cases h3 : vl < ul
    · have hc : Hid (cmN u v = 1) := by show _ = _; unfold cmN; rw [if_pos (by omega)]
      have d4 : decide ((vl : Int) < (ul : Int)) = true := decide_eq_true (by omega)
      have d5 : decide (vl < ul) = true := decide_eq_true h3
      rw [hc.out]
      clear hu hv hdu hdv h1 h2 h3
      go_enter Tryd.func78, Tryd.ntmps78
      go_wp2_with fail
      go_ret
      exact ⟨rfl, HB.out⟩
    have d4 : decide ((vl : Int) < (ul : Int)) = false := decide_eq_false (by omega)
    have d5 : decide (vl < ul) = false := decide_eq_false h3
    by_cases h4 : ul = vl
    · have hc : Hid (cmN u v = 0) := by show _ = _; unfold cmN; rw [if_neg (by omega), if_pos (by omega)]
      have d6 : ((ul : Int) == (vl : Int)) = true := by rw [beq_iff_eq]; omega
      have d6n : (ul == vl) = true := by rw [beq_iff_eq]; omega
      rw [hc.out]
      clear hu hv hdu hdv h1 h2 h3 h4
      go_enter Tryd.func78, Tryd.ntmps78
      go_wp2_with fail
      go_ret
      exact ⟨rfl, HB.out⟩
    · have hc : Hid (cmN u v = -1) := by show _ = _; unfold cmN; rw [if_neg (by omega), if_neg (by omega)]
      have d6 : ((ul : Int) == (vl : Int)) = false := by rw [beq_eq_false_iff_ne]; omega
      have d6n : (ul == vl) = false := by rw [beq_eq_false_iff_ne]; omega
      rw [hc.out]
      clear hu hv hdu hdv h1 h2 h3 h4
      go_enter Tryd.func78, Tryd.ntmps78
      go_wp2_with fail
      go_ret
      exact ⟨rfl, HB.out⟩
  · have d3 : ((uh : Int) == (vh : Int)) = false := by rw [beq_eq_false_iff_ne]; omega
    have d3n : (uh == vh) = false := by rw [beq_eq_false_iff_ne]; omega
    have hc : Hid (cmN u v = -1) := by show _ = _; unfold cmN; rw [if_neg (by omega), if_neg (by omega)]
    rw [hc.out]
    clear hu hv hdu hdv h1 h2
    go_enter Tryd.func78, Tryd.ntmps78
    go_wp2_with fail
    go_ret
    exact ⟨rfl, HB.out⟩
end Go.Proofs.YtfifdfagikbahaaDoor
