/- The contract of Course of the reference. -/
import Derived.Test.YtnkaoplgmglijaaDoorMe
import Derived.Test.YtnkaoplgmglijaaDoorSqf
import Derived.Laws.Externs
import Derived.Test.YtnkaoplgmglijaaDoorNb
namespace Go.Proofs.YtnkaoplgmglijaaDoor
open Go.RowKit
attribute [local go_sem] Oper.semAt_some
abbrev wA (h l : Nat) : Value := .agg #[.int .u64 (h : Int), .int .u64 (l : Int)]
abbrev wN (v : Nat) : Value := wA (v / 18446744073709551616) (v % 18446744073709551616)
def add64E : Array Value → Sem Value := add64Entry
theorem add64_run (x y c : Int) (h1 : 0 ≤ x ∧ x < 18446744073709551616) (h2 : 0 ≤ y ∧ y < 18446744073709551616) (h3 : 0 ≤ c ∧ c ≤ 1) (w : World) :
 (callFunc 84 #[.int .u64 x, .int .u64 y, .int .u64 c]).run Tryd.prog w = .ok (.value (.tuple #[.int .u64 ((x + y + c) % 18446744073709551616), .int .u64 ((x + y + c) / 18446744073709551616)])) w := by
 have hf := run_callFunc_extern (P := Tryd.prog) (f := 84) (e := add64E) Tryd.func84 (by kernel_rfl) (by kernel_rfl) (by kernel_rfl) (by kernel_rfl) #[.int .u64 x, .int .u64 y, .int .u64 c] w
 rw [hf]
 have := run_add64 (P := Tryd.prog) x y c h1.1 h2.1 h3.1 h3.2 w
 show ((add64Entry #[.int .u64 x, .int .u64 y, .int .u64 c]).run Tryd.prog w).andThen _ = _
 rw [this]
 rfl
theorem wprod_any (a b : Nat) (w : World) (ha : a < 9223372036854775808) (hb : b < 9223372036854775808) : Calls Tryd.prog 66 #[I a, I b] w fun e w' => e = .returned (wN (a * b)) ∧ Below w.heap.size w w' := by
 have hc := mul64_any a b (by omega) (by omega)
 unfold wN
 obtain ⟨vh, hvh⟩ : ∃ k, a * b / 18446744073709551616 = k := ⟨_, rfl⟩
 obtain ⟨vl, hvl⟩ : ∃ k, a * b % 18446744073709551616 = k := ⟨_, rfl⟩
 rw [hvh, hvl] at hc ⊢
 have Hc := Lib.hid hc
 have w1 : IntKind.u64.wrap (a : Int) = (a : Int) := wrapN _ (by omega)
 have w2 : IntKind.u64.wrap (b : Int) = (b : Int) := wrapN _ (by omega)
 clear hc hvh hvl ha hb
 go_enter Tryd.func66, Tryd.ntmps66
 go_wp2_with fail
 refine (Hc.out _).mono ?_
 rintro e w' ⟨rfl, rfl⟩
 go_wp2_with fail
 refine bodyPost_ret (results_cell_only rfl _ _ w.heap.size 143 #[.int .u64 (vh : Int), .int .u64 (vl : Int)] (0, 0) _ rfl (heap_last _ _ _ rfl) Tryd.underlying143 rfl (by kernel_rfl)) rfl ?_
 exact ⟨rfl, (Below.refl _ _).alloc (Nat.le_refl _) _⟩
theorem wplus_any (u v : Nat) (w : World) (h : u + v < 340282366920938463463374607431768211456) : Calls Tryd.prog 67 #[wN u, wN v] w fun e w' => e = .returned (wN (u + v)) ∧ Below w.heap.size w w' := by
 have e1 : (u + v) % 18446744073709551616 = (u % 18446744073709551616 + v % 18446744073709551616) % 18446744073709551616 := by omega
 have e2 : (u + v) / 18446744073709551616 = u / 18446744073709551616 + v / 18446744073709551616 + (u % 18446744073709551616 + v % 18446744073709551616) / 18446744073709551616 := by omega
 have hlt : u / 18446744073709551616 + v / 18446744073709551616 + (u % 18446744073709551616 + v % 18446744073709551616) / 18446744073709551616 < 18446744073709551616 := by omega
 have hu := Nat.mod_lt u (show 0 < 18446744073709551616 by decide)
 have hv := Nat.mod_lt v (show 0 < 18446744073709551616 by decide)
 unfold wN
 rw [e1, e2]
 clear e1 e2 h
 obtain ⟨uh, huh⟩ : ∃ k, u / 18446744073709551616 = k := ⟨_, rfl⟩
 obtain ⟨ul, hul⟩ : ∃ k, u % 18446744073709551616 = k := ⟨_, rfl⟩
 obtain ⟨vh, hvh⟩ : ∃ k, v / 18446744073709551616 = k := ⟨_, rfl⟩
 obtain ⟨vl, hvl⟩ : ∃ k, v % 18446744073709551616 = k := ⟨_, rfl⟩
 rw [huh, hul, hvh, hvl] at hlt ⊢
 rw [hul] at hu
 rw [hvl] at hv
 have hadd := add64_run (ul : Int) (vl : Int) 0 (by omega) (by omega) (by omega)
 rw [show (ul : Int) + vl + 0 = ((ul + vl : Nat) : Int) by omega] at hadd
 rw [show (((ul + vl : Nat) : Int) % 18446744073709551616) = (((ul + vl) % 18446744073709551616 : Nat) : Int) by omega, show (((ul + vl : Nat) : Int) / 18446744073709551616) = (((ul + vl) / 18446744073709551616 : Nat) : Int) by omega] at hadd
 clear huh hul hvh hvl hu hv
 obtain ⟨c, hc⟩ : ∃ k, (ul + vl) / 18446744073709551616 = k := ⟨_, rfl⟩
 obtain ⟨d, hd⟩ : ∃ k, (ul + vl) % 18446744073709551616 = k := ⟨_, rfl⟩
 rw [hc, hd] at hadd
 rw [hc] at hlt ⊢
 rw [hd]
 clear hc hd
 have w1 : IntKind.u64.wrap ((uh : Int) + vh) = ((uh + vh : Nat) : Int) := by rw [addN]; exact wrapN _ (by omega)
 have w2 : IntKind.u64.wrap (((uh + vh : Nat) : Int) + c) = ((uh + vh + c : Nat) : Int) := by rw [addN]; exact wrapN _ (by omega)
 clear hlt
 have Hw2 := Lib.hid w2
 have Hw1 := Lib.hid w1
 obtain ⟨s1, hs1⟩ : ∃ k : Int, ((uh + vh : Nat) : Int) = k := ⟨_, rfl⟩
 obtain ⟨s2, hs2⟩ : ∃ k : Int, ((uh + vh + c : Nat) : Int) = k := ⟨_, rfl⟩
 rw [hs1] at w1 w2
 rw [hs2] at w2
 have Hs2 := Lib.hid hs2
 clear hs1 hs2 Hw1 Hw2
 show Calls _ _ _ _ fun e w' => e = .returned (.agg #[.int .u64 ((uh + vh + c : Nat) : Int), .int .u64 (d : Int)]) ∧ _
 rw [Hs2.out]
 go_enter Tryd.func67, Tryd.ntmps67
 go_wp2_with fail
 refine bodyPost_ret (results_cell_only rfl _ _ (w.heap.size + 1 + 1) 143 #[.int .u64 s2, .int .u64 (d : Int)] (0, 0) _ rfl (heap_last _ _ _ (by simp)) Tryd.underlying143 rfl (by kernel_rfl)) rfl ?_
 exact ⟨rfl, (((Below.refl _ _).alloc (Nat.le_refl _) _).alloc (by simp) _).alloc (by simp; omega) _⟩
theorem wtimes_any (u n : Nat) (w : World) (hn : n < 9223372036854775808) (h : u * n < 340282366920938463463374607431768211456) : Calls Tryd.prog 68 #[wN u, I n] w fun e w' => e = .returned (wN (u * n)) ∧ Below w.heap.size w w' := by
 have hu := Nat.mod_lt u (show 0 < 18446744073709551616 by decide)
 have hdm := Nat.div_add_mod u 18446744073709551616
 obtain ⟨uh, huh⟩ : ∃ k, u / 18446744073709551616 = k := ⟨_, rfl⟩
 obtain ⟨ul, hul⟩ : ∃ k, u % 18446744073709551616 = k := ⟨_, rfl⟩
 rw [hul] at hu
 rw [huh, hul] at hdm
 have hun : u * n = 18446744073709551616 * (uh * n) + ul * n := by rw [← hdm, Nat.add_mul, Nat.mul_assoc]
 have hc := mul64_any ul n hu (by omega)
 unfold wN
 rw [huh, hul]
 obtain ⟨A, hA⟩ : ∃ k, uh * n = k := ⟨_, rfl⟩
 obtain ⟨L, hL⟩ : ∃ k, ul * n = k := ⟨_, rfl⟩
 rw [hA, hL] at hun
 rw [hL] at hc
 have e1 : u * n / 18446744073709551616 = L / 18446744073709551616 + A := by omega
 have e2 : u * n % 18446744073709551616 = L % 18446744073709551616 := by omega
 have hlt : L / 18446744073709551616 + A < 18446744073709551616 := by omega
 rw [e1, e2]
 clear e1 e2 hun h hdm hL hul huh
 obtain ⟨c, hc'⟩ : ∃ k, L / 18446744073709551616 = k := ⟨_, rfl⟩
 obtain ⟨d, hd⟩ : ∃ k, L % 18446744073709551616 = k := ⟨_, rfl⟩
 rw [hc'] at hlt
 rw [hc', hd] at hc ⊢
 have Hc := Lib.hid hc
 have w0 : IntKind.u64.wrap (n : Int) = (n : Int) := wrapN _ (by omega)
 have w1 : IntKind.u64.wrap ((uh : Int) * n) = ((A : Nat) : Int) := by rw [mulN, hA]; exact wrapN _ (by omega)
 have w2 : IntKind.u64.wrap ((c : Int) + (A : Nat)) = ((c + A : Nat) : Int) := by rw [addN]; exact wrapN _ (by omega)
 obtain ⟨s2, hs2⟩ : ∃ k : Int, ((c + A : Nat) : Int) = k := ⟨_, rfl⟩
 rw [hs2] at w2
 have Hs2 := Lib.hid hs2
 show Calls _ _ _ _ fun e w' => e = .returned (.agg #[.int .u64 ((c + A : Nat) : Int), .int .u64 (d : Int)]) ∧ _
 rw [Hs2.out]
 obtain ⟨s1, hs1⟩ : ∃ k : Int, ((A : Nat) : Int) = k := ⟨_, rfl⟩
 rw [hs1] at w1 w2
 clear hs1 hs2 hc hlt hc' hd hA hu hn
 go_enter Tryd.func68, Tryd.ntmps68
 go_wp2_with fail
 refine (Hc.out _).mono ?_
 rintro e w' ⟨rfl, rfl⟩
 go_wp2_with fail
 refine bodyPost_ret (results_cell_only rfl _ _ (w.heap.size + 1) 143 #[.int .u64 s2, .int .u64 (d : Int)] (0, 0) _ rfl (heap_last _ _ _ (by simp)) Tryd.underlying143 rfl (by kernel_rfl)) rfl ?_
 exact ⟨rfl, ((Below.refl _ _).alloc (Nat.le_refl _) _).alloc (by simp) _⟩
def cmN (u v : Nat) : Int := if v < u then 1 else if u = v then 0 else -1
theorem wcmp_any (u v : Nat) (w : World) : Calls Tryd.prog 69 #[wN u, wN v] w fun e w' => e = .returned (I (cmN u v)) ∧ Below w.heap.size w w' := by
 have hu := Nat.mod_lt u (show 0 < 18446744073709551616 by decide)
 have hv := Nat.mod_lt v (show 0 < 18446744073709551616 by decide)
 have hdu := Nat.div_add_mod u 18446744073709551616
 have hdv := Nat.div_add_mod v 18446744073709551616
 unfold wN
 obtain ⟨uh, huh⟩ : ∃ k, u / 18446744073709551616 = k := ⟨_, rfl⟩
 obtain ⟨ul, hul⟩ : ∃ k, u % 18446744073709551616 = k := ⟨_, rfl⟩
 obtain ⟨vh, hvh⟩ : ∃ k, v / 18446744073709551616 = k := ⟨_, rfl⟩
 obtain ⟨vl, hvl⟩ : ∃ k, v % 18446744073709551616 = k := ⟨_, rfl⟩
 rw [huh, hul, hvh, hvl]
 rw [hul] at hu
 rw [hvl] at hv
 rw [huh, hul] at hdu
 rw [hvh, hvl] at hdv
 have HB : Hid (Below w.heap.size w ((w.alloc (.cells #[.int .u64 (uh : Int), .int .u64 (ul : Int)] 143)).alloc (.cells #[.int .u64 (vh : Int), .int .u64 (vl : Int)] 143))) := ((Below.refl _ _).alloc (Nat.le_refl _) _).alloc (by simp) _
 clear huh hul hvh hvl
 by_cases h1 : vh < uh
 · have hc : Hid (cmN u v = 1) := by show _ = _; unfold cmN; rw [if_pos (by omega)]
   have d1 : decide ((vh : Int) < (uh : Int)) = true := decide_eq_true (by omega)
   have d2 : decide (vh < uh) = true := decide_eq_true h1
   rw [hc.out]
   clear hu hv hdu hdv h1
   go_enter Tryd.func69, Tryd.ntmps69
   go_wp2_with fail
   go_ret
   exact ⟨rfl, HB.out⟩
 have d1 : decide ((vh : Int) < (uh : Int)) = false := decide_eq_false (by omega)
 have d2 : decide (vh < uh) = false := decide_eq_false h1
 by_cases h2 : uh = vh
 · have d3 : ((uh : Int) == (vh : Int)) = true := by rw [beq_iff_eq]; omega
   have d3n : (uh == vh) = true := by rw [beq_iff_eq]; omega
   by_cases h3 : vl < ul
   · have hc : Hid (cmN u v = 1) := by show _ = _; unfold cmN; rw [if_pos (by omega)]
     have d4 : decide ((vl : Int) < (ul : Int)) = true := decide_eq_true (by omega)
     have d5 : decide (vl < ul) = true := decide_eq_true h3
     rw [hc.out]
     clear hu hv hdu hdv h1 h2 h3
     go_enter Tryd.func69, Tryd.ntmps69
     go_wp2_with fail
     go_ret
     exact ⟨rfl, HB.out⟩
   have d4 : decide ((vl : Int) < (ul : Int)) = false := decide_eq_false (by omega)
   have d5 : decide (vl < ul) = false := decide_eq_false h3
   by_cases h4 : ul = vl
   · have hc : Hid (cmN u v = 0) := by show _ = _; unfold cmN; rw [if_neg (by omega), if_pos (by omega)]
     have d6 : ((ul : Int) == (vl : Int)) = true := by rw [beq_iff_eq]; omega
     have d6n : (ul == vl) = true := by rw [beq_iff_eq]; omega
     rw [hc.out]
     clear hu hv hdu hdv h1 h2 h3 h4
     go_enter Tryd.func69, Tryd.ntmps69
     go_wp2_with fail
     go_ret
     exact ⟨rfl, HB.out⟩
   · have hc : Hid (cmN u v = -1) := by show _ = _; unfold cmN; rw [if_neg (by omega), if_neg (by omega)]
     have d6 : ((ul : Int) == (vl : Int)) = false := by rw [beq_eq_false_iff_ne]; omega
     have d6n : (ul == vl) = false := by rw [beq_eq_false_iff_ne]; omega
     rw [hc.out]
     clear hu hv hdu hdv h1 h2 h3 h4
     go_enter Tryd.func69, Tryd.ntmps69
     go_wp2_with fail
     go_ret
     exact ⟨rfl, HB.out⟩
 · have d3 : ((uh : Int) == (vh : Int)) = false := by rw [beq_eq_false_iff_ne]; omega
   have d3n : (uh == vh) = false := by rw [beq_eq_false_iff_ne]; omega
   have hc : Hid (cmN u v = -1) := by show _ = _; unfold cmN; rw [if_neg (by omega), if_neg (by omega)]
   rw [hc.out]
   clear hu hv hdu hdv h1 h2
   go_enter Tryd.func69, Tryd.ntmps69
   go_wp2_with fail
   go_ret
   exact ⟨rfl, HB.out⟩
end Go.Proofs.YtnkaoplgmglijaaDoor
namespace Go.Proofs.YtnkaoplgmglijaaDoor
open Go.RowKit
attribute [local go_sem] Oper.semAt_some
structure Mix where
 ms : Nat
 ct : Nat
 fd : Nat
 sh : Nat
 bd : Nat
 ls : Bool
abbrev mixArr (a : Mix) : Array Value := #[I a.ms, I a.ct, I a.fd, I a.sh, I a.bd, .bool a.ls]
structure MixOk (a : Mix) : Prop where
 ms : a.ms ≤ 1000000000
 ct : a.ct ≤ 1000000000000
 fd : a.fd ≤ 1000000000
 sh : a.sh ≤ 20000
 bd : a.bd ≤ 1000000000
def mxL (a : Mix) (x : Nat) : Nat := (1000000 * a.ct + a.fd * x) * a.sh
def mxR (a : Mix) (x : Nat) : Nat := 10000 * a.bd * (a.ms + x)
def hld (a : Mix) (x : Nat) : Bool := if a.ls then decide (mxR a x ≤ mxL a x) else decide (mxL a x ≤ mxR a x)
set_option maxHeartbeats 1000000 in
set_option maxRecDepth 100000 in
theorem holds_any (a : Mix) (x : Nat) (w : World) (ha : MixOk a) (hx : x ≤ 1000000000) : Calls Tryd.prog 43 #[.agg (mixArr a), I x] w fun e w' => e = .returned (.bool (hld a x)) ∧ Below w.heap.size w w' := by
 obtain ⟨h1, h2, h3, h4, h5⟩ := ha
 have hfx : a.fd * x ≤ 1000000000 * 1000000000 := Nat.mul_le_mul h3 hx
 have hL : mxL a x ≤ (1000000 * 1000000000000 + 1000000000 * 1000000000) * 20000 := Nat.mul_le_mul (by omega) h4
 have p1 : Hid (∀ w', Calls Tryd.prog 66 #[I 1000000, I a.ct] w' fun e w'' => e = .returned (wN (1000000 * a.ct)) ∧ Below w'.heap.size w' w'') := fun w' => wprod_any 1000000 a.ct w' (by decide) (by omega)
 have p2 : Hid (∀ w', Calls Tryd.prog 66 #[I a.fd, I x] w' fun e w'' => e = .returned (wN (a.fd * x)) ∧ Below w'.heap.size w' w'') := fun w' => wprod_any a.fd x w' (by omega) (by omega)
 have p3 : Hid (∀ w', Calls Tryd.prog 67 #[wN (1000000 * a.ct), wN (a.fd * x)] w' fun e w'' => e = .returned (wN (1000000 * a.ct + a.fd * x)) ∧ Below w'.heap.size w' w'') := fun w' => wplus_any _ _ w' (by omega)
 have p4 : Hid (∀ w', Calls Tryd.prog 68 #[wN (1000000 * a.ct + a.fd * x), I a.sh] w' fun e w'' => e = .returned (wN (mxL a x)) ∧ Below w'.heap.size w' w'') := fun w' => wtimes_any _ _ w' (by omega) (by have : (1000000 * a.ct + a.fd * x) * a.sh = mxL a x := rfl; omega)
 have w1 : IntKind.i64.wrap (10000 * (a.bd : Int)) = ((10000 * a.bd : Nat) : Int) := by rw [show (10000 : Int) * (a.bd : Int) = ((10000 * a.bd : Nat) : Int) by omega]; exact IntWalk.i64_in _ (by omega)
 have w2 : IntKind.i64.wrap ((a.ms : Int) + (x : Int)) = ((a.ms + x : Nat) : Int) := by rw [addN]; exact IntWalk.i64_in _ (by omega)
 have p5 : Hid (∀ w', Calls Tryd.prog 66 #[I ((10000 * a.bd : Nat) : Int), I ((a.ms + x : Nat) : Int)] w' fun e w'' => e = .returned (wN (mxR a x)) ∧ Below w'.heap.size w' w'') := fun w' => wprod_any _ _ w' (by omega) (by omega)
 have p6 : Hid (∀ w', Calls Tryd.prog 69 #[wN (mxL a x), wN (mxR a x)] w' fun e w'' => e = .returned (I (cmN (mxL a x) (mxR a x))) ∧ Below w'.heap.size w' w'') := fun w' => wcmp_any _ _ w'
 have hh : hld a x = if a.ls then decide (cmN (mxL a x) (mxR a x) ≥ 0) else decide (cmN (mxL a x) (mxR a x) ≤ 0) := by
  unfold hld cmN
  rcases a.ls with _ | _
  · simp only [Bool.false_eq_true, if_false]
    congr 1
    apply propext
    split
    · omega
    · split <;> omega
  · simp only [if_true]
    congr 1
    apply propext
    split
    · omega
    · split <;> omega
 clear hfx hL h1 h2 h3 h4 h5 hx
 obtain ⟨L, hLL⟩ : ∃ q, mxL a x = q := ⟨_, rfl⟩
 obtain ⟨Rr, hRR⟩ : ∃ q, mxR a x = q := ⟨_, rfl⟩
 obtain ⟨P1, hP1⟩ : ∃ q, wN (1000000 * a.ct) = q := ⟨_, rfl⟩
 obtain ⟨P2, hP2⟩ : ∃ q, wN (a.fd * x) = q := ⟨_, rfl⟩
 obtain ⟨P3, hP3⟩ : ∃ q, wN (1000000 * a.ct + a.fd * x) = q := ⟨_, rfl⟩
 obtain ⟨z1, hz1⟩ : ∃ q : Int, ((10000 * a.bd : Nat) : Int) = q := ⟨_, rfl⟩
 obtain ⟨z2, hz2⟩ : ∃ q : Int, ((a.ms + x : Nat) : Int) = q := ⟨_, rfl⟩
 simp only [hLL, hRR, hP1, hP2, hP3, hz1, hz2] at p1 p2 p3 p4 p5 p6
 rw [hLL, hRR] at hh
 rw [hz1] at w1
 rw [hz2] at w2
 obtain ⟨Lh, hLh⟩ : ∃ q, L / 18446744073709551616 = q := ⟨_, rfl⟩
 obtain ⟨Ll, hLl⟩ : ∃ q, L % 18446744073709551616 = q := ⟨_, rfl⟩
 obtain ⟨Rh, hRh⟩ : ∃ q, Rr / 18446744073709551616 = q := ⟨_, rfl⟩
 obtain ⟨Rl, hRl⟩ : ∃ q, Rr % 18446744073709551616 = q := ⟨_, rfl⟩
 simp only [wN, hLh, hLl, hRh, hRl] at p4 p5 p6
 clear hLh hLl hRh hRl
 have Hh := Lib.hid hh
 clear hLL hRR hP1 hP2 hP3 hz1 hz2 hh
 obtain ⟨ms, ct, fd, sh, bd, lsb⟩ := a
 obtain ⟨W, hW⟩ : ∃ W, W = w.alloc (.cells (mixArr ⟨ms, ct, fd, sh, bd, lsb⟩) 116) := ⟨_, rfl⟩
 have HW := Lib.hid hW
 have hb0 : Below w.heap.size w W := by rw [hW]; exact (Below.refl _ _).alloc (Nat.le_refl _) _
 have r0 : W.heap[w.heap.size]? = some (.cells (mixArr ⟨ms, ct, fd, sh, bd, lsb⟩) 116 (0, 0)) := by rw [hW]; exact heap_last _ _ _ rfl
 have sW : W.heap.size = w.heap.size + 1 := by rw [hW]; simp
 have y := fun k (v : Value) (h : (mixArr ⟨ms, ct, fd, sh, bd, lsb⟩)[k]? = some v) => ovr_cell (show W.cell? ⟨w.heap.size, k, none⟩ = some v by rw [cell_of_row _ _ _ _ _ _ r0]; exact h)
 have y1 := y 1 _ rfl
 have y2 := y 2 _ rfl
 have y3 := y 3 _ rfl
 have Hr0 := Lib.hid r0
 have Hb0 := Lib.hid hb0
 clear y hW hb0 r0
 simp only at p1 p2 p3 p4 p5 p6 y1 y2 y3 w1 w2
 go_enter Tryd.func43, Tryd.ntmps43
 go_upto_region 1 with (fail)
 rw [← HW.out]
 refine wp_region_seq2 12 (fun j => if j = 2 then some (fun u _ => u = P1) else if j = 6 then some (fun u _ => u = P2) else if j = 7 then some (fun u _ => u = P3) else if j = 10 then some (fun u _ => u = wA Lh Ll) else if j = 11 then some (NewAt W #[.int .u64 0, .int .u64 0] 143) else none) (by kernel_rfl) (by kernel_rfl) (by kernel_rfl) (by kernel_rfl) (by kernel_rfl) ?_
 simp only [List.take_succ_cons, List.take_zero, List.drop_succ_cons, List.drop_zero]
 repeat (refine wpG_one rfl rfl rfl ?_; intro K hK; go_big_quiet_op; go_big_quiet_on)
 refine wpG_make (fun u _ => u = P1) rfl rfl (fun w' hw' _ => ?_) (fun u hu => ?_)
 · go_simp
   exact call_grow (p1.out w')
 obtain ⟨_, _, rfl⟩ := hu
 simp only [Act.put, List.setIfInBounds_toArray, List.set_cons_zero, List.set_cons_succ]
 repeat (refine wpG_one rfl rfl rfl ?_; intro K hK; go_big_quiet_op; go_big_quiet_on)
 refine wpG_make (fun u _ => u = P2) rfl rfl (fun w' hw' _ => ?_) (fun u hu => ?_)
 · go_simp
   exact call_grow (p2.out w')
 obtain ⟨_, _, rfl⟩ := hu
 simp only [Act.put, List.setIfInBounds_toArray, List.set_cons_zero, List.set_cons_succ]
 refine wpG_make (fun u _ => u = P3) rfl rfl (fun w' hw' _ => ?_) (fun u hu => ?_)
 · go_simp
   exact call_grow (p3.out w')
 obtain ⟨_, _, rfl⟩ := hu
 simp only [Act.put, List.setIfInBounds_toArray, List.set_cons_zero, List.set_cons_succ]
 repeat (refine wpG_one rfl rfl rfl ?_; intro K hK; go_big_quiet_op; go_big_quiet_on)
 refine wpG_make (fun u _ => u = wA Lh Ll) rfl rfl (fun w' hw' _ => ?_) (fun u hu => ?_)
 · go_simp
   exact call_grow (p4.out w')
 obtain ⟨_, _, rfl⟩ := hu
 simp only [Act.put, List.setIfInBounds_toArray, List.set_cons_zero, List.set_cons_succ]
 refine wpG_make (NewAt W #[.int .u64 0, .int .u64 0] 143) rfl rfl (fun w' hw' _ => ?_) (fun u hu => ?_)
 · go_simp
   exact new_grow hw'
 obtain ⟨_, _, bn, rfl, _, _⟩ := hu
 simp only [Act.put, List.setIfInBounds_toArray, List.set_cons_zero, List.set_cons_succ]
 refine wpG_nil (fun w5 hw5 hG => ?_)
 have hn := (Box.now hG.2).at
 clear hG
 refine wpTailIn_cons Wd.wide (by intro c h; cases h) ?_
 refine wp_store_row 143 _ _ rfl bn rfl _ _ hn.1 #[.int .u64 (Lh : Int), .int .u64 (Ll : Int)] rfl (one2 rfl rfl) rfl (by kernel_rfl) ?_
 refine wpTailIn_nil ?_
 simp only [Act.put]
 obtain ⟨Y, hY⟩ : ∃ Y, Y = w5.setRow bn #[.int .u64 (Lh : Int), .int .u64 (Ll : Int)] := ⟨_, rfl⟩
 have bY : Below W.heap.size W Y := by rw [hY]; exact below_setRow hw5.le hn.2 _
 have rY : Y.heap[bn]? = some (.cells #[.int .u64 (Lh : Int), .int .u64 (Ll : Int)] 143 (0, 0)) := by rw [hY]; exact setRow_same hn.1
 have hbn := hn.2
 have rM := (bY.block w.heap.size (by omega)).trans Hr0.out
 have HbY := Lib.hid bY
 have HrY := Lib.hid rY
 have HrM := Lib.hid rM
 have hbY := (Array.getElem?_eq_some_iff.1 rY).1
 have y := fun k (v : Value) (h : (mixArr ⟨ms, ct, fd, sh, bd, lsb⟩)[k]? = some v) => (show Y.cell? ⟨w.heap.size, k, none⟩ = some v by rw [cell_of_row _ _ _ _ _ _ rM]; exact h)
 have y0 := y 0 _ rfl
 have y4 := y 4 _ rfl
 rw [← hY]
 clear hY hn hw5 bY rY rM y y1 y2 y3
 go_wp2_with fail
 refine (p5.out Y).mono ?_
 rintro e w6 ⟨rfl, hb6⟩
 have rM := (hb6.block w.heap.size (by omega)).trans HrM.out
 have y5 : w6.cell? ⟨w.heap.size, 5, none⟩ = some (.bool lsb) := by rw [cell_of_row _ _ _ _ _ _ rM]; rfl
 have r6 := (hb6.block bn hbY).trans HrY.out
 have Hr6 := Lib.hid r6
 have Hb6 : Hid (Below w.heap.size w w6) := Hb0.out.trans ((HbY.out.mono (by omega)).trans (hb6.mono (by omega)))
 have hs6 := hb6.size
 have HM6 := Lib.hid rM
 clear y0 y4 rM r6 hb6
 go_upto_region 3 with (refine wpList_store_row rfl 143 _ _ rfl w6.heap.size rfl _ _ (heap_last w6 (.cells #[.int .u64 0, .int .u64 0] 143) _ rfl) #[.int .u64 (Rh : Int), .int .u64 (Rl : Int)] rfl (one2 rfl rfl) rfl (by kernel_rfl) ?_)
 refine name_w fun V hV => ?_
 simp only [Act.put]
 obtain ⟨bm, hbm⟩ : ∃ q, w6.heap.size = q := ⟨_, rfl⟩
 have rm : V.heap[bm]? = some (.cells #[.int .u64 (Rh : Int), .int .u64 (Rl : Int)] 143 (0, 0)) := by rw [hV, ← hbm]; exact setRow_same (heap_last _ _ _ rfl)
 have b6V : Below w6.heap.size w6 V := by rw [hV]; exact below_setRow ((Below.refl _ _).alloc (Nat.le_refl _) _) (Nat.le_refl _) _
 have rn := (b6V.block bn (by omega)).trans Hr6.out
 have ry := (b6V.block w.heap.size (by omega)).trans HM6.out
 have q0 : V.cell? ⟨bn, 0, none⟩ = some (.int .u64 Lh) := by rw [cell_of_row _ _ _ _ _ _ rn]; rfl
 have q1 : V.cell? ⟨bn, 1, none⟩ = some (.int .u64 Ll) := by rw [cell_of_row _ _ _ _ _ _ rn]; rfl
 have q2 : V.cell? ⟨bm, 0, none⟩ = some (.int .u64 Rh) := by rw [cell_of_row _ _ _ _ _ _ rm]; rfl
 have q3 : V.cell? ⟨bm, 1, none⟩ = some (.int .u64 Rl) := by rw [cell_of_row _ _ _ _ _ _ rm]; rfl
 have q5 : V.cell? ⟨w.heap.size, 5, none⟩ = some (.bool lsb) := by rw [cell_of_row _ _ _ _ _ _ ry]; rfl
 have HV : Hid (Below w.heap.size w V) := Hb6.out.trans (b6V.mono (by omega))
 rw [hbm]
 clear hV rm b6V rn ry y5 hbm
 obtain ⟨c, hc⟩ : ∃ q, cmN L Rr = q := ⟨_, rfl⟩
 rw [hc] at p6 Hh
 clear hc
 rcases lsb with _ | _
 · go_wp2_with fail
   refine (p6.out V).mono ?_
   rintro e w7 ⟨rfl, hb7⟩
   have H7 := Lib.hid hb7
   clear hb7
   go_wp2_with fail
   go_ret
   exact ⟨by rw [Hh.out]; simp, HV.out.trans (H7.out.mono HV.out.size)⟩
 · go_wp2_with fail
   refine (p6.out V).mono ?_
   rintro e w7 ⟨rfl, hb7⟩
   have H7 := Lib.hid hb7
   clear hb7
   go_wp2_with fail
   go_ret
   exact ⟨by rw [Hh.out]; simp, HV.out.trans (H7.out.mono HV.out.size)⟩
end Go.Proofs.YtnkaoplgmglijaaDoor
namespace Go.Proofs.YtnkaoplgmglijaaDoor
open Go.RowKit
attribute [local go_sem] Oper.semAt_some
structure RfIn (W : World) (a : Mix) (lw q l : Nat) : Prop where
 r : W.heap[q]? = some (.cells (mixArr a) 116 (0, 0))
 l : W.heap[l]? = some (.cells #[I lw] 3 (0, 0))
theorem RfIn.below {W W' : World} {a : Mix} {lw q l : Nat} (h : RfIn W a lw q l) (hb : Below W.heap.size W W') : RfIn W' a lw q l :=
 ⟨(hb.block _ (Array.getElem?_eq_some_iff.1 h.r).1).trans h.r, (hb.block _ (Array.getElem?_eq_some_iff.1 h.l).1).trans h.l⟩
def Turn (p : Nat → Bool) (n r : Nat) : Prop := r ≤ n ∧ (0 < r → p (r - 1) = false) ∧ (r < n → p r = true)
end Go.Proofs.YtnkaoplgmglijaaDoor
namespace Go.Proofs.YtnkaoplgmglijaaDoor
open Go.RowKit
attribute [local go_sem] Oper.semAt_some
theorem mxL_add (a : Mix) (x d : Nat) : mxL a (x + d) = mxL a x + a.fd * a.sh * d := by
 unfold mxL
 rw [Nat.mul_add, ← Nat.add_assoc, Nat.add_mul, Nat.mul_assoc a.fd d a.sh, Nat.mul_comm d a.sh, ← Nat.mul_assoc]
theorem mxR_add (a : Mix) (x d : Nat) : mxR a (x + d) = mxR a x + 10000 * a.bd * d := by
 unfold mxR
 rw [← Nat.add_assoc, Nat.mul_add]
theorem hld_cvx (a : Mix) {x y z : Nat} (h1 : x ≤ y) (h2 : y ≤ z) : (hld a x = true → hld a z = true → hld a y = true) ∧ (hld a x = false → hld a z = false → hld a y = false) := by
 obtain ⟨d, rfl⟩ : ∃ d, y = x + d := ⟨y - x, by omega⟩
 obtain ⟨d', rfl⟩ : ∃ d', z = x + d + d' := ⟨z - (x + d), by omega⟩
 have l1 := mxL_add a x d
 have l2 := mxL_add a (x + d) d'
 have r1 := mxR_add a x d
 have r2 := mxR_add a (x + d) d'
 have key : (a.fd * a.sh * d ≤ 10000 * a.bd * d ∧ a.fd * a.sh * d' ≤ 10000 * a.bd * d') ∨ (10000 * a.bd * d ≤ a.fd * a.sh * d ∧ 10000 * a.bd * d' ≤ a.fd * a.sh * d') := by
  rcases Nat.le_total (a.fd * a.sh) (10000 * a.bd) with h | h
  · exact .inl ⟨Nat.mul_le_mul_right _ h, Nat.mul_le_mul_right _ h⟩
  · exact .inr ⟨Nat.mul_le_mul_right _ h, Nat.mul_le_mul_right _ h⟩
 unfold hld
 generalize mxL a x = L0 at *
 generalize mxL a (x + d) = L1 at *
 generalize mxL a (x + d + d') = L2 at *
 generalize mxR a x = R0 at *
 generalize mxR a (x + d) = R1 at *
 generalize mxR a (x + d + d') = R2 at *
 generalize a.fd * a.sh * d = p1 at *
 generalize a.fd * a.sh * d' = p2 at *
 generalize 10000 * a.bd * d = q1 at *
 generalize 10000 * a.bd * d' = q2 at *
 rcases a.ls with _ | _
 · simp only [Bool.false_eq_true, if_false, decide_eq_true_eq, decide_eq_false_iff_not]
   omega
 · simp only [if_true, decide_eq_true_eq, decide_eq_false_iff_not]
   omega
theorem step_first {a : Mix} {low high r : Nat} (h : low ≤ high) (hl : hld a high = true) (hT : Turn (fun i => hld a (low + i)) (high - low) r) : low + r ≤ high ∧ ∀ x, low ≤ x → x ≤ high → (hld a x = true ↔ low + r ≤ x) := by
 obtain ⟨h1, h2, h3⟩ := hT
 have ht : hld a (low + r) = true := by
  rcases Nat.lt_or_ge r (high - low) with h4 | h4
  · exact h3 h4
  · rw [show low + r = high by omega]; exact hl
 refine ⟨by omega, fun x hx hx2 => ⟨fun hx3 => ?_, fun hx3 => (hld_cvx a hx3 hx2).1 ht hl⟩⟩
 rcases Nat.lt_or_ge x (low + r) with h4 | h4
 · have h5 : hld a (low + (r - 1)) = false := h2 (by omega)
   have h6 := (hld_cvx a (show x ≤ low + (r - 1) by omega) (show low + (r - 1) ≤ low + r by omega)).1 hx3 ht
   rw [h5] at h6; cases h6
 · exact h4
theorem step_last {a : Mix} {low high r : Nat} (h : low ≤ high) (hf : hld a low = true) (hl : hld a high = false) (hT : Turn (fun i => !hld a (low + i)) (high - low) r) : 1 ≤ r ∧ low + r ≤ high ∧ ∀ x, low ≤ x → x ≤ high → (hld a x = true ↔ x ≤ low + r - 1) := by
 obtain ⟨h1, h2, h3⟩ := hT
 have hlt : low < high := by
  rcases Nat.lt_or_ge low high with h4 | h4
  · exact h4
  · obtain rfl : low = high := by omega
    rw [hf] at hl; cases hl
 have hr : 1 ≤ r := by
  rcases Nat.eq_zero_or_pos r with h4 | h4
  · subst h4
    have := h3 (by omega)
    simp [hf] at this
  · exact h4
 have ht : hld a (low + r) = false := by
  rcases Nat.lt_or_ge r (high - low) with h4 | h4
  · have := h3 h4
    simpa using this
  · rw [show low + r = high by omega]; exact hl
 have h5 : hld a (low + r - 1) = true := by
  have := h2 (by omega)
  rw [show low + r - 1 = low + (r - 1) by omega]
  simpa using this
 refine ⟨hr, by omega, fun x hx hx2 => ⟨fun hx3 => ?_, fun hx3 => (hld_cvx a hx hx3).1 hf h5⟩⟩
 rcases Nat.lt_or_ge x (low + r) with h4 | h4
 · omega
 · have h6 := (hld_cvx a h4 hx2).2 ht hl
   rw [h6] at hx3; cases hx3
def mxs (m : Mlt) (feed coef tgt : Rng) (s : Nat) (k : Nat) : Mix := if k = 0 then ⟨m.ms.toNat, (m.ct (s * 2 + 1)).toNat, feed.hi.toNat, coef.hi.toNat, tgt.hi.toNat, false⟩ else ⟨m.ms.toNat, (m.ct (s * 2)).toNat, feed.lo.toNat, coef.lo.toNat, tgt.lo.toNat, true⟩
def lo0 (m : Mlt) : Nat := if m.ms = 0 then 1 else 0
def hi0 (m : Mlt) : Nat := (1000000000 - m.ms).toNat
def spB (s : Int) : Bool := decide (0 ≤ s) && decide (s ≤ 2)
theorem isSpecies_any (s : Int) (w : World) : Calls Tryd.prog 26 #[I s] w fun e w' => e = .returned (.bool (spB s)) ∧ Below w.heap.size w w' := by
 unfold spB
 rcases h1 : decide (0 ≤ s) with _ | _
 · go_enter Tryd.func26, Tryd.ntmps26
   go_wp2_with fail
   go_ret
   exact ⟨rfl, Below.refl _ _⟩
 · rcases h2 : decide (s ≤ 2) with _ | _
   · go_enter Tryd.func26, Tryd.ntmps26
     go_wp2_with fail
     go_ret
     exact ⟨rfl, Below.refl _ _⟩
   · go_enter Tryd.func26, Tryd.ntmps26
     go_wp2_with fail
     go_ret
     exact ⟨rfl, Below.refl _ _⟩
def rfOk (m : Mlt) (feed coef tgt : Rng) (s : Int) : Int := if isM m = false then 2 else if spB s = false then 7 else if rgB feed 1000000000 = false ∨ rgB tgt 1000000000 = false ∨ rgB coef 20000 = false then 2 else 0
structure MixV (m : Mlt) (feed coef tgt : Rng) (s : Int) : Prop where
 a0 : mixArr (mxs m feed coef tgt s.toNat 0) = #[I m.ms, I (m.ct (s.toNat * 2 + 1)), I feed.hi, I coef.hi, I tgt.hi, .bool false]
 a1 : mixArr (mxs m feed coef tgt s.toNat 1) = #[I m.ms, I (m.ct (s.toNat * 2)), I feed.lo, I coef.lo, I tgt.lo, .bool true]
 ok : ∀ k, MixOk (mxs m feed coef tgt s.toNat k)
theorem rgB_bd {r : Rng} {b : Int} (h : rgB r b = true) : 0 ≤ r.lo ∧ r.lo ≤ r.hi ∧ r.hi ≤ b := by
 unfold rgB at h
 simp only [Bool.and_eq_true, decide_eq_true_eq] at h
 exact ⟨h.1.1, h.1.2, h.2⟩
theorem mix_vals {m : Mlt} {feed coef tgt : Rng} {s : Int} (hm : isM m = true) (hs : spB s = true) (hf : rgB feed 1000000000 = true) (ht : rgB tgt 1000000000 = true) (hc : rgB coef 20000 = true) : MixV m feed coef tgt s := by
 have h1 := isM_ms hm
 have h2 : bdB m.ct 1000000000000 = true := by unfold isM at hm; rw [Bool.and_eq_true] at hm; exact hm.2
 unfold spB at hs
 simp only [Bool.and_eq_true, decide_eq_true_eq] at hs
 have h3 := bdB_at h2 (show s.toNat < 3 by omega)
 have h4 := rgB_bd hf
 have h5 := rgB_bd ht
 have h6 := rgB_bd hc
 refine ⟨?_, ?_, fun k => ?_⟩
 · show #[I (m.ms.toNat : Int), I ((m.ct (s.toNat * 2 + 1)).toNat : Int), I (feed.hi.toNat : Int), I (coef.hi.toNat : Int), I (tgt.hi.toNat : Int), .bool false] = _
   rw [Int.toNat_of_nonneg h1.1, Int.toNat_of_nonneg (by omega), Int.toNat_of_nonneg (by omega), Int.toNat_of_nonneg (by omega), Int.toNat_of_nonneg (by omega)]
 · show #[I (m.ms.toNat : Int), I ((m.ct (s.toNat * 2)).toNat : Int), I (feed.lo.toNat : Int), I (coef.lo.toNat : Int), I (tgt.lo.toNat : Int), .bool true] = _
   rw [Int.toNat_of_nonneg h1.1, Int.toNat_of_nonneg (by omega), Int.toNat_of_nonneg (by omega), Int.toNat_of_nonneg (by omega), Int.toNat_of_nonneg (by omega)]
 · unfold mxs
   split
   · exact ⟨by show m.ms.toNat ≤ _; omega, by show (m.ct (s.toNat * 2 + 1)).toNat ≤ _; omega, by show feed.hi.toNat ≤ _; omega, by show coef.hi.toNat ≤ _; omega, by show tgt.hi.toNat ≤ _; omega⟩
   · exact ⟨by show m.ms.toNat ≤ _; omega, by show (m.ct (s.toNat * 2)).toNat ≤ _; omega, by show feed.lo.toNat ≤ _; omega, by show coef.lo.toNat ≤ _; omega, by show tgt.lo.toNat ≤ _; omega⟩
theorem ml_lo {W : World} {q : Nat} {m : Mlt} {s : Nat} {t : TypeId} (hs : s < 3) (h : W.heap[q]? = some (.cells (mltArr m) t (0, 0))) : W.cell? ⟨q, 1 + s * 2, none⟩ = some (I (m.ct (s * 2))) ∧ W.cell? ⟨q, 1 + s * 2 + 1, none⟩ = some (I (m.ct (s * 2 + 1))) := by
 refine ⟨?_, ?_⟩ <;> rw [cell_of_row _ _ _ _ _ _ h]
 · rcases s with _ | _ | _ | s
   · rfl
   · rfl
   · rfl
   · omega
 · rcases s with _ | _ | _ | s
   · rfl
   · rfl
   · rfl
   · omega
theorem mix_cells {W : World} {q : Nat} {A : Nat → Mix} {t : TypeId} (h : W.heap[q]? = some (.cells (mixArr (A 0) ++ mixArr (A 1)) t (0, 0))) {k : Nat} (hk : k < 2) : ∀ j, j < 6 → W.cell? ⟨q, k * 6 + j, none⟩ = (mixArr (A k))[j]? := by
 intro j hj
 rw [cell_of_row _ _ _ _ _ _ h]
 match k, hk with
 | 0, _ => match j, hj with | 0, _ => rfl | 1, _ => rfl | 2, _ => rfl | 3, _ => rfl | 4, _ => rfl | 5, _ => rfl
 | 1, _ => match j, hj with | 0, _ => rfl | 1, _ => rfl | 2, _ => rfl | 3, _ => rfl | 4, _ => rfl | 5, _ => rfl
def Both (m : Mlt) (feed coef tgt : Rng) (s x : Nat) : Prop := hld (mxs m feed coef tgt s 0) x = true ∧ hld (mxs m feed coef tgt s 1) x = true
theorem Both.all {m : Mlt} {feed coef tgt : Rng} {s x : Nat} (h : Both m feed coef tgt s x) : ∀ j, j < 2 → hld (mxs m feed coef tgt s j) x = true := by
 intro j hj
 match j, hj with
 | 0, _ => exact h.1
 | 1, _ => exact h.2
end Go.Proofs.YtnkaoplgmglijaaDoor
namespace Go.Proofs.YtnkaoplgmglijaaDoor
open Go.RowKit
attribute [local go_sem] Oper.semAt_some
def PrdF (m : Mlt) (l : List Stp) (u : Value) (w : World) : Prop := (ckF m l ≠ 0 ∧ u = .tuple #[.agg (runArr (.slice none 0 0) fun _ => 0), I (ckF m l)]) ∨
 (ckF m l = 0 ∧ ∃ S d, u = .tuple #[.agg (runArr (.slice S (fzK l l.length) d) (prR m l)), I 0] ∧ fzK l l.length ≤ d ∧ d ≤ maxLen ∧ SlIn 0 w (.slice S (fzK l l.length) d) (fzK l l.length) (prS m l))
theorem PrdF.le {m : Mlt} {l : List Stp} {u : Value} {w w' : World} (h : PrdF m l u w) (hl : Le w w') : PrdF m l u w' := by
 rcases h with h | ⟨h0, S, d, h1, h2, h3, h4⟩
 · exact .inl h
 · exact .inr ⟨h0, S, d, h1, h2, h3, h4.row fun b _ _ hlt => Below.block hl b hlt⟩
theorem predict_grow (m : Mlt) (A : Option Addr) (c : Nat) (l : List Stp) (w : World) (hG : Glob w) (hx : Rd w w.heap.size 8 A l.length (rT l)) (hk : ∀ j, j < l.length → 0 ≤ (at0 l j).kd ∧ (at0 l j).kd ≤ 255) (hn : l.length ≤ maxLen) :
 Calls Tryd.prog 7 #[.agg (mltArr m), .slice A l.length c] w fun e w' => ∃ u, e = .returned u ∧ Le w w' ∧ Box (PrdF m l) u w' :=
 (predict_any m A c l w w.heap.size hG hG.lt (Nat.le_refl _) hx hk hn).mono fun e w' ⟨hb, h⟩ => by
  rcases h with ⟨h0, rfl⟩ | ⟨h0, S, d, rfl, h2, h3, h4⟩
  · exact ⟨_, rfl, hb, fun w'' hl => PrdF.le (.inl ⟨h0, rfl⟩) hl⟩
  · exact ⟨_, rfl, hb, fun w'' hl => PrdF.le (.inr ⟨h0, S, d, rfl, h2, h3, h4.more (Nat.zero_le _)⟩) hl⟩
theorem PrdF.sl {m : Mlt} {l : List Stp} {S : Option Addr} {n d : Nat} {R : Nat → Int} {x : Value} {w : World} (h0 : ckF m l = 0) (h : PrdF m l (.tuple #[.agg (runArr (.slice S n d) R), x]) w) : n = fzK l l.length ∧ SlIn 0 w (.slice S n d) n (prS m l) := by
 rcases h with ⟨h1, _⟩ | ⟨_, S', d', he, _, _, hr⟩
 · exact absurd h0 h1
 · have e : some (Value.slice S n d) = some (.slice S' (fzK l l.length) d') := congrArg (fun v : Value => match v with | Value.tuple a => (match a[0]? with | some (Value.agg b) => b[0]? | _ => none) | _ => none) he
   simp only [Option.some.injEq, Value.slice.injEq] at e
   obtain ⟨rfl, rfl, rfl⟩ := e
   exact ⟨rfl, hr⟩
def SlAt (w0 : World) (cs : Array Value) (t : TypeId) (n : Nat) (u : Value) (w : World) : Prop := ∃ b, u = .slice (some ⟨b, 0, none⟩) n n ∧ w.heap[b]? = some (.cells cs t (0, 0)) ∧ w0.heap.size ≤ b
theorem slat_grow {w0 w : World} {cs : Array Value} {t : TypeId} {n : Nat} (h : Cl w0 w) : Le w (w.alloc (.cells cs t)) ∧ Box (SlAt w0 cs t n) (.slice (some ⟨w.heap.size, 0, none⟩) n n) (w.alloc (.cells cs t)) :=
 ⟨(Below.refl _ _).alloc (Nat.le_refl _) _, fun _ h2 => ⟨_, rfl, (h2.block _ (by simp)).trans (heap_alloc_new w _), h.le.size⟩⟩
theorem full_any (w : World) : Calls Tryd.prog 15 #[] w fun e w' => e = .returned (.agg #[I 1000, I 10000, I 10000, I 10000, I 10000, I 10000, I 10000]) ∧ Below w.heap.size w w' := by
 go_enter Tryd.func15, Tryd.ntmps15
 go_wp2_with fail
 refine bodyPost_ret (results_cell_only rfl _ _ w.heap.size 27 #[I 1000, I 10000, I 10000, I 10000, I 10000, I 10000, I 10000] (0, 0) _ rfl (heap_before (heap_last _ _ _ rfl)) Tryd.underlying27 rfl (by kernel_rfl)) rfl ?_
 exact ⟨rfl, ((Below.refl _ _).alloc (Nat.le_refl _) _).alloc (by simp) _⟩
theorem wp_assign {P : Program} {o : Oper} {a : Act} {w : World} {K : Act → World → Prop} {Q : Exit → Act → World → Prop} (x : Operand) (v : Value) (ho : o.op = .assign x) (hv : a.eval x = v) (h : K (a.put o.dst v) w) : o.wp P a w K Q := by
 unfold Oper.wp execOp
 simp only [ho, hv, Sem.run_pure, Oper.upon]
 exact h
theorem Cl.set {W0 w : World} (h : Cl W0 w) {g : Nat} (hg : W0.heap.size ≤ g) (cs : Array Value) : Cl W0 (w.setRow g cs) := Cl.of (below_setRow h.le hg _)
end Go.Proofs.YtnkaoplgmglijaaDoor
namespace Go.Proofs.YtnkaoplgmglijaaDoor
open Go.RowKit
attribute [local go_sem] Oper.semAt_some
end Go.Proofs.YtnkaoplgmglijaaDoor
namespace Go.Proofs.YtnkaoplgmglijaaDoor
open Go.RowKit
attribute [local go_sem] Oper.semAt_some
theorem own_grown {w w' : World} {base sz n : Nat} {e e' : TypeId} {v : Value} {xs : List Value} {row : Option Nat} (h : w.ownsRow base e sz v n xs) (hg : w.grownBy w' row) (hr : ∀ g, row = some g → ∃ cs, w.heap[g]? = some (.cells cs e' (0, 0))) (hne : e' ≠ e) : w'.ownsRow base e sz v n xs := by
 obtain ⟨h1, h2⟩ := h
 refine ⟨h1, ?_⟩
 rcases h2 with h2 | ⟨g, cap, cur, hv, hb, hh, r⟩
 · exact .inl h2
 · refine .inr ⟨g, cap, cur, hv, hb, (hg.block g (Array.getElem?_eq_some_iff.1 hh).1 fun e2 => ?_).trans hh, r⟩
   obtain ⟨cs, hc⟩ := hr g e2.symm
   rw [hh] at hc
   injection hc with hc
   injection hc with _ ht _
   exact hne ht.symm
theorem own_row {w : World} {base sz n : Nat} {e : TypeId} {v : Value} {xs : List Value} (h : w.ownsRow base e sz v n xs) : ∀ g, v.ownBlock = some g → base ≤ g ∧ ∃ cs, w.heap[g]? = some (.cells cs e (0, 0)) := by
 intro g hg
 rcases h.2 with ⟨rfl, _⟩ | ⟨q, cap, cur, rfl, hb, hh, _⟩
 · cases hg
 · cases hg; exact ⟨hb, _, hh⟩
theorem SoC.grown {e e' : TypeId} {sz B n : Nat} {l : List Value} {v : Value} {w w' : World} {row : Option Nat} (h : SoC e sz B n l v w) (hg : w.grownBy w' row) (hr : ∀ g, row = some g → ∃ cs, w.heap[g]? = some (.cells cs e' (0, 0))) (hne : e' ≠ e) : SoC e sz B n l v w' := h.imp id fun ho => own_grown ho hg hr hne
theorem run_app_soc_g {P : Program} (w : World) (t ty : TypeId)
 (e : TypeId) (i : TypeInfo) (z : Value) (sz bytes : Nat) (h1 : P.underlying t = some (.slice e)) (h2 : P.info? e = some i) (h3 : i.zero = some z) (h4 : i.size = sz) (h5 : i.bytes = bytes) (h6 : z.cells.size = sz) (h7 : 0 < sz)
 {B n : Nat} {olds : List Value} {v : Value} (hso : SoC e sz B n olds v w) (ad : Addr) (c : Nat) (news : List Value) (hnl : news.length = sz)
 (hc : ∀ j u, news[j]? = some u → w.cell? (ad.add j) = some u) (h1c : ∀ u ∈ news, u.oneCell' = true) (hB : B ≤ w.heap.size) (hl : n ≤ 1000000) (hb : bytes ≤ 1000) :
 ∃ v' w' row, (Builtin.append_ #[t, t] ty #[v, .slice (some ad) 1 c]).run P w = .ok v' w' ∧ w'.ownsRow B e sz v' (n + 1) (olds ++ news) ∧ w.grownBy w' row ∧ (∀ g, row = some g → B ≤ g ∧ ∃ cs, w.heap[g]? = some (.cells cs e (0, 0))) := by
 have hm : (n + 1) * bytes ≤ 1000001 * 1000 := Nat.mul_le_mul (by omega) hb
 rcases hso with ⟨rfl, rfl, b, rfl⟩ | ho
 · obtain ⟨v', w', hrun, hown, hgr⟩ := run_append_arg_grows (P := P) w t ty e i z sz bytes h1 h2 h3 h4 h5 h6 h7 ⟨b, 0, none⟩ 0 0 [] (by simp) (fun j u hu => by simp at hu) ad 1 c news (by rw [hnl, Nat.one_mul]) hc (by omega) (by unfold maxLen; omega) (by simp only [Nat.zero_add] at hm ⊢; omega)
   refine ⟨v', w', none, hrun, ?_, hgr, fun g hg => by cases hg⟩
   have := own_base hown hB
   simpa using this
 · obtain ⟨v', w', hrun, hown, hgr, _⟩ := run_append_own (P := P) w B t ty e i z sz bytes h1 h2 h3 h4 h5 h6 h7 v n olds ho ad 1 c news (by rw [hnl, Nat.one_mul]) hc h1c (by unfold maxLen; omega) (by omega) hB
   exact ⟨v', w', _, hrun, hown, hgr, own_row ho⟩
theorem wpList_app_soc_g {P : Program} {ops : Array Oper} {rest : List Oper} {o : Oper} {a : Act} {w : World} {Q : Exit → Act → World → Prop} (hg : o.guard = none) (s x : Operand) (t : TypeId) (ho : o.op = .call { callee := .builtin .append, args := #[s, x], argTypes := #[t, t] })
 (e : TypeId) (i : TypeInfo) (z : Value) (sz bytes : Nat) (h1 : P.underlying t = some (.slice e)) (h2 : P.info? e = some i) (h3 : i.zero = some z) (h4 : i.size = sz) (h5 : i.bytes = bytes) (h6 : z.cells.size = sz) (h7 : 0 < sz)
 (B n : Nat) (olds : List Value) (v : Value) (hs : a.eval s = v) (hso : SoC e sz B n olds v w) (ad : Addr) (c : Nat) (news : List Value) (hx : a.eval x = .slice (some ad) 1 c) (hnl : news.length = sz)
 (hc : ∀ j u, news[j]? = some u → w.cell? (ad.add j) = some u) (h1c : ∀ u ∈ news, u.oneCell' = true) (hB : B ≤ w.heap.size) (hl : n ≤ 1000000) (hb : bytes ≤ 1000)
 (h : ∀ v' w' row, w'.ownsRow B e sz v' (n + 1) (olds ++ news) → w.grownBy w' row → (∀ g, row = some g → B ≤ g ∧ ∃ cs, w.heap[g]? = some (.cells cs e (0, 0))) → wpList P ops Q rest (a.put o.dst v') w') : wpList P ops Q (o :: rest) a w := by
 refine wpList_plain hg fun K hK => ?_
 obtain ⟨v', w', row, hr, h8, h9, h10⟩ := run_app_soc_g (P := P) w t o.type e i z sz bytes h1 h2 h3 h4 h5 h6 h7 hso ad c news hnl hc h1c hB hl hb
 unfold Oper.wp execOp
 simp only [ho, resolve, invoke, builtin, Sem.run_bind, Sem.run_pure, Result.andThen_ok, List.map_toArray, List.map_cons, List.map_nil, hs, hx, hr]
 exact hK _ _ (h v' w' row h8 h9 h10)
theorem own_lit {w : World} {base b : Nat} {e : TypeId} {v : Value} {t : TypeId} (h : w.heap[b]? = some (.cells #[v] t (0, 0))) (ht : t = e) (hb : base ≤ b) : w.ownsRow base e 1 (.slice (some ⟨b, 0, none⟩) 1 1) 1 [v] := by
 subst ht
 exact ⟨rfl, .inr ⟨b, 1, #[v], rfl, hb, h, Nat.le_refl _, by unfold maxLen; omega, rfl, rfl⟩⟩
abbrev rU (m : Mlt) (c : Crs) (s : Nat) (st : Int) (l : List Stp) (k _ : Nat) : Value := I (wkD m c s st l k)
abbrev rC (m : Mlt) (c : Crs) (s : Nat) (st : Int) (l : List Stp) (k j : Nat) : Value := if j = 0 then I (chF (at0 l k) s (wkD m c s st l k) (msK m l k)).1 else I (chF (at0 l k) s (wkD m c s st l k) (msK m l k)).2
end Go.Proofs.YtnkaoplgmglijaaDoor
