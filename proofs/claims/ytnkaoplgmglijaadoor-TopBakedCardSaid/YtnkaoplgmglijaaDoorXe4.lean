/- The walk of Extreme. -/
import Derived.Test.YtnkaoplgmglijaaDoorXe3
import Derived.Test.YtnkaoplgmglijaaDoorCm2
import Derived.Laws.EntriesVeiled
namespace Go.Proofs.YtnkaoplgmglijaaDoor
open Go.RowKit
attribute [local go_sem] Oper.semAt_some
theorem row_c3 {W : World} {q : Nat} {t : TypeId} {cs : Array Value} (h : W.heap[q]? = some (.cells cs t (0, 0))) (k : Nat) (v : Value) (hv : cs[k]? = some v) : W.cell? ⟨q, k, none⟩ = some v := by
 rw [cell_of_row _ _ _ _ _ _ h]; exact hv
theorem cell_lt {W : World} {b o : Nat} {v : Value} (h : W.cell? ⟨b, o, none⟩ = some v) : b < W.heap.size := by
 rcases Nat.lt_or_ge b W.heap.size with h1 | h1
 · exact h1
 · have e : W.heap[b]? = none := Array.getElem?_eq_none h1
   unfold World.cell? at h
   simp only [e] at h
   cases h
abbrev xeA (q qa qt : Nat) (A : Option Addr) (n c s : Nat) (f : Nat → Value) (L : List Deferred) : Act := { tmps := #[f 0, .slice A n c, f 2, f 3, f 4, .pointer (some ⟨q, 0, none⟩), f 6, f 7, f 8, .pointer (some ⟨q + 1, 0, none⟩), .pointer (some ⟨q + 1 + 1, 0, none⟩), .pointer (some ⟨q + 1 + 1 + 1, 0, none⟩), f 12, f 13, .pointer (some ⟨qa, 0, none⟩), f 15, f 16, .pointer (some ⟨qt, 0, none⟩), f 18, f 19, f 20, f 21, f 22, f 23, f 24, f 25, f 26, f 27, f 28, f 29, f 30, f 31, f 32, f 33, f 34, f 35, f 36, f 37, f 38, f 39, f 40, f 41, f 42, f 43, f 44, f 45, f 46, f 47, f 48, f 49, f 50, f 51, f 52, f 53, f 54, f 55, f 56, f 57, I (s : Int), f 59, f 60, f 61, f 62, f 63, f 64, f 65, f 66, f 67, f 68, f 69, f 70, f 71, f 72, f 73, f 74, f 75, f 76, f 77, f 78, f 79, f 80, f 81, f 82, f 83, f 84, f 85, f 86], defers := L }
structure XeI (m : Mlt) (l : List Stp) (a : Int) (mo : Bool) (w V : World) (mb s : Nat) (X : World) : Prop where
 row : X.heap[w.heap.size + 1 + 1]? = some (.cells #[I (xsE m mo s 0), I (xsE m mo s 1), I (xsE m mo s 2)] 43 (0, 0))
 mr : X.heap[mb]? = some (.cells (mdA l.length (xeV m l a mo) s 0) 43 (0, 0))
 kp : KpS V.heap.size (fun k => k = w.heap.size + 1 + 1 ∨ k = mb) V X
 bl : Below w.heap.size w X
theorem XeI.keep {m : Mlt} {l : List Stp} {a : Int} {mo : Bool} {w V X : World} {mb s k : Nat} {o : Obj} (h : XeI m l a mo w V mb s X) (hr : V.heap[k]? = some o) (h1 : k ≠ w.heap.size + 1 + 1) (h2 : k ≠ mb) : X.heap[k]? = some o :=
 (h.kp.1 k (Array.getElem?_eq_some_iff.1 hr).1 (fun e => by rcases e with e | e <;> contradiction)).trans hr
def XeJ (m : Mlt) (l : List Stp) (a : Int) (mo : Bool) (w V : World) (mb qa qt : Nat) (A : Option Addr) (c : Nat) (ac : Act) (X : World) : Prop :=
 ∃ (s : Nat) (f : Nat → Value) (L : List Deferred), ac = xeA w.heap.size qa qt A l.length c s f L ∧ s ≤ 3 ∧ XeI m l a mo w V mb s X ∧ Mks w.heap.size L X.heap.size X
theorem xeJ_intro {m : Mlt} {l : List Stp} {a : Int} {mo : Bool} {w V : World} {mb qa qt : Nat} {A : Option Addr} {c : Nat} {ac : Act} {X : World} (s : Nat) (L : List Deferred) (h : ac = xeA w.heap.size qa qt A l.length c s (fun i => ac.tmps.getD i undef) L) (hs : s ≤ 3) (hI : XeI m l a mo w V mb s X) (hL : Mks w.heap.size L X.heap.size X) : XeJ m l a mo w V mb qa qt A c ac X := ⟨s, _, L, h, hs, hI, hL⟩
def XeC (m : Mlt) (l : List Stp) (a : Int) (mo : Bool) (A : Option Addr) (d B qc qp qb qa qm qd qs mb s k : Nat) (W : World) : Prop := ExIn W (crsX mo) A d l B qc qp qb qa qm qd qs mb s a mo ∧ W.heap[mb]? = some (.cells (mdA l.length (xeV m l a mo) s k) 43 (0, 0))
theorem XeC.same {m : Mlt} {l : List Stp} {a : Int} {mo : Bool} {A : Option Addr} {d B qc qp qb qa qm qd qs mb s k k' : Nat} {U V : World} (h : XeC m l a mo A d B qc qp qb qa qm qd qs mb s k U) (hk : ∀ b, b = qc ∨ b = qp ∨ b < B ∨ b = qb ∨ b = qa ∨ b = qm ∨ b = qd ∨ b = qs → V.heap[b]? = U.heap[b]?) (hs : U.heap.size ≤ V.heap.size) (hr : V.heap[mb]? = some (.cells (mdA l.length (xeV m l a mo) s k') 43 (0, 0))) : XeC m l a mo A d B qc qp qb qa qm qd qs mb s k' V :=
 ⟨h.1.keep hk hs ⟨_, hr, mdA_size _ _ _ _⟩, hr⟩
theorem XeC.lt {m : Mlt} {l : List Stp} {a : Int} {mo : Bool} {A : Option Addr} {d B qc qp qb qa qm qd qs mb s k : Nat} {U : World} (h : XeC m l a mo A d B qc qp qb qa qm qd qs mb s k U) : ∀ b, b = qc ∨ b = qp ∨ b < B ∨ b = qb ∨ b = qa ∨ b = qm ∨ b = qd ∨ b = qs → b < U.heap.size := by
 intro b hb
 have hin := h.1
 rcases hb with rfl | rfl | hb | rfl | rfl | rfl | rfl | rfl
 · exact cell_lt hin.pk.c0
 · exact cell_lt hin.pk.s
 · exact Nat.lt_of_lt_of_le hb hin.pk.lt
 · exact (Array.getElem?_eq_some_iff.1 hin.b).1
 · exact (Array.getElem?_eq_some_iff.1 hin.a).1
 · exact (Array.getElem?_eq_some_iff.1 hin.m).1
 · exact (Array.getElem?_eq_some_iff.1 hin.d).1
 · exact (Array.getElem?_eq_some_iff.1 hin.s).1
theorem ExAt.ne {B qc qp qb qa qm qd qs mb : Nat} (ha : ExAt B qc qp qb qa qm qd qs mb) : ∀ b, b = qc ∨ b = qp ∨ b < B ∨ b = qb ∨ b = qa ∨ b = qm ∨ b = qd ∨ b = qs → b ≠ mb := by
 intro b hb
 rcases hb with rfl | rfl | hb | rfl | rfl | rfl | rfl | rfl
 · exact ha.qc
 · exact ha.qp
 · have := ha.B; omega
 · exact ha.qb
 · exact ha.qa
 · exact ha.qm
 · exact ha.qd
 · exact ha.qs
theorem XeC.step {m : Mlt} {l : List Stp} {a : Int} {mo : Bool} {A : Option Addr} {d B qc qp qb qa qm qd qs mb s k : Nat} {U V : World} (h : XeC m l a mo A d B qc qp qb qa qm qd qs mb s k U) (ha : ExAt B qc qp qb qa qm qd qs mb) (hs : s < 3) (ht : ExT mb s k (xeV m l a mo s k) U V) : XeC m l a mo A d B qc qp qb qa qm qd qs mb s (k + 1) V :=
 h.same (fun b hb => ht.1.block b (h.lt b hb) (fun e => ha.ne b hb (Option.some.inj e))) ht.1.size (by have := ht.2 _ h.2; rw [mdA_set hs] at this; exact this)
theorem mod_step {zz z1 sl f : Int} (hm : (zz - (sl - f)) % 18446744073709551616 = 0) (hb : -9223372036854775808 ≤ zz ∧ zz ≤ 9223372036854775807) (hr : (zz ≠ -9223372036854775808 ∧ z1 = zz - 1) ∨ (zz = -9223372036854775808 ∧ z1 = 9223372036854775807)) : (-9223372036854775808 ≤ z1 ∧ z1 ≤ 9223372036854775807) ∧ (z1 - (sl - (f + 1))) % 18446744073709551616 = 0 := by
 rcases hr with ⟨h0, rfl⟩ | ⟨rfl, rfl⟩
 · refine ⟨by omega, ?_⟩
   rw [show zz - 1 - (sl - (f + 1)) = zz - (sl - f) by omega]
   exact hm
 · refine ⟨by omega, ?_⟩
   rw [show (9223372036854775807 : Int) - (sl - (f + 1)) = (-9223372036854775808 - (sl - f)) + 18446744073709551616 by omega, Int.add_emod_right]
   exact hm
set_option maxRecDepth 100000 in
set_option maxHeartbeats 8000000 in
theorem extreme_any (m : Mlt) (A : Option Addr) (c : Nat) (l : List Stp) (sl s : Int) (mo : Bool) (w : World) (hG : Glob w) (hx : Rd w w.heap.size 8 A l.length (rT l)) (hk : ∀ j, j < l.length → 0 ≤ (at0 l j).kd ∧ (at0 l j).kd ≤ 255) (hn : l.length ≤ maxLen) (hsl : -9223372036854775808 ≤ sl ∧ sl ≤ 9223372036854775807) :
 Calls Tryd.prog 12 #[.agg (mltArr m), .slice A l.length c, I sl, I s, .bool mo] w (RetXe m l sl s mo w) := by
 obtain ⟨W, hW⟩ : ∃ W, W = (((w.alloc (.cells (mltArr m) 27)).alloc (.cells #[.bool mo] 4)).alloc (.cells #[I 0, I 0, I 0] 43)).alloc (.cells #[.slice none 0 0] 44) := ⟨_, rfl⟩
 have hb0 : Below w.heap.size w W := by rw [hW]; exact ((((Below.refl _ _).alloc (Nat.le_refl _) _).alloc (by simp) _).alloc (by simp; omega) _).alloc (by simp; omega) _
 have r0 : W.heap[w.heap.size]? = some (.cells (mltArr m) 27 (0, 0)) := by rw [hW]; exact heap_before (heap_before (heap_before (heap_last _ _ _ rfl)))
 have r1 : W.heap[w.heap.size + 1]? = some (.cells #[.bool mo] 4 (0, 0)) := by rw [hW]; exact heap_before (heap_before (heap_last _ _ _ (by simp)))
 have r2 : W.heap[w.heap.size + 1 + 1]? = some (.cells #[I 0, I 0, I 0] 43 (0, 0)) := by rw [hW]; exact heap_before (heap_last _ _ _ (by simp))
 have r3 : W.heap[w.heap.size + 1 + 1 + 1]? = some (.cells #[.slice none 0 0] 44 (0, 0)) := by rw [hW]; exact heap_last _ _ _ (by simp)
 have sW : w.heap.size + 4 = W.heap.size := by rw [hW]; simp
 have HW := Lib.hid hW
 have HY : Hid (∀ W', Below W.heap.size W W' → W'.heap[w.heap.size]? = some (.cells (mltArr m) 27 (0, 0)) ∧ W'.heap[w.heap.size + 1]? = some (.cells #[.bool mo] 4 (0, 0)) ∧ W'.heap[w.heap.size + 1 + 1]? = some (.cells #[I 0, I 0, I 0] 43 (0, 0)) ∧ W'.heap[w.heap.size + 1 + 1 + 1]? = some (.cells #[.slice none 0 0] 44 (0, 0)) ∧ Rd W' w.heap.size 8 A l.length (rT l) ∧ Glob W' ∧ Below w.heap.size w W') := fun W' h => by
  have h' := hb0.trans (h.mono hb0.size)
  exact ⟨(h.block _ (by omega)).trans r0, (h.block _ (by omega)).trans r1, (h.block _ (by omega)).trans r2, (h.block _ (by omega)).trans r3, hx.below h', hG.below h', h'⟩
 have Hk := Lib.hid hk
 have Hn := Lib.hid hn
 clear hW hb0 r0 r1 r2 r3 hx hk hn hG
 refine (callsIn_wide (n := 5)).1 ?_
 refine callsIn_of_wp_marks Tryd.func12 rfl trivial ?_ rfl
 simp only [Tryd.ntmps12, List.size_toArray, List.length_cons, List.length_nil, Nat.reduceAdd, Nat.reduceSub, Array.replicate_succ, Array.replicate_zero, List.push_toArray, List.append_toArray, List.nil_append, List.cons_append]
 refine wpIn_wide.2 ?_
 go_upto_region 1 with (fail)
 rw [← HW.out]
 have y := fun k (v : Value) (h : (mltArr m)[k]? = some v) => (show W.cell? ⟨w.heap.size, k, none⟩ = some v by rw [cell_of_row _ _ _ _ _ _ (HY.out W (Below.refl _ _)).1]; exact h)
 have y0 := y 0 _ rfl
 have y1 := y 1 _ rfl
 have y2 := y 2 _ rfl
 have y3 := y 3 _ rfl
 have y4 := y 4 _ rfl
 have y5 := y 5 _ rfl
 have y6 := y 6 _ rfl
 clear y
 go_wp2_with fail
 refine (check_any m A c l W w.heap.size (HY.out W (Below.refl _ _)).2.2.2.2.2.1 (by omega) (HY.out W (Below.refl _ _)).2.2.2.2.1 Hk.out Hn.out).mono ?_
 rintro e w1 ⟨rfl, hb1⟩
 have H1 : Hid (Below W.heap.size W w1) := hb1
 clear hb1 y0 y1 y2 y3 y4 y5 y6
 obtain ⟨ce, hce⟩ : ∃ q, ckF m l = q := ⟨_, rfl⟩
 rw [hce]
 by_cases h0 : ce = 0
 case neg =>
  have e1 : (ce != 0) = true := by simpa using h0
  have hE : Hid (xeE m l sl s = ce) := by show _ = _; unfold xeE; rw [hce, if_pos h0]
  have hE0 := Lib.hid h0
  clear h0 hce
  have r2 := (HY.out w1 H1.out).2.2.1
  have r3 := (HY.out w1 H1.out).2.2.2.1
  go_upto_region 3 with (fail)
  have z0 := row_c3 r2 0 _ rfl
  have z1 := row_c3 r2 1 _ rfl
  have z2 := row_c3 r2 2 _ rfl
  have f0 := frozen_of_row _ _ 0 _ _ r2
  have f1 := frozen_of_row _ _ 1 _ _ r2
  have f2 := frozen_of_row _ _ 2 _ _ r2
  have f3 := frozen_of_row _ _ 0 _ _ r3
  have z3 := row_c3 r3 0 _ rfl
  go_wp2_with fail
  rw [setCell_id r2 rfl, setCell_id r2 rfl, setCell_id r2 rfl, setCell_id r3 rfl]
  exact ⟨_, results_cell_cell_tmp rfl _ _ (w.heap.size + 1 + 1) 43 #[I 0, I 0, I 0] (0, 0) _ rfl r2 Tryd.underlying43 rfl (by kernel_rfl) _ (load_sl r3) rfl, (HY.out w1 H1.out).2.2.2.2.2.2, .inl ⟨by rw [hE.out]; exact hE0.out, by rw [hE.out]; rfl⟩⟩
 have hE : Hid (xeE m l sl s = if atK l sl l.length < 0 ∨ spB s = false then 7 else 0) := by show _ = _; unfold xeE; rw [hce, if_neg (by omega)]
 subst h0
 have Hcl := Lib.hid (ckF_ok hce)
 have Hv : Hid (Vld m l) := vld_of hce
 have e1 : ((0 : Int) != 0) = false := rfl
 clear hce
 have hl200 := Hcl.out.2.1
 go_upto_region 5 with (fail)
 obtain ⟨X0, hX0⟩ : ∃ X0, X0 = w1.alloc (.cells #[I (-1)] 3) := ⟨_, rfl⟩
 have b0 : Below w1.heap.size w1 X0 := by rw [hX0]; exact (Below.refl _ _).alloc (Nat.le_refl _) _
 have ra : X0.heap[w1.heap.size]? = some (.cells #[I (-1)] 3 (0, 0)) := by rw [hX0]; exact heap_last _ _ _ rfl
 obtain ⟨qa, hqa⟩ : ∃ q, w1.heap.size = q := ⟨_, rfl⟩
 rw [hqa] at ra b0
 rw [← hX0, hqa]
 have hsa := H1.out.size
 rw [hqa] at hsa
 have Hra := Lib.hid ra
 have HX : Hid (∀ X', Below qa X0 X' → Below W.heap.size W X') := fun X' h => H1.out.trans (b0.trans h |>.mono hsa)
 clear hX0 b0 ra hqa
 go_wp2_with fail
 go_loopw [30, 2] (fun i z wr => ∃ k : Nat, k ≤ l.length ∧ i = .int .i64 k ∧ (∃ zz : Int, z = I zz ∧ (-9223372036854775808 ≤ zz ∧ zz ≤ 9223372036854775807) ∧ (zz - (sl - (fzK l k : Int))) % 18446744073709551616 = 0) ∧ wr.heap[qa]? = some (.cells #[I (atK l sl k)] 3 (0, 0)) ∧ Below qa X0 wr) (fun i _ _ => l.length - (intOf i).toNat)
 case atStart => exact ⟨0, Nat.zero_le _, rfl, ⟨sl, rfl, hsl, by show (sl - (sl - ((0 : Nat) : Int))) % _ = 0; omega⟩, Hra.out, Below.refl _ _⟩
 case round =>
  rename World => X1
  obtain ⟨k, hk, rfl, ⟨zz, rfl, hzb, hzm⟩, hat, hbw⟩ := hrel
  have HX1 := HX.out X1 hbw
  have Hat := Lib.hid hat
  have Hbw := Lib.hid hbw
  have hq1 := (Array.getElem?_eq_some_iff.1 hat).1
  clear hat hbw
  by_cases hlt : k < l.length
  · have hki : decide ((k : Int) < (l.length : Int)) = true := decide_eq_true (by omega)
    have hkn : decide (k < l.length) = true := decide_eq_true hlt
    have hk0 : decide (0 ≤ (k : Int)) = true := decide_eq_true (by omega)
    have hw1 : IntKind.i64.wrap ((k : Int) + 1) = (k : Int) + 1 := IntWalk.i64_in _ (by omega)
    obtain ⟨b, o, rfl, _, x0, x1, x2, x3, x4, x5, x6, x7⟩ := (HY.out X1 HX1).2.2.2.2.1.stp hlt
    have hfk := fzK_le l k
    have hat1 : atK l sl (k + 1) = if (at0 l k).kd = 1 ∧ (fzK l k : Int) = sl then (k : Int) else atK l sl k := rfl
    have hfz1 : fzK l (k + 1) = if (at0 l k).kd = 1 then fzK l k + 1 else fzK l k := rfl
    obtain ⟨x, hxx⟩ : ∃ x, at0 l k = x := ⟨_, rfl⟩
    rw [hxx] at x0 x1 x2 x3 x4 x5 x6 x7 hat1 hfz1
    have Hat1 := Lib.hid hat1
    have Hfz1 := Lib.hid hfz1
    have Hzm := Lib.hid hzm
    clear hxx hat1 hfz1 HX1
    go_upto_region 8 with (fail)
    obtain ⟨X2, hX2⟩ : ∃ X2, X2 = X1.alloc (.cells (stpArr x) 33) := ⟨_, rfl⟩
    have b12 : Below X1.heap.size X1 X2 := by rw [hX2]; exact (Below.refl _ _).alloc (Nat.le_refl _) _
    have ts : X2.heap[X1.heap.size]? = some (.cells (stpArr x) 33 (0, 0)) := by rw [hX2]; exact heap_last _ _ _ rfl
    have Hb2 : Hid (Below qa X0 X2) := Hbw.out.trans (b12.mono (by omega))
    have Hat2 : Hid (X2.heap[qa]? = some (.cells #[I (atK l sl k)] 3 (0, 0))) := (b12.block qa hq1).trans Hat.out
    obtain ⟨tsx, htsx⟩ : ∃ q, X1.heap.size = q := ⟨_, rfl⟩
    rw [htsx] at ts
    rw [← hX2, htsx]
    obtain ⟨p0, p1, p2, p3, p4, p5, p6, p7⟩ := stp_cells ts
    clear hX2 b12 ts x0 x1 x2 x3 x4 x5 x6 x7 htsx hq1
    by_cases h1 : x.kd = 1
    · have e1 : (x.kd == 1) = true := by simpa using h1
      have Hf : Hid (fzK l (k + 1) = fzK l k + 1) := by show _ = _; rw [Hfz1.out, if_pos h1]
      obtain ⟨z1, hz1⟩ : ∃ q, IntKind.i64.wrap (zz - 1) = q := ⟨_, rfl⟩
      have Hz1 : Hid ((-9223372036854775808 ≤ z1 ∧ z1 ≤ 9223372036854775807) ∧ (z1 - (sl - (fzK l (k + 1) : Int))) % 18446744073709551616 = 0) := by
       show _ ∧ _
       rw [Hf.out, show ((fzK l k + 1 : Nat) : Int) = (fzK l k : Int) + 1 from rfl]
       refine mod_step Hzm.out hzb ?_
       by_cases hz : zz = -9223372036854775808
       · right
         subst hz
         exact ⟨rfl, by rw [← hz1]; decide⟩
       · left
         exact ⟨hz, by rw [← hz1]; exact IntWalk.i64_in _ (by omega)⟩
      by_cases hz0 : zz = 0
      · have e2 : (zz == 0) = true := by simpa using hz0
        have Ha : Hid (atK l sl (k + 1) = (k : Int)) := by
         show _ = _
         have hm := Hzm.out
         rw [Hat1.out, if_pos ⟨h1, by omega⟩]
        have f0 := frozen_of_row _ _ 0 _ _ Hat2.out
        have g0 := row_c3 Hat2.out 0 _ rfl
        clear h1 hz0
        go_wp2_with fail
        exact ⟨⟨k + 1, hlt, by go_num, ⟨z1, rfl, Hz1.out⟩, by rw [Ha.out]; exact rs Hat2.out 0 _, Below.setCell Hb2.out (p := ⟨qa, 0, none⟩) (Nat.le_refl _) _⟩, by simp [intOf]; omega⟩
      · have e2 : (zz == 0) = false := by simpa using hz0
        have Ha : Hid (atK l sl (k + 1) = atK l sl k) := by
         show _ = _
         have hm := Hzm.out
         rw [Hat1.out, if_neg (by omega)]
        clear h1 hz0
        go_wp2_with fail
        go_roundw
        case rel => exact ⟨k + 1, hlt, by go_num, ⟨z1, rfl, Hz1.out⟩, by rw [Ha.out]; exact Hat2.out, Hb2.out⟩
        case measure => simp [intOf]; omega
    · have e1 : (x.kd == 1) = false := by simpa using h1
      have Hf : Hid (fzK l (k + 1) = fzK l k ∧ atK l sl (k + 1) = atK l sl k) := by show _ ∧ _; rw [Hfz1.out, Hat1.out, if_neg h1, if_neg (fun h => h1 h.1)]; exact ⟨rfl, rfl⟩
      clear h1
      go_wp2_with fail
      go_roundw
      case rel => exact ⟨k + 1, hlt, by go_num, ⟨zz, rfl, hzb, by rw [Hf.out.1]; exact Hzm.out⟩, by rw [Hf.out.2]; exact Hat2.out, Hb2.out⟩
      case measure => simp [intOf]; omega
  · obtain rfl : k = l.length := by omega
    have hki : decide ((l.length : Int) < (l.length : Int)) = false := decide_eq_false (by omega)
    have HX1 := Lib.hid HX1
    clear hlt hzm hzb
    have hak := atK_bd l sl l.length
    obtain ⟨a, ha⟩ : ∃ q, atK l sl l.length = q := ⟨_, rfl⟩
    rw [ha] at hak Hat
    have Ha := Lib.hid ha
    have hE := hE.out
    rw [ha] at hE
    clear ha
    have z7 := row_c3 Hat.out 0 _ rfl
    by_cases ha0 : a < 0
    · have d1 : decide (a < 0) = true := decide_eq_true ha0
      have H7 : Hid (xeE m l sl s = 7) := by show _ = _; rw [hE, if_pos (.inl ha0)]
      clear hE ha0 hak
      go_upto_region 14 with (fail)
      clear z7
      have r2 := (HY.out X1 HX1.out).2.2.1
      have r3 := (HY.out X1 HX1.out).2.2.2.1
      have z0 := row_c3 r2 0 _ rfl
      have z1 := row_c3 r2 1 _ rfl
      have z2 := row_c3 r2 2 _ rfl
      have z3 := row_c3 r3 0 _ rfl
      have f0 := frozen_of_row _ _ 0 _ _ r2
      have f1 := frozen_of_row _ _ 1 _ _ r2
      have f2 := frozen_of_row _ _ 2 _ _ r2
      have f3 := frozen_of_row _ _ 0 _ _ r3
      go_wp2_with fail
      rw [setCell_id r2 rfl, setCell_id r2 rfl, setCell_id r2 rfl, setCell_id r3 rfl]
      exact ⟨_, results_cell_cell_tmp rfl _ _ (w.heap.size + 1 + 1) 43 #[I 0, I 0, I 0] (0, 0) _ rfl r2 Tryd.underlying43 rfl (by kernel_rfl) _ (load_sl r3) rfl, (HY.out X1 HX1.out).2.2.2.2.2.2, .inl ⟨by rw [H7.out]; decide, by rw [H7.out]; rfl⟩⟩
    have d1 : decide (a < 0) = false := decide_eq_false ha0
    have psp := isSpecies_any s X1
    by_cases hsp : spB s = true
    case neg =>
        have hs1 : spB s = false := by simpa using hsp
        have H7 : Hid (xeE m l sl s = 7) := by show _ = _; rw [hE, if_pos (.inr hs1)]
        rw [hs1] at psp
        have Psp := Lib.hid psp
        clear hE ha0 hak hsp hs1 psp
        go_wp2_with fail
        refine Psp.out.mono ?_
        rintro e X2 ⟨rfl, hb⟩
        have HX2 : Hid (Below W.heap.size W X2) := HX1.out.trans (hb.mono HX1.out.size)
        clear hb z7
        go_upto_region 14 with (fail)
        have r2 := (HY.out X2 HX2.out).2.2.1
        have r3 := (HY.out X2 HX2.out).2.2.2.1
        have z0 := row_c3 r2 0 _ rfl
        have z1 := row_c3 r2 1 _ rfl
        have z2 := row_c3 r2 2 _ rfl
        have z3 := row_c3 r3 0 _ rfl
        have f0 := frozen_of_row _ _ 0 _ _ r2
        have f1 := frozen_of_row _ _ 1 _ _ r2
        have f2 := frozen_of_row _ _ 2 _ _ r2
        have f3 := frozen_of_row _ _ 0 _ _ r3
        go_wp2_with fail
        rw [setCell_id r2 rfl, setCell_id r2 rfl, setCell_id r2 rfl, setCell_id r3 rfl]
        exact ⟨_, results_cell_cell_tmp rfl _ _ (w.heap.size + 1 + 1) 43 #[I 0, I 0, I 0] (0, 0) _ rfl r2 Tryd.underlying43 rfl (by kernel_rfl) _ (load_sl r3) rfl, (HY.out X2 HX2.out).2.2.2.2.2.2, .inl ⟨by rw [H7.out]; decide, by rw [H7.out]; rfl⟩⟩
    have H0 : Hid (xeE m l sl s = 0) := by show _ = _; rw [hE, if_neg (by rw [hsp]; simp; omega)]
    rw [hsp] at psp
    have Psp := Lib.hid psp
    clear hE psp hsp
    go_wp2_with fail
    refine Psp.out.mono ?_
    rintro e X2 ⟨rfl, hb2⟩
    have HX2 : Hid (Below W.heap.size W X2) := HX1.out.trans (hb2.mono HX1.out.size)
    have Hat2 : Hid (X2.heap[qa]? = some (.cells #[I a] 3 (0, 0))) := (hb2.block qa (Array.getElem?_eq_some_iff.1 Hat.out).1).trans Hat.out
    clear hb2 z7 Psp Hat Hbw HX1 Hra HX
    have hG2 := (HY.out X2 HX2.out).2.2.2.2.2.1
    obtain ⟨g0, g1, g2⟩ := hG2.pr
    have hs2 := HX2.out.size
    clear hG2
    go_upto_region 16 with (fail)
    obtain ⟨X3, hX3⟩ : ∃ X3, X3 = X2.alloc (.cells (crsArr crsPoor) 95) := ⟨_, rfl⟩
    have b23 : Below X2.heap.size X2 X3 := by rw [hX3]; exact (Below.refl _ _).alloc (Nat.le_refl _) _
    have rt : X3.heap[X2.heap.size]? = some (.cells (crsArr crsPoor) 95 (0, 0)) := by rw [hX3]; exact heap_last _ _ _ rfl
    obtain ⟨qt, hqt⟩ : ∃ q, X2.heap.size = q := ⟨_, rfl⟩
    rw [hqt] at rt b23 hs2
    rw [← hX3, hqt]
    have Hrt := Lib.hid rt
    have HX3 : Hid (Below W.heap.size W X3) := HX2.out.trans (b23.mono hs2)
    have Hat3 : Hid (X3.heap[qa]? = some (.cells #[I a] 3 (0, 0)) ∧ qa < qt) := by
        have h := (Array.getElem?_eq_some_iff.1 Hat2.out).1
        rw [hqt] at h
        exact ⟨(b23.block qa h).trans Hat2.out, h⟩
    clear hX3 b23 rt hqt HX2 Hat2 g0 g1 g2
    have y0 := row_c3 (HY.out X3 HX3.out).2.1 0 _ rfl
    obtain ⟨g0, g1, g2⟩ := (HY.out X3 HX3.out).2.2.2.2.2.1.rh
    go_upto_if 53 with (fail)
    go_cut [] from 54 to 54 (fun wx => wx.heap[qt]? = some (.cells (crsArr (crsX mo)) 95 (0, 0)) ∧ Below qt X3 wx)
    case first =>
        rcases mo with _ | _
        · go_wp2_with fail
          go_meet
          case rel => exact ⟨Hrt.out, Below.refl _ _⟩
        · go_wp2_with (refine wpList_store_row rfl 95 _ _ rfl qt rfl _ _ Hrt.out (crsArr crsRich) rfl (by intro v hv; simp at hv; rcases hv with rfl | rfl <;> rfl) rfl (by kernel_rfl) ?_)
          go_meet
          case rel => exact ⟨setRow_same Hrt.out, below_setRow (Below.refl _ _) (Nat.le_refl _) _⟩
    rename World => X4
    obtain ⟨hrt4, hb4⟩ := hcut
    have Hrt4 := Lib.hid hrt4
    have HX4 : Hid (Below W.heap.size W X4) := HX3.out.trans (hb4.mono hs2)
    have Hat4 : Hid (X4.heap[qa]? = some (.cells #[I a] 3 (0, 0))) := (hb4.block qa Hat3.out.2).trans Hat3.out.1
    have hqat := Hat3.out.2
    have hs4 := hb4.size
    clear hrt4 hb4 y0 g0 g1 g2 Hrt HX3 Hat3
    have hmk : ∀ W, (Instr.makeSlice 44 (.int .i64 (l.length : Int)) (.int .i64 (l.length : Int))).run Tryd.prog W = .ok (.slice (some ⟨W.heap.size, 0, none⟩) l.length l.length) (W.alloc (.cells (mdA l.length (xeV m l a mo) 0 0) 43)) := fun W => make_cnts W l.length _ hl200
    have r5 : (X4.alloc (.cells (mdA l.length (xeV m l a mo) 0 0) 43)).heap[w.heap.size + 1 + 1 + 1]? = some (.cells #[.slice none 0 0] 44 (0, 0)) := heap_before (HY.out X4 HX4.out).2.2.2.1
    have z3 := row_c3 r5 0 _ rfl
    have f3 := frozen_of_row _ _ 0 _ _ r5
    go_upto_region 19 with (fail)
    refine name_w fun V hV => ?_
    try simp only [Act.put]
    obtain ⟨mb, hmb⟩ : ∃ q, X4.heap.size = q := ⟨_, rfl⟩
    rw [hmb]
    have hs4W := HX4.out.size
    have hw4 := (HY.out X4 HX4.out).2.2.2.2.2.2.size
    have old : ∀ b o, X4.heap[b]? = some o → b ≠ w.heap.size + 1 + 1 + 1 → V.heap[b]? = some o := fun b o h hne => by rw [hV]; exact (heap_setCell_other _ _ _ _ hne).trans (heap_before h)
    have v0 := old _ _ (HY.out X4 HX4.out).1 (by omega)
    have v1 := old _ _ (HY.out X4 HX4.out).2.1 (by omega)
    have v2 := old _ _ (HY.out X4 HX4.out).2.2.1 (by omega)
    have v3 : V.heap[w.heap.size + 1 + 1 + 1]? = some (.cells #[.slice (some ⟨mb, 0, none⟩) l.length l.length] 44 (0, 0)) := by rw [hV, hmb]; exact rs r5 0 _
    have va := old _ _ Hat4.out (by omega)
    have vt := old _ _ Hrt4.out (by omega)
    have vm : V.heap[mb]? = some (.cells (mdA l.length (xeV m l a mo) 0 0) 43 (0, 0)) := by
        rw [hV]
        exact (heap_setCell_other _ _ _ _ (show mb ≠ w.heap.size + 1 + 1 + 1 by have := (HY.out X4 HX4.out).2.2.2.2.2.2.size; omega)).trans (heap_last _ _ _ hmb.symm)
    have bV : Below w.heap.size w V := by
        rw [hV]
        exact Below.setCell ((HY.out X4 HX4.out).2.2.2.2.2.2.alloc hw4 _) (p := ⟨w.heap.size + 1 + 1 + 1, 0, none⟩) (by show w.heap.size ≤ w.heap.size + 1 + 1 + 1; omega) _
    have sV : V.heap.size = mb + 1 := by rw [hV, ← hmb]; simp
    have rV : Rd V w.heap.size 8 A l.length (rT l) := (HY.out X4 HX4.out).2.2.2.2.1.keep fun b o hb => by
        unfold World.cell?
        rw [hV, heap_setCell_other _ _ _ _ (show b ≠ w.heap.size + 1 + 1 + 1 by omega), Below.heap_alloc _ _ _ (show b < X4.heap.size by omega)]
    have hmbq : qt < mb := by have := (Array.getElem?_eq_some_iff.1 Hrt4.out).1; omega
    have hWq : w.heap.size + 4 ≤ qa := by omega
    have HVf : Hid (V.heap[w.heap.size]? = some (.cells (mltArr m) 27 (0, 0)) ∧ V.heap[w.heap.size + 1]? = some (.cells #[.bool mo] 4 (0, 0)) ∧ V.heap[w.heap.size + 1 + 1 + 1]? = some (.cells #[.slice (some ⟨mb, 0, none⟩) l.length l.length] 44 (0, 0)) ∧ V.heap[qa]? = some (.cells #[I a] 3 (0, 0)) ∧ V.heap[qt]? = some (.cells (crsArr (crsX mo)) 95 (0, 0)) ∧ Rd V w.heap.size 8 A l.length (rT l)) := ⟨v0, v1, v3, va, vt, rV⟩
    have hI0 : XeI m l a mo w V mb 0 V := ⟨v2, vm, KpS.refl _, bV⟩
    have Hct := Hv.out
    clear hV old v0 v1 v2 v3 va vt vm rV r5 z3 f3 hmk hmb Hat4 Hrt4 HX4 hs4 hs4W hw4 bV
    go_upto_block 2 with (fail)
    refine (wpIn_wide (n := 5)).1 ?_
    refine name_act fun a0 ha0 => ?_
    refine wpIn_block ?_
    refine wpIn_loop (XeJ m l a mo w V mb qa qt A c) (fun ac _ => 3 - (intOf (ac.tmps.getD 58 undef)).toNat) (xeJ_intro 0 [] (by subst ha0; rfl) (by omega) hI0 trivial) ?_
    clear ha0 hI0
    clear a0
    rintro _ X ⟨s', f, L, rfl, hs, hI, hL⟩
    refine wpIn_wide.2 ?_
    have HI := Lib.hid hI
    have HL := Lib.hid hL
    clear hI hL
    by_cases hs3 : s' < 3
    case neg =>
        obtain rfl : s' = 3 := by omega
        have hsi : decide (((3 : Nat) : Int) < 3) = false := rfl
        have r2 := HI.out.row
        have r3 := HI.out.keep HVf.out.2.2.1 (by omega) (by omega)
        have z0 := row_c3 r2 0 _ rfl
        have z1 := row_c3 r2 1 _ rfl
        have z2 := row_c3 r2 2 _ rfl
        have z3 := row_c3 r3 0 _ rfl
        have f0 := frozen_of_row _ _ 0 _ _ r2
        have f1 := frozen_of_row _ _ 1 _ _ r2
        have f2 := frozen_of_row _ _ 2 _ _ r2
        have f3 := frozen_of_row _ _ 0 _ _ r3
        go_wp2_with fail
        go_region
        all_goals rw [setCell_id r2 rfl, setCell_id r2 rfl, setCell_id r2 rfl, setCell_id r3 rfl]
        all_goals go_wp2_with fail
        all_goals refine leaves_marks w.heap.size L _ _ (HL.out.keep fun k o _ ho _ => ho) fun W' hb' hk' => ⟨_, results_cell_cell_tmp rfl _ W' (w.heap.size + 1 + 1) 43 _ (0, 0) _ rfl (hk' _ _ _ _ r2) Tryd.underlying43 rfl (by kernel_rfl) _ (load_sl (hk' _ _ _ _ r3)) rfl, HI.out.bl.trans ((Below.refl _ _).drew.trans hb'), .inr ⟨H0.out, mb, rfl, by omega, ?_⟩⟩
        all_goals
         rw [Ha.out]
         exact hk' _ _ _ _ HI.out.mr
    have hsi : decide ((s' : Int) < 3) = true := decide_eq_true (by omega)
    have hsn : decide (s' < 3) = true := decide_eq_true hs3
    have hs0 : decide (0 ≤ (s' : Int)) = true := decide_eq_true (by omega)
    have ws : IntKind.i64.wrap ((s' : Int) + 1) = ((s' + 1 : Nat) : Int) := by rw [IntWalk.i64_in _ (by omega)]; rfl
    go_upto_region 22 with (fail)
    obtain ⟨qs, hqs⟩ : ∃ q, X.heap.size = q := ⟨_, rfl⟩
    obtain ⟨X1, hX1⟩ : ∃ X1, X1 = X.alloc (.cells #[I (s' : Int)] 55) := ⟨_, rfl⟩
    have b1 : Below X.heap.size X X1 := by rw [hX1]; exact (Below.refl _ _).alloc (Nat.le_refl _) _
    have rs1 : X1.heap[qs]? = some (.cells #[I (s' : Int)] 55 (0, 0)) := by rw [hX1, ← hqs]; exact heap_last _ _ _ rfl
    have hVX := HI.out.kp.2
    have sX1 : X1.heap.size = qs + 1 := by rw [hX1, ← hqs]; simp
    rw [← hX1, hqs]
    have HX1 : Hid (∀ k o, k ≠ w.heap.size + 1 + 1 → k ≠ mb → V.heap[k]? = some o → X1.heap[k]? = some o) := fun k o h1 h2 h => (b1.block k (by have := (Array.getElem?_eq_some_iff.1 h).1; omega)).trans (HI.out.keep h h1 h2)
    have HL1 : Hid (Mks w.heap.size L qs X1) := by rw [← hqs]; exact HL.out.keep fun k o hk ho _ => (b1.block k hk).trans ho
    have HRs := Lib.hid rs1
    have Hst1 : Hid (X1.heap[w.heap.size + 1 + 1]? = some (.cells #[I (xsE m mo s' 0), I (xsE m mo s' 1), I (xsE m mo s' 2)] 43 (0, 0))) := (b1.block _ (Array.getElem?_eq_some_iff.1 HI.out.row).1).trans HI.out.row
    have Hmr1 : Hid (X1.heap[mb]? = some (.cells (mdA l.length (xeV m l a mo) s' 0) 43 (0, 0))) := (b1.block _ (Array.getElem?_eq_some_iff.1 HI.out.mr).1).trans HI.out.mr
    have HK1 : Hid (KpS V.heap.size (fun k => k = w.heap.size + 1 + 1 ∨ k = mb) V X1 ∧ Below w.heap.size w X1) := ⟨HI.out.kp.trans (KpS.of_below b1 (by omega)), HI.out.bl.trans (b1.mono HI.out.bl.size)⟩
    have hq1 : V.heap.size ≤ qs := by omega
    have hml := ml_lo hs3 (HX1.out _ _ (by omega) (by omega) HVf.out.1)
    have hrt := HX1.out _ _ (by omega) (by omega) HVf.out.2.2.2.2.1
    obtain ⟨cr, hcr⟩ : ∃ q, crsX mo = q := ⟨_, rfl⟩
    rw [hcr] at hrt
    have y0 := ovr_cell (row_c3 rs1 0 _ rfl)
    have y1 := ovr_cell (row_c3 hrt 0 _ rfl)
    have y2 := ovr_cell (row_c3 hrt 1 _ rfl)
    have y3 := ovr_cell (row_c3 hrt 2 _ rfl)
    have y4 := ovr_cell hml.1
    have y5 := ovr_cell hml.2
    obtain ⟨sv, hsv⟩ : ∃ q, xeS m mo s' = q := ⟨_, rfl⟩
    have cst : Hid (∀ W, Calls Tryd.prog 27 #[.agg (crsArr cr), .agg #[I (m.ct (s' * 2)), I (m.ct (s' * 2 + 1))]] W fun e w' => e = .returned (I sv) ∧ Below W.heap.size W w') := fun W => by
        have := start_any cr ⟨m.ct (s' * 2), m.ct (s' * 2 + 1)⟩ W
        rw [← hsv]
        unfold xeS
        rw [hcr]
        exact this
    have Hsv := Lib.hid hsv
    have Hcr := Lib.hid hcr
    clear hX1 b1 rs1 hml hrt hqs hsv hcr
    refine wp_region_seq2 8 (fun j => if j = 6 then some (fun u _ => u = I sv) else none) (by kernel_rfl) (by kernel_rfl) (by kernel_rfl) (by kernel_rfl) (by kernel_rfl) ?_
    simp only [List.take_succ_cons, List.take_zero, List.drop_succ_cons, List.drop_zero]
    repeat (refine wpG_one rfl rfl rfl ?_; intro K hK; go_big_quiet_op; go_big_quiet_on)
    refine wpG_make (fun u _ => u = I sv) rfl rfl (fun w' hw' _ => ?_) (fun u hu => ?_)
    · go_simp
      exact call_grow (cst.out w')
    obtain ⟨_, _, rfl⟩ := hu
    simp only [Act.put, List.setIfInBounds_toArray, List.set_cons_zero, List.set_cons_succ]
    repeat (refine wpG_one rfl rfl rfl ?_; intro K hK; go_big_quiet_op; go_big_quiet_on)
    refine wpG_nil (fun w5 hw5 hG => ?_)
    have b5 := hw5.le
    clear hG hw5 y0 y1 y2 y3 y4 y5
    refine wpTailIn_cons Wd.wide (by intro c h; cases h) ?_
    have r5 := (b5.block _ (Array.getElem?_eq_some_iff.1 Hst1.out).1).trans Hst1.out
    have z0 : w5.cell? ⟨w.heap.size + 1 + 1, s', none⟩ = some (I 0) := by
        rw [cn_cell (b := xsE m mo s') r5 hs3]
        unfold xsE
        rw [if_neg (by omega)]
    have z1 := frozen_of_row _ _ s' _ _ r5
    unfold Oper.wp
    go_simp
    refine wpTailIn_nil ?_
    obtain ⟨X3, hX3⟩ : ∃ X3, X3 = w5.setCell ⟨w.heap.size + 1 + 1, s', none⟩ (I sv) := ⟨_, rfl⟩
    have r3 : X3.heap[w.heap.size + 1 + 1]? = some (.cells #[I (xsE m mo (s' + 1) 0), I (xsE m mo (s' + 1) 1), I (xsE m mo (s' + 1) 2)] 43 (0, 0)) := by
        have h := rs r5 s' (I sv)
        rw [xsE_set hs3 Hsv.out] at h
        rw [hX3]
        exact h
    have o3 : ∀ k o, k ≠ w.heap.size + 1 + 1 → X1.heap[k]? = some o → X3.heap[k]? = some o := fun k o hk h => by
        rw [hX3]
        exact (heap_setCell_other _ _ _ _ hk).trans ((b5.block k (Array.getElem?_eq_some_iff.1 h).1).trans h)
    have s3 : X1.heap.size ≤ X3.heap.size := by rw [hX3]; simp; exact b5.size
    have k3 : KpS X1.heap.size (fun k => k = w.heap.size + 1 + 1) X1 X3 := ⟨fun k hk hne => by rw [hX3]; exact (heap_setCell_other _ _ _ _ hne).trans (b5.block k hk), s3⟩
    have bl3 : Below w.heap.size w X3 := by
        rw [hX3]
        exact Below.setCell (HK1.out.2.trans (b5.mono HK1.out.2.size)) (p := ⟨w.heap.size + 1 + 1, s', none⟩) (by show w.heap.size ≤ w.heap.size + 1 + 1; omega) _
    have HX3 : Hid (∀ k o, k ≠ w.heap.size + 1 + 1 → k ≠ mb → V.heap[k]? = some o → X3.heap[k]? = some o) := fun k o h1 h2 h => o3 k o h1 (HX1.out k o h1 h2 h)
    have HL3 : Hid (Mks w.heap.size L qs X3) := HL1.out.keep fun k o hk ho hc => o3 k o (by rintro rfl; rw [Hst1.out] at ho; cases ho; cases hc) ho
    have HRs3 := Lib.hid (o3 _ _ (by omega) HRs.out)
    have Hst3 := Lib.hid r3
    have Hmr3 := Lib.hid (o3 _ _ (by omega) Hmr1.out)
    have HK3 : Hid (KpS V.heap.size (fun k => k = w.heap.size + 1 + 1 ∨ k = mb) V X3 ∧ Below w.heap.size w X3) := ⟨HK1.out.1.trans ⟨fun k hk hne => k3.1 k (by omega) (fun e => hne (.inl e)), s3⟩, bl3⟩
    rw [← hX3]
    clear hX3 r3 o3 k3 bl3 r5 b5 z0 z1 Hst1 Hmr1 HK1 HX1 HRs HL1 HI HL hVX
    have hrt := HX3.out _ _ (by omega) (by omega) HVf.out.2.2.2.2.1
    rw [Hcr.out] at hrt
    have y1 := row_c3 hrt 0 _ rfl
    have y2 := row_c3 hrt 1 _ rfl
    have y3 := row_c3 hrt 2 _ rfl
    clear hrt
    go_upto_region 23 with (fail)
    go_wp2_with fail
    refine (pick_any cr A l.length c X3).mono ?_
    rintro e X4 ⟨rfl, hX4⟩
    obtain ⟨qc, hqc⟩ : ∃ q, X3.heap.size = q := ⟨_, rfl⟩
    have b4 : Below X3.heap.size X3 X4 := by rw [hX4]; exact ((Below.refl _ _).alloc (Nat.le_refl _) _).alloc (by simp) _
    have rc4 : X4.heap[qc]? = some (.cells (crsArr cr) 95 (0, 0)) := by rw [hX4, ← hqc]; exact heap_before (heap_last _ _ _ rfl)
    have rp4 : X4.heap[qc + 1]? = some (.cells #[.slice A l.length c] 28 (0, 0)) := by rw [hX4, ← hqc]; exact heap_last _ _ _ (by simp)
    have sX4 : X4.heap.size = qc + 2 := by rw [hX4, ← hqc]; simp
    rw [hqc] at b4 s3
    rw [hqc]
    clear hX4 y1 y2 y3
    go_upto_region 24 with (fail)
    obtain ⟨X5, hX5⟩ : ∃ X5, X5 = X4.alloc (.cells #[.func (.func 57) #[] #[.pointer (some ⟨qc, 0, none⟩), .pointer (some ⟨qc + 1, 0, none⟩)]] 98) := ⟨_, rfl⟩
    have b45 : Below X4.heap.size X4 X5 := by rw [hX5]; exact (Below.refl _ _).alloc (Nat.le_refl _) _
    have rb5 : X5.heap[qc + 2]? = some (.cells #[.func (.func 57) #[] #[.pointer (some ⟨qc, 0, none⟩), .pointer (some ⟨qc + 1, 0, none⟩)]] 98 (0, 0)) := by rw [hX5]; exact heap_last _ _ _ sX4.symm
    have sX5 : X5.heap.size = qc + 3 := by rw [hX5]; simp [sX4]
    rw [← hX5]
    clear hX5
    have b35 : Below qc X3 X5 := b4.trans (b45.mono (by omega))
    have Hb35 := Lib.hid b35
    have HX5 : Hid (∀ k o, X3.heap[k]? = some o → X5.heap[k]? = some o) := fun k o h => (b35.block k (by have := (Array.getElem?_eq_some_iff.1 h).1; omega)).trans h
    have Hrc5 := Lib.hid ((b45.block _ (by omega)).trans rc4)
    have Hrp5 := Lib.hid ((b45.block _ (by omega)).trans rp4)
    have Hrb5 := Lib.hid rb5
    have rst := HX5.out _ _ Hst3.out
    have rmm := HX5.out _ _ (HX3.out _ _ (by omega) (by omega) HVf.out.1)
    have rss := HX5.out _ _ HRs3.out
    have y := fun k v h => ovr_cell (row_c3 rmm k v h)
    have y0 := y 0 (I m.ms) rfl
    have y1 := y 1 (I (m.ct 0)) rfl
    have y2 := y 2 (I (m.ct 1)) rfl
    have y3 := y 3 (I (m.ct 2)) rfl
    have y4 := y 4 (I (m.ct 3)) rfl
    have y5 := y 5 (I (m.ct 4)) rfl
    have y6 := y 6 (I (m.ct 5)) rfl
    have y7 := ovr_cell (row_c3 rss 0 _ rfl)
    have y8 := ovr_cell (show X5.cell? ⟨w.heap.size + 1 + 1, s', none⟩ = some (I sv) by
        rw [cn_cell (b := xsE m mo (s' + 1)) rst hs3]
        unfold xsE
        rw [if_pos (by omega), Hsv.out])
    clear y rst rmm rss b4 b45 b35 rc4 rp4 rb5 sX4
    go_upto_region 25 with (fail)
    refine wp_region_seq2 8 (fun _ => none) (by kernel_rfl) (by kernel_rfl) (by kernel_rfl) (by kernel_rfl) (by kernel_rfl) ?_
    simp only [List.take_succ_cons, List.take_zero, List.drop_succ_cons, List.drop_zero]
    repeat (refine wpG_one rfl rfl rfl ?_; intro K hK; go_big_quiet_op; go_big_quiet_on)
    refine wpG_nil (fun w6 hw6 hG => ?_)
    have b6 : Below X5.heap.size X5 w6 := hw6.le
    clear hG hw6 y0 y1 y2 y3 y4 y5 y6 y7 y8
    refine wpTailIn_cons Wd.wide (by intro c h; cases h) ?_
    unfold Oper.wp
    go_simp
    refine (walk_any m A l.length c s' sv _ ⟨_, _, _, rfl⟩ w6).mono ?_
    rintro e V6 ⟨rfl, hV6⟩
    refine wpTailIn_nil ?_
    obtain ⟨k6, hk6⟩ : ∃ k, w6.heap.size = k := ⟨_, rfl⟩
    have HV6 := Lib.hid hV6
    have bV6 : Below k6 w6 V6 := by rw [hV6, ← hk6]; exact (((Below.refl _ _).alloc (Nat.le_refl _) _).alloc (by simp) _).alloc (by simp; omega) _
    have h56 := b6.size
    rw [hk6] at h56
    have b56 : Below X5.heap.size X5 V6 := b6.trans (bV6.mono h56)
    have HX6 : Hid (∀ k o, X5.heap[k]? = some o → V6.heap[k]? = some o) := fun k o h => (b56.block k (Array.getElem?_eq_some_iff.1 h).1).trans h
    rw [hk6]
    clear hV6
    go_wp2_with fail
    have sV6 : V6.heap.size = k6 + 3 := by rw [HV6.out, ← hk6]; simp
    have h3V : ∀ k o, X3.heap[k]? = some o → V6.heap[k]? = some o := fun k o h => HX6.out k o (HX5.out k o h)
    have b3V : Below qc X3 V6 := Hb35.out.trans (b56.mono (by omega))
    have rst6 := h3V _ _ Hst3.out
    have rmr6 := h3V _ _ Hmr3.out
    have rqs6 := h3V _ _ HRs3.out
    have rqa6 := h3V _ _ (HX3.out _ _ (by omega) (by omega) HVf.out.2.2.2.1)
    have rmo6 := h3V _ _ (HX3.out _ _ (by omega) (by omega) HVf.out.2.1)
    have rqd6 := h3V _ _ (HX3.out _ _ (by omega) (by omega) HVf.out.2.2.1)
    have rqc6 := HX6.out _ _ Hrc5.out
    have rqp6 := HX6.out _ _ Hrp5.out
    have rqb6 := HX6.out _ _ Hrb5.out
    have HR6 : Rd V6 w.heap.size 8 A l.length (rT l) := HVf.out.2.2.2.2.2.keep fun b o hb => by
        unfold World.cell?
        rw [b3V.block b (by omega), HK3.out.1.1 b (by omega) (by omega)]
    have HI6 : XeI m l a mo w V mb (s' + 1) V6 → True := fun _ => trivial
    clear HI6
    have kp6 : KpS V.heap.size (fun k => k = w.heap.size + 1 + 1 ∨ k = mb) V V6 := HK3.out.1.trans (KpS.of_below b3V (by omega))
    have bl6 : Below w.heap.size w V6 := HK3.out.2.trans (b3V.mono (by omega))
    have HL6 : Hid (Mks w.heap.size L qs V6) := HL3.out.keep fun k o hk ho _ => h3V k o ho
    obtain ⟨hwg, _⟩ := wg_made (m := m) (s := s') (st := sv) (d := c) (B := w.heap.size) HV6.out hk6 HR6 (by omega)
    have hex : XeC m l a mo A c w.heap.size qc (qc + 1) (qc + 2) qa (w.heap.size + 1) (w.heap.size + 1 + 1 + 1) qs mb s' 0 V6 := by
        refine ⟨⟨⟨?_, ?_, ?_, ?_, HR6, by omega⟩, rqb6, rqa6, rmo6, rqd6, rqs6, ⟨_, rmr6, mdA_size _ _ _ _⟩⟩, rmr6⟩
        · rw [Hcr.out]; exact row_c3 rqc6 0 _ rfl
        · rw [Hcr.out]; exact row_c3 rqc6 1 _ rfl
        · rw [Hcr.out]; exact row_c3 rqc6 2 _ rfl
        · exact row_c3 rqp6 0 _ rfl
    have hea : ExAt w.heap.size qc (qc + 1) (qc + 2) qa (w.heap.size + 1) (w.heap.size + 1 + 1 + 1) qs mb := ⟨by omega, by omega, by omega, by omega, by omega, by omega, by omega, by omega⟩
    have nx : ∀ k, k ≠ mb → ¬ ((fun k => False ∨ k = mb) k) := fun k h e => by
        rcases e with e | e
        · exact e
        · exact h e
    have hwa : WgAt V6.heap.size (fun k => False ∨ k = mb) w.heap.size (k6 + 1) k6 (k6 + 2) := ⟨by omega, fun k hk => nx k (by omega), ⟨by omega, nx _ (by omega)⟩, ⟨by omega, nx _ (by omega)⟩, ⟨by omega, nx _ (by omega)⟩⟩
    have hstb : 0 ≤ sv ∧ sv ≤ 1000000000000 := by
        have h1 := Hct.ct hs3
        rw [← Hsv.out]
        unfold xeS stF
        split <;> omega
    have hsz : qs < V6.heap.size ∧ qc + 2 < V6.heap.size := by omega
    have hvE : ∀ k, xeV m l a mo s' k = xgF (crsX mo) l a mo k (chF (at0 l k) s' (wkG m (xgF (crsX mo) l a mo) s' sv l k) (msK m l k)).1 (chF (at0 l k) s' (wkG m (xgF (crsX mo) l a mo) s' sv l k) (msK m l k)).2 := fun k => by rw [← Hsv.out]; rfl
    clear h3V b3V rqs6 rqa6 rmo6 rqd6 rqc6 rqp6 rqb6 HR6 bV6 b56 HV6
    refine (wpIn_wide (n := 5)).1 ?_
    refine name_act fun a0 ha0 => ?_
    refine rangeFunc_told rfl (by omega) (gf := 58) (lb := #[.pointer (some ⟨k6 + 1, 0, none⟩), .pointer (some ⟨k6, 0, none⟩), .pointer (some ⟨k6 + 2, 0, none⟩)]) (by rw [ha0]; rfl) trivial (enters_of Tryd.func58 (by kernel_rfl) rfl)
        (walkX_all m (xgF (crsX mo) l a mo) s' sv l A c w.heap.size (k6 + 1) k6 (k6 + 2) mb V6.heap.size 4 (qc + 2) qa (w.heap.size + 1) (w.heap.size + 1 + 1 + 1) qs (fun _ => False) (XeC m l a mo A c w.heap.size qc (qc + 1) (qc + 2) qa (w.heap.size + 1) (w.heap.size + 1 + 1 + 1) qs mb s') (fun k => ExT mb s' k (xeV m l a mo s' k)) V6 (by omega) (xgF_mild _ _ _ _) hs3 hstb hl200 Hcl.out.1 Hcl.out.2.2 hwa
         (fun k U V' h hk => h.same (fun b hb => hk.1 b (by omega) (fun e => e)) hk.2 ((hk.1 mb (by omega) (fun e => e)).trans h.2))
         (fun k U V' h ht => h.step hea hs3 ht) (fun k U V' h => h.1) (by omega)
         (fun k W' hk h => by
          have h1 := ext1_any (crsX mo) A c l w.heap.size qc (qc + 1) (qc + 2) qa (w.heap.size + 1) (w.heap.size + 1 + 1 + 1) qs mb s' k a (chF (at0 l k) s' (wkG m (xgF (crsX mo) l a mo) s' sv l k) (msK m l k)).1 (chF (at0 l k) s' (wkG m (xgF (crsX mo) l a mo) s' sv l k) (msK m l k)).2 mo W' h.1 hk hs3
          rw [hvE k]
          exact h1) (Nat.le_refl _) hwg hex)
        (fun _ W W' row h hg hr => h.same (fun b hb => hg.block b (h.lt b hb) (fun e => by have := (hr _ e.symm).1; omega)) hg.size ((hg.block mb (Array.getElem?_eq_some_iff.1 h.2).1 (fun e => by have := (hr _ e.symm).1; omega)).trans h.2))
        (fun h h' => KpS.trans h h') (fun W l o o' hl h _ _ => ⟨fun k hk _ => World.putObj_heap_other (by omega), by simp⟩) (fun _ => rfl)
        (fun k W => KpS V6.heap.size (fun k => k = mb) V6 W ∧ Below w.heap.size w W)
        (fun k W W' row h hg hr => ⟨h.1.grown h.1.2 hg (fun r e => (hr r e).1), h.2.grown hg h.2.size (fun r e => by have := (hr r e).1; omega)⟩)
        (fun k U V' h ht => ⟨h.1.trans (KpS.of_grown ht.1 h.1.2), h.2.grown ht.1 h.2.size (fun r e => by have := Option.some.inj e; omega)⟩)
        (fun k U V' h => KeepsFrom.of_grownBy h.1 (fun j e => by have := Option.some.inj e; omega))
        ⟨KpS.refl _, bl6⟩
        (fun k a' W => a' = { tmps := ((a0.tmps.setIfInBounds 82 (I k)).setIfInBounds 83 (.agg (lvG m (xgF (crsX mo) l a mo) s' sv l k))), defers := [] })
        (fun k a' s W W' row hs hg hr => hs) ?assign ?body ?done
    case assign =>
        intro l' k W K hk hi' hK
        subst ha0
        gi_wp2
        exact hK _ _ (KeepsFrom.refl _ _) (KpS.refl _) hi' rfl
    case body =>
        rintro l' k a' X7 hl2 hk hI rfl
        subst ha0
        have hF := Wd.round l'
        gi_wp2
        exact ⟨KeepsFrom.refl _ _, KpS.refl _, by have h := hI; rw [sV6] at h; exact h⟩
    case done =>
        rintro D X7 hD hI hE hK
        subst ha0
        have HI7 : Hid (XeI m l a mo w V mb (s' + 1) X7) := ⟨(hI.1.1 _ (by omega) (by omega)).trans rst6, by rw [← mdA_full]; exact hE.2, kp6.trans ⟨fun k hk hne => hI.1.1 k (by omega) (fun e => hne (.inr e)), hI.1.2⟩, hI.2⟩
        have HL7 : Hid (Mks w.heap.size ({ target := .collected D, args := #[] } :: L) X7.heap.size X7) := ⟨D, rfl, by omega, (Array.getElem?_eq_some_iff.1 hK).1, hK, (HL6.out.keep fun k o hk ho hc => (hI.1.1 k (by omega) (by rintro rfl; rw [rmr6] at ho; cases ho; cases hc)).trans ho).more (by omega)⟩
        obtain ⟨L2, hL2⟩ : ∃ L2, ({ target := .collected D, args := #[] } : Deferred) :: L = L2 := ⟨_, rfl⟩
        rw [hL2] at HL7 ⊢
        clear hL2 hI hE hK hwg hwa hex hea
        go_wp2_with fail
        refine ⟨xeJ_intro (s' + 1) L2 rfl (by omega) HI7.out HL7.out, ?_⟩
        show 3 - ((s' + 1 : Nat) : Int).toNat < 3 - (s' : Int).toNat
        omega
end Go.Proofs.YtnkaoplgmglijaaDoor
