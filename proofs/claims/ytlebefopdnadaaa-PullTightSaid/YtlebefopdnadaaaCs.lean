/- The true course of a crystal: the contract of course of the statements' package. -/
import Derived.Test.YtlebefopdnadaaaSet
import Derived.Test.YtlebefopdnadaaaFr
import Derived.Laws.OwnMore
namespace Go.Proofs.Ytlebefopdnadaaa
open Go.RowKit
/-- A crystal: the first diameter, the steps, the times at which it is seen, what is around. -/
structure Cry where
  f : Int
  st : List Int
  sn : List Int
  ar : List Rng
abbrev cryV (A B C : Option Addr) (a b c : Nat) (x : Cry) : Value := .agg #[.int .u16 x.f, .slice A x.st.length a, .slice B x.sn.length b, .slice C x.ar.length c]
def rKd (kd : IntKind) (xs : List Int) (k _ : Nat) : Value := .int kd (at0 xs k)
def rU (xs : List Rng) (k j : Nat) : Value := if j = 0 then .int .u8 (at0 xs k).lo else .int .u8 (at0 xs k).hi
/-- A crystal that can be read. -/
structure CryIn (w : World) (A B C : Option Addr) (x : Cry) : Prop where
  s : Rd w w.heap.size 1 A x.st.length (rKd .i8 x.st)
  n : Rd w w.heap.size 1 B x.sn.length (rKd .u8 x.sn)
  a : Rd w w.heap.size 2 C x.ar.length (rU x.ar)
  f : 0 ≤ x.f ∧ x.f ≤ 65535
  bs : ∀ k, k < x.st.length → -128 ≤ at0 x.st k ∧ at0 x.st k ≤ 127
  bn : ∀ k, k < x.sn.length → 0 ≤ at0 x.sn k ∧ at0 x.sn k ≤ 255
  ba : ∀ k, k < x.ar.length → 0 ≤ (at0 x.ar k).lo ∧ (at0 x.ar k).lo ≤ 255 ∧ 0 ≤ (at0 x.ar k).hi ∧ (at0 x.ar k).hi ≤ 255
  ls : x.st.length ≤ maxLen
  la : x.ar.length ≤ maxLen
theorem CryIn.below {w w' : World} {A B C : Option Addr} {x : Cry} (h : CryIn w A B C x) (hb : Below w.heap.size w w') : CryIn w' A B C x :=
  ⟨(h.s.below hb).more hb.size, (h.n.below hb).more hb.size, (h.a.below hb).more hb.size, h.f, h.bs, h.bn, h.ba, h.ls, h.la⟩
/-- What the crystal grows by in a second. -/
def stpC (p : Vec) (x : Cry) (t : Nat) : Int := if x.st.length = 0 then 0 else max (-p 111) (min (p 110) (at0 x.st (t % x.st.length)))
/-- The true diameter. -/
def crs (p : Vec) (x : Cry) : Nat → Int
  | 0 => 1000 + x.f
  | t + 1 => max 0 (min 1000000 (crs p x t + stpC p x (t + 1)))
theorem crs_bd (p : Vec) {x : Cry} (h : 0 ≤ x.f ∧ x.f ≤ 65535) : ∀ t, 0 ≤ crs p x t ∧ crs p x t ≤ 1000000
  | 0 => by unfold crs; omega
  | t + 1 => by unfold crs; omega
theorem stpC_bd {p : Vec} (x : Cry) (t : Nat) (hg : 0 ≤ p 110) (hs : 0 ≤ p 111) : -p 111 ≤ stpC p x t ∧ stpC p x t ≤ p 110 := by
  unfold stpC
  split <;> omega
theorem crs_step {p : Vec} {x : Cry} (h : 0 ≤ x.f ∧ x.f ≤ 65535) (hg : 0 ≤ p 110) (hs : 0 ≤ p 111) (t : Nat) : crs p x t - p 111 ≤ crs p x (t + 1) ∧ crs p x (t + 1) ≤ crs p x t + p 110 := by
  have h1 := crs_bd p h t
  have h2 := stpC_bd x (t + 1) hg hs
  rw [crs]
  omega
/-- The samples are true of the crystal's course. -/
def TrueS (p : Vec) (x : Cry) (e : Int) (ms : List Smp) : Prop := ∀ k, k < ms.length → ∃ t : Nat, (at0 ms k).t = t ∧ (t : Int) ≤ e ∧ (at0 ms k).lo ≤ crs p x t ∧ crs p x t ≤ (at0 ms k).hi
def rCr (p : Vec) (x : Cry) (k _ : Nat) : Value := I (crs p x k)
/-- The course comes back. -/
def RetC2 (w : World) (p : Vec) (x : Cry) (e : Int) (en : Ending) (w' : World) : Prop := ∃ A c B d ms, en = .returned (.tuple #[.slice A (e.toNat + 1) c, .slice B (List.length ms) d]) ∧ FR w.heap.size w' 1 A (e.toNat + 1) (rCr p x) ∧ FR w.heap.size w' 3 B ms.length (rM ms) ∧ ms.length ≤ x.sn.length ∧ ms.length ≤ d ∧ TrueS p x e ms ∧ Below w.heap.size w w'
theorem int_info : (Try.prog.info? 3).map (fun i => (i.zero, i.size, i.bytes)) = some (some (I 0), 1, 8) := by kernel_rfl
theorem flat_app (ms : List Smp) (y : Smp) : flat 3 (rM (ms ++ [y])) (ms.length + 1) = flat 3 (rM ms) ms.length ++ [I y.t, I y.lo, I y.hi] := by
  rw [flat_succ 3 (by decide), flat_congr (g' := rM ms) (fun k hk j _ => by unfold rM; rw [at0_app ms [y] hk])]
  have h : at0 (ms ++ [y]) ms.length = y := by unfold at0; simp
  congr 1
  show [rM (ms ++ [y]) ms.length 0, rM (ms ++ [y]) ms.length 1, rM (ms ++ [y]) ms.length 2] = _
  unfold rM
  rw [h]
  rfl
theorem trueS_app {p : Vec} {x : Cry} {e : Int} {ms : List Smp} {y : Smp} (h : TrueS p x e ms) (m : Nat) (h1 : y.t = m) (h2 : (m : Int) ≤ e) (h3 : y.lo ≤ crs p x m) (h4 : crs p x m ≤ y.hi) : TrueS p x e (ms ++ [y]) := fun k hk => by
  rcases Nat.lt_or_ge k ms.length with hl | hl
  · rw [at0_app ms [y] hl]; exact h k hl
  · have hk2 : k = ms.length := by rw [List.length_append] at hk; simp at hk; omega
    subst hk2
    have h0 : at0 (ms ++ [y]) ms.length = y := by unfold at0; simp
    rw [h0]
    exact ⟨m, h1, h2, h3, h4⟩
theorem smp_info3 : (Try.prog.info? 75).map (fun i => (i.zero, i.size, i.bytes)) = some (some (.agg #[I 0, I 0, I 0]), 3, 24) := by kernel_rfl
theorem wp_store_at {P : Program} {o : Oper} {a : Act} {w : World} {K : Act → World → Prop} {Q : Exit → Act → World → Prop} (ty : TypeId) (x y : Operand) (ho : o.op = .store ty x y)
    (g i : Nat) (hx : a.eval x = .pointer (some ⟨g, i, none⟩)) (cs : Array Value) (t : TypeId) (hg : w.heap[g]? = some (.cells cs t (0, 0))) (cs' : Array Value) (hy : a.eval y = .agg cs') (h1 : ∀ v ∈ cs'.toList, v.oneCell' = true) (hs : i + cs'.size ≤ cs.size) (hi : (P.info? ty).map (·.size) = some cs'.size)
    (h : K (a.put o.dst undef) (w.setRow g (cs.toList.take i ++ cs'.toList ++ cs.toList.drop (i + cs'.size)).toArray)) : o.wp P a w K Q := by
  have hst := run_storeCells_at P g i t cs'.toList 0 cs w hg (by simpa using hs) h1
  simp only [Nat.add_zero, Array.length_toList] at hst
  have hrun : (storeVar ty ⟨g, i, none⟩ (.agg cs')).run P w = .ok () (w.setRow g (cs.toList.take i ++ cs'.toList ++ cs.toList.drop (i + cs'.size)).toArray) := by
    cases hq : P.info? ty with
    | none => simp [hq] at hi
    | some q =>
      have hs' : q.size = cs'.size := by simpa [hq] using hi
      simp [storeVar, Sem.run_bind, sizeOf, typeInfo, hq, hs', Value.cells, hst]
  unfold Oper.wp execOp
  simp only [ho, hx, hy, Instr.storeAt, Instr.sureAddr, Sem.run_bind, Sem.run_pure, Result.andThen_ok, hrun]
  exact h
set_option maxRecDepth 100000 in
set_option maxHeartbeats 2000000 in
theorem course_any (A B C : Option Addr) (a b c : Nat) (x : Cry) (p : Vec) (e : Int) (w : World) (h : CryIn w A B C x) (hp : VPul p) (he : 1 ≤ e ∧ e ≤ 200) (hsn : x.sn.length ≤ 60) :
    Calls Try.prog 76 #[cryV A B C a b c x, .agg (ia 117 p), I e] w (RetC2 w p x e) := by
  obtain ⟨i1, hi1, iz1, is1, ib1⟩ := info_parts int_info
  obtain ⟨i2, hi2, iz2, is2, ib2⟩ := info_parts smp_info3
  obtain ⟨N, rfl⟩ : ∃ N : Nat, e = N := ⟨e.toNat, by omega⟩
  obtain ⟨W0, hW0⟩ : ∃ W0, W0 = w.alloc (.cells #[.int .u16 x.f, .slice A x.st.length a, .slice B x.sn.length b, .slice C x.ar.length c] 85) := ⟨_, rfl⟩
  obtain ⟨W1, hW1⟩ : ∃ W1, W1 = W0.alloc (.cells (ia 117 p) 30) := ⟨_, rfl⟩
  have HL0 : Hid (Le W0 W1) := by show Below _ _ _; rw [hW1]; exact (Below.refl _ _).alloc (Nat.le_refl _) _
  have HU : Hid (∀ W, Le W1 W → Below w.heap.size w W) := fun W hW => by have := HL0.out.trans hW; rw [hW0] at this; exact under2 this
  have hz0 : W0.heap.size = w.heap.size + 1 := by rw [hW0]; simp
  have HC : Hid (∀ W, Le W1 W → CryIn W A B C x) := fun W hW => h.below (HU.out W hW)
  have HX : Hid (∀ W, Le W1 W → W.cell? ⟨w.heap.size, 0, none⟩ = some (.int .u16 x.f) ∧ W.cell? ⟨w.heap.size, 1, none⟩ = some (.slice A x.st.length a) ∧ W.cell? ⟨w.heap.size, 2, none⟩ = some (.slice B x.sn.length b) ∧ W.cell? ⟨w.heap.size, 3, none⟩ = some (.slice C x.ar.length c)) := fun W hW => by
    have hr : W.heap[w.heap.size]? = some (.cells #[.int .u16 x.f, .slice A x.st.length a, .slice B x.sn.length b, .slice C x.ar.length c] 85 (0, 0)) := (Below.block (HL0.out.trans hW) _ (by rw [hW0]; simp)).trans (by rw [hW0]; exact heap_last _ _ _ rfl)
    exact ⟨by rw [cell_of_row _ _ _ _ _ _ hr]; rfl, by rw [cell_of_row _ _ _ _ _ _ hr]; rfl, by rw [cell_of_row _ _ _ _ _ _ hr]; rfl, by rw [cell_of_row _ _ _ _ _ _ hr]; rfl⟩
  have HP : Hid (∀ W, Le W1 W → W.cell? ⟨w.heap.size + 1, 110, none⟩ = some (I (p 110)) ∧ W.cell? ⟨w.heap.size + 1, 111, none⟩ = some (I (p 111))) := fun W hW => by
    have hr : W.heap[w.heap.size + 1]? = some (.cells (ia 117 p) 30 (0, 0)) := (Below.block hW _ (by rw [hW1]; simp; omega)).trans (by rw [hW1, ← hz0]; exact heap_last _ _ _ rfl)
    exact ⟨by rw [cell_of_row _ _ _ _ _ _ hr]; exact ia_get (by omega), by rw [cell_of_row _ _ _ _ _ _ hr]; exact ia_get (by omega)⟩
  have HW : Hid (W1 = (w.alloc (.cells #[.int .u16 x.f, .slice A x.st.length a, .slice B x.sn.length b, .slice C x.ar.length c] 85)).alloc (.cells (ia 117 p) 30)) := by show _ = _; rw [hW1, hW0]
  have Hp := Lib.hid hp
  obtain ⟨f0, f1⟩ := h.f
  obtain ⟨xf, hxf⟩ : ∃ xf, x.f = xf := ⟨_, rfl⟩
  have Hxf := Lib.hid hxf
  rw [hxf] at f0 f1
  have hN := he.2
  clear h hp hW0 hW1 hz0 hxf he
  go_enter Try.func76, Try.ntmps76
  go_upto_region 1 with (fail)
  rw [← HW.out]
  obtain ⟨x0, x1, x2, x3⟩ := HX.out _ (Le.refl _)
  rw [Hxf.out] at x0
  go_wp2_with fail
  have own2 : (W1.alloc (.cells #[I (1000 + xf)] 3)).ownsRow W1.heap.size 3 1 (.slice (some ⟨W1.heap.size, 0, none⟩) 1 1) 1 (flat 1 (rCr p x) 1) := by
    have := World.ownsRow_lit (base := W1.heap.size) (e := 3) (size := 1) W1 #[I (1000 + xf)] 1 (Nat.le_refl _) (by unfold maxLen; omega) rfl
    have e : flat 1 (rCr p x) 1 = [I (1000 + xf)] := by rw [← Hxf.out]; rfl
    rw [e]; exact this
  have Own2 := Lib.hid own2
  have HZ : Hid (Le W1 (W1.alloc (.cells #[I (1000 + xf)] 3))) := (Below.refl _ _).alloc (Nat.le_refl _) _
  clear own2 x0 x1 x2 x3
  go_loopw [8, 9, 10] (fun v t s wr => ∃ k : Nat, 1 ≤ k ∧ k ≤ N + 1 ∧ t = .int .i64 k ∧ wr.ownsRow W1.heap.size 3 1 v k (flat 1 (rCr p x) k) ∧ Le W1 wr) (fun _ t _ _ => N + 1 - (intOf t).toNat)
  case atStart => exact ⟨1, by omega, by omega, rfl, Own2.out, HZ.out⟩
  case round =>
    rename World => W2
    obtain ⟨k, hk1, hk, rfl, hown, hbw⟩ := hrel
    have Hown := Lib.hid hown
    have HL : Hid (Le W1 W2) := hbw
    clear hown hbw
    by_cases hlt : k ≤ N
    · obtain ⟨x0, x1, x2, x3⟩ := HX.out W2 HL.out
      obtain ⟨gg, ss⟩ := HP.out W2 HL.out
      obtain ⟨D, cc, rfl, hr⟩ := Rd.of_own Hown.out
      have ls := (HC.out W2 HL.out).ls
      have hm : maxLen = 9223372036854775807 := rfl
      obtain ⟨b3, o3, rfl, hB3, hcell⟩ := hr (by omega)
      have hlast := hcell (k - 1) (by omega) 0 (by omega)
      rw [Nat.mul_one, Nat.add_zero] at hlast
      obtain ⟨j, rfl⟩ : ∃ j, k = j + 1 := ⟨k - 1, by omega⟩
      rw [Nat.add_sub_cancel] at hlast
      rw [show ((j + 1 : Nat) : Int) = (j : Int) + 1 from rfl]
      have Hlast := Lib.hid hlast
      have hcb := crs_bd p (x := x) (by rw [Hxf.out]; omega) j
      have hrc : Hid (rCr p x j 0 = I (crs p x j)) := rfl
      have hnx : Hid (crs p x (j + 1) = max 0 (min 1000000 (crs p x j + stpC p x (j + 1)))) := rfl
      have Hm := Lib.hid hm
      have hsp : Hid (0 ≤ p 110 ∧ p 110 ≤ 1000000 ∧ 0 ≤ p 111 ∧ p 111 ≤ 1000000) := ⟨Hp.out.grow.1, Hp.out.grow.2, Hp.out.shrink.1, Hp.out.shrink.2⟩
      have hsb := stpC_bd x (j + 1) hsp.out.1 hsp.out.2.2.1
      have Hlt := Lib.hid hlt
      have hN1 : (j : Int) + 1 ≤ 201 := by omega
      clear hr hcell hlast hm
      go_upto_if 29 with (fail)
      go_cut [10] from 30 to 46 (fun v wx => v = I (stpC p x (j + 1)) ∧ Le W2 wx)
      case first =>
        clear hlt
        by_cases hs0 : x.st.length = 0
        · have hst : Hid (stpC p x (j + 1) = 0) := if_pos hs0
          have hsi : (x.st.length : Int) = 0 := by omega
          go_wp2_with fail
          go_meet
          case rel => exact ⟨by rw [hst.out], Le.refl _⟩
        · have hsi : (0 : Int) < (x.st.length : Int) := by omega
          obtain ⟨m, hmm⟩ : ∃ m, (j + 1) % x.st.length = m := ⟨_, rfl⟩
          have hml : m < x.st.length := by rw [← hmm]; exact Nat.mod_lt _ (by omega)
          have hst : Hid (stpC p x (j + 1) = max (-p 111) (min (p 110) (at0 x.st m))) := by show _ = _; rw [← hmm]; exact if_neg hs0
          obtain ⟨b4, o4, rfl, _, hc4⟩ := (HC.out W2 HL.out).s (by omega)
          have hl4 := hc4 m hml 0 (by omega)
          rw [Nat.mul_one, Nat.add_zero] at hl4
          have hb4 := (HC.out W2 HL.out).bs m hml
          have hv4 : rKd .i8 x.st m 0 = .int .i8 (at0 x.st m) := rfl
          rw [hv4] at hl4
          have htm : Int.tmod ((j + 1 : Nat) : Int) (x.st.length : Int) = (m : Int) := by rw [← Int.ofNat_tmod, hmm]
          have htm2 : Int.tmod ((j : Int) + 1) (x.st.length : Int) = (m : Int) := htm
          have htm3 : ((j : Int) + 1) % (x.st.length : Int) = (m : Int) := by rw [← hmm]; rfl
          have hmi : (m : Int) < (x.st.length : Int) := by omega
          generalize at0 x.st m = sv at *
          have y0 := ovr_cell x0
          have y1 := ovr_cell x1
          have y4 := ovr_cell hl4
          have yg := ovr_cell gg
          have ys := ovr_cell ss
          obtain ⟨sp1, sp2, sp3, sp4⟩ := hsp.out
          clear hc4 hv4 hmm hs0
          go_wp2_with fail
          refine wp_region_below_lit (by kernel_rfl) (by kernel_rfl) ?_
          repeat (go_big_quiet_step (fail))
          refine wpQuiet_nil ?_
          intro w1 hb1
          have HB1 : Hid (Le W2 w1) := hb1
          have hval : (if -p 111 < if sv < p 110 then sv else p 110 then if sv < p 110 then sv else p 110 else -p 111) = stpC p x (j + 1) := by rw [hst.out]; repeat' split <;> omega
          clear hb1 y0 y1 y4 yg ys
          rw [hval]
          clear hval hsi hmi hml htm htm2 htm3
          generalize (if sv < p 110 then sv else p 110) = z1
          go_wp2_with fail
          go_meet
          case rel => exact ⟨rfl, HB1.out⟩
      case rest =>
        obtain ⟨rfl, hcl⟩ := hcut
        have HLc : Hid (Le W1 wc) := HL.out.trans hcl
        have Hownc := Lib.hid (own_below Hown.out hcl)
        have hl : wc.cell? ⟨b3, o3 + j, none⟩ = some (I (crs p x j)) := (hcl.cell (p := ⟨b3, o3 + j, none⟩) hB3).trans Hlast.out
        have hm := Hm.out
        obtain ⟨sp1, sp2, sp3, sp4⟩ := hsp.out
        have HF : Hid (flat 1 (rCr p x) (j + 1 + 1) = flat 1 (rCr p x) (j + 1) ++ [I (crs p x (j + 1))]) := flat_succ 1 (by decide) (rCr p x) (j + 1)
        clear hcl x0 x1 x2 x3 gg ss
        generalize stpC p x (j + 1) = st at *
        generalize crs p x j = cj at *
        generalize crs p x (j + 1) = cn at *
        have hzc : W1.heap.size ≤ wc.heap.size := Below.size HLc.out
        go_wp2_with (at_builtin; go_loud (refine wpList_append_own _ rfl _ _ 86 rfl W1.heap.size 3 i1 _ 1 8 Try.underlying86 hi1 iz1 is1 ib1 rfl (by decide) _ (j + 1) (flat 1 (rCr p x) (j + 1)) rfl (Hownc.out.alloc _) ⟨wc.heap.size, 0, none⟩ 1 1 [I _] rfl (by rfl) (news_lit (cs := #[I _]) (heap_last _ _ _ rfl)) ?h1 ?h63 ?hby ?hba ?_))
        case h63 => omega
        case hby => omega
        case h1.inl.inl => simp [Value.oneCell']
        case h1.inl.inr => simp [Value.oneCell']
        case h1.inr => simp [Value.oneCell']
        case hba.inl => omega
        case hba.inr => omega
        all_goals
          intro v' wB own3 hg2 _
          have hB3' : Hid (Le W1 wB) := Below.grown (HLc.out.alloc hzc _) hg2 (by simp; omega) (fun g hg => by
            rcases Hownc.out.2 with ⟨hq, _⟩ | ⟨q, cap, cur, hq, hqb, _⟩
            · cases hq
            · rw [hq] at hg; cases hg; exact hqb)
          have Own3 : Hid (wB.ownsRow W1.heap.size 3 1 v' (j + 1 + 1) (flat 1 (rCr p x) (j + 1 + 1))) := by
            show World.ownsRow _ _ _ _ _ _ _
            rw [HF.out]
            have hn := hnx.out
            first | (rw [show cn = cj + st by omega]; exact own3) | (rw [show cn = 1000000 by omega]; exact own3) | (rw [show cn = 0 by omega]; exact own3)
          clear own3 hg2 Hownc
          go_wp2_with fail
          go_roundw
          case rel => exact ⟨j + 1 + 1, by omega, by omega, by go_num, Own3.out, hB3'.out⟩
          case measure => simp [intOf]; omega
    · obtain rfl : k = N + 1 := by omega
      rw [show ((N + 1 : Nat) : Int) = (N : Int) + 1 from rfl]
      obtain ⟨D, cc, rfl, _, hr0⟩ := FR.of_own Hown.out
      have HD := Lib.hid hr0.rd
      have HDF := Lib.hid (hr0.low (show w.heap.size ≤ W1.heap.size from (HU.out W1 (Le.refl _)).size))
      have hm0 : (W2.alloc (.cells #[] 75)).ownsRow W2.heap.size 75 3 (.slice (some ⟨W2.heap.size, 0, none⟩) 0 0) 0 (flat 3 (rM []) 0) := World.ownsRow_lit (base := W2.heap.size) (e := 75) (size := 3) W2 #[] 0 (Nat.le_refl _) (by unfold maxLen; omega) rfl
      have Hm0 := Lib.hid hm0
      have HZ2 : Hid (Le W2 (W2.alloc (.cells #[] 75))) := (Below.refl _ _).alloc (Nat.le_refl _) _
      clear hr0 hm0
      go_wp2_with fail
      clear hlt hk hk1
      try rw [show decide ((N : Int) + 1 ≤ (N : Int)) = false from decide_eq_false (by omega)]
      go_loopw [11, 12, 13, 14, 15] (fun v la i _ _ wr => ∃ (q : Nat) (ms : List Smp) (s : Int), q ≤ x.sn.length ∧ i = .int .i64 q ∧ la = I s ∧ -1 ≤ s ∧ s ≤ N ∧ ms.length = q ∧ TrueS p x N ms ∧ wr.ownsRow W2.heap.size 75 3 v ms.length (flat 3 (rM ms) ms.length) ∧ Le W2 wr) (fun _ _ i _ _ _ => x.sn.length - (intOf i).toNat)
      case atStart => exact ⟨0, [], -1, by omega, rfl, rfl, by omega, by omega, rfl, fun k hk => absurd hk (by simp), Hm0.out, HZ2.out⟩
      case round =>
        rename World => W3
        obtain ⟨q, ms, s, hq, rfl, rfl, hs1, hs2, hlen, htr, hown, hbw⟩ := hrel
        have Hms := Lib.hid hown
        have Hlen := Lib.hid hlen
        have Htr := Lib.hid htr
        have HL3 : Hid (Le W2 W3) := hbw
        have HL13 : Hid (Le W1 W3) := HL.out.trans hbw
        clear hown htr hbw
        obtain ⟨x0, x1, x2, x3⟩ := HX.out W3 HL13.out
        by_cases hlt : q < x.sn.length
        · obtain ⟨b4, o4, rfl, _, hc4⟩ := (HC.out W3 HL13.out).n (by omega)
          have hl4 := hc4 q hlt 0 (by omega)
          rw [Nat.mul_one, Nat.add_zero] at hl4
          have hb4 := (HC.out W3 HL13.out).bn q hlt
          have hv4 : rKd .u8 x.sn q 0 = .int .u8 (at0 x.sn q) := rfl
          rw [hv4] at hl4
          generalize at0 x.sn q = sv at *
          clear hc4 hv4
          obtain ⟨m, hat⟩ : ∃ m : Nat, s + 1 + sv = m := ⟨(s + 1 + sv).toNat, by omega⟩
          have Hat := Lib.hid hat
          go_upto_if 78 with (fail)
          by_cases hmN : N < m
          · obtain ⟨B', d', rfl, hd', hrB⟩ := FR.of_own Hms.out
            have hmi : (N : Int) < (m : Int) := by omega
            clear hat
            go_wp2_with fail
            go_ret2
            exact ⟨D, cc, B', d', ms, rfl, HDF.out.below HL3.out, hrB.low ((HU.out W2 HL.out).size), by rw [hlen]; exact hq, hd', Htr.out, HU.out _ HL13.out⟩
          have hmi : (m : Int) ≤ (N : Int) := by omega
          obtain ⟨b5, o5, rfl, hB5, hc5⟩ := HD.out (by omega)
          have hl5 : W3.cell? ⟨b5, o5 + m, none⟩ = some (I (crs p x m)) := by
            have := hc5 m (by omega) 0 (by omega)
            rw [Nat.mul_one, Nat.add_zero] at this
            exact (HL3.out.cell (p := ⟨b5, o5 + m, none⟩) hB5).trans this
          have hcr := crs_bd p (x := x) (by rw [Hxf.out]; omega) m
          have H5 : Hid (∀ W, Le W2 W → W.cell? ⟨b5, o5 + m, none⟩ = some (I (crs p x m))) := fun W hW => by
            have := hc5 m (by omega) 0 (by omega)
            rw [Nat.mul_one, Nat.add_zero] at this
            exact (hW.cell (p := ⟨b5, o5 + m, none⟩) hB5).trans this
          generalize hcrm : crs p x m = cr at *
          have Hcrm := Lib.hid hcrm
          have y5 := ovr_cell hl5
          clear hcrm hc5 hat hl4 hl5 x0 x1 x2 x3
          have hmi2 : (m : Int) < ((N + 1 : Nat) : Int) := by omega
          go_wp2_with fail
          refine wp_region_make_last (fun j => if j = 11 then some (NewAt W3 #[I 0, I 0, I 0] 75) else none) (by kernel_rfl) (by kernel_rfl) (by kernel_rfl) (by kernel_rfl) rfl ?_
          simp only [skipLast_two, skipLast_one, lastOf_two, lastOf_one]
          repeat (refine wpG_one rfl rfl rfl ?_; intro K hK; go_big_quiet_op; go_big_quiet_on)
          refine wpG_make (NewAt W3 #[I 0, I 0, I 0] 75) rfl rfl (fun w' hw' _ => ?_) (fun u hu => ?_)
          · go_simp
            exact new_grow hw'
          obtain ⟨_, _, xb, rfl, _, hxb⟩ := hu
          simp only [Act.put, List.setIfInBounds_toArray, List.set_cons_zero, List.set_cons_succ]
          repeat (refine wpG_one rfl rfl rfl ?_; intro K hK; go_big_quiet_op; go_big_quiet_on)
          refine wpG_nil (fun w5 hw5 hG => ?_)
          have hx5 := (Box.now hG.2).at.1
          clear hG
          refine wp_store_row 75 _ _ rfl xb rfl _ _ hx5 #[I m, I cr, I cr] rfl (by intro v hv; simp at hv; rcases hv with rfl | rfl <;> rfl) rfl (by kernel_rfl) ?_
          have hle6 : Le W3 (w5.setRow xb #[I m, I cr, I cr]) := below_setRow hw5.le hxb _
          have q6 : (w5.setRow xb #[I m, I cr, I cr]).heap[xb]? = some (.cells #[I m, I cr, I cr] 75 (0, 0)) := setRow_same hx5
          have HL6 : Hid (Le W3 (w5.setRow xb #[I m, I cr, I cr])) := hle6
          have Q6 := Lib.hid q6
          have HXB := Lib.hid hxb
          simp only [Act.put]
          generalize w5.setRow xb #[I m, I cr, I cr] = W6 at *
          clear hle6 q6 hx5 hw5 hxb y5
          obtain ⟨x0, x1, x2, x3⟩ := HX.out W6 (HL13.out.trans HL6.out)
          have hbx6 : xb < W6.heap.size := (Array.getElem?_eq_some_iff.1 Q6.out).1
          go_upto_if 94 with (fail)
          have hmN2 : ¬ N < m := hmN
          try rw [show decide (N < m) = false from decide_eq_false hmN2]
          try rw [show decide (q < x.sn.length) = true from decide_eq_true hlt]
          clear hmN2
          generalize hbq : decide (q < x.ar.length) = bq
          have Hbq := Lib.hid hbq
          clear hbq
          go_cut [] from 95 to 122 (fun wx => ∃ lo hi, lo ≤ cr ∧ cr ≤ hi ∧ wx.heap[xb]? = some (.cells #[I m, I lo, I hi] 75 (0, 0)) ∧ Le W3 wx)
          case first =>
            rcases bq with _ | _
            case true =>
              have hra : q < x.ar.length := of_decide_eq_true Hbq.out
              have hri : (q : Int) < (x.ar.length : Int) := by omega
              obtain ⟨b6, o6, rfl, _, hc6⟩ := (HC.out W6 (HL13.out.trans HL6.out)).a (by omega)
              have ha0 := hc6 q hra 0 (by omega)
              have ha1 := hc6 q hra 1 (by omega)
              obtain ⟨ba1, ba2, ba3, ba4⟩ := (HC.out W6 (HL13.out.trans HL6.out)).ba q hra
              have e0 : rU x.ar q 0 = .int .u8 (at0 x.ar q).lo := rfl
              have e1 : rU x.ar q 1 = .int .u8 (at0 x.ar q).hi := rfl
              rw [e0, Nat.add_zero] at ha0
              rw [e1] at ha1
              generalize at0 x.ar q = ar at *
              clear hc6 e0 e1
              have ya := ovr_cell ha0
              have yb := ovr_cell ha1
              have y0 := ovr_cell x0
              have y3 := ovr_cell x3
              have hl5 := H5.out W6 (HL3.out.trans HL6.out)
              have y5 := ovr_cell hl5
              clear ha0 ha1 hl5 x0 x1 x2 x3
              go_wp2_with fail
              refine wp_region_below_tail (by kernel_rfl) (by kernel_rfl) (by kernel_rfl) ?_
              simp only [skipLast_two, skipLast_one]
              repeat (go_big_quiet_step (fail))
              refine wpQuiet_nil ?_
              intro w1 hb1 o ho
              obtain rfl := Option.some.inj ho
              have hxw := (hb1.block xb hbx6).trans Q6.out
              refine wp_store_at 23 _ _ rfl xb 1 rfl #[I m, I cr, I cr] 75 hxw #[_, _] rfl (by intro v hv; simp at hv; rcases hv with rfl | rfl <;> rfl) (by simp) (by kernel_rfl) ?_
              have hle7 := Lib.hid (HL6.out.trans hb1)
              clear ya yb y0 y3 y5
              have f1 : (if ar.lo < cr then cr - ar.lo else 0) ≤ cr := by split <;> omega
              have f2 : cr ≤ (if cr + ar.hi < 1000000 then cr + ar.hi else 1000000) := by split <;> omega
              generalize (if ar.lo < cr then cr - ar.lo else 0) = lo7 at *
              generalize (if cr + ar.hi < 1000000 then cr + ar.hi else 1000000) = hi7 at *
              have Hw8 : Hid ((w1.setRow xb (List.take 1 #[I m, I cr, I cr].toList ++ #[I lo7, I hi7].toList ++ List.drop (1 + #[I lo7, I hi7].size) #[I m, I cr, I cr].toList).toArray).heap[xb]? = some (.cells #[I m, I lo7, I hi7] 75 (0, 0))) := setRow_same hxw
              have hb8 := Lib.hid (below_setRow hle7.out HXB.out (List.take 1 #[I m, I cr, I cr].toList ++ #[I lo7, I hi7].toList ++ List.drop (1 + #[I lo7, I hi7].size) #[I m, I cr, I cr].toList).toArray)
              generalize w1.setRow xb _ = W8 at *
              go_wp2_with fail
              go_meet
              case rel => exact ⟨lo7, hi7, f1, f2, Hw8.out, hb8.out⟩
            case false =>
              clear hmi hmi2 hlt
              go_wp2_with fail
              go_meet
              case rel => exact ⟨cr, cr, Int.le_refl _, Int.le_refl _, Q6.out, HL6.out⟩
          case rest =>
            obtain ⟨lo, hi, hlo, hhi, hxw, hcl⟩ := hcut
            have Hm : Hid (maxLen = 9223372036854775807) := rfl
            have hl60 : ms.length ≤ 1000000 := by have := Hlen.out; omega
            clear hlen
            have HL2c : Hid (Le W2 wc) := HL3.out.trans hcl
            have Hmc := Lib.hid (own_below Hms.out hcl)
            have z0 : wc.cell? ⟨xb, 0, none⟩ = some (I m) := by rw [cell_of_row _ _ _ _ _ _ hxw]; rfl
            have z1 : wc.cell? ⟨xb, 1, none⟩ = some (I lo) := by rw [cell_of_row _ _ _ _ _ _ hxw]; rfl
            have z2 : wc.cell? ⟨xb, 2, none⟩ = some (I hi) := by rw [cell_of_row _ _ _ _ _ _ hxw]; rfl
            have Htr2 := Lib.hid (trueS_app (y := ⟨m, lo, hi⟩) Htr.out m rfl hmi (by rw [Hcrm.out]; exact hlo) (by rw [Hcrm.out]; exact hhi))
            have HF := Lib.hid (flat_app ms ⟨m, lo, hi⟩)
            have hzc : W2.heap.size ≤ wc.heap.size := Below.size HL2c.out
            clear hxw hcl x0 x1 x2 x3 hlo hhi
            go_wp2_with (at_builtin; go_loud (refine wpList_append_own _ rfl _ _ 32 rfl W2.heap.size 75 i2 _ 3 24 Try.underlying32 hi2 iz2 is2 ib2 rfl (by decide) _ ms.length (flat 3 (rM ms) ms.length) rfl (Hmc.out.alloc _) ⟨wc.heap.size, 0, none⟩ 1 1 [I m, I lo, I hi] rfl (by rfl) (news_lit (cs := #[I m, I lo, I hi]) (heap_last _ _ _ rfl)) ?k1 ?k63 ?kby ?kba ?_))
            case k1 => simp [Value.oneCell']
            case k63 => have := Hm.out; omega
            case kby => omega
            case kba => first | omega | (simp; omega)
            all_goals
              intro v' wB own3 hg2 _
              have hB3' : Hid (Le W2 wB) := Below.grown (HL2c.out.alloc hzc _) hg2 (by simp; omega) (fun g hg => by
                rcases Hmc.out.2 with ⟨hq, _⟩ | ⟨q', cap, cur, hq, hqb, _⟩
                · rw [hq] at hg; cases hg
                · rw [hq] at hg; cases hg; exact hqb)
              have Own3 : Hid (wB.ownsRow W2.heap.size 75 3 v' (ms ++ [(⟨m, lo, hi⟩ : Smp)]).length (flat 3 (rM (ms ++ [⟨m, lo, hi⟩])) (ms ++ [(⟨m, lo, hi⟩ : Smp)]).length)) := by
                show World.ownsRow _ _ _ _ _ _ _
                rw [List.length_append, show [(⟨m, lo, hi⟩ : Smp)].length = 1 from rfl, HF.out]
                exact own3
              clear own3 hg2 Hmc
              go_wp2_with fail
              go_roundw
              case rel => exact ⟨q + 1, ms ++ [⟨m, lo, hi⟩], m, by omega, by go_num, rfl, by omega, hmi, by rw [List.length_append, Hlen.out]; rfl, Htr2.out, Own3.out, hB3'.out⟩
              case measure => simp [intOf]; omega
        · obtain ⟨B', d', rfl, hd', hrB⟩ := FR.of_own Hms.out
          go_wp2_with fail
          go_ret2
          exact ⟨D, cc, B', d', ms, rfl, HDF.out.below HL3.out, hrB.low ((HU.out W2 HL.out).size), by rw [hlen]; exact hq, hd', Htr.out, HU.out _ HL13.out⟩
end Go.Proofs.Ytlebefopdnadaaa
