/- The contract of seen of the statements' package: a valid run with the samples of a true course. -/
import Derived.Test.YtlebefopdnadaaaCs
import Derived.Test.YtlebefopdnadaaaRg
namespace Go.Proofs.Ytlebefopdnadaaa
open Go.RowKit
structure SeenOk (base : Nat) (w' : World) (p : Vec) (R R' : Run) (x : Cry) (A1 A2 A3 : Option Addr) (c2 : Nat) (D : Option Addr) (n : Nat) : Prop where
  ss : R'.ss = R.ss
  es : R'.es = R.es
  e : R'.e = R.e
  e1 : 1 ≤ R.e
  e2 : R.e ≤ 200
  s60 : R.ss.length ≤ 60
  es20 : R.es.length ≤ 20
  ms60 : R'.ms.length ≤ 60
  vp : okPuller p = true
  vr : okRun R' = true
  run : FRun base w' A1 A2 A3 R'
  cap : R'.ms.length ≤ c2
  tr : TrueS p x R'.e R'.ms
  n_ : n = R.e.toNat + 1
  crs : FR base w' 1 D n (rCr p x)
/-- What seen returns. -/
def RetSeen (w : World) (p : Vec) (R : Run) (x : Cry) (e : Ending) (w' : World) : Prop :=
  ∃ A1 A2 A3 c1 c2 c3 R' D n d ok, e = .returned (.tuple #[runV A1 A2 A3 c1 c2 c3 R', .slice D n d, .bool ok]) ∧ (ok = true → SeenOk w.heap.size w' p R R' x A1 A2 A3 c2 D n) ∧ Below w.heap.size w w'
theorem results_cell_tmp2 {P : Program} {fn : Func} {p t1 t2 : Tmp} {ty : TypeId} (h : fn.results = #[.cell p ty, .tmp t1, .tmp t2]) (tmps : Array Value) (w : World) (g : Nat) (t : TypeId) (cs : Array Value) (fr : Nat × Nat) (d : TypeDesc)
    (hp : tmps.getD p undef = .pointer (some ⟨g, 0, none⟩)) (hg : w.heap[g]? = some (.cells cs t fr))
    (hu : P.underlying ty = some d) (hd : (match d with | .struct _ | .array _ _ => true | _ => false) = true) (hi : (P.info? ty).map (·.size) = some cs.size) :
    (results fn tmps).run P w = .ok (.tuple #[.agg cs, tmps.getD t1 undef, tmps.getD t2 undef]) w := by
  have hp' : tmps[p]?.getD undef = .pointer (some ⟨g, 0, none⟩) := by simpa using hp
  simp [results, h, hp', asAddr, run_loadVar_row w g t ty cs fr d hg hu hd hi]
abbrev rnArr (A1 A2 A3 : Option Addr) (c1 c2 c3 : Nat) (R : Run) : Array Value := #[.slice A1 R.ss.length c1, I R.e, .slice A2 R.ms.length c2, .slice A3 R.es.length c3]
theorem rn_one (A1 A2 A3 : Option Addr) (c1 c2 c3 : Nat) (R : Run) : ∀ v ∈ (rnArr A1 A2 A3 c1 c2 c3 R).toList, v.oneCell' = true := by intro v hv; simp at hv; rcases hv with rfl | rfl | rfl | rfl <;> rfl
abbrev cryArr (A B C : Option Addr) (a b c : Nat) (x : Cry) : Array Value := #[.int .u16 x.f, .slice A x.st.length a, .slice B x.sn.length b, .slice C x.ar.length c]
/-- The blocks of a call that boxes a puller, a run and a crystal, and lays a fourth block. -/
structure SnW (w W : World) (p : Vec) (A B C : Option Addr) (a b c : Nat) (x : Cry) (rrow orow : Array Value) : Prop where
  le : Below w.heap.size w W
  sz : w.heap.size + 4 ≤ W.heap.size
  pu : W.heap[w.heap.size]? = some (.cells (ia 117 p) 30 (0, 0))
  rn : W.heap[w.heap.size + 1]? = some (.cells rrow 35 (0, 0))
  cr : W.heap[w.heap.size + 2]? = some (.cells (cryArr A B C a b c x) 85 (0, 0))
  ou : W.heap[w.heap.size + 3]? = some (.cells orow 35 (0, 0))
variable {w W W' : World} {p : Vec} {A B C : Option Addr} {a b c : Nat} {x : Cry} {rrow orow : Array Value}
theorem SnW.next (h : SnW w W p A B C a b c x rrow orow) (hl : Le W W') : SnW w W' p A B C a b c x rrow orow where
  le := h.le.trans (Below.mono hl (by have := h.sz; omega))
  sz := by have := hl.size; have := h.sz; omega
  pu := (hl.block _ (by have := h.sz; omega)).trans h.pu
  rn := (hl.block _ (by have := h.sz; omega)).trans h.rn
  cr := (hl.block _ (by have := h.sz; omega)).trans h.cr
  ou := (hl.block _ (by have := h.sz; omega)).trans h.ou
theorem SnW.setRun (h : SnW w W p A B C a b c x rrow orow) (row : Array Value) : SnW w (W.setRow (w.heap.size + 1) row) p A B C a b c x row orow where
  le := below_setRow h.le (by omega) _
  sz := by rw [setRow_size]; exact h.sz
  pu := by rw [setRow_other (by omega)]; exact h.pu
  rn := setRow_same h.rn
  cr := by rw [setRow_other (by omega)]; exact h.cr
  ou := by rw [setRow_other (by omega)]; exact h.ou
theorem SnW.setOut (h : SnW w W p A B C a b c x rrow orow) (row : Array Value) : SnW w (W.setRow (w.heap.size + 3) row) p A B C a b c x rrow row where
  le := below_setRow h.le (by omega) _
  sz := by rw [setRow_size]; exact h.sz
  pu := by rw [setRow_other (by omega)]; exact h.pu
  rn := by rw [setRow_other (by omega)]; exact h.rn
  cr := by rw [setRow_other (by omega)]; exact h.cr
  ou := setRow_same h.ou
theorem SnW.pcell (h : SnW w W p A B C a b c x rrow orow) {j : Nat} (hj : j < 117) : W.cell? ⟨w.heap.size, 0 + j, none⟩ = some (I (p j)) := by
  rw [Nat.zero_add, cell_of_row _ _ _ _ _ _ h.pu]; exact ia_get hj
theorem SnW.rcells {A1 A2 A3 : Option Addr} {c1 c2 c3 : Nat} {R : Run} (h : SnW w W p A B C a b c x (rnArr A1 A2 A3 c1 c2 c3 R) orow) :
    W.cell? ⟨w.heap.size + 1, 0, none⟩ = some (.slice A1 R.ss.length c1) ∧ W.cell? ⟨w.heap.size + 1, 1, none⟩ = some (I R.e) ∧ W.cell? ⟨w.heap.size + 1, 2, none⟩ = some (.slice A2 R.ms.length c2) ∧ W.cell? ⟨w.heap.size + 1, 3, none⟩ = some (.slice A3 R.es.length c3) :=
  ⟨by rw [cell_of_row _ _ _ _ _ _ h.rn]; rfl, by rw [cell_of_row _ _ _ _ _ _ h.rn]; rfl, by rw [cell_of_row _ _ _ _ _ _ h.rn]; rfl, by rw [cell_of_row _ _ _ _ _ _ h.rn]; rfl⟩
theorem SnW.ccells (h : SnW w W p A B C a b c x rrow orow) :
    W.cell? ⟨w.heap.size + 2, 0, none⟩ = some (.int .u16 x.f) ∧ W.cell? ⟨w.heap.size + 2, 1, none⟩ = some (.slice A x.st.length a) ∧ W.cell? ⟨w.heap.size + 2, 2, none⟩ = some (.slice B x.sn.length b) ∧ W.cell? ⟨w.heap.size + 2, 3, none⟩ = some (.slice C x.ar.length c) :=
  ⟨by rw [cell_of_row _ _ _ _ _ _ h.cr]; rfl, by rw [cell_of_row _ _ _ _ _ _ h.cr]; rfl, by rw [cell_of_row _ _ _ _ _ _ h.cr]; rfl, by rw [cell_of_row _ _ _ _ _ _ h.cr]; rfl⟩
abbrev run0 : Array Value := #[.slice none 0 0, I 0, .slice none 0 0, .slice none 0 0]
theorem er_zero {b : Bool} (h : er b = 0) : b = true := by cases b <;> simp [er] at h ⊢
theorem FR.chg {X : Nat → Option (Array Value)} {base : Nat} {w w' : World} {sz n : Nat} {A : Option Addr} {g : Nat → Nat → Value} (h : FR base w sz A n g) (hX : ∀ k, base ≤ k → X k = none) (hl : (Pr.Chg X).le w w') : FR base w' sz A n g := by
  refine ⟨fun h0 => ?_, h.at_⟩
  obtain ⟨b, o, hA, hlt, hc⟩ := h.rd h0
  obtain ⟨b2, o2, hA2, hB⟩ := h.at_ h0
  have hbb : b = b2 := by rw [hA] at hA2; injection hA2 with e; injection e
  subst hbb
  exact ⟨b, o, hA, Nat.lt_of_lt_of_le hlt hl.size, fun k hk j hj => Pr.Chg.cell hl (hX b hB) (hc k hk j hj)⟩
theorem FRun.chg {X : Nat → Option (Array Value)} {base : Nat} {w w' : World} {A1 A2 A3 : Option Addr} {R : Run} (h : FRun base w A1 A2 A3 R) (hX : ∀ k, base ≤ k → X k = none) (hl : (Pr.Chg X).le w w') : FRun base w' A1 A2 A3 R :=
  ⟨h.s.chg hX hl, h.m.chg hX hl, h.e.chg hX hl, h.ls, h.lm, h.le⟩
/-- A run whose lists lie from base on. -/
def OwnB (base : Nat) (R : Run) (u : Value) (w : World) : Prop := ∃ A1 A2 A3 c1 c2 c3, u = runV A1 A2 A3 c1 c2 c3 R ∧ FRun base w A1 A2 A3 R ∧ R.ms.length ≤ c2
theorem ownB_grow {X : Nat → Option (Array Value)} {base : Nat} {P : Program} {f : FuncId} {args : Array Value} {w : World} {R : Run} (hX : ∀ k, base ≤ k → X k = none) (hb : base ≤ w.heap.size) (h : Calls P f args w (RetOwnF w R)) :
    Calls P f args w fun e w' => ∃ u, e = .returned u ∧ (Pr.Chg X).le w w' ∧ Pr.Box (Pr.Chg X) (OwnB base R) u w' :=
  h.mono fun _ _ ⟨A1, A2, A3, c1, c2, c3, he, hr, hc, hl⟩ => ⟨_, he, Pr.Chg.of hl, fun _ h2 => ⟨A1, A2, A3, c1, c2, c3, rfl, (hr.low hb).chg hX h2, hc⟩⟩
theorem is_grow2 {X : Nat → Option (Array Value)} {P : Program} {f : FuncId} {args : Array Value} {w : World} {v : Value} (h : Calls P f args w fun e w' => e = .returned v ∧ Below w.heap.size w w') :
    Calls P f args w fun e w' => ∃ u, e = .returned u ∧ (Pr.Chg X).le w w' ∧ Pr.Box (Pr.Chg X) (fun u _ => u = v) u w' := h.mono fun _ _ ⟨he, hb⟩ => ⟨v, he, Pr.Chg.of hb, fun _ _ => rfl⟩
set_option maxRecDepth 100000 in
set_option maxHeartbeats 2000000 in
theorem seen_any (p : Vec) (A1 A2 A3 : Option Addr) (c1 c2 c3 : Nat) (R : Run) (A B C : Option Addr) (a b c : Nat) (x : Cry) (w : World)
    (h1 : Rd w w.heap.size 8 A1 R.ss.length (rS R.ss)) (h2 : Rd w w.heap.size 3 A2 R.ms.length (rM R.ms)) (h3 : Rd w w.heap.size 2 A3 R.es.length (rE R.es)) (hC : CryIn w A B C x) :
    Calls Try.prog 38 #[.agg (ia 117 p), runV A1 A2 A3 c1 c2 c3 R, cryV A B C a b c x] w (RetSeen w p R x) := by
  obtain ⟨W3, hW3⟩ : ∃ W3, W3 = (((w.alloc (.cells (ia 117 p) 30)).alloc (.cells (rnArr A1 A2 A3 c1 c2 c3 R) 35)).alloc (.cells (cryArr A B C a b c x) 85)).alloc (.cells run0 35) := ⟨_, rfl⟩
  have S3 : Hid (SnW w W3 p A B C a b c x (rnArr A1 A2 A3 c1 c2 c3 R) run0) := by
    show SnW _ _ _ _ _ _ _ _ _ _ _ _
    subst hW3
    refine ⟨((((Below.refl _ _).alloc (Nat.le_refl _) _).alloc (by simp) _).alloc (by simp; omega) _).alloc (by simp; omega) _, by simp, ?_, ?_, ?_, ?_⟩
    · exact heap_before (heap_before (heap_before (heap_last _ _ _ rfl)))
    · exact heap_before (heap_before (heap_last _ _ _ (by simp)))
    · exact heap_before (heap_last _ _ _ (by simp))
    · exact heap_last _ _ _ (by simp)
  have HW := Lib.hid hW3
  have HC := Lib.hid hC
  have HR : Hid (Rd w w.heap.size 8 A1 R.ss.length (rS R.ss) ∧ Rd w w.heap.size 3 A2 R.ms.length (rM R.ms) ∧ Rd w w.heap.size 2 A3 R.es.length (rE R.es)) := ⟨h1, h2, h3⟩
  clear hW3 hC h1 h2 h3
  by_cases good : R.ss.length ≤ 60 ∧ R.ms.length ≤ 100 ∧ R.es.length ≤ 20 ∧ x.sn.length ≤ 60 ∧ 1 ≤ R.e ∧ R.e ≤ 200
  · obtain ⟨g1, g2, g3, g4, g5, g6⟩ := good
    go_enter Try.func38, Try.ntmps38
    go_upto_region 1 with (fail)
    rw [← HW.out]
    obtain ⟨x0, x1, x2, x3⟩ := S3.out.rcells
    obtain ⟨_, _, z2, _⟩ := S3.out.ccells
    go_wp2_with fail
    clear x0 x1 x2 x3 z2
    obtain ⟨r1, r2, r3⟩ := HR.out
    have hle3 := S3.out.le
    refine (ownF_any A1 A2 A3 c1 c2 c3 R W3 ⟨(r1.below hle3).more hle3.size, (r2.below hle3).more hle3.size, (r3.below hle3).more hle3.size, by omega, by omega, by omega⟩).mono ?_
    rintro e W4 ⟨E1, E2, E3, e1, e2, e3, rfl, hF, hc, hb⟩
    have S4 := Lib.hid (S3.out.next hb)
    have hsz3 := S3.out.sz
    have F5 : Hid (FRun W3.heap.size (W4.setRow (w.heap.size + 1) (rnArr E1 E2 E3 e1 e2 e3 R)) E1 E2 E3 R) := hF.set (by omega) _
    clear hle3 hsz3 r1 r2 r3 hb hF
    go_upto_region 4 with (refine wpList_store_row rfl 35 _ _ rfl (w.heap.size + 1) rfl _ _ S4.out.rn (rnArr E1 E2 E3 e1 e2 e3 R) rfl (rn_one _ _ _ _ _ _ _) rfl (by kernel_rfl) ?_)
    have S5 := Lib.hid (S4.out.setRun (rnArr E1 E2 E3 e1 e2 e3 R))
    generalize W4.setRow (w.heap.size + 1) (rnArr E1 E2 E3 e1 e2 e3 R) = W5 at *
    clear S4
    go_wp2_with (refine wpList_load_ia rfl 30 _ rfl w.heap.size 0 rfl 117 p _ (fun j hj => S5.out.pcell hj) Try.underlying30 rfl (by kernel_rfl) ?_)
    refine (checkPuller_any p W5).mono ?_
    rintro e W6 ⟨rfl, hb6⟩
    have S6 := Lib.hid (S5.out.next hb6)
    have F6 := Lib.hid (F5.out.below hb6)
    clear hb6 S5 F5
    rcases hokp : okPuller p with _ | _
    case false =>
      obtain ⟨x0, x1, x2, x3⟩ := S6.out.rcells
      clear hokp
      go_wp2_with (refine wpList_store_row rfl 35 _ _ rfl (w.heap.size + 3) rfl _ _ S6.out.ou (rnArr E1 E2 E3 e1 e2 e3 R) rfl (rn_one _ _ _ _ _ _ _) rfl (by kernel_rfl) ?_)
      refine bodyPost_ret (results_cell_tmp2 rfl _ _ (w.heap.size + 3) 35 (rnArr E1 E2 E3 e1 e2 e3 R) (0, 0) _ rfl (setRow_same S6.out.ou) Try.underlying35 rfl (by kernel_rfl)) rfl ?_
      exact ⟨E1, E2, E3, e1, e2, e3, R, none, 0, 0, false, rfl, (fun h => by cases h), (S6.out.setOut _).le⟩
    have hvp := vPul_of hokp
    obtain ⟨sp1, sp2⟩ := hvp.grow
    obtain ⟨sp3, sp4⟩ := hvp.shrink
    have Hokp := Lib.hid hokp
    obtain ⟨x0, x1, x2, x3⟩ := S6.out.rcells
    obtain ⟨z0, z1, z2, z3⟩ := S6.out.ccells
    clear hokp
    go_wp2_with (refine wpList_load_ia rfl 30 _ rfl w.heap.size 0 rfl 117 p _ (fun j hj => S6.out.pcell hj) Try.underlying30 rfl (by kernel_rfl) ?_)
    refine (course_any A B C a b c x p R.e W6 (HC.out.below S6.out.le) hvp ⟨g5, g6⟩ g4).mono ?_
    rintro e W7 ⟨D, dc, M, md, ms, rfl, hD, hM, hml, hmd, htr, hb7⟩
    have S7 := Lib.hid (S6.out.next hb7)
    have hs6 := S6.out.sz
    have F7 := Lib.hid (F6.out.below hb7)
    have HD := Lib.hid hD
    have HM := Lib.hid hM
    have Hml := Lib.hid hml
    have Hmd := Lib.hid hmd
    have Htr := Lib.hid htr
    clear hvp x0 x1 x2 x3 z0 z1 z2 z3 hD hM hml hmd htr hb7 S6 F6
    obtain ⟨x0, x1, x2, x3⟩ := S7.out.rcells
    have hfz : W7.frozen? ⟨w.heap.size + 1, 2, none⟩ = false := by unfold World.frozen?; rw [S7.out.rn]; rfl
    go_upto_region 8 with (fail)
    rw [setCell_eq_setRow W7 (w.heap.size + 1) 2 (rnArr E1 E2 E3 e1 e2 e3 R) 35 (0, 0) _ S7.out.rn]
    have hrow : (rnArr E1 E2 E3 e1 e2 e3 R).setIfInBounds 2 (.slice M ms.length md) = rnArr E1 M E3 e1 md e3 ⟨R.ss, R.e, ms, R.es⟩ := rfl
    rw [hrow]
    have S8 := Lib.hid (S7.out.setRun (rnArr E1 M E3 e1 md e3 ⟨R.ss, R.e, ms, R.es⟩))
    have hsz3 := S3.out.sz
    have hb0 : w.heap.size + 4 ≤ W6.heap.size := hs6
    have hml := Hml.out
    have F8 : Hid (FRun (w.heap.size + 4) (W7.setRow (w.heap.size + 1) (rnArr E1 M E3 e1 md e3 ⟨R.ss, R.e, ms, R.es⟩)) E1 M E3 ⟨R.ss, R.e, ms, R.es⟩) :=
      ⟨(F7.out.s.low (show w.heap.size + 4 ≤ W3.heap.size by omega)).set (by omega) _, (HM.out.low hb0).set (by omega) _, (F7.out.e.low (show w.heap.size + 4 ≤ W3.heap.size by omega)).set (by omega) _, F7.out.ls, (by show ms.length ≤ 1000000; omega), F7.out.le⟩
    have D8 := Lib.hid ((HD.out.low hb0).set (show w.heap.size + 1 < w.heap.size + 4 by omega) (rnArr E1 M E3 e1 md e3 ⟨R.ss, R.e, ms, R.es⟩))
    generalize W7.setRow (w.heap.size + 1) (rnArr E1 M E3 e1 md e3 ⟨R.ss, R.e, ms, R.es⟩) = W8 at *
    clear hrow hsz3 hb0 hml S7 F7 HD HM x0 x1 x2 x3 hfz
    obtain ⟨R', hR'⟩ : ∃ R' : Run, R' = ⟨R.ss, R.e, ms, R.es⟩ := ⟨_, rfl⟩
    have HR' := Lib.hid hR'
    obtain ⟨x0, x1, x2, x3⟩ := S8.out.rcells
    simp only [] at x0 x1 x2 x3
    have n1 : Pr.outX (w.heap.size + 3) (rnArr E1 M E3 e1 md e3 ⟨R.ss, R.e, ms, R.es⟩) (w.heap.size + 1) = none := Pr.outX_ne (by omega)
    have n0 : Pr.outX (w.heap.size + 3) (rnArr E1 M E3 e1 md e3 ⟨R.ss, R.e, ms, R.es⟩) w.heap.size = none := Pr.outX_ne (by omega)
    have y0 := Pr.Chg.ovl_cell n1 x0
    have y1 := Pr.Chg.ovl_cell n1 x1
    have y2 := Pr.Chg.ovl_cell n1 x2
    have y3 := Pr.Chg.ovl_cell n1 x3
    have z0 := Pr.Chg.ovl_cell n0 (S8.out.pcell (j := 110) (by omega))
    have z1 := Pr.Chg.ovl_cell n0 (S8.out.pcell (j := 111) (by omega))
    clear n0 n1 hR' x0 x1 x2 x3
    rcases hokr : okRun R' with _ | _
    case false =>
      refine Pr.wp_region_pre (Pr.Chg (Pr.outX (w.heap.size + 3) (rnArr E1 M E3 e1 md e3 ⟨R.ss, R.e, ms, R.es⟩))) (fun j => if j = 3 then some (OwnB (w.heap.size + 4) R') else if j = 4 then some (fun u _ => u = I 2) else if j = 16 then some (Pr.RowAt (w.heap.size + 3) (rnArr E1 M E3 e1 md e3 ⟨R.ss, R.e, ms, R.es⟩) 35) else none) (Pr.Chg.of (Below.refl _ _).drew) (by kernel_rfl) (by kernel_rfl) (by kernel_rfl) ?_
      repeat (first | (refine Pr.wpG_one rfl rfl rfl ?_; intro K hK; go_big_quiet_op; go_big_quiet_on) | (refine Pr.wpG_skip rfl ?_; simp only [Act.put, List.setIfInBounds_toArray, List.set_cons_zero, List.set_cons_succ]))
      refine Pr.wpG_make (OwnB (w.heap.size + 4) R') rfl rfl (fun w' hw' _ => ?_) (fun u hu => ?_)
      · unfold Pr.grows
        go_simp
        refine ⟨rfl, ownB_grow (fun k hk => Pr.outX_ne (by omega)) (Nat.le_trans S8.out.sz hw'.le.size) ?_⟩
        rw [HR'.out]
        exact ownF_any E1 M E3 e1 md e3 ⟨R.ss, R.e, ms, R.es⟩ w' (F8.out.chg (fun k hk => Pr.outX_ne (by omega)) hw'.le).run
      obtain ⟨_, _, G1, G2, G3, k1, k2, k3, rfl, _, _⟩ := hu
      simp only [Act.put, List.setIfInBounds_toArray, List.set_cons_zero, List.set_cons_succ]
      refine Pr.wpG_make (fun u _ => u = I 2) rfl rfl (fun w' hw' hk => ?_) (fun u hu => ?_)
      · have hk3 := hk ⟨3, .data⟩ (by simp) rfl _ _ _ rfl rfl rfl (by simp) rfl
        obtain ⟨q1, q2, q3, f1, f2, f3, he, hr, hc⟩ := hk3.now
        unfold Pr.grows
        go_simp
        refine ⟨rfl, is_grow2 ?_⟩
        have := checkRun_any q1 q2 q3 f1 f2 f3 R' w' hr.run
        try rw [hokr] at this
        exact this
      obtain ⟨_, _, rfl⟩ := hu
      simp only [Act.put, List.setIfInBounds_toArray, List.set_cons_zero, List.set_cons_succ]
      repeat (first | (refine Pr.wpG_one rfl rfl rfl ?_; intro K hK; go_big_quiet_op; go_big_quiet_on) | (refine Pr.wpG_skip rfl ?_; simp only [Act.put, List.setIfInBounds_toArray, List.set_cons_zero, List.set_cons_succ]))
      refine Pr.wpG_make (Pr.RowAt (w.heap.size + 3) (rnArr E1 M E3 e1 md e3 ⟨R.ss, R.e, ms, R.es⟩) 35) rfl rfl (fun w' hw' _ => ?_) (fun u hu => ?_)
      · obtain ⟨cs', hs', hcs⟩ := hw'.le.shape _ _ _ _ S8.out.ou
        exact Pr.store_grow 35 _ _ rfl (w.heap.size + 3) rfl cs' 35 hcs (rnArr E1 M E3 e1 md e3 ⟨R.ss, R.e, ms, R.es⟩) rfl (rn_one _ _ _ _ _ _ _) hs'.symm (by kernel_rfl) Pr.outX_at
      clear hu
      simp only [Act.put]
      repeat (first | (refine Pr.wpG_one rfl rfl rfl ?_; intro K hK; go_big_quiet_op; go_big_quiet_on) | (refine Pr.wpG_skip rfl ?_; simp only [Act.put, List.setIfInBounds_toArray, List.set_cons_zero, List.set_cons_succ]))
      refine Pr.wpG_nil (fun w5 hw5 hG => ?_)
      obtain ⟨_, hG5⟩ := hG
      have hrow := hG5.now
      have hbe := Lib.hid (hw5.le.below S8.out.le (Nat.le_trans (by omega) S8.out.sz) (fun k hk => Pr.outX_ne (by omega)))
      have F9 := Lib.hid (F8.out.chg (fun k hk => Pr.outX_ne (by omega)) hw5.le)
      have D9 := Lib.hid (D8.out.chg (fun k hk => Pr.outX_ne (by omega)) hw5.le)
      clear hG5
      go_wp2_with fail
      refine bodyPost_ret (results_cell_tmp2 rfl _ _ (w.heap.size + 3) 35 (rnArr E1 M E3 e1 md e3 ⟨R.ss, R.e, ms, R.es⟩) (0, 0) _ rfl hrow Try.underlying35 rfl (by kernel_rfl)) rfl ?_
      exact ⟨E1, M, E3, e1, md, e3, ⟨R.ss, R.e, ms, R.es⟩, D, _, dc, false, rfl, (fun h => by cases h), hbe.out⟩
    case true =>
      refine Pr.wp_region_pre (Pr.Chg (Pr.outX (w.heap.size + 3) (rnArr E1 M E3 e1 md e3 ⟨R.ss, R.e, ms, R.es⟩))) (fun j => if j = 3 then some (OwnB (w.heap.size + 4) R') else if j = 4 then some (fun u _ => u = I 0) else if j = 16 then some (Pr.RowAt (w.heap.size + 3) (rnArr E1 M E3 e1 md e3 ⟨R.ss, R.e, ms, R.es⟩) 35) else none) (Pr.Chg.of (Below.refl _ _).drew) (by kernel_rfl) (by kernel_rfl) (by kernel_rfl) ?_
      repeat (first | (refine Pr.wpG_one rfl rfl rfl ?_; intro K hK; go_big_quiet_op; go_big_quiet_on) | (refine Pr.wpG_skip rfl ?_; simp only [Act.put, List.setIfInBounds_toArray, List.set_cons_zero, List.set_cons_succ]))
      refine Pr.wpG_make (OwnB (w.heap.size + 4) R') rfl rfl (fun w' hw' _ => ?_) (fun u hu => ?_)
      · unfold Pr.grows
        go_simp
        refine ⟨rfl, ownB_grow (fun k hk => Pr.outX_ne (by omega)) (Nat.le_trans S8.out.sz hw'.le.size) ?_⟩
        rw [HR'.out]
        exact ownF_any E1 M E3 e1 md e3 ⟨R.ss, R.e, ms, R.es⟩ w' (F8.out.chg (fun k hk => Pr.outX_ne (by omega)) hw'.le).run
      obtain ⟨_, _, G1, G2, G3, k1, k2, k3, rfl, _, _⟩ := hu
      simp only [Act.put, List.setIfInBounds_toArray, List.set_cons_zero, List.set_cons_succ]
      refine Pr.wpG_make (fun u _ => u = I 0) rfl rfl (fun w' hw' hk => ?_) (fun u hu => ?_)
      · have hk3 := hk ⟨3, .data⟩ (by simp) rfl _ _ _ rfl rfl rfl (by simp) rfl
        obtain ⟨q1, q2, q3, f1, f2, f3, he, hr, hc⟩ := hk3.now
        unfold Pr.grows
        go_simp
        refine ⟨rfl, is_grow2 ?_⟩
        have := checkRun_any q1 q2 q3 f1 f2 f3 R' w' hr.run
        try rw [hokr] at this
        exact this
      obtain ⟨_, _, rfl⟩ := hu
      simp only [Act.put, List.setIfInBounds_toArray, List.set_cons_zero, List.set_cons_succ]
      repeat (first | (refine Pr.wpG_one rfl rfl rfl ?_; intro K hK; go_big_quiet_op; go_big_quiet_on) | (refine Pr.wpG_skip rfl ?_; simp only [Act.put, List.setIfInBounds_toArray, List.set_cons_zero, List.set_cons_succ]))
      refine Pr.wpG_make (Pr.RowAt (w.heap.size + 3) (rnArr E1 M E3 e1 md e3 ⟨R.ss, R.e, ms, R.es⟩) 35) rfl rfl (fun w' hw' _ => ?_) (fun u hu => ?_)
      · obtain ⟨cs', hs', hcs⟩ := hw'.le.shape _ _ _ _ S8.out.ou
        exact Pr.store_grow 35 _ _ rfl (w.heap.size + 3) rfl cs' 35 hcs (rnArr E1 M E3 e1 md e3 ⟨R.ss, R.e, ms, R.es⟩) rfl (rn_one _ _ _ _ _ _ _) hs'.symm (by kernel_rfl) Pr.outX_at
      clear hu
      simp only [Act.put]
      repeat (first | (refine Pr.wpG_one rfl rfl rfl ?_; intro K hK; go_big_quiet_op; go_big_quiet_on) | (refine Pr.wpG_skip rfl ?_; simp only [Act.put, List.setIfInBounds_toArray, List.set_cons_zero, List.set_cons_succ]))
      refine Pr.wpG_nil (fun w5 hw5 hG => ?_)
      obtain ⟨_, hG5⟩ := hG
      have hrow := hG5.now
      have hbe := Lib.hid (hw5.le.below S8.out.le (Nat.le_trans (by omega) S8.out.sz) (fun k hk => Pr.outX_ne (by omega)))
      have F9 := Lib.hid (F8.out.chg (fun k hk => Pr.outX_ne (by omega)) hw5.le)
      have D9 := Lib.hid (D8.out.chg (fun k hk => Pr.outX_ne (by omega)) hw5.le)
      clear hG5
      go_wp2_with fail
      refine bodyPost_ret (results_cell_tmp2 rfl _ _ (w.heap.size + 3) 35 (rnArr E1 M E3 e1 md e3 ⟨R.ss, R.e, ms, R.es⟩) (0, 0) _ rfl hrow Try.underlying35 rfl (by kernel_rfl)) rfl ?_
      exact ⟨E1, M, E3, e1, md, e3, ⟨R.ss, R.e, ms, R.es⟩, D, _, dc, true, rfl, fun _ => ⟨rfl, rfl, rfl, g5, g6, g1, g3, Nat.le_trans Hml.out g4, Hokp.out, by rw [← HR'.out]; exact hokr, F9.out.low (by omega), Hmd.out, Htr.out, rfl, D9.out.low (by omega)⟩, hbe.out⟩
  · have HB : Hid (∀ P : Prop, (60 < R.ss.length → P) → (R.ss.length ≤ 60 → 100 < R.ms.length → P) → (R.ss.length ≤ 60 → R.ms.length ≤ 100 → 20 < R.es.length → P) → (R.ss.length ≤ 60 → R.ms.length ≤ 100 → R.es.length ≤ 20 → 60 < x.sn.length → P) → (R.ss.length ≤ 60 → R.ms.length ≤ 100 → R.es.length ≤ 20 → x.sn.length ≤ 60 → R.e < 1 → P) → (R.ss.length ≤ 60 → R.ms.length ≤ 100 → R.es.length ≤ 20 → x.sn.length ≤ 60 → 1 ≤ R.e → 200 < R.e → P) → P) := fun P a1 a2 a3 a4 a5 a6 => by
      by_cases q1 : R.ss.length ≤ 60
      · by_cases q2 : R.ms.length ≤ 100
        · by_cases q3 : R.es.length ≤ 20
          · by_cases q4 : x.sn.length ≤ 60
            · by_cases q5 : 1 ≤ R.e
              · exact a6 q1 q2 q3 q4 q5 (by omega)
              · exact a5 q1 q2 q3 q4 (by omega)
            · exact a4 q1 q2 q3 (by omega)
          · exact a3 q1 q2 (by omega)
        · exact a2 q1 (by omega)
      · exact a1 (by omega)
    clear good HC HR
    refine HB.out _ (fun q1 => ?_) (fun q1 q2 => ?_) (fun q1 q2 q3 => ?_) (fun q1 q2 q3 q4 => ?_) (fun q1 q2 q3 q4 q5 => ?_) (fun q1 q2 q3 q4 q5 q6 => ?_)
    all_goals
      clear HB
      go_enter Try.func38, Try.ntmps38
      go_upto_region 1 with (fail)
      rw [← HW.out]
      obtain ⟨x0, x1, x2, x3⟩ := S3.out.rcells
      obtain ⟨_, _, z2, _⟩ := S3.out.ccells
      go_wp2_with (refine wpList_store_row rfl 35 _ _ rfl (w.heap.size + 3) rfl _ _ S3.out.ou (rnArr A1 A2 A3 c1 c2 c3 R) rfl (rn_one _ _ _ _ _ _ _) rfl (by kernel_rfl) ?_)
      refine bodyPost_ret (results_cell_tmp2 rfl _ _ (w.heap.size + 3) 35 (rnArr A1 A2 A3 c1 c2 c3 R) (0, 0) _ rfl (setRow_same S3.out.ou) Try.underlying35 rfl (by kernel_rfl)) rfl ?_
      exact ⟨A1, A2, A3, c1, c2, c3, R, none, 0, 0, false, rfl, (fun h => by cases h), (S3.out.setOut _).le⟩
end Go.Proofs.Ytlebefopdnadaaa
