/- The law PullNothingBehind holds of every puller, run and crystal: the walk of the statement's function. -/
import Derived.Test.YtlebefopdnadaaaNb
import Derived.Test.YtlebefopdnadaaaSoc
import Derived.Test.YtlebefopdnadaaaLk
namespace Go.Proofs.Ytlebefopdnadaaa
open Go.RowKit
abbrev tghArr (A B C : Option Addr) (a b c : Nat) (x : Cry) (m : Int) : Array Value := #[.int .u16 x.f, .slice A x.st.length a, .slice B x.sn.length b, .slice C x.ar.length c, .int .u16 m]
theorem evt_info2 : (Try.prog.info? 77).map (fun i => (i.zero, i.size, i.bytes)) = some (some (.agg #[I 0, I 0]), 2, 16) := by kernel_rfl
theorem flat_evt (l : List Evt) (y : Evt) : flat 2 (rE (l ++ [y])) (l.length + 1) = flat 2 (rE l) l.length ++ [I y.t, I y.kd] := by
  rw [flat_succ 2 (by decide), flat_congr (g' := rE l) (fun k hk j _ => by unfold rE; rw [at0_app l [y] hk])]
  have h : at0 (l ++ [y]) l.length = y := by unfold at0; simp
  congr 1
  show [rE (l ++ [y]) l.length 0, rE (l ++ [y]) l.length 1] = _
  unfold rE
  rw [h]
  rfl
theorem endF_bd2 {p : Vec} {R : Run} (hv : VRun R) (hp : VPul p) : 0 ≤ endF p R ∧ endF p R ≤ R.e := by
  unfold endF
  split
  · have := hv.tlt 0 hv.n1; rw [hv.first] at this; omega
  · rename_i h; exact stopF_on hv hp h
theorem wp_store_one {P : Program} {o : Oper} {a : Act} {w : World} {K : Act → World → Prop} {Q : Exit → Act → World → Prop} (ty : TypeId) (x y : Operand) (ho : o.op = .store ty x y)
    (g i : Nat) (hx : a.eval x = .pointer (some ⟨g, i, none⟩)) (cs : Array Value) (t : TypeId) (hg : w.heap[g]? = some (.cells cs t (0, 0))) (v : Value) (hy : a.eval y = v) (hv : v.cells = #[v]) (h1 : v.oneCell' = true) (hs : i + 1 ≤ cs.size) (hi : (P.info? ty).map (·.size) = some 1)
    (cs' : Array Value) (hcs : (cs.toList.take i ++ [v] ++ cs.toList.drop (i + 1)).toArray = cs') (h : K (a.put o.dst undef) (w.setRow g cs')) : o.wp P a w K Q := by
  subst hcs
  have hst := run_storeCells_at P g i t [v] 0 cs w hg (by simpa using hs) (by intro u hu; rw [List.mem_singleton.1 hu]; exact h1)
  simp only [Nat.add_zero] at hst
  have hrun : (storeVar ty ⟨g, i, none⟩ v).run P w = .ok () (w.setRow g (cs.toList.take i ++ [v] ++ cs.toList.drop (i + 1)).toArray) := by
    cases hq : P.info? ty with
    | none => simp [hq] at hi
    | some q =>
      have hs' : q.size = 1 := by simpa [hq] using hi
      simp [storeVar, Sem.run_bind, sizeOf, typeInfo, hq, hs', hv, hst]
  unfold Oper.wp execOp
  simp only [ho, hx, hy, Instr.storeAt, Instr.sureAddr, Sem.run_bind, Sem.run_pure, Result.andThen_ok, hrun]
  exact h
abbrev rnLs (B1 B2 : Option Addr) (d1 d2 : Nat) (R : Run) (v : Value) : Array Value := #[.slice B1 R.ss.length d1, I R.e, .slice B2 R.ms.length d2, v]
/-- The run under way: its block lb, its events l at v. -/
structure LsOk (lb : Nat) (B1 B2 : Option Addr) (d1 d2 : Nat) (R : Run) (l : List Evt) (v : Value) (w : World) : Prop where
  row : w.heap[lb]? = some (.cells (rnLs B1 B2 d1 d2 R v) 35 (0, 0))
  so : SoC 77 2 (lb + 1) l.length (flat 2 (rE l) l.length) v w
  lt : lb + 1 ≤ w.heap.size
theorem LsOk.cells {lb : Nat} {B1 B2 : Option Addr} {d1 d2 : Nat} {R : Run} {l : List Evt} {v : Value} {w : World} (h : LsOk lb B1 B2 d1 d2 R l v w) :
    w.cell? ⟨lb, 0, none⟩ = some (.slice B1 R.ss.length d1) ∧ w.cell? ⟨lb, 1, none⟩ = some (I R.e) ∧ w.cell? ⟨lb, 2, none⟩ = some (.slice B2 R.ms.length d2) ∧ w.cell? ⟨lb, 3, none⟩ = some v :=
  ⟨by rw [cell_of_row _ _ _ _ _ _ h.row]; rfl, by rw [cell_of_row _ _ _ _ _ _ h.row]; rfl, by rw [cell_of_row _ _ _ _ _ _ h.row]; rfl, by rw [cell_of_row _ _ _ _ _ _ h.row]; rfl⟩
theorem soC_evt {e : TypeId} {B : Nat} {l : List Evt} {y : Evt} {v : Value} {w : World} (h : SoC e 2 B (l.length + 1) (flat 2 (rE l) l.length ++ [I y.t, I y.kd]) v w) : SoC e 2 B (l ++ [y]).length (flat 2 (rE (l ++ [y])) (l ++ [y]).length) v w := by
  rw [List.length_append, show [y].length = 1 from rfl, flat_evt]; exact h
theorem insK_len (es : List Evt) (t : Int) : ∀ k, (insK es t k).1.length ≤ 2 * k
  | 0 => by simp [insK]
  | k + 1 => by
    have := insK_len es t k
    rw [insK]
    split
    · simp only [List.length_append, List.length_singleton]; omega
    · simp only [List.length_append, List.length_singleton]; omega
theorem LsOk.next {lb : Nat} {B1 B2 : Option Addr} {d1 d2 : Nat} {R : Run} {l : List Evt} {v : Value} {w w' : World} (h : LsOk lb B1 B2 d1 d2 R l v w) (hb : Le w w') : LsOk lb B1 B2 d1 d2 R l v w' :=
  ⟨(Below.block hb _ (by have := h.lt; omega)).trans h.row, h.so.over hb, Nat.le_trans h.lt (Below.size hb)⟩
/-- A longer list is laid where the shorter one was told. -/
theorem LsOk.put {lb : Nat} {B1 B2 : Option Addr} {d1 d2 : Nat} {R : Run} {l l' : List Evt} {v v' : Value} {w w' : World} (h : LsOk lb B1 B2 d1 d2 R l v w) (hb : Below (lb + 1) w w') (hso : SoC 77 2 (lb + 1) l'.length (flat 2 (rE l') l'.length) v' w') :
    LsOk lb B1 B2 d1 d2 R l' v' (w'.setRow lb (rnLs B1 B2 d1 d2 R v')) :=
  ⟨setRow_same ((Below.block hb _ (by omega)).trans h.row), hso.set (by omega) _, by rw [setRow_size]; exact Nat.le_trans h.lt (Below.size hb)⟩
set_option maxRecDepth 100000 in
set_option maxHeartbeats 4000000 in
theorem pullNothingBehind_any (p : Vec) (A1 A2 A3 : Option Addr) (c1 c2 c3 : Nat) (R : Run) (A B C : Option Addr) (a b c : Nat) (x : Cry) (m : Int) (hm : 0 ≤ m ∧ m ≤ 65535) (w : World)
    (h1 : Rd w w.heap.size 8 A1 R.ss.length (rS R.ss)) (h2 : Rd w w.heap.size 3 A2 R.ms.length (rM R.ms)) (h3 : Rd w w.heap.size 2 A3 R.es.length (rE R.es)) (hC : CryIn w A B C x) :
    Calls Try.prog 10 #[.agg (ia 117 p), runV A1 A2 A3 c1 c2 c3 R, .agg (tghArr A B C a b c x m)] w fun e w' => e = .returned (.bool true) ∧ Below w.heap.size w w' := by
  obtain ⟨W0, hW0⟩ : ∃ W0, W0 = ((w.alloc (.cells (ia 117 p) 30)).alloc (.cells (rnArr A1 A2 A3 c1 c2 c3 R) 35)).alloc (.cells (tghArr A B C a b c x m) 93) := ⟨_, rfl⟩
  have T0 : Hid (TriW w W0 p (rnArr A1 A2 A3 c1 c2 c3 R) (tghArr A B C a b c x m) 93) := by rw [hW0]; exact tri_mk _ _ _ _ _
  have HW := Lib.hid hW0
  have HC := Lib.hid hC
  have HR : Hid (Rd w w.heap.size 8 A1 R.ss.length (rS R.ss) ∧ Rd w w.heap.size 3 A2 R.ms.length (rM R.ms) ∧ Rd w w.heap.size 2 A3 R.es.length (rE R.es)) := ⟨h1, h2, h3⟩
  clear hW0 hC h1 h2 h3
  go_enter Try.func10, Try.ntmps10
  go_upto_region 1 with (fail)
  rw [← HW.out]
  obtain ⟨x0, x1, x2, x3⟩ := T0.out.rcells
  have z0 := T0.out.ccell (j := 0) rfl
  have z1 := T0.out.ccell (j := 1) rfl
  have z2 := T0.out.ccell (j := 2) rfl
  have z3 := T0.out.ccell (j := 3) rfl
  go_wp2_with (refine wpList_load_ia rfl 30 _ rfl w.heap.size 0 rfl 117 p _ (fun j hj => T0.out.pcell hj) Try.underlying30 rfl (by kernel_rfl) ?_)
  clear x0 x1 x2 x3 z0 z1 z2 z3
  obtain ⟨r1, r2, r3⟩ := HR.out
  have hle0 := T0.out.le
  refine (seen_any p A1 A2 A3 c1 c2 c3 R A B C a b c x W0 ((r1.below hle0).more hle0.size) ((r2.below hle0).more hle0.size) ((r3.below hle0).more hle0.size) (HC.out.below hle0)).mono ?_
  rintro e W1 ⟨E1, E2, E3, e1, e2, e3, R', D, n, d, ok, rfl, hok, hb1⟩
  have T1 := Lib.hid (T0.out.next hb1)
  have Hok := Lib.hid hok
  clear hle0 r1 r2 r3 hok hb1
  go_upto_region 2 with (refine wpList_store_row rfl 35 _ _ rfl (w.heap.size + 1) rfl _ _ T1.out.rn (rnArr E1 E2 E3 e1 e2 e3 R') rfl (rn_one _ _ _ _ _ _ _) rfl (by kernel_rfl) ?_)
  have T2 := Lib.hid (T1.out.setRun (rnArr E1 E2 E3 e1 e2 e3 R'))
  have hsz0 := T0.out.sz
  have Hok2 : Hid (ok = true → SeenOk W0.heap.size W1 p R R' x E1 E2 E3 e2 D n ∧ FRun W0.heap.size (W1.setRow (w.heap.size + 1) (rnArr E1 E2 E3 e1 e2 e3 R')) E1 E2 E3 R' ∧ FR W0.heap.size (W1.setRow (w.heap.size + 1) (rnArr E1 E2 E3 e1 e2 e3 R')) 1 D n (rCr p x)) := fun h =>
    ⟨Hok.out h, (Hok.out h).run.set (by omega) _, (Hok.out h).crs.set (by omega) _⟩
  generalize W1.setRow (w.heap.size + 1) (rnArr E1 E2 E3 e1 e2 e3 R') = W2 at *
  clear hsz0 Hok
  have HU : Hid (∀ W, Le W2 W → Below w.heap.size w W) := fun W hW => (T2.out.next hW).le
  have HP : Hid (∀ W, Le W2 W → ∀ j, j < 117 → W.cell? ⟨w.heap.size, 0 + j, none⟩ = some (I (p j))) := fun W hW j hj => (T2.out.next hW).pcell hj
  have HX : Hid (∀ W, Le W2 W → W.cell? ⟨w.heap.size + 1, 0, none⟩ = some (.slice E1 R'.ss.length e1) ∧ W.cell? ⟨w.heap.size + 1, 1, none⟩ = some (I R'.e) ∧ W.cell? ⟨w.heap.size + 1, 2, none⟩ = some (.slice E2 R'.ms.length e2) ∧ W.cell? ⟨w.heap.size + 1, 3, none⟩ = some (.slice E3 R'.es.length e3)) := fun W hW => (T2.out.next hW).rcells
  have L2 : Hid (Le W2 W2) := Le.refl _
  have HM : Hid (∀ W, Le W2 W → W.cell? ⟨w.heap.size + 2, 4, none⟩ = some (.int .u16 m)) := fun W hW => (T2.out.next hW).ccell (j := 4) rfl
  have Hm := Lib.hid hm
  clear hm
  rcases ok with _ | _
  case false =>
    clear Hok2
    go_wp2_with fail
    refine (known_any W2).mono ?_
    rintro e WK ⟨rfl, hb⟩
    have LK : Hid (Below w.heap.size w WK) := HU.out _ ((L2.out).trans hb)
    clear hb
    go_wp2_with fail
    go_ret
    exact ⟨rfl, LK.out⟩
  obtain ⟨ho, hF, hD⟩ := Hok2.out rfl
  have HI : Hid (∀ W, Le W2 W → RunIn W E1 E2 E3 R') := fun W hW => (hF.below hW).run
  have HDD : Hid (∀ W, Le W2 W → Rd W W.heap.size 1 D n (rCr p x)) := fun W hW => (hD.below hW).rd
  have Ho := Lib.hid ho
  have Hvr := Lib.hid ((vRun_iff R').1 ho.vr)
  have Hvp := Lib.hid (vPul_of ho.vp)
  have Htc := Lib.hid (trueC_of Hvp.out HC.out.f ho.tr)
  have Hcf := Lib.hid (conf_true Htc.out Hvr.out)
  obtain ⟨N, hN⟩ : ∃ N : Nat, R'.e = N := ⟨R'.e.toNat, by have := ho.e; have := ho.e1; omega⟩
  have HN := Lib.hid hN
  have hN1 : 1 ≤ N ∧ N ≤ 200 := by have := ho.e; have := ho.e1; have := ho.e2; omega
  have Hn : Hid (n = N + 1) := by show _ = _; rw [ho.n_, ← ho.e, hN]; rfl
  have HNt : Hid (R'.e.toNat = N) := by show _ = _; rw [hN]; rfl
  have Hvk : Hid (okPuller p = true ∧ okRun R' = true) := ⟨ho.vp, ho.vr⟩
  clear ho hF hD hN
  obtain ⟨k0, k1, k2, k3⟩ := HX.out W2 L2.out
  by_cases h19 : 19 < R'.es.length
  · have d19 : decide (19 < (R'.es.length : Int)) = true := decide_eq_true (by omega)
    clear h19
    go_wp2_with fail
    clear k0 k1 k2 k3
    refine (known_any W2).mono ?_
    rintro e WK ⟨rfl, hb⟩
    have LK : Hid (Below w.heap.size w WK) := HU.out _ ((L2.out).trans hb)
    clear hb
    go_wp2_with fail
    go_ret
    exact ⟨rfl, LK.out⟩
  have d19 : decide (19 < (R'.es.length : Int)) = false := decide_eq_false (by omega)
  have H19 : Hid (R'.es.length < 20) := by show _ < _; omega
  have Hch : Hid (chE p R' = 0) := chE_ok Hvk.out.1 Hvk.out.2 Hcf.out
  have HE0 : Hid (0 ≤ R'.e ∧ R'.e ≤ 200) := by show _ ∧ _; rw [HN.out]; omega
  obtain ⟨ls, hls⟩ : ∃ ls, soldL p R' = ls := ⟨_, rfl⟩
  have Hls := Lib.hid hls
  obtain ⟨⟨s1, s2⟩, hst⟩ : ∃ q, stopF p R' = q := ⟨_, rfl⟩
  have Hst := Lib.hid hst
  have HSb : Hid (-1 ≤ s1 ∧ s1 ≤ R'.e ∧ (s2 = 0 ↔ s1 < 0)) := by
    have h1 := stopF_bd Hvr.out Hvp.out
    have h2 := stopF_kind Hvr.out Hvp.out.hold.1
    have h3 := stopF_on Hvr.out Hvp.out
    rw [hst] at h1 h2 h3
    simp only at h1 h2 h3
    refine ⟨h1.1, ?_, h2⟩
    rcases Int.lt_or_le s1 0 with h | h
    · have := HE0.out; omega
    · exact (h3 (by omega)).2
  have CS : Hid (∀ W Q1 Q2 Q3 q1 q2 q3, RunIn W Q1 Q2 Q3 R' → R'.ms.length ≤ q2 → Calls Try.prog 34 #[.agg (ia 117 p), runV Q1 Q2 Q3 q1 q2 q3 R'] W (RetL W ls 0)) := fun W Q1 Q2 Q3 q1 q2 q3 hr hc => by
    have := soldX_any Q1 Q2 Q3 q1 q2 q3 p R' W hr hc
    rw [Hls.out, Hch.out] at this; exact this
  have CT : Hid (∀ W Q1 Q2 Q3 q1 q2 q3, RunIn W Q1 Q2 Q3 R' → Calls Try.prog 23 #[.agg (ia 117 p), runV Q1 Q2 Q3 q1 q2 q3 R'] W fun e w' => e = .returned (.tuple #[I s1, I s2, I 0]) ∧ Below W.heap.size W w') := fun W Q1 Q2 Q3 q1 q2 q3 hr => by
    have := stopX_any Q1 Q2 Q3 q1 q2 q3 p R' W hr
    unfold stopS at this
    rw [Hvk.out.1, Hvk.out.2, if_pos (show (true && true) = true from rfl), Hst.out] at this
    exact this
  have HG : Hid (∀ b, 0 ≤ b → b ≤ R'.e → ∀ W Q1 Q2 Q3 q1 q2 q3, RunIn W Q1 Q2 Q3 R' → Calls Try.prog 19 #[runV Q1 Q2 Q3 q1 q2 q3 R', I 0, I b] W fun e w' => e = .returned (.tuple #[I (placeR R' b), I 0]) ∧ Below W.heap.size W w') := fun b h0 h1 W Q1 Q2 Q3 q1 q2 q3 hr => by
    have := grown_any Q1 Q2 Q3 q1 q2 q3 R' 0 b W hr
    have he : grownE R' 0 b = 0 := by unfold grownE; rw [Hvk.out.2, if_pos rfl, if_neg (by omega)]
    have hn : grownN R' 0 b = placeR R' b := by unfold grownN; rw [if_pos he, placeR_zero Hvr.out]; omega
    rw [he, hn] at this
    exact this
  have HPb : Hid (∀ b, 0 ≤ b → b ≤ R'.e → 0 ≤ placeR R' b ∧ placeR R' b ≤ 200000000) := fun b h0 h1 => by
    have := placeR_bd Hvr.out h0
    have := HE0.out
    omega
  clear hls hst
  have v0 := ovr_cell k0
  have v1 := ovr_cell k1
  have v2 := ovr_cell k2
  have v3 := ovr_cell k3
  go_wp2_with fail
  clear k0 k1 k2 k3
  refine wp_region_make (fun j => if j = 0 then some (fun u _ => u = .agg (ia 117 p)) else if j = 2 then some (OwnF R') else if j = 3 then some (SlT ls 0) else none) (by kernel_rfl) (by kernel_rfl) (by kernel_rfl) ?_
  refine wpG_make (fun u _ => u = .agg (ia 117 p)) rfl rfl (fun w' hw' _ => ?_) (fun u hu => ?_)
  · exact load_grow rfl rfl (HP.out w' ((L2.out).trans hw'.le))
  obtain ⟨_, _, rfl⟩ := hu
  simp only [Act.put, List.setIfInBounds_toArray, List.set_cons_zero, List.set_cons_succ]
  repeat (refine wpG_one rfl rfl rfl ?_; intro K hK; go_big_quiet_op; go_big_quiet_on)
  refine wpG_make (OwnF R') rfl rfl (fun w' hw' _ => ?_) (fun u hu => ?_)
  · go_simp
    exact own_grow (own_any _ _ _ _ _ _ R' w' (HI.out _ ((L2.out).trans hw'.le)))
  obtain ⟨_, _, B1, B2, B3, B4, B5, B6, rfl, _, _⟩ := hu
  simp only [Act.put, List.setIfInBounds_toArray, List.set_cons_zero, List.set_cons_succ]
  repeat (refine wpG_one rfl rfl rfl ?_; intro K hK; go_big_quiet_op; go_big_quiet_on)
  refine wpG_make (SlT ls 0) rfl rfl (fun w' hw' hk => ?_) (fun u hu => ?_)
  · have hk3 := hk ⟨2, .data⟩ (by simp) rfl _ _ _ rfl rfl rfl (by simp) rfl
    obtain ⟨Q1, Q2, Q3, q1, q2, q3, he, hr, hc⟩ := hk3.now
    go_simp
    exact retL_grow (CS.out _ _ _ _ _ _ _ hr hc)
  obtain ⟨_, _, As, ns, cs, rfl, hna, hrd⟩ := hu
  clear hna hrd
  simp only [Act.put, List.setIfInBounds_toArray, List.set_cons_zero, List.set_cons_succ]
  repeat (refine wpG_one rfl rfl rfl ?_; intro K hK; go_big_quiet_op; go_big_quiet_on)
  refine wpG_nil (fun W3 hw3 hG => ?_)
  have L3 : Hid (Le W2 W3) := hw3.le
  have hsl := hG.2.now.at
  have HS : Hid (∀ W, Le W3 W → Rd W W.heap.size 2 As ns (rR ls)) := fun W hW => (hsl.2.below hW).more hW.size
  obtain rfl : ns = ls.length := hsl.1
  clear hw3 hG hsl CS v0 v1 v2 v3
  obtain ⟨k0, k1, k2, k3⟩ := HX.out W3 (L3.out)
  have v0 := ovr_cell k0
  have v1 := ovr_cell k1
  have v2 := ovr_cell k2
  have v3 := ovr_cell k3
  go_wp2_with fail
  clear k0 k1 k2 k3
  refine wp_region_make (fun j => if j = 0 then some (fun u _ => u = .agg (ia 117 p)) else if j = 2 then some (OwnF R') else if j = 3 then some (fun u _ => u = .tuple #[I s1, I s2, I 0]) else none) (by kernel_rfl) (by kernel_rfl) (by kernel_rfl) ?_
  refine wpG_make (fun u _ => u = .agg (ia 117 p)) rfl rfl (fun w' hw' _ => ?_) (fun u hu => ?_)
  · exact load_grow rfl rfl (HP.out w' ((L3.out).trans hw'.le))
  obtain ⟨_, _, rfl⟩ := hu
  simp only [Act.put, List.setIfInBounds_toArray, List.set_cons_zero, List.set_cons_succ]
  repeat (refine wpG_one rfl rfl rfl ?_; intro K hK; go_big_quiet_op; go_big_quiet_on)
  refine wpG_make (OwnF R') rfl rfl (fun w' hw' _ => ?_) (fun u hu => ?_)
  · go_simp
    exact own_grow (own_any _ _ _ _ _ _ R' w' (HI.out _ ((L3.out).trans hw'.le)))
  obtain ⟨_, _, B1, B2, B3, B4, B5, B6, rfl, _, _⟩ := hu
  simp only [Act.put, List.setIfInBounds_toArray, List.set_cons_zero, List.set_cons_succ]
  repeat (refine wpG_one rfl rfl rfl ?_; intro K hK; go_big_quiet_op; go_big_quiet_on)
  refine wpG_make (fun u _ => u = .tuple #[I s1, I s2, I 0]) rfl rfl (fun w' hw' hk => ?_) (fun u hu => ?_)
  · have hk3 := hk ⟨2, .data⟩ (by simp) rfl _ _ _ rfl rfl rfl (by simp) rfl
    obtain ⟨Q1, Q2, Q3, q1, q2, q3, he, hr, hc⟩ := hk3.now
    go_simp
    exact call_grow (CT.out _ _ _ _ _ _ _ hr)
  obtain ⟨_, _, rfl⟩ := hu
  skip
  simp only [Act.put, List.setIfInBounds_toArray, List.set_cons_zero, List.set_cons_succ]
  repeat (refine wpG_one rfl rfl rfl ?_; intro K hK; go_big_quiet_op; go_big_quiet_on)
  refine wpG_nil (fun W4 hw4 _ => ?_)
  have L34 : Hid (Le W3 W4) := hw4.le
  have L4 : Hid (Le W2 W4) := L3.out.trans hw4.le
  clear hw4 CT v0 v1 v2 v3
  obtain ⟨k0, k1, k2, k3⟩ := HX.out W4 (L4.out)
  have v0 := ovr_cell k0
  have v1 := ovr_cell k1
  have v2 := ovr_cell k2
  have v3 := ovr_cell k3
  go_wp2_with fail
  clear k0 k1 k2 k3
  refine wp_region_make (fun j => if j = 1 then some (OwnF R') else if j = 4 then some (fun u _ => u = .tuple #[I (placeR R' R'.e), I 0]) else none) (by kernel_rfl) (by kernel_rfl) (by kernel_rfl) ?_
  repeat (refine wpG_one rfl rfl rfl ?_; intro K hK; go_big_quiet_op; go_big_quiet_on)
  refine wpG_make (OwnF R') rfl rfl (fun w' hw' _ => ?_) (fun u hu => ?_)
  · go_simp
    exact own_grow (own_any _ _ _ _ _ _ R' w' (HI.out _ ((L4.out).trans hw'.le)))
  obtain ⟨_, _, B1, B2, B3, B4, B5, B6, rfl, _, _⟩ := hu
  simp only [Act.put, List.setIfInBounds_toArray, List.set_cons_zero, List.set_cons_succ]
  repeat (refine wpG_one rfl rfl rfl ?_; intro K hK; go_big_quiet_op; go_big_quiet_on)
  refine wpG_make (fun u _ => u = .tuple #[I (placeR R' R'.e), I 0]) rfl rfl (fun w' hw' hk => ?_) (fun u hu => ?_)
  · have hk3 := hk ⟨1, .data⟩ (by simp) rfl _ _ _ rfl rfl rfl (by simp) rfl
    obtain ⟨Q1, Q2, Q3, q1, q2, q3, he, hr, hc⟩ := hk3.now
    go_simp
    exact call_grow (HG.out R'.e HE0.out.1 (Int.le_refl _) _ _ _ _ _ _ _ hr)
  obtain ⟨_, _, rfl⟩ := hu
  skip
  simp only [Act.put, List.setIfInBounds_toArray, List.set_cons_zero, List.set_cons_succ]
  repeat (refine wpG_one rfl rfl rfl ?_; intro K hK; go_big_quiet_op; go_big_quiet_on)
  refine wpG_nil (fun W5 hw5 _ => ?_)
  have L45 : Hid (Le W4 W5) := hw5.le
  have L5 : Hid (Le W2 W5) := L4.out.trans hw5.le
  clear hw5 v0 v1 v2 v3
  obtain ⟨k0, k1, k2, k3⟩ := HX.out W5 L5.out
  have dse : decide (R'.e < s1) = false := decide_eq_false (by have := HSb.out; omega)
  go_upto_if 88 with (fail)
  have ps : W5.cell? ⟨w.heap.size, 114, none⟩ = some (I (p 114)) := HP.out W5 L5.out 114 (by omega)
  go_cut [14] from 87 to 101 (fun c wx => c = I (mostF p R') ∧ Le W5 wx)
  case first =>
    by_cases hs : 0 ≤ s1
    · have ds : decide (0 ≤ s1) = true := decide_eq_true hs
      have hmo : Hid (mostF p R' = placeR R' s1 - p 114) := by
        show _ = _
        unfold mostF
        rw [Hst.out, if_neg (by have := HSb.out; simp only; omega)]
      have hw : IntKind.i64.wrap (placeR R' s1 - p 114) = placeR R' s1 - p 114 := IntWalk.i64_in _ (by
        have := HPb.out s1 hs HSb.out.2.1
        have := Hvp.out.slip
        omega)
      have CG := Lib.hid (HG.out s1 hs HSb.out.2.1)
      rw [ds]
      clear hs
      go_wp2_with fail
      refine (own_any _ _ _ _ _ _ R' W5 (HI.out _ L5.out)).mono ?_
      rintro e WA ⟨B1, B2, B3, d1, d2, d3, rfl, hr, _, hb⟩
      have LA : Hid (Le W5 WA) := hb
      have HrA := Lib.hid hr
      clear hb hr k0 k1 k2 k3 ps
      go_wp2_with fail
      refine (CG.out WA _ _ _ _ _ _ HrA.out).mono ?_
      rintro e WB ⟨rfl, hb⟩
      have LB : Hid (Le W5 WB) := LA.out.trans hb
      have ps : WB.cell? ⟨w.heap.size, 114, none⟩ = some (I (p 114)) := HP.out WB (L5.out.trans LB.out) 114 (by omega)
      clear hb HrA
      go_wp2_with fail
      go_meet
      case rel => exact ⟨by rw [hmo.out], LB.out⟩
    · have ds : decide (0 ≤ s1) = false := decide_eq_false hs
      have hmo : Hid (mostF p R' = placeR R' R'.e) := by
        show _ = _
        unfold mostF
        rw [Hst.out, if_pos (by have := HSb.out; simp only; omega)]
      rw [ds]
      clear hs
      go_wp2_with fail
      go_meet
      case rel => exact ⟨by rw [hmo.out], Le.refl _⟩
  obtain ⟨rfl, hle⟩ := hcut
  have L56 : Hid (Le W5 wc) := hle
  have L6 : Hid (Le W2 wc) := L5.out.trans hle
  have L36 : Hid (Le W3 wc) := L34.out.trans (L45.out.trans hle)
  clear hle k0 k1 k2 k3 ps
  obtain ⟨mo, hmo⟩ : ∃ mo, mostF p R' = mo := ⟨_, rfl⟩
  have HMo := Lib.hid hmo
  rw [hmo]
  clear hmo
  have HSa : Hid (∀ i, i < ls.length → 0 ≤ (at0 ls i).lo ∧ (at0 ls i).lo < (at0 ls i).hi ∧ (at0 ls i).hi ≤ mo ∧ (0 < i → (at0 ls (i - 1)).hi ≤ (at0 ls i).lo)) := fun i hi => by
    have := sold_at Hvr.out Hvp.out Hch.out (i := i)
    rw [Hls.out, HMo.out] at this
    exact this hi
  have Hlen : Hid (ls.length ≤ 1000) := by
    show _ ≤ _
    rw [← Hls.out, soldL, if_pos Hch.out]
    have h2 := endF_bd2 Hvr.out Hvp.out
    have h3 := rnK_len (sellF p R') (endF p R').toNat
    have h4 := soldK_len p R' (runsF (sellF p R') (endF p R').toNat)
    have := HE0.out
    unfold runsF at h4 ⊢; omega
  go_wp2_with fail
  go_loopw [18] (fun i wr => ∃ k : Nat, k ≤ ls.length ∧ i = .int .i64 k ∧ Le wc wr) (fun i _ => ls.length - (intOf i).toNat)
  case atStart => exact ⟨0, by omega, rfl, Le.refl _⟩
  case round =>
    rename World => W7
    obtain ⟨k, hk, rfl, hbw⟩ := hrel
    have L67 : Hid (Le wc W7) := hbw
    have L7 : Hid (Le W2 W7) := L6.out.trans hbw
    have L37 : Hid (Le W3 W7) := L36.out.trans hbw
    clear hbw
    by_cases hlt : k < ls.length
    · have hki : decide ((k : Int) < (ls.length : Int)) = true := decide_eq_true (by omega)
      have hkn : decide (k < ls.length) = true := decide_eq_true hlt
      have hk0' : decide (0 ≤ (k : Int)) = true := decide_eq_true (by omega)
      obtain ⟨g1, g2, g3, g4⟩ := HSa.out k hlt
      have hl1000 := Hlen.out
      obtain ⟨b4, o4, rfl, _, x0, x1⟩ := (HS.out W7 L37.out).rng hlt
      rcases Nat.eq_zero_or_pos k with hk0 | hk0
      · have kb : decide (0 < (k : Int)) = false := decide_eq_false (by omega)
        have kb2 : decide (0 < k) = false := decide_eq_false (by omega)
        generalize (at0 ls k).lo = lo at *
        generalize (at0 ls k).hi = hi at *
        have y0 := ovr_cell x0
        have y1 := ovr_cell x1
        have n1 : decide (lo < 0) = false := decide_eq_false (by omega)
        have n2 : decide (hi ≤ lo) = false := decide_eq_false (by omega)
        have n3 : decide (mo < hi) = false := decide_eq_false (by omega)
        clear g1 g2 g3 g4 hk0 x0 x1
        go_wp2_with fail
        refine wp_region_below_lit (by kernel_rfl) (by kernel_rfl) ?_
        repeat (go_big_quiet_step (fail))
        refine wpQuiet_nil ?_
        intro W8 hb8
        have L68 : Hid (Le wc W8) := L67.out.trans hb8
        clear hb8 y0 y1 n1 n2 n3 kb kb2
        go_wp2_with fail
        go_roundw
        case rel => exact ⟨k + 1, by omega, by go_num, L68.out⟩
        case measure => simp only [intOf]; omega
      · have kb : decide (0 < (k : Int)) = true := decide_eq_true (by omega)
        have kb2 : decide (0 < k) = true := decide_eq_true (by omega)
        have g4 := g4 hk0
        obtain ⟨b7, o7, h7, _, d0, d1⟩ := (HS.out W7 L37.out).rng (show k - 1 < ls.length by omega)
        obtain ⟨rfl, rfl⟩ : b4 = b7 ∧ o4 = o7 := by injection h7 with h7; injection h7 with h1 h2; exact ⟨h1, h2⟩
        have wk : IntKind.i64.wrap ((k : Int) - 1) = ((k - 1 : Nat) : Int) := by rw [IntWalk.i64_in _ (by omega)]; omega
        have k1 : decide ((k - 1) < ls.length) = true := decide_eq_true (by omega)
        have k2 : decide (((k - 1 : Nat) : Int) < (ls.length : Int)) = true := decide_eq_true (by omega)
        have k3 : decide (0 ≤ ((k - 1 : Nat) : Int)) = true := decide_eq_true (by omega)
        generalize (at0 ls k).lo = lo at *
        generalize (at0 ls k).hi = hi at *
        generalize (at0 ls (k - 1)).hi = pv at *
        have y0 := ovr_cell x0
        have y1 := ovr_cell x1
        have y2 := ovr_cell d1
        have n1 : decide (lo < 0) = false := decide_eq_false (by omega)
        have n2 : decide (hi ≤ lo) = false := decide_eq_false (by omega)
        have n3 : decide (mo < hi) = false := decide_eq_false (by omega)
        have n4 : decide (lo < pv) = false := decide_eq_false (by omega)
        clear g1 g2 g3 g4 hk0 x0 x1 d0 d1 h7
        go_wp2_with fail
        refine wp_region_below_lit (by kernel_rfl) (by kernel_rfl) ?_
        repeat (go_big_quiet_step (fail))
        refine wpQuiet_nil ?_
        intro W8 hb8
        have L68 : Hid (Le wc W8) := L67.out.trans hb8
        clear hb8 y0 y1 y2 n1 n2 n3 n4 kb kb2 wk k1 k2 k3
        go_wp2_with fail
        go_roundw
        case rel => exact ⟨k + 1, by omega, by go_num, L68.out⟩
        case measure => simp only [intOf]; omega
    · obtain rfl : k = ls.length := by omega
      have hki : decide ((ls.length : Int) < (ls.length : Int)) = false := decide_eq_false (by omega)
      obtain ⟨k0, k1, k2, k3⟩ := HX.out W7 L7.out
      have km := HM.out W7 L7.out
      have hwe : IntKind.i64.wrap (R'.e + 1) = R'.e + 1 := IntWalk.i64_in _ (by have := HE0.out; omega)
      have hez : ((R'.e + 1) == 0) = false := by rw [beq_eq_false_iff_ne]; have := HE0.out; omega
      have hez2 : ¬ (R'.e + 1 = 0) := by have := HE0.out; omega
      have wm : IntKind.i64.wrap m = m := IntWalk.i64_in _ (by have := Hm.out; omega)
      clear hlt hk
      go_upto_region 20 with (fail)
      obtain ⟨t, ht⟩ : ∃ t, m.tmod (R'.e + 1) = t := ⟨_, rfl⟩
      have HT : Hid (0 ≤ t ∧ t ≤ R'.e) := by
        have h1 := Int.tmod_nonneg (R'.e + 1) Hm.out.1
        have h2 := Int.tmod_lt_of_pos m (show 0 < R'.e + 1 by have := HE0.out; omega)
        rw [ht] at h1 h2
        exact ⟨h1, by omega⟩
      rw [ht]
      clear ht hez hez2 wm hwe km hki
      go_wp2_with fail
      refine (own_any _ _ _ _ _ _ R' W7 (HI.out _ L7.out)).mono ?_
      rintro e W9 ⟨B1, B2, B3, d1, d2, d3, rfl, hr9, hd9, hb9⟩
      have L79 : Hid (Le W7 W9) := hb9
      have L9 : Hid (Le W2 W9) := L7.out.trans hb9
      have L39 : Hid (Le W3 W9) := L37.out.trans hb9
      have HJ : Hid (∀ W, Le W9 W → RunIn W B1 B2 B3 R') := fun W hW => hr9.below hW
      have Hd2 := Lib.hid hd9
      clear hr9 hd9 hb9 k0 k1 k2 k3
      go_upto_region 21 with (refine wpList_store_row rfl 35 _ _ rfl W9.heap.size rfl _ _ (heap_last _ _ _ rfl) (rnArr B1 B2 B3 d1 d2 d3 R') rfl (rn_one _ _ _ _ _ _ _) rfl (by kernel_rfl) ?_)
      obtain ⟨V, hV⟩ : ∃ V, V = (W9.alloc (.cells #[.slice none 0 0, I 0, .slice none 0 0, .slice none 0 0] 35)).setRow W9.heap.size (rnArr B1 B2 B3 d1 d2 d3 R') := ⟨_, rfl⟩
      rw [← hV]
      have h9V : Le W9 V := by rw [hV]; exact below_setRow ((Below.refl _ _).alloc (Nat.le_refl _) _) (Nat.le_refl _) _
      have rV : V.heap[W9.heap.size]? = some (.cells (rnArr B1 B2 B3 d1 d2 d3 R') 35 (0, 0)) := by rw [hV]; exact setRow_same (heap_last _ _ _ rfl)
      have x3 : V.cell? ⟨W9.heap.size, 3, none⟩ = some (.slice B3 R'.es.length d3) := by rw [cell_of_row _ _ _ _ _ _ rV]; rfl
      have hfz : V.frozen? ⟨W9.heap.size, 3, none⟩ = false := by unfold World.frozen?; rw [rV]; rfl
      have hVs : V.heap.size = W9.heap.size + 1 := by rw [hV]; simp
      clear hV
      go_upto_region 22 with (fail)
      rw [setCell_eq_setRow V W9.heap.size 3 (rnArr B1 B2 B3 d1 d2 d3 R') 35 (0, 0) _ rV]
      have hrow : (rnArr B1 B2 B3 d1 d2 d3 R').setIfInBounds 3 (.slice none 0 0) = rnLs B1 B2 d1 d2 R' (.slice none 0 0) := rfl
      rw [hrow]
      have hV2 : Le W9 (V.setRow W9.heap.size (rnLs B1 B2 d1 d2 R' (.slice none 0 0))) := below_setRow h9V (Nat.le_refl _) _
      have rV2 : (V.setRow W9.heap.size (rnLs B1 B2 d1 d2 R' (.slice none 0 0))).heap[W9.heap.size]? = some (.cells (rnLs B1 B2 d1 d2 R' (.slice none 0 0)) 35 (0, 0)) := setRow_same rV
      generalize V.setRow W9.heap.size (rnLs B1 B2 d1 d2 R' (.slice none 0 0)) = V2 at *
      have RV2 := Lib.hid rV2
      have LV2 : Hid (Le W9 V2) := hV2
      clear hrow rV x3 hfz hVs h9V hV2 rV2 
      clear V
      obtain ⟨lb, hlb⟩ : ∃ lb, W9.heap.size = lb := ⟨_, rfl⟩
      have Hlb := Lib.hid hlb
      rw [hlb] at RV2 ⊢
      have HB : Hid (∀ W, Le W9 W → lb ≤ W.heap.size) := fun W hW => by rw [← Hlb.out]; exact Below.size hW
      obtain ⟨i0, hi0, iz0, iz1, iz2⟩ := info_parts evt_info2
      clear hlb
      go_wp2_with fail
      go_loopw [21, 22] (fun d i wr => ∃ (k : Nat) (v : Value), k ≤ R'.es.length ∧ i = .int .i64 k ∧ d = .bool (insK R'.es t k).2 ∧ LsOk lb B1 B2 d1 d2 R' (insK R'.es t k).1 v wr ∧ Le W9 wr) (fun _ i _ => R'.es.length - (intOf i).toNat)
      case atStart => exact ⟨0, .slice none 0 0, by omega, rfl, rfl, ⟨RV2.out, .inr ⟨rfl, .inl ⟨rfl, rfl⟩⟩, by have := (Array.getElem?_eq_some_iff.1 RV2.out).1; omega⟩, LV2.out⟩
      case round =>
        rename World => X0
        obtain ⟨k, v, hk, rfl, rfl, hls, hbw⟩ := hrel
        have LX0 : Hid (Le W9 X0) := hbw
        clear hbw
        obtain ⟨k0, k1, k2, k3⟩ := HX.out X0 (L9.out.trans LX0.out)
        by_cases hlt : k < R'.es.length
        · have hki : decide ((k : Int) < (R'.es.length : Int)) = true := decide_eq_true (by omega)
          have hkn : decide (k < R'.es.length) = true := decide_eq_true hlt
          have h19 := H19.out
          have hll := insK_len R'.es t k
          obtain ⟨b, o, rfl, _, x0, x1⟩ := (HI.out X0 (L9.out.trans LX0.out)).e.evt hlt
          have hsk : insK R'.es t (k + 1) = if t < (at0 R'.es k).t ∧ (insK R'.es t k).2 = false then ((insK R'.es t k).1 ++ [⟨t, 1⟩] ++ [at0 R'.es k], true) else ((insK R'.es t k).1 ++ [at0 R'.es k], (insK R'.es t k).2) := rfl
          obtain ⟨⟨l, dn⟩, hq⟩ : ∃ q, insK R'.es t k = q := ⟨_, rfl⟩
          rw [hq] at hls hsk hll ⊢
          obtain ⟨ev, hev⟩ : ∃ ev, at0 R'.es k = ev := ⟨_, rfl⟩
          have HEv := Lib.hid hev
          rw [hev] at hsk x0 x1
          obtain ⟨bb, hbb⟩ : ∃ bb, (decide (t < ev.t) && !dn) = bb := ⟨_, rfl⟩
          have hsk2 : Hid (insK R'.es t (k + 1) = ((if bb then l ++ [⟨t, 1⟩] else l) ++ [ev], dn || bb)) := by
            show _ = _
            rw [hsk, ← hbb]
            by_cases h1 : t < ev.t
            · rcases dn with _ | _ <;> simp [h1]
            · rcases dn with _ | _ <;> simp [h1]
          have Hbb := Lib.hid hbb
          have hl40 : l.length ≤ 100 := by simp only at hll; omega
          simp only at hls
          clear hsk hq hev hbb hll
          go_upto_region 26 with (fail)
          go_cut [182] from 169 to 182 (fun c wx => c = .bool bb ∧ wx = X0)
          case first =>
            by_cases h1 : t < ev.t
            · have f1 : decide (t < ev.t) = true := decide_eq_true h1
              rcases dn with _ | _
              · have Hf : Hid (bb = true) := by show _ = _; rw [← Hbb.out, f1]; rfl
                clear h1
                go_wp2_with fail
                go_meet
                case rel => exact ⟨by rw [Hf.out], rfl⟩
              · have Hf : Hid (bb = false) := by show _ = _; rw [← Hbb.out, f1]; rfl
                clear h1
                go_wp2_with fail
                go_meet
                case rel => exact ⟨by rw [Hf.out], rfl⟩
            · have f1 : decide (t < ev.t) = false := decide_eq_false h1
              have Hf : Hid (bb = false) := by show _ = _; rw [← Hbb.out, f1]; rfl
              clear h1
              go_wp2_with fail
              go_meet
              case rel => exact ⟨by rw [Hf.out], rfl⟩
          obtain ⟨rfl, hwc⟩ := hcut
          rw [hwc]
          clear hwc
          go_upto_if 182 with (fail)
          go_cut [21] from 183 to 189 (fun d wx => ∃ v', d = .bool (dn || bb) ∧ LsOk lb B1 B2 d1 d2 R' (if bb then l ++ [⟨t, 1⟩] else l) v' wx ∧ Le W9 wx)
          case first =>
            rcases bb with _ | _
            · go_wp2_with fail
              go_meet
              case rel => exact ⟨v, by simp, hls, LX0.out⟩
            · obtain ⟨A', c', rfl, hc1, hc2, _⟩ := hls.so.rd
              obtain ⟨y0, y1, y2, y3⟩ := hls.cells
              have hlb1 := hls.lt
              go_wp2_with (at_builtin; go_loud (refine wpList_app_soc rfl _ _ 33 rfl 77 i0 _ 2 16 Try.underlying33 hi0 iz0 iz1 iz2 rfl (by decide) (lb + 1) l.length (flat 2 (rE l) l.length) (.slice A' l.length c') rfl (hls.so.over ((Below.refl _ _).alloc (Nat.le_refl _) _)) ⟨X0.heap.size, 0, none⟩ 1 [I t, I 1] rfl rfl (news_lit (cs := #[I t, I 1]) (heap_last _ _ _ rfl)) (by simp [Value.oneCell']) (by have := hls.lt; simp; omega) (by omega) (by decide) ?_))
              intro v' w2 hso2 hb2
              have hb3 : Below (lb + 1) X0 w2 := ((Below.refl _ _).alloc hlb1 _).trans hb2
              have hle3 : Le W9 w2 := by
                exact Below.trans LX0.out (hb3.mono (by rw [Hlb.out]; omega))
              have r2 : w2.heap[lb]? = some (.cells (rnLs B1 B2 d1 d2 R' (.slice A' l.length c')) 35 (0, 0)) := (Below.block hb3 _ (by omega)).trans hls.row
              have so3 := Lib.hid (soC_evt (y := ⟨t, 1⟩) hso2)
              obtain ⟨A'', c'', rfl, _, _, _⟩ := so3.out.rd
              have x3 : w2.cell? ⟨lb, 3, none⟩ = some (.slice A' l.length c') := by rw [cell_of_row _ _ _ _ _ _ r2]; rfl
              have hfz : w2.frozen? ⟨lb, 3, none⟩ = false := by unfold World.frozen?; rw [r2]; rfl
              have Hb3 := Lib.hid hb3
              have R2 := Lib.hid r2
              clear hso2 hb2 hb3 r2 y0 y1 y2 y3
              go_wp2_with fail
              go_meet
              case rel =>
                rw [setCell_eq_setRow w2 lb 3 (rnLs B1 B2 d1 d2 R' (.slice A' l.length c')) 35 (0, 0) _ R2.out]
                have hp := hls.put Hb3.out so3.out
                rw [show (l ++ [(⟨t, 1⟩ : Evt)]).length = l.length + 1 by simp] at hp
                exact ⟨_, by simp, hp, below_setRow hle3 (by rw [Hlb.out]; exact Nat.le_refl _) _⟩
          obtain ⟨v1, rfl, hls1, hle1⟩ := hcut
          clear hls
          obtain ⟨l1, hl1⟩ : ∃ l1, (if bb then l ++ [(⟨t, 1⟩ : Evt)] else l) = l1 := ⟨_, rfl⟩
          have hl41 : l1.length ≤ 101 := by
            rw [← hl1]
            split
            · rw [List.length_append]; simp only [List.length_singleton]; omega
            · omega
          rw [hl1] at hls1
          have HL1 := Lib.hid hl1
          have LWc : Hid (Le W9 wc) := hle1
          have Hls1 := Lib.hid hls1
          clear hl1 hl40 hle1 k0 k1 k2 k3 x0 x1 LX0
          go_upto_region 28 with (fail)
          obtain ⟨k0, k1, k2, k3⟩ := HX.out wc (L9.out.trans LWc.out)
          obtain ⟨b6, o6, h6, _, x0, x1⟩ := (HI.out wc (L9.out.trans LWc.out)).e.evt hlt
          obtain ⟨rfl, rfl⟩ : b = b6 ∧ o = o6 := by injection h6 with h6; injection h6 with h1 h2; exact ⟨h1, h2⟩
          rw [HEv.out] at x0 x1
          obtain ⟨A', c', rfl, hc1, hc2, _⟩ := hls1.so.rd
          obtain ⟨y0, y1, y2, y3⟩ := hls1.cells
          have hlb1 := hls1.lt
          have v3 := ovr_cell k3
          have v4 := ovr_cell x0
          have v5 := ovr_cell x1
          have v6 := ovr_cell y3
          clear k0 k1 k2 k3 x0 x1 y0 y1 y2 y3 h6 hls1
          refine wp_region_seq2 8 (fun j => if j = 7 then some (SlNew wc #[I ev.t, I ev.kd] 77) else none) (by kernel_rfl) (by kernel_rfl) (by kernel_rfl) (by kernel_rfl) (by kernel_rfl) ?_
          simp only [List.take_succ_cons, List.take_zero, List.drop_succ_cons, List.drop_zero]
          repeat (refine wpG_one rfl rfl rfl ?_; intro K hK; go_big_quiet_op; go_big_quiet_on)
          refine wpG_make (SlNew wc #[I ev.t, I ev.kd] 77) rfl rfl (fun w' hw' _ => ?_) (fun u hu => ?_)
          · go_simp
            exact slnew_grow hw'
          obtain ⟨_, _, bn, rfl, _, _⟩ := hu
          simp only [Act.put, List.setIfInBounds_toArray, List.set_cons_zero, List.set_cons_succ]
          refine wpG_nil (fun w5 hw5 hG => ?_)
          have hn := (Box.now hG.2).at
          have hle5 : Le wc w5 := hw5.le
          clear hG hw5 v3 v4 v5 v6
          refine wpTailIn_cons Wd.wide (by intro c h; cases h) ?_
          refine wp_app_soc _ _ 33 rfl 77 i0 _ 2 16 Try.underlying33 hi0 iz0 iz1 iz2 rfl (by decide) (lb + 1) l1.length (flat 2 (rE l1) l1.length) _ rfl (Hls1.out.so.over hle5) ⟨bn, 0, none⟩ 1 [I ev.t, I ev.kd] rfl rfl (news_lit hn.1) (by simp [Value.oneCell']) (Nat.le_trans hlb1 hle5.size) (by omega) (by decide) ?_
          intro v' w2 hso2 hb2
          have hb3 : Below (lb + 1) wc w2 := (Below.mono hle5 hlb1).trans hb2
          have hle3 : Le W9 w2 := Below.trans LWc.out (hb3.mono (by rw [Hlb.out]; omega))
          have r2 : w2.heap[lb]? = some (.cells (rnLs B1 B2 d1 d2 R' (.slice A' l1.length c')) 35 (0, 0)) := (Below.block hb3 _ (by omega)).trans Hls1.out.row
          have so3 := Lib.hid (soC_evt (y := ev) hso2)
          obtain ⟨A'', c'', rfl, _, _, _⟩ := so3.out.rd
          have hput := Hls1.out.put hb3 so3.out
          rw [show (l1 ++ [ev]).length = l1.length + 1 by simp] at hput ⊢
          have Hput := Lib.hid hput
          clear hput
          have Hle4 : Hid (Le W9 (w2.setRow lb (rnLs B1 B2 d1 d2 R' (.slice A'' (l1.length + 1) c'')))) := below_setRow hle3 (by rw [Hlb.out]; exact Nat.le_refl _) _
          clear hso2 hb2 hb3 hle3 hn hle5
          refine wpTailIn_cons Wd.wide (by intro c h; cases h) ?_
          unfold Oper.wp execOp
          go_simp
          refine wpTailIn_cons Wd.wide (by intro c h; cases h) ?_
          refine wp_store_one 33 _ _ rfl lb 3 rfl _ _ r2 (.slice A'' (l1.length + 1) c'') rfl rfl rfl (Nat.le_refl 4) (by kernel_rfl) (rnLs B1 B2 d1 d2 R' (.slice A'' (l1.length + 1) c'')) rfl ?_
          refine wpTailIn_nil ?_
          simp only [Act.put]
          generalize w2.setRow lb (rnLs B1 B2 d1 d2 R' (.slice A'' (l1.length + 1) c'')) = w3 at *
          clear r2 so3
          go_wp2_with fail
          go_roundw
          case rel => exact ⟨k + 1, .slice A'' (l1.length + 1) c'', by omega, by go_num, by rw [hsk2.out], by rw [hsk2.out, HL1.out]; exact Hput.out, Hle4.out⟩
          case measure => simp only [intOf]; omega
        · obtain rfl : k = R'.es.length := by omega
          have hki : decide ((R'.es.length : Int) < (R'.es.length : Int)) = false := decide_eq_false (by omega)
          have h19 := H19.out
          have hll := insK_len R'.es t R'.es.length
          have hie : insE R'.es t = if (insK R'.es t R'.es.length).2 then (insK R'.es t R'.es.length).1 else (insK R'.es t R'.es.length).1 ++ [⟨t, 1⟩] := rfl
          obtain ⟨⟨l, dn⟩, hq⟩ : ∃ q, insK R'.es t R'.es.length = q := ⟨_, rfl⟩
          rw [hq] at hls hie hll ⊢
          have hl40 : l.length ≤ 100 := by simp only at hll; omega
          simp only at hls hie
          have Hie := Lib.hid hie
          clear hq hie hll
          go_upto_if 201 with (fail)
          go_cut [] from 202 to 208 (fun wx => ∃ v', LsOk lb B1 B2 d1 d2 R' (insE R'.es t) v' wx ∧ Le W9 wx)
          case first =>
            rcases dn with _ | _
            · obtain ⟨A', c', rfl, hc1, hc2, _⟩ := hls.so.rd
              obtain ⟨y0, y1, y2, y3⟩ := hls.cells
              have hlb1 := hls.lt
              go_wp2_with (at_builtin; go_loud (refine wpList_app_soc rfl _ _ 33 rfl 77 i0 _ 2 16 Try.underlying33 hi0 iz0 iz1 iz2 rfl (by decide) (lb + 1) l.length (flat 2 (rE l) l.length) (.slice A' l.length c') rfl (hls.so.over ((Below.refl _ _).alloc (Nat.le_refl _) _)) ⟨X0.heap.size, 0, none⟩ 1 [I t, I 1] rfl rfl (news_lit (cs := #[I t, I 1]) (heap_last _ _ _ rfl)) (by simp [Value.oneCell']) (by have := hls.lt; simp; omega) (by omega) (by decide) ?_))
              intro v' w2 hso2 hb2
              have hb3 : Below (lb + 1) X0 w2 := ((Below.refl _ _).alloc hlb1 _).trans hb2
              have hle3 : Le W9 w2 := Below.trans LX0.out (hb3.mono (by rw [Hlb.out]; omega))
              have r2 : w2.heap[lb]? = some (.cells (rnLs B1 B2 d1 d2 R' (.slice A' l.length c')) 35 (0, 0)) := (Below.block hb3 _ (by omega)).trans hls.row
              have so3 := Lib.hid (soC_evt (y := ⟨t, 1⟩) hso2)
              obtain ⟨A'', c'', rfl, _, _, _⟩ := so3.out.rd
              have x3 : w2.cell? ⟨lb, 3, none⟩ = some (.slice A' l.length c') := by rw [cell_of_row _ _ _ _ _ _ r2]; rfl
              have hfz : w2.frozen? ⟨lb, 3, none⟩ = false := by unfold World.frozen?; rw [r2]; rfl
              have Hb3 := Lib.hid hb3
              have R2 := Lib.hid r2
              clear hso2 hb2 hb3 r2 y0 y1 y2 y3
              go_wp2_with fail
              go_meet
              case rel =>
                rw [setCell_eq_setRow w2 lb 3 (rnLs B1 B2 d1 d2 R' (.slice A' l.length c')) 35 (0, 0) _ R2.out]
                have hp := hls.put Hb3.out so3.out
                rw [show (l ++ [(⟨t, 1⟩ : Evt)]).length = l.length + 1 by simp] at hp
                refine ⟨.slice A'' (l.length + 1) c'', ?_, below_setRow hle3 (by rw [Hlb.out]; exact Nat.le_refl _) _⟩
                rw [Hie.out]
                exact hp
            · go_wp2_with fail
              go_meet
              case rel => exact ⟨v, by rw [Hie.out]; exact hls, LX0.out⟩
          obtain ⟨v1, hls1, hle1⟩ := hcut
          have LC : Hid (Le W9 wc) := hle1
          have LC2 : Hid (Le W2 wc) := L9.out.trans hle1
          have LC3 : Hid (Le W3 wc) := L39.out.trans hle1
          obtain ⟨AL, cL, rfl, _, _, hrdL⟩ := hls1.so.rd
          obtain ⟨RL, hRL⟩ : ∃ RL, RL = lostR R' t := ⟨_, rfl⟩
          have hlen20 := lost_len R' t
          have HIL : Hid (∀ W, Le wc W → RunIn W B1 B2 AL RL) := fun W hW => by
            have h0 := HJ.out wc LC.out
            have h19 := H19.out
            rw [hRL]
            exact RunIn.below (show RunIn wc B1 B2 AL (lostR R' t) from ⟨h0.s, h0.m, hrdL, h0.ls, h0.lm, by rw [hlen20]; omega⟩) hW
          have HXL : Hid (∀ W, Le wc W → W.cell? ⟨lb, 0, none⟩ = some (.slice B1 RL.ss.length d1) ∧ W.cell? ⟨lb, 1, none⟩ = some (I RL.e) ∧ W.cell? ⟨lb, 2, none⟩ = some (.slice B2 RL.ms.length d2) ∧ W.cell? ⟨lb, 3, none⟩ = some (.slice AL RL.es.length cL)) := fun W hW => by
            rw [hRL]
            exact (hls1.next hW).cells
          have hvL : VRun RL := by rw [hRL]; exact lost_vrun Hvr.out HT.out.1 HT.out.2 H19.out
          have hchL : chE p RL = 0 := by rw [hRL]; exact lost_chE Hvr.out HT.out.1 HT.out.2 H19.out Hch.out
          have hokL : (okPuller p && okRun RL) = true := by rw [Hvk.out.1, (vRun_iff RL).2 hvL]; rfl
          obtain ⟨l2, hl2⟩ : ∃ l2, soldL p RL = l2 := ⟨_, rfl⟩
          obtain ⟨pt, hpt⟩ : ∃ pt, placeR R' t = pt := ⟨_, rfl⟩
          have Hl2 : Hid (∀ i, i < l2.length → fitK (at0 l2 i) ls ls.length = true ∧ (at0 l2 i).hi ≤ pt - p 114) := fun i hi => by
            have := less_at Hvr.out Hvp.out HT.out.1 HT.out.2 H19.out Hch.out (i := i)
            rw [Hls.out, hpt, ← hRL, hl2] at this
            exact this hi
          have Hlen2 : Hid (l2.length ≤ 1000) := by
            show _ ≤ _
            rw [← hl2, soldL, if_pos hchL]
            have h2 := endF_bd2 hvL Hvp.out
            have h3 := rnK_len (sellF p RL) (endF p RL).toNat
            have h4 := soldK_len p RL (runsF (sellF p RL) (endF p RL).toNat)
            have h5 : RL.e = R'.e := by rw [hRL]; rfl
            have := HE0.out
            unfold runsF at h4 ⊢; omega
          obtain ⟨⟨q1, q2⟩, hsq⟩ : ∃ q, stopF p RL = q := ⟨_, rfl⟩
          have HQ : Hid (0 ≤ q1 ∧ q1 ≤ t) := by
            have := lost_stop Hvr.out Hvp.out.hold.1 (p := p) HT.out.1
            rw [← hRL, hsq] at this
            exact ⟨this.2.1, this.2.2.1⟩
          have Hpt : Hid (0 ≤ pt ∧ pt ≤ 200000000) := by show _ ∧ _; rw [← hpt]; exact HPb.out t HT.out.1 HT.out.2
          have CS2 : Hid (∀ W Q1 Q2 Q3 q1 q2 q3, RunIn W Q1 Q2 Q3 RL → RL.ms.length ≤ q2 → Calls Try.prog 34 #[.agg (ia 117 p), runV Q1 Q2 Q3 q1 q2 q3 RL] W (RetL W l2 0)) := fun W Q1 Q2 Q3 q1 q2 q3 hr hc => by
            have := soldX_any Q1 Q2 Q3 q1 q2 q3 p RL W hr hc
            rw [hl2, hchL] at this; exact this
          have CT2 : Hid (∀ W Q1 Q2 Q3 a1 a2 a3, RunIn W Q1 Q2 Q3 RL → Calls Try.prog 23 #[.agg (ia 117 p), runV Q1 Q2 Q3 a1 a2 a3 RL] W fun e w' => e = .returned (.tuple #[I q1, I q2, I 0]) ∧ Below W.heap.size W w') := fun W Q1 Q2 Q3 a1 a2 a3 hr => by
            have := stopX_any Q1 Q2 Q3 a1 a2 a3 p RL W hr
            unfold stopS at this
            rw [hokL, if_pos rfl, hsq] at this
            exact this
          have CG := Lib.hid (HG.out t HT.out.1 HT.out.2)
          rw [hpt] at CG
          clear hRL hlen20 hls1 hle1 hrdL hvL hchL hokL hl2 hpt hsq
          go_upto_region 31 with (fail)
          have LR : Hid (Le wc wc) := Le.refl _
          obtain ⟨k0, k1, k2, k3⟩ := HXL.out wc (LR.out)
          have v0 := ovr_cell k0
          have v1 := ovr_cell k1
          have v2 := ovr_cell k2
          have v3 := ovr_cell k3
          clear k0 k1 k2 k3
          refine wp_region_make (fun j => if j = 0 then some (fun u _ => u = .agg (ia 117 p)) else if j = 2 then some (OwnF RL) else if j = 3 then some (SlT l2 0) else none) (by kernel_rfl) (by kernel_rfl) (by kernel_rfl) ?_
          refine wpG_make (fun u _ => u = .agg (ia 117 p)) rfl rfl (fun w' hw' _ => ?_) (fun u hu => ?_)
          · exact load_grow rfl rfl (HP.out w' ((LC2.out).trans hw'.le))
          obtain ⟨_, _, rfl⟩ := hu
          simp only [Act.put, List.setIfInBounds_toArray, List.set_cons_zero, List.set_cons_succ]
          repeat (refine wpG_one rfl rfl rfl ?_; intro K hK; go_big_quiet_op; go_big_quiet_on)
          refine wpG_make (OwnF RL) rfl rfl (fun w' hw' _ => ?_) (fun u hu => ?_)
          · go_simp
            exact own_grow (own_any _ _ _ _ _ _ RL w' (HIL.out _ ((LR.out).trans hw'.le)))
          obtain ⟨_, _, B1, B2, B3, B4, B5, B6, rfl, _, _⟩ := hu
          simp only [Act.put, List.setIfInBounds_toArray, List.set_cons_zero, List.set_cons_succ]
          repeat (refine wpG_one rfl rfl rfl ?_; intro K hK; go_big_quiet_op; go_big_quiet_on)
          refine wpG_make (SlT l2 0) rfl rfl (fun w' hw' hk => ?_) (fun u hu => ?_)
          · have hk3 := hk ⟨2, .data⟩ (by simp) rfl _ _ _ rfl rfl rfl (by simp) rfl
            obtain ⟨Q1, Q2, Q3, q1, q2, q3, he, hr, hc⟩ := hk3.now
            go_simp
            exact retL_grow (CS2.out _ _ _ _ _ _ _ hr hc)
          obtain ⟨_, _, AT, nt, ct, rfl, hna, hrd⟩ := hu
          clear hna hrd
          simp only [Act.put, List.setIfInBounds_toArray, List.set_cons_zero, List.set_cons_succ]
          repeat (refine wpG_one rfl rfl rfl ?_; intro K hK; go_big_quiet_op; go_big_quiet_on)
          refine wpG_nil (fun WA hwA hG => ?_)
          have LA : Hid (Le wc WA) := hwA.le
          have hsl := hG.2.now.at
          have HL2 : Hid (∀ W, Le WA W → Rd W W.heap.size 2 AT nt (rR l2)) := fun W hW => (hsl.2.below hW).more hW.size
          obtain rfl : nt = l2.length := hsl.1
          clear hwA hG hsl CS2 v0 v1 v2 v3
          go_upto_region 32 with (fail)
          obtain ⟨k0, k1, k2, k3⟩ := HXL.out WA (LA.out)
          have v0 := ovr_cell k0
          have v1 := ovr_cell k1
          have v2 := ovr_cell k2
          have v3 := ovr_cell k3
          clear k0 k1 k2 k3
          refine wp_region_make (fun j => if j = 0 then some (fun u _ => u = .agg (ia 117 p)) else if j = 2 then some (OwnF RL) else if j = 3 then some (fun u _ => u = .tuple #[I q1, I q2, I 0]) else none) (by kernel_rfl) (by kernel_rfl) (by kernel_rfl) ?_
          refine wpG_make (fun u _ => u = .agg (ia 117 p)) rfl rfl (fun w' hw' _ => ?_) (fun u hu => ?_)
          · exact load_grow rfl rfl (HP.out w' ((LC2.out.trans LA.out).trans hw'.le))
          obtain ⟨_, _, rfl⟩ := hu
          simp only [Act.put, List.setIfInBounds_toArray, List.set_cons_zero, List.set_cons_succ]
          repeat (refine wpG_one rfl rfl rfl ?_; intro K hK; go_big_quiet_op; go_big_quiet_on)
          refine wpG_make (OwnF RL) rfl rfl (fun w' hw' _ => ?_) (fun u hu => ?_)
          · go_simp
            exact own_grow (own_any _ _ _ _ _ _ RL w' (HIL.out _ ((LA.out).trans hw'.le)))
          obtain ⟨_, _, B1, B2, B3, B4, B5, B6, rfl, _, _⟩ := hu
          simp only [Act.put, List.setIfInBounds_toArray, List.set_cons_zero, List.set_cons_succ]
          repeat (refine wpG_one rfl rfl rfl ?_; intro K hK; go_big_quiet_op; go_big_quiet_on)
          refine wpG_make (fun u _ => u = .tuple #[I q1, I q2, I 0]) rfl rfl (fun w' hw' hk => ?_) (fun u hu => ?_)
          · have hk3 := hk ⟨2, .data⟩ (by simp) rfl _ _ _ rfl rfl rfl (by simp) rfl
            obtain ⟨Q1, Q2, Q3, q1, q2, q3, he, hr, hc⟩ := hk3.now
            go_simp
            exact call_grow (CT2.out _ _ _ _ _ _ _ hr)
          obtain ⟨_, _, rfl⟩ := hu
          skip
          simp only [Act.put, List.setIfInBounds_toArray, List.set_cons_zero, List.set_cons_succ]
          repeat (refine wpG_one rfl rfl rfl ?_; intro K hK; go_big_quiet_op; go_big_quiet_on)
          refine wpG_nil (fun WB hwB _ => ?_)
          have LAB : Hid (Le WA WB) := hwB.le
          have LB : Hid (Le wc WB) := LA.out.trans hwB.le
          clear hwB CT2
          clear v0 v1 v2 v3
          go_upto_region 33 with (fail)
          obtain ⟨k0, k1, k2, k3⟩ := HX.out WB (LC2.out.trans LB.out)
          go_wp2_with fail
          refine (own_any _ _ _ _ _ _ R' WB (HI.out _ (LC2.out.trans LB.out))).mono ?_
          rintro e WD ⟨G1, G2, G3, g1, g2, g3, rfl, hr, _, hb⟩
          have LD : Hid (Le wc WD) := LB.out.trans hb
          have LBD : Hid (Le WB WD) := hb
          have HrD := Lib.hid hr
          clear hb hr k0 k1 k2 k3
          go_wp2_with fail
          refine (CG.out WD _ _ _ _ _ _ HrD.out).mono ?_
          rintro e WE ⟨rfl, hb⟩
          have LE : Hid (Le wc WE) := LD.out.trans hb
          have LAE : Hid (Le WA WE) := LAB.out.trans (LBD.out.trans hb)
          have g1 : decide (q1 < 0) = false := decide_eq_false (by have := HQ.out; omega)
          have g2 : decide (t < q1) = false := decide_eq_false (by have := HQ.out; omega)
          clear hb HrD CG
          go_wp2_with fail
          go_loopw [27, 28, 29] (fun i _ _ wr => ∃ k : Nat, k ≤ l2.length ∧ i = .int .i64 k ∧ Le WE wr) (fun i _ _ _ => l2.length - (intOf i).toNat)
          case atStart => exact ⟨0, by omega, rfl, Le.refl _⟩
          case round =>
            rename World => Y0
            obtain ⟨k, hk, rfl, hbw⟩ := hrel
            have LY : Hid (Le WE Y0) := hbw
            clear hbw
            by_cases hlt : k < l2.length
            · have hki : decide ((k : Int) < (l2.length : Int)) = true := decide_eq_true (by omega)
              have hkn : decide (k < l2.length) = true := decide_eq_true hlt
              have hk0' : decide (0 ≤ (k : Int)) = true := decide_eq_true (by omega)
              obtain ⟨hfit, hhi⟩ := Hl2.out k hlt
              have hl1000 := Hlen2.out
              have hl1001 := Hlen.out
              obtain ⟨b8, o8, rfl, _, _, _⟩ := (HL2.out Y0 (LAE.out.trans LY.out)).rng hlt
              obtain ⟨r, hr⟩ : ∃ r, at0 l2 k = r := ⟨_, rfl⟩
              have Hr := Lib.hid hr
              rw [hr] at hfit hhi
              have Hfit := Lib.hid hfit
              have Hhi := Lib.hid hhi
              clear hr hfit hhi
              go_wp2_with fail
              go_loopw [28, 29] (fun f i wr => ∃ j : Nat, j ≤ ls.length ∧ i = .int .i64 j ∧ f = .bool (fitK r ls j) ∧ Le WE wr) (fun _ i _ => ls.length - (intOf i).toNat)
              case atStart => exact ⟨0, by omega, rfl, rfl, LY.out⟩
              case round =>
                rename World => Y1
                obtain ⟨j, hj, rfl, rfl, hbw⟩ := hrel
                have LY1 : Hid (Le WE Y1) := hbw
                clear hbw
                obtain ⟨b9, o9, h9, _, x0, x1⟩ := (HL2.out Y1 (LAE.out.trans LY1.out)).rng hlt
                obtain ⟨rfl, rfl⟩ : b8 = b9 ∧ o8 = o9 := by injection h9 with h9; injection h9 with h1 h2; exact ⟨h1, h2⟩
                rw [Hr.out] at x0 x1
                by_cases hjn : j < ls.length
                · have hji : decide ((j : Int) < (ls.length : Int)) = true := decide_eq_true (by omega)
                  have hjn2 : decide (j < ls.length) = true := decide_eq_true hjn
                  have hj0' : decide (0 ≤ (j : Int)) = true := decide_eq_true (by omega)
                  obtain ⟨b4, o4, rfl, _, z0, z1⟩ := (HS.out Y1 (LC3.out.trans (LE.out.trans LY1.out))).rng hjn
                  have hfk : Hid (fitK r ls (j + 1) = (fitK r ls j || (decide ((at0 ls j).lo ≤ r.lo) && decide (r.hi ≤ (at0 ls j).hi)))) := rfl
                  obtain ⟨s, hs⟩ : ∃ s, at0 ls j = s := ⟨_, rfl⟩
                  rw [hs] at z0 z1 hfk
                  have y0 := ovr_cell x0
                  have y1 := ovr_cell x1
                  have y2 := ovr_cell z0
                  have y3 := ovr_cell z1
                  clear hs h9 x0 x1 z0 z1
                  go_upto_region 43 with (fail)
                  rcases hB : fitK r ls j with _ | _
                  · by_cases h1 : s.lo ≤ r.lo
                    · have e1 : decide (s.lo ≤ r.lo) = true := decide_eq_true h1
                      have Hf : Hid (fitK r ls (j + 1) = decide (r.hi ≤ s.hi)) := by show _ = _; rw [hfk.out, hB, e1]; simp
                      clear h1 hB
                      refine wp_region_below_lit (by kernel_rfl) (by kernel_rfl) ?_
                      repeat (go_big_quiet_step (fail))
                      refine wpQuiet_nil ?_
                      intro w' hb
                      have LB' : Hid (Le WE w') := LY1.out.trans hb
                      clear hb y0 y1 y2 y3 hji hjn2 hj0'
                      go_wp2_with fail
                      go_roundw
                      case rel => exact ⟨j + 1, by omega, by go_num, by rw [Hf.out], LB'.out⟩
                      case measure => simp only [intOf]; omega
                    · have e1 : decide (s.lo ≤ r.lo) = false := decide_eq_false h1
                      have Hf : Hid (fitK r ls (j + 1) = false) := by show _ = _; rw [hfk.out, hB, e1]; simp
                      clear h1 hB
                      refine wp_region_below_lit (by kernel_rfl) (by kernel_rfl) ?_
                      repeat (go_big_quiet_step (fail))
                      refine wpQuiet_nil ?_
                      intro w' hb
                      have LB' : Hid (Le WE w') := LY1.out.trans hb
                      clear hb y0 y1 y2 y3 hji hjn2 hj0'
                      go_wp2_with fail
                      go_roundw
                      case rel => exact ⟨j + 1, by omega, by go_num, by rw [Hf.out], LB'.out⟩
                      case measure => simp only [intOf]; omega
                  · have Hf : Hid (fitK r ls (j + 1) = true) := by show _ = _; rw [hfk.out, hB]; simp
                    clear hB
                    refine wp_region_below_lit (by kernel_rfl) (by kernel_rfl) ?_
                    repeat (go_big_quiet_step (fail))
                    refine wpQuiet_nil ?_
                    intro w' hb
                    have LB' : Hid (Le WE w') := LY1.out.trans hb
                    clear hb y0 y1 y2 y3 hji hjn2 hj0'
                    go_wp2_with fail
                    go_roundw
                    case rel => exact ⟨j + 1, by omega, by go_num, by rw [Hf.out], LB'.out⟩
                    case measure => simp only [intOf]; omega
                · obtain rfl : j = ls.length := by omega
                  have hji : decide ((ls.length : Int) < (ls.length : Int)) = false := decide_eq_false (by omega)
                  rw [Hfit.out]
                  have y0 := ovr_cell x0
                  have y1 := ovr_cell x1
                  have y2 := ovr_cell (HP.out Y1 (LC2.out.trans (LE.out.trans LY1.out)) 114 (by omega))
                  have hw : IntKind.i64.wrap (pt - p 114) = pt - p 114 := IntWalk.i64_in _ (by
                    have := Hpt.out
                    have := Hvp.out.slip
                    omega)
                  have e1 : decide (pt - p 114 < r.hi) = false := decide_eq_false (by have := Hhi.out; omega)
                  clear h9 x0 x1
                  go_upto_region 44 with (fail)
                  refine wp_region_below_lit (by kernel_rfl) (by kernel_rfl) ?_
                  repeat (go_big_quiet_step (fail))
                  refine wpQuiet_nil ?_
                  intro w' hb
                  have LB' : Hid (Le WE w') := LY1.out.trans hb
                  clear hb y0 y1 y2 hw e1 hji
                  go_wp2_with fail
                  go_roundw
                  case rel => exact ⟨k + 1, by omega, by go_num, LB'.out⟩
                  case measure => simp only [intOf]; omega
            · obtain rfl : k = l2.length := by omega
              have hki : decide ((l2.length : Int) < (l2.length : Int)) = false := decide_eq_false (by omega)
              go_wp2_with fail
              refine (known_any Y0).mono ?_
              rintro e WK ⟨rfl, hb⟩
              have LK : Hid (Below w.heap.size w WK) := HU.out _ ((LC2.out.trans (LE.out.trans LY.out)).trans hb)
              clear hb
              go_wp2_with fail
              go_ret
              exact ⟨rfl, LK.out⟩
end Go.Proofs.Ytlebefopdnadaaa
