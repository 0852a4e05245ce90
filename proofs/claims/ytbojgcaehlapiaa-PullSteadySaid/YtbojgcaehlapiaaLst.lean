/- The walk of the law PullSteady. -/
import Derived.Test.YtbojgcaehlapiaaSe
import Derived.Test.YtbojgcaehlapiaaSc
import Derived.Test.YtbojgcaehlapiaaKwa
import Derived.Test.YtbojgcaehlapiaaJo
import Derived.DeepKeys
import Derived.ChangeKeysEq
namespace Go.Proofs.Ytbojgcaehlapiaa.Un
open Go.RowKit
theorem load_grow {w : World} {g : Nat} {p : Vec} {o : Oper} {a : Act} {x : Operand} (ho : o.op = .load 30 x) (hx : a.eval x = .pointer (some ⟨g, 0, none⟩)) (h : ∀ j, j < 117 → w.cell? ⟨g, 0 + j, none⟩ = some (I (p j))) : Oper.grows Try.prog o a w (fun u _ => u = .agg (ia 117 p)) := by
  unfold Oper.grows
  rw [load_ia_at ho hx (range_ia h)]
  exact ⟨Le.refl w, fun _ _ => rfl⟩
def OwnF (R : Run) (u : Value) (w : World) : Prop := ∃ A1 A2 A3 c1 c2 c3, u = runV A1 A2 A3 c1 c2 c3 R ∧ RunIn w A1 A2 A3 R ∧ R.ms.length ≤ c2
theorem own_grow {P : Program} {f : FuncId} {args : Array Value} {w : World} {R : Run} (h : Calls P f args w (RetOwn w R)) : Calls P f args w fun e w' => ∃ u, e = .returned u ∧ Le w w' ∧ Box (OwnF R) u w' :=
  h.mono fun _ _ ⟨A1, A2, A3, c1, c2, c3, he, hr, hc, hb⟩ => ⟨_, he, hb, fun _ hl => ⟨A1, A2, A3, c1, c2, c3, rfl, ⟨(hr.s.below hl).more hl.size, (hr.m.below hl).more hl.size, (hr.e.below hl).more hl.size, hr.ls, hr.lm, hr.le⟩, hc⟩⟩
theorem wpList_load_ia_on {P : Program} {ops : Array Oper} {rest : List Oper} {o : Oper} {a : Act} {w : World} {Q : Exit → Act → World → Prop} (hgd : Region.wanted o (yielded ops a.tmps) = true) (ty : TypeId) (x : Operand) (ho : o.op = .load ty x)
    (g i : Nat) (hx : a.eval x = .pointer (some ⟨g, i, none⟩)) (m : Nat) (f : Vec) (d : TypeDesc) (hg : ∀ j, j < m → w.cell? ⟨g, i + j, none⟩ = some (I (f j)))
    (hu : P.underlying ty = some d) (hd : (match d with | .struct _ | .array _ _ => true | _ => false) = true) (hi : (P.info? ty).map (·.size) = some m)
    (h : wpList P ops Q rest (a.put o.dst (.agg (ia m f))) w) : wpList P ops Q (o :: rest) a w := by
  refine wpList_step fun K hK => ?_
  rw [if_pos hgd]
  have hl := run_loadCells (P := P) w ⟨g, i, none⟩ m (fun j => I (f j)) (fun j hj => by rw [addr_add]; exact hg j hj)
  have hrun : (loadVar ty ⟨g, i, none⟩).run P w = .ok (.agg (ia m f)) w := by
    cases hq : P.info? ty with
    | none => simp [hq] at hi
    | some q =>
      have hs : q.size = m := by simpa [hq] using hi
      have hagg : (isAgg ty).run P w = .ok true w := by
        unfold isAgg
        rw [Sem.run_bind, run_underlying hu w]
        cases d <;> simp_all
      simp [loadVar, Sem.run_bind, hagg, sizeOf, typeInfo, hq, hs, hl, ia]
  unfold Oper.wp execOp
  simp only [ho, hx, Instr.loadAt, Instr.sureAddr, Sem.run_bind, Sem.run_pure, Result.andThen_ok, hrun]
  exact hK _ _ h
/-- A store of some cells within a block. -/
theorem wpList_store_part {P : Program} {ops : Array Oper} {rest : List Oper} {o : Oper} {a : Act} {w : World} {Q : Exit → Act → World → Prop} (hgd : o.guard = none) (ty : TypeId) (x y : Operand) (ho : o.op = .store ty x y)
    (b k m : Nat) (hx : a.eval x = .pointer (some ⟨b, k, none⟩)) (cs cs' news : Array Value) (t : TypeId) (hg : w.heap[b]? = some (.cells cs t (0, 0))) (hk : k + m ≤ cs.size) (v : Value) (hv : v.cells = news) (hm : news.size = m) (h1 : ∀ u ∈ news.toList, u.oneCell' = true) (hy : a.eval y = v) (hi : (P.info? ty).map (·.size) = some m)
    (hcs : (cs.toList.take k ++ news.toList ++ cs.toList.drop (k + m)).toArray = cs')
    (h : wpList P ops Q rest (a.put o.dst undef) (w.setRow b cs')) : wpList P ops Q (o :: rest) a w := by
  refine wpList_plain hgd fun _ hK => ?_
  have hst := run_storeCells_at (P := P) b k t news.toList 0 cs w hg (by rw [Array.length_toList, hm]; omega) h1
  rw [Nat.add_zero, Array.length_toList, hm, hcs] at hst
  have hrun : (storeVar ty ⟨b, k, none⟩ v).run P w = .ok () (w.setRow b cs') := by
    cases hq : P.info? ty with
    | none => simp [hq] at hi
    | some i =>
      have hs' : i.size = m := by simpa [hq] using hi
      simp only [storeVar, Sem.run_bind, sizeOf, typeInfo, hv]
      simp [hq, hs', hm, Sem.run_bind] at hst ⊢
      exact hst
  unfold Oper.wp execOp
  simp only [ho, hx, hy, Instr.storeAt, Instr.sureAddr, Sem.run_bind, Sem.run_pure, Result.andThen_ok, hrun]
  exact hK _ _ h
/-- The cells of a drive. -/
abbrev dvA (g h : Rng) (s : Stg) (A : Option Addr) (n c : Nat) : Array Value := #[I g.lo, I g.hi, I h.lo, I h.hi, I s.t, I s.ph, I (s.v 0), I (s.v 1), I (s.v 2), I (s.v 3), I (s.v 4), I (s.v 5), .slice A n c]
theorem eq_one (xs ys : Array Value) (i : Nat) (a : Int) (hx : xs[i]? = some (I a)) (hy : ys[i]? = some (I a)) (rest : List Nat) (W : World) :
    (Op.eqItems 9998 3 1 xs ys (i :: rest)).run Try.prog W = (Op.eqItems 9998 3 1 xs ys rest).run Try.prog W := by
  have hp : Program.plainKey Try.prog 3 = true := by kernel_rfl
  have h1 := run_part_plain (P := Try.prog) W hp (off := i * 1) (by rw [Nat.mul_one]; exact hx)
  have h2 := run_part_plain (P := Try.prog) W hp (off := i * 1) (by rw [Nat.mul_one]; exact hy)
  have h3 := run_equalIn_int (P := Try.prog) W 9997 3 .i64 .i64 a a Try.underlying3
  simp only [Op.eqItems, Sem.run_bind, h1, h2, h3, Result.andThen_ok]
  simp
theorem eq6 (a b c d e f : Int) (W : World) : (Op.equalIn 9999 25 (.agg #[I a, I b, I c, I d, I e, I f]) (.agg #[I a, I b, I c, I d, I e, I f])).run Try.prog W = .ok true W := by
  have hinfo : (Try.prog.info? 3).map (fun i => i.size) = some 1 := by kernel_rfl
  obtain ⟨i, hi, hs⟩ := Option.map_eq_some_iff.1 hinfo
  rw [run_equalIn_array (P := Try.prog) W 9998 _ _ Try.underlying25 hi]
  have hc : Try.prog.cellsOf 3 = 1 := by unfold Program.cellsOf; rw [hi]; exact hs
  simp only [hc, show List.range 6 = [0, 1, 2, 3, 4, 5] from rfl]
  rw [eq_one _ _ 0 a rfl rfl, eq_one _ _ 1 b rfl rfl, eq_one _ _ 2 c rfl rfl, eq_one _ _ 3 d rfl rfl, eq_one _ _ 4 e rfl rfl, eq_one _ _ 5 f rfl rfl]
  rfl
theorem runIn_over {w w' : World} {A1 A2 A3 : Option Addr} {R : Run} (hr : RunIn w A1 A2 A3 R) (hl : Below w.heap.size w w') : RunIn w' A1 A2 A3 R := ⟨(hr.s.below hl).more hl.size, (hr.m.below hl).more hl.size, (hr.e.below hl).more hl.size, hr.ls, hr.lm, hr.le⟩
theorem own_new {w : World} {base b sz : Nat} {e : TypeId} {cs : Array Value} {xs : List Value} (h : w.heap[b]? = some (.cells cs e (0, 0))) (hs : cs.size = sz) (hx : cs.toList = xs) (hb : base ≤ b) : w.ownsRow base e sz (.slice (some ⟨b, 0, none⟩) 1 1) 1 xs := by
  subst hx
  refine ⟨by rw [Array.length_toList, hs, Nat.one_mul], .inr ⟨b, 1, cs, rfl, hb, h, Nat.le_refl _, by unfold maxLen; omega, by rw [hs, Nat.one_mul], ?_⟩⟩
  rw [Nat.one_mul, ← hs, ← Array.length_toList, List.take_length]
/-- The run that is steered, as it lies in memory after i steps. -/
def StP (V : World) (RB : Nat) (q : Vec) (g h : Rng) (s0 : Stg) (z : Nat → Nat → Int) (i : Nat) (w : World) : Prop :=
  ∃ v, w.heap[RB]? = some (.cells #[v, I 100000, .slice none 0 0, .slice none 0 0] 48 (0, 0)) ∧ w.ownsRow V.heap.size 37 8 v (i + 1) (flat 8 (rS (ssQ q g h s0 z i)) (i + 1)) ∧ v.ownBlock ≠ some RB ∧ Below V.heap.size V w ∧ (0 < i → (badG g || badG h) = false)
theorem StP.run {V : World} {RB : Nat} {q : Vec} {g h : Rng} {s0 : Stg} {z : Nat → Nat → Int} {i : Nat} {w : World} (hs : StP V RB q g h s0 z i w) (hi : i ≤ 40) : ∃ A c, w.heap[RB]? = some (.cells #[.slice A (i + 1) c, I 100000, .slice none 0 0, .slice none 0 0] 48 (0, 0)) ∧ RunIn w A none none (rnQ q g h s0 z i) ∧ w.ownsRow V.heap.size 37 8 (.slice A (i + 1) c) (i + 1) (flat 8 (rS (ssQ q g h s0 z i)) (i + 1)) ∧ (Value.slice A (i + 1) c).ownBlock ≠ some RB := by
  obtain ⟨v, h1, h2, h3, h4, h5⟩ := hs
  obtain ⟨A, c, rfl, hr⟩ := Rd.of_own h2
  refine ⟨A, c, h1, ⟨?_, Rd.nil, Rd.nil, ?_, by simp, by simp⟩, h2, h3⟩
  · rw [show (rnQ q g h s0 z i).ss.length = i + 1 from ssQ_len q g h s0 z i]; exact hr
  · rw [show (rnQ q g h s0 z i).ss.length = i + 1 from ssQ_len q g h s0 z i]; omega
theorem StP.over {V : World} {RB : Nat} {q : Vec} {g h : Rng} {s0 : Stg} {z : Nat → Nat → Int} {i : Nat} {w w' : World} (hs : StP V RB q g h s0 z i w) (hb : Below w.heap.size w w') : StP V RB q g h s0 z i w' := by
  obtain ⟨v, h1, h2, h3, h4, h5⟩ := hs
  exact ⟨v, (hb.block _ (Array.getElem?_eq_some_iff.1 h1).1).trans h1, own_below h2 hb, h3, h4.trans (hb.mono h4.size), h5⟩
theorem cells_row {w : World} {b : Nat} {cs : Array Value} {t : TypeId} (h : w.heap[b]? = some (.cells cs t (0, 0))) : ∀ j u, cs.toList[j]? = some u → w.cell? ((⟨b, 0, none⟩ : Addr).add j) = some u := fun j u hj => by
  rw [addr_add, Nat.zero_add, cell_of_row _ _ _ _ _ _ h, ← Array.getElem?_toList]
  exact hj
theorem flat_ssQ (q : Vec) (g h : Rng) (s0 : Stg) (z : Nat → Nat → Int) (k : Nat) (s1 : Stg) (h1 : s1 = sqQ q g h s0 z (k + 1)) : flat 8 (rS (ssQ q g h s0 z (k + 1))) (k + 1 + 1) = flat 8 (rS (ssQ q g h s0 z k)) (k + 1) ++ [I s1.t, I s1.ph, I (s1.v 0), I (s1.v 1), I (s1.v 2), I (s1.v 3), I (s1.v 4), I (s1.v 5)] := by
  rw [flat_succ 8 (by decide), flat_congr (g' := rS (ssQ q g h s0 z k)) (fun i hi j _ => by unfold rS; rw [ssQ_at q g h s0 z (by omega), ssQ_at q g h s0 z (by omega)])]
  congr 1
  subst h1
  show (List.range 8).map (fun j => (at0 (ssQ q g h s0 z (k + 1)) (k + 1)).c j) = _
  rw [ssQ_at q g h s0 z (Nat.le_refl _)]
  rfl
/-- The run after one append more. -/
theorem StP.more {V : World} {RB : Nat} {q : Vec} {g h : Rng} {s0 : Stg} {z : Nat → Nat → Int} {k : Nat} {W w' : World} {v v' : Value} (hRV : V.heap.size ≤ RB) (hb : Below V.heap.size V W) (hrow : W.heap[RB]? = some (.cells #[v, I 100000, .slice none 0 0, .slice none 0 0] 48 (0, 0))) (hnb : v.ownBlock ≠ some RB) (hlo : ∀ b, v.ownBlock = some b → V.heap.size ≤ b)
    (ho : w'.ownsRow V.heap.size 37 8 v' (k + 1 + 1) (flat 8 (rS (ssQ q g h s0 z (k + 1))) (k + 1 + 1))) (hg : W.grownBy w' v.ownBlock) (hob : v'.ownBlock = v.ownBlock ∨ v'.ownBlock = some W.heap.size) (hgb : (badG g || badG h) = false) :
    StP V RB q g h s0 z (k + 1) (w'.setRow RB #[v', I 100000, .slice none 0 0, .slice none 0 0]) ∧ w'.heap[RB]? = some (.cells #[v, I 100000, .slice none 0 0, .slice none 0 0] 48 (0, 0)) := by
  have hlt := (Array.getElem?_eq_some_iff.1 hrow).1
  have hr' : w'.heap[RB]? = some (.cells #[v, I 100000, .slice none 0 0, .slice none 0 0] 48 (0, 0)) := (hg.block RB hlt (fun e => hnb e.symm)).trans hrow
  have hne : v'.ownBlock ≠ some RB := by
    rcases hob with e | e
    · rw [e]; exact hnb
    · rw [e]; intro he; injection he with he; omega
  have hb' : Below V.heap.size V w' := hb.grown hg hb.size hlo
  refine ⟨⟨v', setRow_same hr', ?_, hne, below_setRow hb' hRV _, fun _ => hgb⟩, hr'⟩
  refine ⟨ho.1, ?_⟩
  rcases ho.2 with h1 | ⟨b, cap, cur, e, h1, h2, h3⟩
  · exact .inl h1
  · refine .inr ⟨b, cap, cur, e, h1, ?_, h3⟩
    rw [setRow_other (fun he => hne (by rw [e, ← he]; rfl))]
    exact h2
theorem ssQ_zero (q : Vec) (g h : Rng) (s0 : Stg) (z : Nat → Nat → Int) : ssQ q g h s0 z 0 = [s0] := rfl
set_option maxRecDepth 100000 in
set_option maxHeartbeats 4000000 in
theorem pullSteady_any (p : Vec) (g h : Rng) (s : Stg) (A : Option Addr) (n c : Nat) (z : Nat → Nat → Int) (w : World) (hx : Rd w w.heap.size 3 A n (fun k j => .int .u16 (z k j))) (hz : ∀ k, k < n → ∀ j, j < 3 → 0 ≤ z k j ∧ z k j ≤ 65535) :
    Calls Try.prog 3 #[.agg (ia 117 p), .agg (dvA g h s A n c)] w fun e w' => e = .returned (.bool true) ∧ Below w.heap.size w w' := by
  have c5 := Lib.hid fun W => checkPuller_any p W
  have ck := Lib.hid fun W => known_any W
  obtain ⟨W, hW⟩ : ∃ W, W = (w.alloc (.cells (ia 117 p) 30)).alloc (.cells (dvA g h s A n c) 40) := ⟨_, rfl⟩
  obtain ⟨PB, hPB⟩ : ∃ x, x = w.heap.size := ⟨_, rfl⟩
  obtain ⟨DB, hDB⟩ : ∃ x, x = w.heap.size + 1 := ⟨_, rfl⟩
  have rP : W.heap[PB]? = some (.cells (ia 117 p) 30 (0, 0)) := by rw [hW, hPB]; exact heap_before (heap_last _ _ _ rfl)
  have rD : W.heap[DB]? = some (.cells (dvA g h s A n c) 40 (0, 0)) := by rw [hW, hDB]; exact heap_last _ _ _ (by simp)
  have hwW : Below w.heap.size w W := by rw [hW]; exact ((Below.refl _ _).alloc (Nat.le_refl _) _).alloc (by simp) _
  have hsz : W.heap.size = w.heap.size + 2 := by rw [hW]; simp
  have HW := Lib.hid hW
  have HPB := Lib.hid hPB
  have HDB := Lib.hid hDB
  have HWW := Lib.hid hwW
  have HSZ := Lib.hid hsz
  have RP := Lib.hid rP
  have RD := Lib.hid rD
  clear hW hwW hsz rP rD
  go_enter Try.func3, Try.ntmps3
  go_upto_region 1 with (fail)
  rw [← hDB, ← hPB, ← HW.out]
  clear hPB hDB
  obtain ⟨u0, hu0⟩ := ovr_self W
  have yd : ∀ j v, (dvA g h s A n c)[j]? = some v → ∀ u, (ovr W u).cell? ⟨DB, j, none⟩ = some v := fun j v hj u => by
    rw [cell_of_row _ _ _ _ _ _ (ovr_row RD.out u)]; exact hj
  have YD := Lib.hid yd
  have y12 := yd 12 _ rfl
  have y5 := yd 5 _ rfl
  clear yd
  have HP : Hid (∀ V, Below W.heap.size W V → ∀ j, j < 117 → V.cell? ⟨PB, 0 + j, none⟩ = some (I (p j))) := fun V hV j hj => by
    rw [Nat.zero_add, cell_of_row _ _ _ _ _ _ ((hV.block _ (Array.getElem?_eq_some_iff.1 RP.out).1).trans RP.out)]
    exact ia_get hj
  rw [hu0]
  clear hu0
  have out : Hid (∀ V, Below W.heap.size W V → Below w.heap.size w V) := fun V hV => HWW.out.trans (hV.mono HWW.out.size)
  by_cases hn : n ≤ 40
  case neg =>
    have d1 : decide ((40 : Int) < (n : Int)) = true := decide_eq_true (by omega)
    go_wp2_with fail
    refine (ck.out _).mono ?_
    rintro e w1 ⟨rfl, hb1⟩
    obtain ⟨u1, rfl⟩ := ovr_next hb1
    clear hb1
    go_wp2_with fail
    go_ret
    exact ⟨rfl, out.out _ (ovr_below W u1)⟩
  have d1 : decide ((40 : Int) < (n : Int)) = false := decide_eq_false (by omega)
  rcases hp : okPuller p with _ | _
  case false =>
    go_wp2_with (with_reducible show wpList _ _ _ _ _ _; refine wpList_load_ia_on (by first | rfl | kernel_rfl) 30 _ rfl PB 0 rfl 117 p _ (HP.out _ (ovr_below _ _)) Try.underlying30 rfl (by kernel_rfl) ?_)
    refine (c5.out _).mono ?_
    rw [hp]
    rintro e w1 ⟨rfl, hb1⟩
    obtain ⟨u1, rfl⟩ := ovr_next hb1
    clear hb1
    go_wp2_with fail
    refine (ck.out _).mono ?_
    rintro e w1 ⟨rfl, hb1⟩
    obtain ⟨u2, rfl⟩ := ovr_next hb1
    clear hb1
    go_wp2_with fail
    go_ret
    exact ⟨rfl, out.out _ (ovr_below W u2)⟩
  by_cases hph : s.ph = 1
  case neg =>
    go_wp2_with (with_reducible show wpList _ _ _ _ _ _; refine wpList_load_ia_on (by first | rfl | kernel_rfl) 30 _ rfl PB 0 rfl 117 p _ (HP.out _ (ovr_below _ _)) Try.underlying30 rfl (by kernel_rfl) ?_)
    refine (c5.out _).mono ?_
    rw [hp]
    rintro e w1 ⟨rfl, hb1⟩
    obtain ⟨u1, rfl⟩ := ovr_next hb1
    clear hb1
    go_wp2_with fail
    refine (ck.out _).mono ?_
    rintro e w1 ⟨rfl, hb1⟩
    obtain ⟨u2, rfl⟩ := ovr_next hb1
    clear hb1
    go_wp2_with fail
    go_ret
    exact ⟨rfl, out.out _ (ovr_below W u2)⟩
  go_upto_block 0 with (with_reducible show wpList _ _ _ _ _ _; refine wpList_load_ia_on (by first | rfl | kernel_rfl) 30 _ rfl PB 0 rfl 117 p _ (HP.out _ (ovr_below _ _)) Try.underlying30 rfl (by kernel_rfl) ?_)
  refine (c5.out _).mono ?_
  rw [hp]
  rintro e w1 ⟨rfl, hb1⟩
  obtain ⟨u1, rfl⟩ := ovr_next hb1
  clear hb1
  go_wp2_with fail
  have hq0 : (ovr W u1).heap[PB]? = some (.cells (ia 117 (rqK p 0)) 30 (0, 0)) := by rw [rqK_zero]; exact ovr_row RP.out u1
  have hd0 : (ovr W u1).heap[DB]? = some (.cells (dvA g h s A n c) 40 (0, 0)) := ovr_row RD.out u1
  have hb0 : Below w.heap.size w (ovr W u1) := out.out _ (ovr_below W u1)
  have hPD : Hid (PB ≠ DB) := by rw [HPB.out, HDB.out]; exact Nat.ne_of_lt (Nat.lt_succ_self _)
  have hwP : Hid (w.heap.size ≤ PB) := by rw [HPB.out]; exact Nat.le_refl _
  have hwD : Hid (w.heap.size ≤ DB) := by rw [HDB.out]; exact Nat.le_succ _
  generalize ovr W u1 = V0 at *
  have HQ0 := Lib.hid hq0
  have HD0 := Lib.hid hd0
  have HB0 := Lib.hid hb0
  have Hp := Lib.hid hp
  have Hph := Lib.hid hph
  clear hq0 hd0 hb0 y5 y12 d1 HP out YD hp hph
  go_loopw [5] (fun i wr => ∃ k : Nat, k ≤ 5 ∧ i = .int .i64 k ∧ wr.heap[PB]? = some (.cells (ia 117 (rqK p k)) 30 (0, 0)) ∧ wr.heap[DB]? = some (.cells (dvA g h s A n c) 40 (0, 0)) ∧ Below w.heap.size w wr) (fun i _ => 5 - (intOf i).toNat)
  case atStart => exact ⟨0, by omega, rfl, HQ0.out, HD0.out, HB0.out⟩
  case round =>
    obtain ⟨k, hk5, rfl, hq, hd, hb⟩ := hrel
    have HQ := Lib.hid hq
    have HD := Lib.hid hd
    have HB := Lib.hid hb
    clear hq hd hb HQ0 HD0 HB0
    by_cases hlt : k < 5
    · have d2 : decide ((k : Int) < 5) = true := decide_eq_true (by omega)
      have HK5 := Lib.hid hlt
      go_upto_region 5 with (with_reducible show wpList _ _ _ _ _ _; first | (refine wpList_store_ia rfl 23 _ _ rfl PB (k * 22 + 18) 117 2 rfl (rqK p k) (fun i => if i = 0 then 0 else 100000) 30 HQ.out (by have := HK5.out; omega) (.agg #[I 0, I 100000]) rfl rfl (by kernel_rfl) ?_) | (refine wpList_store_ia rfl 23 _ _ rfl PB (k * 22 + 20) 117 2 rfl _ (fun i => if i = 0 then 0 else 10000000000) 30 (setRow_same HQ.out) (by have := HK5.out; omega) (.agg #[I 0, I 10000000000]) rfl rfl (by kernel_rfl) ?_))
      go_wp2_with fail
      have hrow : ia 117 (ovw (ovw (rqK p k) (k * 22 + 18) 2 fun i => if i = 0 then 0 else 100000) (k * 22 + 20) 2 fun i => if i = 0 then 0 else 10000000000) = ia 117 (rqK p (k + 1)) := rqK_step p k _ _ rfl rfl rfl rfl
      rw [hrow]
      refine ⟨⟨k + 1, by omega, rfl, setRow_same (setRow_same HQ.out), ?_, below_setRow (below_setRow HB.out hwP.out _) hwP.out _⟩, ?_⟩
      · exact (setRow_other hPD.out.symm).trans ((setRow_other hPD.out.symm).trans HD.out)
      · simp [intOf]; omega
    · have hk : k = 5 := by omega
      subst hk
      go_upto_region 7 with fail
      go_step
      go_step
      go_step
      go_step
      go_step
      go_step
      go_step
      refine wpList_store_part rfl 3 _ _ rfl DB 4 1 rfl (dvA g h s A n c) (dvA g h ⟨0, s.ph, s.v⟩ A n c) #[I 0] 40 HD.out (by show 5 ≤ 13; omega) (I 0) rfl rfl (one1 rfl) rfl (by kernel_rfl) rfl ?_
      go_upto_region 8 with fail
      refine name_w fun V hV => ?_
      have vP : V.heap[PB]? = some (.cells (ia 117 (rqK p 5)) 30 (0, 0)) := by rw [hV]; exact (setRow_other hPD.out).trans HQ.out
      have vD : V.heap[DB]? = some (.cells (dvA g h ⟨0, s.ph, s.v⟩ A n c) 40 (0, 0)) := by rw [hV]; exact setRow_same HD.out
      have vB : Below w.heap.size w V := by rw [hV]; exact below_setRow HB.out hwD.out _
      clear hV HQ HD HB
      obtain ⟨s0, hs0⟩ : ∃ s0 : Stg, s0 = ⟨0, s.ph, s.v⟩ := ⟨_, rfl⟩
      rw [← hs0] at vD
      have hs0t : s0.t = 0 := by rw [hs0]
      have hs0p : s0.ph = 1 := by rw [hs0]; exact Hph.out
      clear hs0 Hph
      have hp5 : Hid (okPuller (rqK p 5) = true) := rq_ok Hp.out
      generalize rqK p 5 = q at *
      have HS0t := Lib.hid hs0t
      have HS0p := Lib.hid hs0p
      have VP := Lib.hid vP
      have VD := Lib.hid vD
      have VB := Lib.hid vB
      clear hs0t hs0p vP vD vB Hp
      have yd : ∀ j v, (dvA g h s0 A n c)[j]? = some v → ∀ u, (ovr V u).cell? ⟨DB, j, none⟩ = some v := fun j v hj u => by
        rw [cell_of_row _ _ _ _ _ _ (ovr_row VD.out u)]; exact hj
      have YD := Lib.hid yd
      have y4 := yd 4 _ rfl
      have y5 := yd 5 _ rfl
      have y6 := yd 6 _ rfl
      have y7 := yd 7 _ rfl
      have y8 := yd 8 _ rfl
      have y9 := yd 9 _ rfl
      have y10 := yd 10 _ rfl
      have y11 := yd 11 _ rfl
      clear yd
      obtain ⟨u0, hu0⟩ := ovr_self V
      rw [hu0]
      clear hu0
      go_upto_region 9 with fail
      obtain ⟨SB, hSB⟩ : ∃ x, x = (ovr V u0).heap.size := ⟨_, rfl⟩
      rw [← hSB]
      refine name_w fun X hX => ?_
      have xS : X.heap[SB]? = some (.cells #[I s0.t, I s0.ph, I (s0.v 0), I (s0.v 1), I (s0.v 2), I (s0.v 3), I (s0.v 4), I (s0.v 5)] 37 (0, 0)) := by rw [hX]; exact heap_before (heap_last _ _ _ hSB)
      have xR : X.heap[SB + 1]? = some (.cells #[.slice (some ⟨SB, 0, none⟩) 1 1, I 100000, .slice none 0 0, .slice none 0 0] 48 (0, 0)) := by rw [hX]; exact heap_last _ _ _ (by rw [hSB]; simp)
      have xB : Below V.heap.size V X := by rw [hX]; exact ((ovr_below V u0).alloc (ovr_below V u0).size _).alloc (by have := (ovr_below V u0).size; simp; omega) _
      have xV : V.heap.size ≤ SB := by rw [hSB]; exact (ovr_below V u0).size
      clear hX hSB y4 y5 y6 y7 y8 y9 y10 y11
      obtain ⟨RB, hRB⟩ : ∃ x, x = SB + 1 := ⟨_, rfl⟩
      rw [← hRB] at xR
      rw [← hRB]
      have hSt : Hid (StP V RB q g h s0 z 0 X) := ⟨_, xR, own_new xS rfl rfl xV, by rw [hRB]; simp [Value.ownBlock], xB, fun h => absurd h (by omega)⟩
      have xr : RunIn X (some ⟨SB, 0, none⟩) none none ⟨[s0], 100000, [], []⟩ := by
        obtain ⟨A', c', h1, h2, _⟩ := hSt.out.run (by omega)
        rw [xR] at h1
        simp only [Option.some.injEq, Obj.cells.injEq, Array.mk.injEq, List.cons.injEq, Value.slice.injEq] at h1
        obtain ⟨rfl, _⟩ := h1.1.1
        exact h2
      have HXV := Lib.hid xV
      have HRB := Lib.hid hRB
      have XB := Lib.hid xB
      have XR := Lib.hid xr
      clear xS xV hRB xB xr
      have yX00 := ovr_cell (W := X) (b := RB) (o := 0) (v := .slice (some ⟨SB, 0, none⟩) 1 1) (by rw [cell_of_row _ _ _ _ _ _ xR]; rfl)
      have zX00 : ∀ u, (ovr X u).frozen? ⟨RB, 0, none⟩ = false := fun u => frozen_of_row _ _ _ _ _ (ovr_row xR u)
      have yX01 := ovr_cell (W := X) (b := RB) (o := 1) (v := I 100000) (by rw [cell_of_row _ _ _ _ _ _ xR]; rfl)
      have zX01 : ∀ u, (ovr X u).frozen? ⟨RB, 1, none⟩ = false := fun u => frozen_of_row _ _ _ _ _ (ovr_row xR u)
      have yX02 := ovr_cell (W := X) (b := RB) (o := 2) (v := .slice none 0 0) (by rw [cell_of_row _ _ _ _ _ _ xR]; rfl)
      have zX02 : ∀ u, (ovr X u).frozen? ⟨RB, 2, none⟩ = false := fun u => frozen_of_row _ _ _ _ _ (ovr_row xR u)
      have yX03 := ovr_cell (W := X) (b := RB) (o := 3) (v := .slice none 0 0) (by rw [cell_of_row _ _ _ _ _ _ xR]; rfl)
      have zX03 : ∀ u, (ovr X u).frozen? ⟨RB, 3, none⟩ = false := fun u => frozen_of_row _ _ _ _ _ (ovr_row xR u)
      have RrowX0 := Lib.hid (ovr_row xR)
      clear xR
      have HUX : Hid (∀ u, Below w.heap.size w (ovr X u)) := fun u => VB.out.trans ((XB.out.trans ((ovr_below X u).mono XB.out.size)).mono VB.out.size)
      obtain ⟨u1, hu1⟩ := ovr_self X
      rw [hu1]
      clear hu1
      go_wp2_with fail
      refine (own_any (some ⟨SB, 0, none⟩) none none 1 0 0 ⟨[s0], 100000, [], []⟩ _ (runIn_over XR.out (ovr_below X u1))).mono ?_
      rintro e w1 ⟨A1, A2, A3, d1, d2, d3, rfl, hr, _, hb⟩
      obtain ⟨u2, rfl⟩ := ovr_next hb
      clear hb
      have HR := Lib.hid hr
      clear hr
      go_wp2_with fail
      refine (checkRun_any A1 A2 A3 d1 d2 d3 ⟨[s0], 100000, [], []⟩ _ HR.out).mono ?_
      have outX : Hid (∀ u, Below w.heap.size w (ovr X u)) := fun u => VB.out.trans ((XB.out.trans ((ovr_below X u).mono XB.out.size)).mono VB.out.size)
      rcases hok : okRun ⟨[s0], 100000, [], []⟩ with _ | _
      case false =>
        rintro e w1 ⟨rfl, hb1⟩
        obtain ⟨u3, rfl⟩ := ovr_next hb1
        clear hb1
        go_wp2_with fail
        refine (ck.out _).mono ?_
        rintro e w1 ⟨rfl, hb1⟩
        obtain ⟨u4, rfl⟩ := ovr_next hb1
        clear hb1
        go_wp2_with fail
        go_ret
        exact ⟨rfl, outX.out u4⟩
      rintro e w1 ⟨rfl, hb1⟩
      obtain ⟨u3, rfl⟩ := ovr_next hb1
      clear hb1
      go_upto_region 11 with fail
      have hRX : Hid (∀ V', Below X.heap.size X V' → RunIn V' (some ⟨SB, 0, none⟩) none none ⟨[s0], 100000, [], []⟩) := fun V' hV' => runIn_over XR.out hV'
      have hPX : Hid (∀ V', Below X.heap.size X V' → ∀ j, j < 117 → V'.cell? ⟨PB, 0 + j, none⟩ = some (I (q j))) := fun V' hV' j hj => by
        have h1 := XB.out.trans (hV'.mono XB.out.size)
        rw [Nat.zero_add, cell_of_row _ _ _ _ _ _ ((h1.block _ (Array.getElem?_eq_some_iff.1 VP.out).1).trans VP.out)]
        exact ia_get hj
      obtain ⟨r0, r1, r2, hbr⟩ : ∃ r0 r1 r2, obB q ⟨[s0], 100000, [], []⟩ = ⟨r0, r1, r2⟩ := ⟨_, _, _, rfl⟩
      have CO : Hid (∀ W E1 E2 E3 e1 e2 e3, RunIn W E1 E2 E3 ⟨[s0], 100000, [], []⟩ → Calls Try.prog 9 #[.agg (ia 117 q), runV E1 E2 E3 e1 e2 e3 ⟨[s0], 100000, [], []⟩] W fun e w' => e = .returned (.tuple #[.agg #[I r0, I r1, I r2], I 0]) ∧ Below W.heap.size W w') := fun W E1 E2 E3 e1 e2 e3 hr => by
        have := obeys_any E1 E2 E3 e1 e2 e3 q ⟨[s0], 100000, [], []⟩ W hr
        rw [hbr, hp5.out, hok] at this; exact this
      have HBR := Lib.hid hbr
      have HOK := Lib.hid hok
      clear hbr hok HR
      have hbY := ovr_below X u3
      obtain ⟨Y, hY⟩ : ∃ Y, Y = ovr X u3 := ⟨_, rfl⟩
      rw [← hY] at hbY
      rw [← hY]
      have hY' := Lib.hid hY
      clear hY
      have hbY' := Lib.hid hbY
      have reY : ∀ v, ∃ x, ovr Y v = ovr X x := fun v => ovr_reB hbY v
      replace yX00 := tr_cell reY yX00
      replace zX00 := tr_froz reY zX00
      replace yX01 := tr_cell reY yX01
      replace zX01 := tr_froz reY zX01
      replace yX02 := tr_cell reY yX02
      replace zX02 := tr_froz reY zX02
      replace yX03 := tr_cell reY yX03
      replace zX03 := tr_froz reY zX03
      replace RrowX0 := Lib.hid (tr_row reY RrowX0.out)
      have HUY : Hid (∀ u, Below w.heap.size w (ovr Y u)) := fun u => by obtain ⟨x, hx⟩ := reY u; rw [hx]; exact HUX.out x
      clear reY hbY
      have HQQ : Hid (∀ V', Below Y.heap.size Y V' → ∀ j, j < 117 → V'.cell? ⟨PB, 0 + j, none⟩ = some (I (q j))) := fun V' hV' => hPX.out V' (hbY'.out.trans (hV'.mono hbY'.out.size))
      have HRR : Hid (∀ V', Below Y.heap.size Y V' → RunIn V' (some ⟨SB, 0, none⟩) none none ⟨[s0], 100000, [], []⟩) := fun V' hV' => hRX.out V' (hbY'.out.trans (hV'.mono hbY'.out.size))
      refine wp_region_make_two (fun j => if j = 0 then some (fun u _ => u = .agg (ia 117 q)) else if j = 2 then some (OwnF ⟨[s0], 100000, [], []⟩) else if j = 3 then some (fun u _ => u = .tuple #[.agg #[I r0, I r1, I r2], I 0]) else if j = 7 then some (NewAt Y #[I 0, I 0, I 0] 53) else none) [6] (by kernel_rfl) (by kernel_rfl) (by kernel_rfl) (by kernel_rfl) (by kernel_rfl) (by intro i hi; simp at hi; subst hi; rfl) ⟨rfl, rfl⟩ (fun c a d v w h => by cases d <;> exact h) ?_
      simp only [sleepTwo_cons, sleepTwo_two]
      refine wpG_make (fun u _ => u = .agg (ia 117 q)) rfl rfl (fun w' hw' _ => ?_) (fun u hu => ?_)
      · exact load_grow rfl rfl (HQQ.out w' hw'.le)
      obtain ⟨_, _, rfl⟩ := hu
      simp only [Act.put, List.setIfInBounds_toArray, List.set_cons_zero, List.set_cons_succ]
      repeat (refine wpG_one rfl rfl rfl ?_; intro K hK; go_big_quiet_op; go_big_quiet_on)
      refine wpG_make (OwnF ⟨[s0], 100000, [], []⟩) rfl rfl (fun w' hw' _ => ?_) (fun u hu => ?_)
      · go_simp
        exact own_grow (own_any _ _ _ _ _ _ ⟨[s0], 100000, [], []⟩ w' (HRR.out _ hw'.le))
      obtain ⟨_, _, B1, B2, B3, e1, e2, e3, rfl, _, _⟩ := hu
      simp only [Act.put, List.setIfInBounds_toArray, List.set_cons_zero, List.set_cons_succ]
      refine wpG_make (fun u _ => u = .tuple #[.agg #[I r0, I r1, I r2], I 0]) rfl rfl (fun w' hw' hk => ?_) (fun u hu => ?_)
      · have hk3 := hk ⟨2, .data⟩ (by simp) rfl _ _ _ rfl rfl rfl (by simp) rfl
        obtain ⟨E1, E2, E3, e1, e2, e3, he, hr, hc⟩ := hk3.now
        go_simp
        exact call_grow (CO.out _ _ _ _ _ _ _ hr)
      obtain ⟨_, _, rfl⟩ := hu
      simp only [Act.put, List.setIfInBounds_toArray, List.set_cons_zero, List.set_cons_succ]
      repeat (refine wpG_one rfl rfl rfl ?_; intro K hK; go_big_quiet_op; go_big_quiet_on)
      refine wpG_make (NewAt Y #[I 0, I 0, I 0] 53) rfl rfl (fun w' hw' _ => ?_) (fun u hu => ?_)
      · go_simp
        exact new_grow hw'
      obtain ⟨_, _, xb, rfl, _, hxb⟩ := hu
      simp only [Act.put, List.setIfInBounds_toArray, List.set_cons_zero, List.set_cons_succ]
      repeat (refine wpG_one rfl rfl rfl ?_; intro K hK; go_big_quiet_op; go_big_quiet_on)
      refine wpG_nil (fun w5 hw5 hG => ?_)
      have hx5 := (Box.now hG.2).at.1
      intro s5 t5 hs5 ht5
      obtain rfl := Option.some.inj hs5
      obtain rfl := Option.some.inj ht5
      clear hG hs5 ht5
      refine wp_store_row 53 _ _ rfl xb rfl _ _ hx5 #[I r0, I r1, I r2] rfl (one3 _ _ _) rfl (by kernel_rfl) ?_
      refine ⟨hw5.set hxb _, ?_⟩
      refine wp_assign _ (I 0) rfl rfl ?_
      refine ⟨hw5.set hxb _, ?_⟩
      simp only [Act.put, List.setIfInBounds_toArray, List.set_cons_zero, List.set_cons_succ]
      have L5 : Below Y.heap.size Y (w5.setRow xb #[I r0, I r1, I r2]) := below_setRow hw5.le hxb _
      have q5 : (w5.setRow xb #[I r0, I r1, I r2]).heap[xb]? = some (.cells #[I r0, I r1, I r2] 53 (0, 0)) := setRow_same hx5
      generalize w5.setRow xb #[I r0, I r1, I r2] = Z at *
      clear hx5 hw5
      have bZ : Below X.heap.size X Z := hbY'.out.trans (L5.mono hbY'.out.size)
      clear L5
      obtain ⟨uz, rfl⟩ : ∃ u, Z = ovr X u := ⟨Z, ovr_of bZ⟩
      have yb : (ovr X uz).cell? ⟨xb, 0, none⟩ = some (I r0) := by rw [cell_of_row _ _ _ _ _ _ q5]; rfl
      clear q5 bZ HQQ HRR CO
      by_cases hr0 : r0 = 0
      case neg =>
        go_wp2_with fail
        refine (ck.out _).mono ?_
        rintro e w1 ⟨rfl, hb1⟩
        obtain ⟨u4, rfl⟩ := ovr_next hb1
        clear hb1
        go_wp2_with fail
        go_ret
        exact ⟨rfl, HUX.out u4⟩
      subst hr0
      go_upto_block 2 with fail
      go_wp2_with fail
      have HG0 : Hid (Good q s0 0) := good_of hp5.out HOK.out HS0p.out HS0t.out (by rw [HBR.out])
      have HS1 : Hid (StP V RB q g h s0 z 0 (ovr X uz)) := hSt.out.over (ovr_below X uz)
      have HPV : Hid (∀ V', Below V.heap.size V V' → ∀ j, j < 117 → V'.cell? ⟨PB, 0 + j, none⟩ = some (I (q j))) := fun V' hV' j hj => by
        rw [Nat.zero_add, cell_of_row _ _ _ _ _ _ ((hV'.block _ (Array.getElem?_eq_some_iff.1 VP.out).1).trans VP.out)]
        exact ia_get hj
      clear hSt XR HBR HOK hRX hPX outX HUX yb
      generalize ovr X uz = Z0 at HS1 ⊢
      go_loopw [9] (fun i wr => ∃ k : Nat, k ≤ n ∧ i = .int .i64 k ∧ StP V RB q g h s0 z k wr) (fun i _ => n - (intOf i).toNat)
      case atStart => exact ⟨0, by omega, rfl, HS1.out⟩
      case round =>
        obtain ⟨k, hkn, rfl, hst⟩ := hrel
        have HST := Lib.hid hst
        clear hst HS1
        by_cases hlt : k < n
        · obtain ⟨A', c', hrow, hrun, hown, hnb⟩ := HST.out.run (by omega)
          have HOWN := Lib.hid hown
          have HNB := Lib.hid hnb
          have HROW := Lib.hid hrow
          clear hown hnb
          obtain ⟨lb, lo, rfl, hlb, x0, x1, x2, x3, x4, x5, x6, x7⟩ := hrun.s.stg (k := k) (by rw [show (rnQ q g h s0 z k).ss.length = k + 1 from ssQ_len q g h s0 z k]; omega)
          rw [show at0 (rnQ q g h s0 z k).ss k = sqQ q g h s0 z k from ssQ_at q g h s0 z (Nat.le_refl k)] at x0 x1 x2 x3 x4 x5 x6 x7
          obtain ⟨sk, hsk⟩ : ∃ sk, sk = sqQ q g h s0 z k := ⟨_, rfl⟩
          rw [← hsk] at x0 x1 x2 x3 x4 x5 x6 x7
          have HSK := Lib.hid hsk
          have HLT := Lib.hid hlt
          clear hsk hrun hlb
          have hVw : Below V.heap.size V wr := by obtain ⟨_, _, _, _, h4, _⟩ := HST.out; exact h4
          have hww : Below w.heap.size w wr := VB.out.trans (hVw.mono VB.out.size)
          have hdrow : wr.heap[DB]? = some (.cells (dvA g h s0 A n c) 40 (0, 0)) := (hVw.block _ (Array.getElem?_eq_some_iff.1 VD.out).1).trans VD.out
          obtain ⟨tb, tf, rfl, htb, htc⟩ := hx (by omega)
          have HTS : Hid (∀ V', Below w.heap.size w V' → ∀ j, j < 3 → V'.cell? ⟨tb, tf + k * 3 + j, none⟩ = some (.int .u16 (z k j))) := fun V' hV' j hj => by
            rw [World.cell?_of_block (hV'.block tb htb)]
            exact htc k HLT.out j hj
          have yl0 := ovr_cell x0
          have yl1 := ovr_cell x1
          have yl2 := ovr_cell x2
          have yl3 := ovr_cell x3
          have yl4 := ovr_cell x4
          have yl5 := ovr_cell x5
          have yl6 := ovr_cell x6
          have yl7 := ovr_cell x7
          have HUwr : Hid (∀ u, Below w.heap.size w (ovr wr u)) := fun u => hww.trans ((ovr_below wr u).mono hww.size)
          have HVwr := Lib.hid hVw
          clear x0 x1 x2 x3 x4 x5 x6 x7 hVw hww htb htc
          have ywr00 := ovr_cell (W := wr) (b := RB) (o := 0) (v := .slice (some ⟨lb, lo, none⟩) (k + 1) c') (by rw [cell_of_row _ _ _ _ _ _ hrow]; rfl)
          have zwr00 : ∀ u, (ovr wr u).frozen? ⟨RB, 0, none⟩ = false := fun u => frozen_of_row _ _ _ _ _ (ovr_row hrow u)
          have ywr01 := ovr_cell (W := wr) (b := RB) (o := 1) (v := I 100000) (by rw [cell_of_row _ _ _ _ _ _ hrow]; rfl)
          have zwr01 : ∀ u, (ovr wr u).frozen? ⟨RB, 1, none⟩ = false := fun u => frozen_of_row _ _ _ _ _ (ovr_row hrow u)
          have ywr02 := ovr_cell (W := wr) (b := RB) (o := 2) (v := .slice none 0 0) (by rw [cell_of_row _ _ _ _ _ _ hrow]; rfl)
          have zwr02 : ∀ u, (ovr wr u).frozen? ⟨RB, 2, none⟩ = false := fun u => frozen_of_row _ _ _ _ _ (ovr_row hrow u)
          have ywr03 := ovr_cell (W := wr) (b := RB) (o := 3) (v := .slice none 0 0) (by rw [cell_of_row _ _ _ _ _ _ hrow]; rfl)
          have zwr03 : ∀ u, (ovr wr u).frozen? ⟨RB, 3, none⟩ = false := fun u => frozen_of_row _ _ _ _ _ (ovr_row hrow u)
          have Rrowwr0 := Lib.hid (ovr_row hrow)
          clear hrow
          have ywr10 := ovr_cell (W := wr) (b := DB) (o := 0) (v := I g.lo) (by rw [cell_of_row _ _ _ _ _ _ hdrow]; rfl)
          have zwr10 : ∀ u, (ovr wr u).frozen? ⟨DB, 0, none⟩ = false := fun u => frozen_of_row _ _ _ _ _ (ovr_row hdrow u)
          have ywr11 := ovr_cell (W := wr) (b := DB) (o := 1) (v := I g.hi) (by rw [cell_of_row _ _ _ _ _ _ hdrow]; rfl)
          have zwr11 : ∀ u, (ovr wr u).frozen? ⟨DB, 1, none⟩ = false := fun u => frozen_of_row _ _ _ _ _ (ovr_row hdrow u)
          have ywr12 := ovr_cell (W := wr) (b := DB) (o := 2) (v := I h.lo) (by rw [cell_of_row _ _ _ _ _ _ hdrow]; rfl)
          have zwr12 : ∀ u, (ovr wr u).frozen? ⟨DB, 2, none⟩ = false := fun u => frozen_of_row _ _ _ _ _ (ovr_row hdrow u)
          have ywr13 := ovr_cell (W := wr) (b := DB) (o := 3) (v := I h.hi) (by rw [cell_of_row _ _ _ _ _ _ hdrow]; rfl)
          have zwr13 : ∀ u, (ovr wr u).frozen? ⟨DB, 3, none⟩ = false := fun u => frozen_of_row _ _ _ _ _ (ovr_row hdrow u)
          have ywr14 := ovr_cell (W := wr) (b := DB) (o := 4) (v := I s0.t) (by rw [cell_of_row _ _ _ _ _ _ hdrow]; rfl)
          have zwr14 : ∀ u, (ovr wr u).frozen? ⟨DB, 4, none⟩ = false := fun u => frozen_of_row _ _ _ _ _ (ovr_row hdrow u)
          have ywr15 := ovr_cell (W := wr) (b := DB) (o := 5) (v := I s0.ph) (by rw [cell_of_row _ _ _ _ _ _ hdrow]; rfl)
          have zwr15 : ∀ u, (ovr wr u).frozen? ⟨DB, 5, none⟩ = false := fun u => frozen_of_row _ _ _ _ _ (ovr_row hdrow u)
          have ywr16 := ovr_cell (W := wr) (b := DB) (o := 6) (v := I (s0.v 0)) (by rw [cell_of_row _ _ _ _ _ _ hdrow]; rfl)
          have zwr16 : ∀ u, (ovr wr u).frozen? ⟨DB, 6, none⟩ = false := fun u => frozen_of_row _ _ _ _ _ (ovr_row hdrow u)
          have ywr17 := ovr_cell (W := wr) (b := DB) (o := 7) (v := I (s0.v 1)) (by rw [cell_of_row _ _ _ _ _ _ hdrow]; rfl)
          have zwr17 : ∀ u, (ovr wr u).frozen? ⟨DB, 7, none⟩ = false := fun u => frozen_of_row _ _ _ _ _ (ovr_row hdrow u)
          have ywr18 := ovr_cell (W := wr) (b := DB) (o := 8) (v := I (s0.v 2)) (by rw [cell_of_row _ _ _ _ _ _ hdrow]; rfl)
          have zwr18 : ∀ u, (ovr wr u).frozen? ⟨DB, 8, none⟩ = false := fun u => frozen_of_row _ _ _ _ _ (ovr_row hdrow u)
          have ywr19 := ovr_cell (W := wr) (b := DB) (o := 9) (v := I (s0.v 3)) (by rw [cell_of_row _ _ _ _ _ _ hdrow]; rfl)
          have zwr19 : ∀ u, (ovr wr u).frozen? ⟨DB, 9, none⟩ = false := fun u => frozen_of_row _ _ _ _ _ (ovr_row hdrow u)
          have ywr110 := ovr_cell (W := wr) (b := DB) (o := 10) (v := I (s0.v 4)) (by rw [cell_of_row _ _ _ _ _ _ hdrow]; rfl)
          have zwr110 : ∀ u, (ovr wr u).frozen? ⟨DB, 10, none⟩ = false := fun u => frozen_of_row _ _ _ _ _ (ovr_row hdrow u)
          have ywr111 := ovr_cell (W := wr) (b := DB) (o := 11) (v := I (s0.v 5)) (by rw [cell_of_row _ _ _ _ _ _ hdrow]; rfl)
          have zwr111 : ∀ u, (ovr wr u).frozen? ⟨DB, 11, none⟩ = false := fun u => frozen_of_row _ _ _ _ _ (ovr_row hdrow u)
          have ywr112 := ovr_cell (W := wr) (b := DB) (o := 12) (v := .slice (some ⟨tb, tf, none⟩) n c) (by rw [cell_of_row _ _ _ _ _ _ hdrow]; rfl)
          have zwr112 : ∀ u, (ovr wr u).frozen? ⟨DB, 12, none⟩ = false := fun u => frozen_of_row _ _ _ _ _ (ovr_row hdrow u)
          have Rrowwr1 := Lib.hid (ovr_row hdrow)
          clear hdrow
          have kk : IntKind.i64.wrap ((k : Int) + 1 - 1) = k := by rw [show (k : Int) + 1 - 1 = k by omega]; exact IntWalk.i64_in _ (by omega)
          obtain ⟨u1, hu1⟩ := ovr_self wr
          rw [hu1]
          clear hu1
          go_upto_region 18 with fail
          clear yl0 yl1 yl2 yl3 yl4 yl5 yl6 yl7 kk
          obtain ⟨X1, hX1⟩ : ∃ X1, X1 = ((ovr wr u1).alloc (.cells #[I sk.t, I sk.ph, I (sk.v 0), I (sk.v 1), I (sk.v 2), I (sk.v 3), I (sk.v 4), I (sk.v 5)] 37)) := ⟨_, rfl⟩
          have reX1 : ∀ v, ∃ x, ovr X1 v = ovr wr x := fun v => ovr_re1 hX1
          replace ywr00 := tr_cell reX1 ywr00
          replace zwr00 := tr_froz reX1 zwr00
          replace ywr01 := tr_cell reX1 ywr01
          replace zwr01 := tr_froz reX1 zwr01
          replace ywr02 := tr_cell reX1 ywr02
          replace zwr02 := tr_froz reX1 zwr02
          replace ywr03 := tr_cell reX1 ywr03
          replace zwr03 := tr_froz reX1 zwr03
          replace Rrowwr0 := Lib.hid (tr_row reX1 Rrowwr0.out)
          replace ywr10 := tr_cell reX1 ywr10
          replace zwr10 := tr_froz reX1 zwr10
          replace ywr11 := tr_cell reX1 ywr11
          replace zwr11 := tr_froz reX1 zwr11
          replace ywr12 := tr_cell reX1 ywr12
          replace zwr12 := tr_froz reX1 zwr12
          replace ywr13 := tr_cell reX1 ywr13
          replace zwr13 := tr_froz reX1 zwr13
          replace ywr14 := tr_cell reX1 ywr14
          replace zwr14 := tr_froz reX1 zwr14
          replace ywr15 := tr_cell reX1 ywr15
          replace zwr15 := tr_froz reX1 zwr15
          replace ywr16 := tr_cell reX1 ywr16
          replace zwr16 := tr_froz reX1 zwr16
          replace ywr17 := tr_cell reX1 ywr17
          replace zwr17 := tr_froz reX1 zwr17
          replace ywr18 := tr_cell reX1 ywr18
          replace zwr18 := tr_froz reX1 zwr18
          replace ywr19 := tr_cell reX1 ywr19
          replace zwr19 := tr_froz reX1 zwr19
          replace ywr110 := tr_cell reX1 ywr110
          replace zwr110 := tr_froz reX1 zwr110
          replace ywr111 := tr_cell reX1 ywr111
          replace zwr111 := tr_froz reX1 zwr111
          replace ywr112 := tr_cell reX1 ywr112
          replace zwr112 := tr_froz reX1 zwr112
          replace Rrowwr1 := Lib.hid (tr_row reX1 Rrowwr1.out)
          have rowX10 : X1.heap[(ovr wr u1).heap.size]? = some (.cells #[I sk.t, I sk.ph, I (sk.v 0), I (sk.v 1), I (sk.v 2), I (sk.v 3), I (sk.v 4), I (sk.v 5)] 37 (0, 0)) := by rw [hX1]; exact heap_last _ _ _ rfl
          have yX100 := ovr_cell (W := X1) (b := (ovr wr u1).heap.size) (o := 0) (v := I sk.t) (by rw [cell_of_row _ _ _ _ _ _ rowX10]; rfl)
          have yX101 := ovr_cell (W := X1) (b := (ovr wr u1).heap.size) (o := 1) (v := I sk.ph) (by rw [cell_of_row _ _ _ _ _ _ rowX10]; rfl)
          have yX102 := ovr_cell (W := X1) (b := (ovr wr u1).heap.size) (o := 2) (v := I (sk.v 0)) (by rw [cell_of_row _ _ _ _ _ _ rowX10]; rfl)
          have yX103 := ovr_cell (W := X1) (b := (ovr wr u1).heap.size) (o := 3) (v := I (sk.v 1)) (by rw [cell_of_row _ _ _ _ _ _ rowX10]; rfl)
          have yX104 := ovr_cell (W := X1) (b := (ovr wr u1).heap.size) (o := 4) (v := I (sk.v 2)) (by rw [cell_of_row _ _ _ _ _ _ rowX10]; rfl)
          have yX105 := ovr_cell (W := X1) (b := (ovr wr u1).heap.size) (o := 5) (v := I (sk.v 3)) (by rw [cell_of_row _ _ _ _ _ _ rowX10]; rfl)
          have yX106 := ovr_cell (W := X1) (b := (ovr wr u1).heap.size) (o := 6) (v := I (sk.v 4)) (by rw [cell_of_row _ _ _ _ _ _ rowX10]; rfl)
          have yX107 := ovr_cell (W := X1) (b := (ovr wr u1).heap.size) (o := 7) (v := I (sk.v 5)) (by rw [cell_of_row _ _ _ _ _ _ rowX10]; rfl)
          have RrowX10 := Lib.hid (ovr_row rowX10)
          clear rowX10
          have HBX1 : Hid (∀ u, Below wr.heap.size wr (ovr X1 u)) := fun u => by obtain ⟨x, hx⟩ := reX1 u; rw [hx]; exact ovr_below _ _
          have HUX1 : Hid (∀ u, Below w.heap.size w (ovr X1 u)) := fun u => by obtain ⟨x, hx⟩ := reX1 u; rw [hx]; exact HUwr.out x
          clear reX1
          have HX1 := Lib.hid hX1
          clear hX1
          rw [← HX1.out]
          have ys0 : ∀ u, (ovr X1 u).cell? ⟨tb, tf + k * 3, none⟩ = some (.int .u16 (z k 0)) := fun u => HTS.out _ (HUX1.out u) 0 (by omega)
          have HGK : Hid (Good q sk k) := by
            have := good_all (g := g) (h := h) hp5.out HG0.out k (by omega) fun i hi => hz i (by omega)
            rw [HSK.out]; exact this
          have HZ : Hid (∀ j, j < 3 → 0 ≤ z k j ∧ z k j ≤ 65535) := hz k hlt
          have HM0 := Lib.hid (tm_bd (HZ.out 0 (by omega)).1)
          have HM2 := Lib.hid (tm_bd (HZ.out 2 (by omega)).1)
          have k1 : IntKind.i64.wrap (sk.t + 1) = sk.t + 1 := IntWalk.i64_in _ (by have := HGK.out.t; omega)
          have k2 : IntKind.i64.wrap (sk.t + 1 + (z k 0).tmod 100) = atQ sk (z k) := IntWalk.i64_in _ (by have := HGK.out.t; have := HM0.out; omega)
          have k3 : IntKind.i64.wrap (z k 0) = z k 0 := IntWalk.i64_in _ (by have := HZ.out 0 (by omega); omega)
          have k4 : IntKind.i64.wrap ((z k 0).tmod 100) = (z k 0).tmod 100 := IntWalk.i64_in _ (by have := HM0.out; omega)
          refine wp_region_below_lit (by kernel_rfl) (by kernel_rfl) ?_
          repeat (go_big_quiet_step (fail))
          refine wpQuiet_nil ?_
          intro V2 hb2
          obtain ⟨u2, rfl⟩ : ∃ u, V2 = ovr X1 u := ⟨V2, ovr_of hb2⟩
          clear hb2 ys0 k1 k2 k3 k4
          have ys1 : ∀ u, (ovr X1 u).cell? ⟨tb, tf + k * 3 + 1, none⟩ = some (.int .u16 (z k 1)) := fun u => HTS.out _ (HUX1.out u) 1 (by omega)
          have ys2 : ∀ u, (ovr X1 u).cell? ⟨tb, tf + k * 3 + 2, none⟩ = some (.int .u16 (z k 2)) := fun u => HTS.out _ (HUX1.out u) 2 (by omega)
          have k1 : IntKind.i64.wrap (z k 1) = z k 1 := IntWalk.i64_in _ (by have := HZ.out 1 (by omega); omega)
          have k2 : IntKind.i64.wrap (z k 2) = z k 2 := IntWalk.i64_in _ (by have := HZ.out 2 (by omega); omega)
          have k3 : IntKind.i64.wrap (z k 1 + (z k 2).tmod 100) = z k 1 + (z k 2).tmod 100 := IntWalk.i64_in _ (by have := HZ.out 1 (by omega); have := HM2.out; omega)
          have k4 : IntKind.i64.wrap ((z k 2).tmod 100) = (z k 2).tmod 100 := IntWalk.i64_in _ (by have := HM2.out; omega)
          go_upto_region 21 with fail
          clear ys1 ys2 k1 k2 k3 k4
          obtain ⟨X2, hX2⟩ : ∃ X2, X2 = ((ovr X1 u2).alloc (.cells #[I (z k 1), I (z k 1 + (z k 2).tmod 100)] 23)) := ⟨_, rfl⟩
          have reX2 : ∀ v, ∃ x, ovr X2 v = ovr X1 x := fun v => ovr_re1 hX2
          replace ywr00 := tr_cell reX2 ywr00
          replace zwr00 := tr_froz reX2 zwr00
          replace ywr01 := tr_cell reX2 ywr01
          replace zwr01 := tr_froz reX2 zwr01
          replace ywr02 := tr_cell reX2 ywr02
          replace zwr02 := tr_froz reX2 zwr02
          replace ywr03 := tr_cell reX2 ywr03
          replace zwr03 := tr_froz reX2 zwr03
          replace Rrowwr0 := Lib.hid (tr_row reX2 Rrowwr0.out)
          replace ywr10 := tr_cell reX2 ywr10
          replace zwr10 := tr_froz reX2 zwr10
          replace ywr11 := tr_cell reX2 ywr11
          replace zwr11 := tr_froz reX2 zwr11
          replace ywr12 := tr_cell reX2 ywr12
          replace zwr12 := tr_froz reX2 zwr12
          replace ywr13 := tr_cell reX2 ywr13
          replace zwr13 := tr_froz reX2 zwr13
          replace ywr14 := tr_cell reX2 ywr14
          replace zwr14 := tr_froz reX2 zwr14
          replace ywr15 := tr_cell reX2 ywr15
          replace zwr15 := tr_froz reX2 zwr15
          replace ywr16 := tr_cell reX2 ywr16
          replace zwr16 := tr_froz reX2 zwr16
          replace ywr17 := tr_cell reX2 ywr17
          replace zwr17 := tr_froz reX2 zwr17
          replace ywr18 := tr_cell reX2 ywr18
          replace zwr18 := tr_froz reX2 zwr18
          replace ywr19 := tr_cell reX2 ywr19
          replace zwr19 := tr_froz reX2 zwr19
          replace ywr110 := tr_cell reX2 ywr110
          replace zwr110 := tr_froz reX2 zwr110
          replace ywr111 := tr_cell reX2 ywr111
          replace zwr111 := tr_froz reX2 zwr111
          replace ywr112 := tr_cell reX2 ywr112
          replace zwr112 := tr_froz reX2 zwr112
          replace Rrowwr1 := Lib.hid (tr_row reX2 Rrowwr1.out)
          replace yX100 := tr_cell reX2 yX100
          replace yX101 := tr_cell reX2 yX101
          replace yX102 := tr_cell reX2 yX102
          replace yX103 := tr_cell reX2 yX103
          replace yX104 := tr_cell reX2 yX104
          replace yX105 := tr_cell reX2 yX105
          replace yX106 := tr_cell reX2 yX106
          replace yX107 := tr_cell reX2 yX107
          replace RrowX10 := Lib.hid (tr_row reX2 RrowX10.out)
          have rowX20 : X2.heap[(ovr X1 u2).heap.size]? = some (.cells #[I (z k 1), I (z k 1 + (z k 2).tmod 100)] 23 (0, 0)) := by rw [hX2]; exact heap_last _ _ _ rfl
          have yX200 := ovr_cell (W := X2) (b := (ovr X1 u2).heap.size) (o := 0) (v := I (z k 1)) (by rw [cell_of_row _ _ _ _ _ _ rowX20]; rfl)
          have yX201 := ovr_cell (W := X2) (b := (ovr X1 u2).heap.size) (o := 1) (v := I (z k 1 + (z k 2).tmod 100)) (by rw [cell_of_row _ _ _ _ _ _ rowX20]; rfl)
          have RrowX20 := Lib.hid (ovr_row rowX20)
          clear rowX20
          have HBX2 : Hid (∀ u, Below X1.heap.size X1 (ovr X2 u)) := fun u => by obtain ⟨x, hx⟩ := reX2 u; rw [hx]; exact ovr_below _ _
          have HUX2 : Hid (∀ u, Below w.heap.size w (ovr X2 u)) := fun u => by obtain ⟨x, hx⟩ := reX2 u; rw [hx]; exact HUX1.out x
          clear reX2
          have HX2 := Lib.hid hX2
          clear hX2
          have HC2 : Hid (∀ u, ∃ v, ovr X2 u = ovr wr v) := fun u => ⟨_, ovr_of (((below_chain HBX1.out HBX2.out) u))⟩
          rw [← HX2.out]
          obtain ⟨u3, hu3⟩ := ovr_self X2
          rw [hu3]
          clear hu3
          have HOK := Lib.hid (st_ok hp5.out HGK.out (by omega) HZ.out)
          have HP2 : Hid (∀ u j, j < 117 → (ovr X2 u).cell? ⟨PB, 0 + j, none⟩ = some (I (q j))) := fun u j hj => by
            exact HPV.out _ (by obtain ⟨v, hv⟩ := HC2.out u; rw [hv]; exact HVwr.out.trans ((ovr_below wr v).mono HVwr.out.size)) j hj
          rcases hg : (badG g || badG h) with _ | _
          case true =>
            have hk0 : k = 0 := by
              obtain ⟨_, _, _, _, _, h5⟩ := HST.out
              rcases Nat.eq_zero_or_pos k with h0 | h0
              · exact h0
              · rw [h5 h0] at hg; cases hg
            subst hk0
            have C1 : Hid (∀ W0, Calls Try.prog 10 #[.agg (ia 117 q), .agg (gnArr g h), sk.val, I (atQ sk (z 0)), .agg #[I (z 0 1), I (z 0 1 + (z 0 2).tmod 100)]] W0 fun e w' => e = .returned (.tuple #[.agg #[I 0, I 0, I 0, I 0, I 0, I 0, I 0, I 0], I 2]) ∧ Below W0.heap.size W0 w') := fun W0 => by
              have := steer_any q g h sk (atQ sk (z 0)) (xQ (z 0)) W0 HOK.out.1
              unfold stR at this
              rw [hg] at this
              exact this
            clear hg
            go_wp2_with (with_reducible show wpList _ _ _ _ _ _; refine wpList_load_ia rfl 30 _ rfl PB 0 rfl 117 q _ (HP2.out _) Try.underlying30 rfl (by kernel_rfl) ?_)
            refine (C1.out _).mono ?_
            rintro e w1 ⟨rfl, hb1⟩
            obtain ⟨u4, rfl⟩ := ovr_next hb1
            clear hb1
            go_upto_region 22 with fail
            obtain ⟨X3, hX3⟩ : ∃ X3, X3 = ((ovr X2 u4).alloc (.cells #[I 0, I 0, I 0, I 0, I 0, I 0, I 0, I 0] 37)) := ⟨_, rfl⟩
            have reX3 : ∀ v, ∃ x, ovr X3 v = ovr X2 x := fun v => ovr_re1 hX3
            replace ywr00 := tr_cell reX3 ywr00
            replace zwr00 := tr_froz reX3 zwr00
            replace ywr01 := tr_cell reX3 ywr01
            replace zwr01 := tr_froz reX3 zwr01
            replace ywr02 := tr_cell reX3 ywr02
            replace zwr02 := tr_froz reX3 zwr02
            replace ywr03 := tr_cell reX3 ywr03
            replace zwr03 := tr_froz reX3 zwr03
            replace Rrowwr0 := Lib.hid (tr_row reX3 Rrowwr0.out)
            replace ywr10 := tr_cell reX3 ywr10
            replace zwr10 := tr_froz reX3 zwr10
            replace ywr11 := tr_cell reX3 ywr11
            replace zwr11 := tr_froz reX3 zwr11
            replace ywr12 := tr_cell reX3 ywr12
            replace zwr12 := tr_froz reX3 zwr12
            replace ywr13 := tr_cell reX3 ywr13
            replace zwr13 := tr_froz reX3 zwr13
            replace ywr14 := tr_cell reX3 ywr14
            replace zwr14 := tr_froz reX3 zwr14
            replace ywr15 := tr_cell reX3 ywr15
            replace zwr15 := tr_froz reX3 zwr15
            replace ywr16 := tr_cell reX3 ywr16
            replace zwr16 := tr_froz reX3 zwr16
            replace ywr17 := tr_cell reX3 ywr17
            replace zwr17 := tr_froz reX3 zwr17
            replace ywr18 := tr_cell reX3 ywr18
            replace zwr18 := tr_froz reX3 zwr18
            replace ywr19 := tr_cell reX3 ywr19
            replace zwr19 := tr_froz reX3 zwr19
            replace ywr110 := tr_cell reX3 ywr110
            replace zwr110 := tr_froz reX3 zwr110
            replace ywr111 := tr_cell reX3 ywr111
            replace zwr111 := tr_froz reX3 zwr111
            replace ywr112 := tr_cell reX3 ywr112
            replace zwr112 := tr_froz reX3 zwr112
            replace Rrowwr1 := Lib.hid (tr_row reX3 Rrowwr1.out)
            replace yX100 := tr_cell reX3 yX100
            replace yX101 := tr_cell reX3 yX101
            replace yX102 := tr_cell reX3 yX102
            replace yX103 := tr_cell reX3 yX103
            replace yX104 := tr_cell reX3 yX104
            replace yX105 := tr_cell reX3 yX105
            replace yX106 := tr_cell reX3 yX106
            replace yX107 := tr_cell reX3 yX107
            replace RrowX10 := Lib.hid (tr_row reX3 RrowX10.out)
            replace yX200 := tr_cell reX3 yX200
            replace yX201 := tr_cell reX3 yX201
            replace RrowX20 := Lib.hid (tr_row reX3 RrowX20.out)
            have rowX30 : X3.heap[(ovr X2 u4).heap.size]? = some (.cells #[I 0, I 0, I 0, I 0, I 0, I 0, I 0, I 0] 37 (0, 0)) := by rw [hX3]; exact heap_last _ _ _ rfl
            have yX300 := ovr_cell (W := X3) (b := (ovr X2 u4).heap.size) (o := 0) (v := I 0) (by rw [cell_of_row _ _ _ _ _ _ rowX30]; rfl)
            have yX301 := ovr_cell (W := X3) (b := (ovr X2 u4).heap.size) (o := 1) (v := I 0) (by rw [cell_of_row _ _ _ _ _ _ rowX30]; rfl)
            have yX302 := ovr_cell (W := X3) (b := (ovr X2 u4).heap.size) (o := 2) (v := I 0) (by rw [cell_of_row _ _ _ _ _ _ rowX30]; rfl)
            have yX303 := ovr_cell (W := X3) (b := (ovr X2 u4).heap.size) (o := 3) (v := I 0) (by rw [cell_of_row _ _ _ _ _ _ rowX30]; rfl)
            have yX304 := ovr_cell (W := X3) (b := (ovr X2 u4).heap.size) (o := 4) (v := I 0) (by rw [cell_of_row _ _ _ _ _ _ rowX30]; rfl)
            have yX305 := ovr_cell (W := X3) (b := (ovr X2 u4).heap.size) (o := 5) (v := I 0) (by rw [cell_of_row _ _ _ _ _ _ rowX30]; rfl)
            have yX306 := ovr_cell (W := X3) (b := (ovr X2 u4).heap.size) (o := 6) (v := I 0) (by rw [cell_of_row _ _ _ _ _ _ rowX30]; rfl)
            have yX307 := ovr_cell (W := X3) (b := (ovr X2 u4).heap.size) (o := 7) (v := I 0) (by rw [cell_of_row _ _ _ _ _ _ rowX30]; rfl)
            have RrowX30 := Lib.hid (ovr_row rowX30)
            clear rowX30
            have HBX3 : Hid (∀ u, Below X2.heap.size X2 (ovr X3 u)) := fun u => by obtain ⟨x, hx⟩ := reX3 u; rw [hx]; exact ovr_below _ _
            have HUX3 : Hid (∀ u, Below w.heap.size w (ovr X3 u)) := fun u => by obtain ⟨x, hx⟩ := reX3 u; rw [hx]; exact HUX2.out x
            clear reX3
            have HX3 := Lib.hid hX3
            clear hX3
            rw [← HX3.out]
            obtain ⟨u5, hu5⟩ := ovr_self X3
            rw [hu5]
            clear hu5
            have E6 := eq6 0 0 0 0 0 0
            go_wp2_with fail
            clear E6
            refine (ck.out _).mono ?_
            rintro e w1 ⟨rfl, hb1⟩
            obtain ⟨u6, rfl⟩ := ovr_next hb1
            clear hb1
            go_wp2_with fail
            go_ret
            exact ⟨rfl, HUX3.out u6⟩
          obtain ⟨s1, hs1⟩ : ∃ s1, s1 = nxSt q g h sk (atQ sk (z k)) (xQ (z k)) := ⟨_, rfl⟩
          obtain ⟨s2, hs2⟩ : ∃ s2, s2 = nxSt q g h sk (atQ sk (z k)) (yQ (z k)) := ⟨_, rfl⟩
          have C1 : Hid (∀ W0, Calls Try.prog 10 #[.agg (ia 117 q), .agg (gnArr g h), sk.val, I (atQ sk (z k)), .agg #[I (z k 1), I (z k 1 + (z k 2).tmod 100)]] W0 fun e w' => e = .returned (.tuple #[s1.val, I 0]) ∧ Below W0.heap.size W0 w') := fun W0 => by
            have := steer_any q g h sk (atQ sk (z k)) (xQ (z k)) W0 HOK.out.1
            unfold stR at this
            rw [hg, ← hs1] at this
            exact this
          have C2 : Hid (∀ W0, Calls Try.prog 10 #[.agg (ia 117 q), .agg (gnArr g h), sk.val, I (atQ sk (z k)), .agg #[I (z k 1 + 1), I (z k 1 + (z k 2).tmod 100 + 5)]] W0 fun e w' => e = .returned (.tuple #[s2.val, I 0]) ∧ Below W0.heap.size W0 w') := fun W0 => by
            have := steer_any q g h sk (atQ sk (z k)) (yQ (z k)) W0 HOK.out.2
            unfold stR at this
            rw [hg, ← hs2] at this
            exact this
          have HS1' := Lib.hid hs1
          have HS2' := Lib.hid hs2
          have HGB := Lib.hid hg
          clear hs1 hs2 hg
          go_wp2_with (with_reducible show wpList _ _ _ _ _ _; refine wpList_load_ia rfl 30 _ rfl PB 0 rfl 117 q _ (HP2.out _) Try.underlying30 rfl (by kernel_rfl) ?_)
          refine (C1.out _).mono ?_
          rintro e w1 ⟨rfl, hb1⟩
          obtain ⟨u4, rfl⟩ := ovr_next hb1
          clear hb1
          go_upto_region 24 with fail
          obtain ⟨X3, hX3⟩ : ∃ X3, X3 = ((ovr X2 u4).alloc (.cells #[I s1.t, I s1.ph, I (s1.v 0), I (s1.v 1), I (s1.v 2), I (s1.v 3), I (s1.v 4), I (s1.v 5)] 37)) := ⟨_, rfl⟩
          have reX3 : ∀ v, ∃ x, ovr X3 v = ovr X2 x := fun v => ovr_re1 hX3
          replace ywr00 := tr_cell reX3 ywr00
          replace zwr00 := tr_froz reX3 zwr00
          replace ywr01 := tr_cell reX3 ywr01
          replace zwr01 := tr_froz reX3 zwr01
          replace ywr02 := tr_cell reX3 ywr02
          replace zwr02 := tr_froz reX3 zwr02
          replace ywr03 := tr_cell reX3 ywr03
          replace zwr03 := tr_froz reX3 zwr03
          replace Rrowwr0 := Lib.hid (tr_row reX3 Rrowwr0.out)
          replace ywr10 := tr_cell reX3 ywr10
          replace zwr10 := tr_froz reX3 zwr10
          replace ywr11 := tr_cell reX3 ywr11
          replace zwr11 := tr_froz reX3 zwr11
          replace ywr12 := tr_cell reX3 ywr12
          replace zwr12 := tr_froz reX3 zwr12
          replace ywr13 := tr_cell reX3 ywr13
          replace zwr13 := tr_froz reX3 zwr13
          replace ywr14 := tr_cell reX3 ywr14
          replace zwr14 := tr_froz reX3 zwr14
          replace ywr15 := tr_cell reX3 ywr15
          replace zwr15 := tr_froz reX3 zwr15
          replace ywr16 := tr_cell reX3 ywr16
          replace zwr16 := tr_froz reX3 zwr16
          replace ywr17 := tr_cell reX3 ywr17
          replace zwr17 := tr_froz reX3 zwr17
          replace ywr18 := tr_cell reX3 ywr18
          replace zwr18 := tr_froz reX3 zwr18
          replace ywr19 := tr_cell reX3 ywr19
          replace zwr19 := tr_froz reX3 zwr19
          replace ywr110 := tr_cell reX3 ywr110
          replace zwr110 := tr_froz reX3 zwr110
          replace ywr111 := tr_cell reX3 ywr111
          replace zwr111 := tr_froz reX3 zwr111
          replace ywr112 := tr_cell reX3 ywr112
          replace zwr112 := tr_froz reX3 zwr112
          replace Rrowwr1 := Lib.hid (tr_row reX3 Rrowwr1.out)
          replace yX100 := tr_cell reX3 yX100
          replace yX101 := tr_cell reX3 yX101
          replace yX102 := tr_cell reX3 yX102
          replace yX103 := tr_cell reX3 yX103
          replace yX104 := tr_cell reX3 yX104
          replace yX105 := tr_cell reX3 yX105
          replace yX106 := tr_cell reX3 yX106
          replace yX107 := tr_cell reX3 yX107
          replace RrowX10 := Lib.hid (tr_row reX3 RrowX10.out)
          replace yX200 := tr_cell reX3 yX200
          replace yX201 := tr_cell reX3 yX201
          replace RrowX20 := Lib.hid (tr_row reX3 RrowX20.out)
          have rowX30 : X3.heap[(ovr X2 u4).heap.size]? = some (.cells #[I s1.t, I s1.ph, I (s1.v 0), I (s1.v 1), I (s1.v 2), I (s1.v 3), I (s1.v 4), I (s1.v 5)] 37 (0, 0)) := by rw [hX3]; exact heap_last _ _ _ rfl
          have yX300 := ovr_cell (W := X3) (b := (ovr X2 u4).heap.size) (o := 0) (v := I s1.t) (by rw [cell_of_row _ _ _ _ _ _ rowX30]; rfl)
          have yX301 := ovr_cell (W := X3) (b := (ovr X2 u4).heap.size) (o := 1) (v := I s1.ph) (by rw [cell_of_row _ _ _ _ _ _ rowX30]; rfl)
          have yX302 := ovr_cell (W := X3) (b := (ovr X2 u4).heap.size) (o := 2) (v := I (s1.v 0)) (by rw [cell_of_row _ _ _ _ _ _ rowX30]; rfl)
          have yX303 := ovr_cell (W := X3) (b := (ovr X2 u4).heap.size) (o := 3) (v := I (s1.v 1)) (by rw [cell_of_row _ _ _ _ _ _ rowX30]; rfl)
          have yX304 := ovr_cell (W := X3) (b := (ovr X2 u4).heap.size) (o := 4) (v := I (s1.v 2)) (by rw [cell_of_row _ _ _ _ _ _ rowX30]; rfl)
          have yX305 := ovr_cell (W := X3) (b := (ovr X2 u4).heap.size) (o := 5) (v := I (s1.v 3)) (by rw [cell_of_row _ _ _ _ _ _ rowX30]; rfl)
          have yX306 := ovr_cell (W := X3) (b := (ovr X2 u4).heap.size) (o := 6) (v := I (s1.v 4)) (by rw [cell_of_row _ _ _ _ _ _ rowX30]; rfl)
          have yX307 := ovr_cell (W := X3) (b := (ovr X2 u4).heap.size) (o := 7) (v := I (s1.v 5)) (by rw [cell_of_row _ _ _ _ _ _ rowX30]; rfl)
          have RrowX30 := Lib.hid (ovr_row rowX30)
          clear rowX30
          have HBX3 : Hid (∀ u, Below X2.heap.size X2 (ovr X3 u)) := fun u => by obtain ⟨x, hx⟩ := reX3 u; rw [hx]; exact ovr_below _ _
          have HUX3 : Hid (∀ u, Below w.heap.size w (ovr X3 u)) := fun u => by obtain ⟨x, hx⟩ := reX3 u; rw [hx]; exact HUX2.out x
          clear reX3
          have HX3 := Lib.hid hX3
          clear hX3
          rw [← HX3.out]
          obtain ⟨u5, hu5⟩ := ovr_self X3
          rw [hu5]
          clear hu5
          have HP3 : Hid (∀ u j, j < 117 → (ovr X3 u).cell? ⟨PB, 0 + j, none⟩ = some (I (q j))) := fun u j hj => by
            obtain ⟨v, hv⟩ : ∃ v, ovr X3 u = ovr X2 v := ⟨_, ovr_of (HBX3.out u)⟩
            rw [hv]; exact HP2.out v j hj
          have k1 : IntKind.i64.wrap (z k 1 + 1) = z k 1 + 1 := IntWalk.i64_in _ (by have := HZ.out 1 (by omega); omega)
          have k2 : IntKind.i64.wrap (z k 1 + (z k 2).tmod 100 + 5) = z k 1 + (z k 2).tmod 100 + 5 := IntWalk.i64_in _ (by have := HZ.out 1 (by omega); have := HM2.out; omega)
          go_wp2_with (with_reducible show wpList _ _ _ _ _ _; refine wpList_load_ia rfl 30 _ rfl PB 0 rfl 117 q _ (HP3.out _) Try.underlying30 rfl (by kernel_rfl) ?_)
          refine (C2.out _).mono ?_
          rintro e w1 ⟨rfl, hb1⟩
          obtain ⟨u6, rfl⟩ := ovr_next hb1
          clear hb1
          go_upto_region 25 with fail
          clear k1 k2
          obtain ⟨X4, hX4⟩ : ∃ X4, X4 = ((ovr X3 u6).alloc (.cells #[I s2.t, I s2.ph, I (s2.v 0), I (s2.v 1), I (s2.v 2), I (s2.v 3), I (s2.v 4), I (s2.v 5)] 37)) := ⟨_, rfl⟩
          have reX4 : ∀ v, ∃ x, ovr X4 v = ovr X3 x := fun v => ovr_re1 hX4
          replace ywr00 := tr_cell reX4 ywr00
          replace zwr00 := tr_froz reX4 zwr00
          replace ywr01 := tr_cell reX4 ywr01
          replace zwr01 := tr_froz reX4 zwr01
          replace ywr02 := tr_cell reX4 ywr02
          replace zwr02 := tr_froz reX4 zwr02
          replace ywr03 := tr_cell reX4 ywr03
          replace zwr03 := tr_froz reX4 zwr03
          replace Rrowwr0 := Lib.hid (tr_row reX4 Rrowwr0.out)
          replace ywr10 := tr_cell reX4 ywr10
          replace zwr10 := tr_froz reX4 zwr10
          replace ywr11 := tr_cell reX4 ywr11
          replace zwr11 := tr_froz reX4 zwr11
          replace ywr12 := tr_cell reX4 ywr12
          replace zwr12 := tr_froz reX4 zwr12
          replace ywr13 := tr_cell reX4 ywr13
          replace zwr13 := tr_froz reX4 zwr13
          replace ywr14 := tr_cell reX4 ywr14
          replace zwr14 := tr_froz reX4 zwr14
          replace ywr15 := tr_cell reX4 ywr15
          replace zwr15 := tr_froz reX4 zwr15
          replace ywr16 := tr_cell reX4 ywr16
          replace zwr16 := tr_froz reX4 zwr16
          replace ywr17 := tr_cell reX4 ywr17
          replace zwr17 := tr_froz reX4 zwr17
          replace ywr18 := tr_cell reX4 ywr18
          replace zwr18 := tr_froz reX4 zwr18
          replace ywr19 := tr_cell reX4 ywr19
          replace zwr19 := tr_froz reX4 zwr19
          replace ywr110 := tr_cell reX4 ywr110
          replace zwr110 := tr_froz reX4 zwr110
          replace ywr111 := tr_cell reX4 ywr111
          replace zwr111 := tr_froz reX4 zwr111
          replace ywr112 := tr_cell reX4 ywr112
          replace zwr112 := tr_froz reX4 zwr112
          replace Rrowwr1 := Lib.hid (tr_row reX4 Rrowwr1.out)
          replace yX100 := tr_cell reX4 yX100
          replace yX101 := tr_cell reX4 yX101
          replace yX102 := tr_cell reX4 yX102
          replace yX103 := tr_cell reX4 yX103
          replace yX104 := tr_cell reX4 yX104
          replace yX105 := tr_cell reX4 yX105
          replace yX106 := tr_cell reX4 yX106
          replace yX107 := tr_cell reX4 yX107
          replace RrowX10 := Lib.hid (tr_row reX4 RrowX10.out)
          replace yX200 := tr_cell reX4 yX200
          replace yX201 := tr_cell reX4 yX201
          replace RrowX20 := Lib.hid (tr_row reX4 RrowX20.out)
          replace yX300 := tr_cell reX4 yX300
          replace yX301 := tr_cell reX4 yX301
          replace yX302 := tr_cell reX4 yX302
          replace yX303 := tr_cell reX4 yX303
          replace yX304 := tr_cell reX4 yX304
          replace yX305 := tr_cell reX4 yX305
          replace yX306 := tr_cell reX4 yX306
          replace yX307 := tr_cell reX4 yX307
          replace RrowX30 := Lib.hid (tr_row reX4 RrowX30.out)
          have rowX40 : X4.heap[(ovr X3 u6).heap.size]? = some (.cells #[I s2.t, I s2.ph, I (s2.v 0), I (s2.v 1), I (s2.v 2), I (s2.v 3), I (s2.v 4), I (s2.v 5)] 37 (0, 0)) := by rw [hX4]; exact heap_last _ _ _ rfl
          have yX400 := ovr_cell (W := X4) (b := (ovr X3 u6).heap.size) (o := 0) (v := I s2.t) (by rw [cell_of_row _ _ _ _ _ _ rowX40]; rfl)
          have yX401 := ovr_cell (W := X4) (b := (ovr X3 u6).heap.size) (o := 1) (v := I s2.ph) (by rw [cell_of_row _ _ _ _ _ _ rowX40]; rfl)
          have yX402 := ovr_cell (W := X4) (b := (ovr X3 u6).heap.size) (o := 2) (v := I (s2.v 0)) (by rw [cell_of_row _ _ _ _ _ _ rowX40]; rfl)
          have yX403 := ovr_cell (W := X4) (b := (ovr X3 u6).heap.size) (o := 3) (v := I (s2.v 1)) (by rw [cell_of_row _ _ _ _ _ _ rowX40]; rfl)
          have yX404 := ovr_cell (W := X4) (b := (ovr X3 u6).heap.size) (o := 4) (v := I (s2.v 2)) (by rw [cell_of_row _ _ _ _ _ _ rowX40]; rfl)
          have yX405 := ovr_cell (W := X4) (b := (ovr X3 u6).heap.size) (o := 5) (v := I (s2.v 3)) (by rw [cell_of_row _ _ _ _ _ _ rowX40]; rfl)
          have yX406 := ovr_cell (W := X4) (b := (ovr X3 u6).heap.size) (o := 6) (v := I (s2.v 4)) (by rw [cell_of_row _ _ _ _ _ _ rowX40]; rfl)
          have yX407 := ovr_cell (W := X4) (b := (ovr X3 u6).heap.size) (o := 7) (v := I (s2.v 5)) (by rw [cell_of_row _ _ _ _ _ _ rowX40]; rfl)
          have RrowX40 := Lib.hid (ovr_row rowX40)
          clear rowX40
          have HBX4 : Hid (∀ u, Below X3.heap.size X3 (ovr X4 u)) := fun u => by obtain ⟨x, hx⟩ := reX4 u; rw [hx]; exact ovr_below _ _
          have HUX4 : Hid (∀ u, Below w.heap.size w (ovr X4 u)) := fun u => by obtain ⟨x, hx⟩ := reX4 u; rw [hx]; exact HUX3.out x
          clear reX4
          have HX4 := Lib.hid hX4
          clear hX4
          rw [← HX4.out]
          obtain ⟨u7, hu7⟩ := ovr_self X4
          rw [hu7]
          clear hu7
          have e1 : s1.t = atQ sk (z k) := by rw [HS1'.out]; rfl
          have e2 : s1.ph = sk.ph := by rw [HS1'.out]; rfl
          have e3 : 0 ≤ g.lo → ¬ s2.v 0 < s1.v 0 := fun h0 => by
            have := nx_mono (h := h) HOK.out.1 (by have := HGB.out; rw [Bool.or_eq_false_iff] at this; exact this.1) h0 HOK.out.2.rng (by show z k 1 ≤ z k 1 + 1; omega) (by show z k 1 + (z k 2).tmod 100 ≤ z k 1 + (z k 2).tmod 100 + 5; omega)
            rw [← HS1'.out, ← HS2'.out] at this
            omega
          rcases Int.lt_or_le g.lo 0 with hg0 | hg0
          · have d3 : decide (0 ≤ g.lo) = false := decide_eq_false (by omega)
            clear e3
            go_upto_region 27 with fail
            clear d3
            obtain ⟨i1, hi1, iz1, is1, ib1⟩ := info_parts stg_info
            have HBw : Hid (∀ u, Below wr.heap.size wr (ovr X4 u)) := fun u => (below_chain (below_chain (below_chain HBX1.out HBX2.out) HBX3.out) HBX4.out) u
            go_wp2_with (with_reducible show wpList _ _ _ (⟨some 203, _, _, _, _, _⟩ :: _) _ _; refine Hid.out ?_)
            refine Lib.hid ?_
            refine wpList_append_own_at _ rfl _ _ 44 rfl V.heap.size 37 i1 _ 8 64 Try.underlying44 hi1 iz1 is1 ib1 rfl (by omega) _ (k + 1) _ rfl (own_below HOWN.out ((HBw.out u7).alloc (HBw.out u7).size _)) ⟨(ovr X4 u7).heap.size, 0, none⟩ 1 1 [I (atQ sk (z k)), I sk.ph, I (s1.v 0), I (s1.v 1), I (s1.v 2), I (s1.v 3), I (s1.v 4), I (s1.v 5)] rfl rfl (cells_row (heap_last _ _ _ rfl)) (one8 rfl rfl rfl rfl rfl rfl rfl rfl) (by unfold maxLen; omega) (by omega) ?_ ?_
            · have h1 := HVwr.out.trans ((HBw.out u7).mono HVwr.out.size)
              have := h1.size
              simp
              omega
            intro v' w' ho hgr hnil hob
            have hfl := flat_ssQ q g h s0 z k s1 (by rw [HS1'.out, HSK.out]; rfl)
            rw [e1, e2] at hfl
            rw [← hfl] at ho
            have hbW : Below V.heap.size V ((ovr X4 u7).alloc (.cells #[I (atQ sk (z k)), I sk.ph, I (s1.v 0), I (s1.v 1), I (s1.v 2), I (s1.v 3), I (s1.v 4), I (s1.v 5)] 37)) := by
              have h1 := HVwr.out.trans ((HBw.out u7).mono HVwr.out.size)
              exact h1.alloc h1.size _
            have hrW : ((ovr X4 u7).alloc (.cells #[I (atQ sk (z k)), I sk.ph, I (s1.v 0), I (s1.v 1), I (s1.v 2), I (s1.v 3), I (s1.v 4), I (s1.v 5)] 37)).heap[RB]? = some (.cells #[.slice (some ⟨lb, lo, none⟩) (k + 1) c', I 100000, .slice none 0 0, .slice none 0 0] 48 (0, 0)) := heap_before (((HBw.out u7).block _ (Array.getElem?_eq_some_iff.1 HROW.out).1).trans HROW.out)
            obtain ⟨hst', hrw'⟩ := StP.more (by have := HXV.out; have := HRB.out; omega) hbW hrW HNB.out (fun b hb => (HOWN.out.lt b hb).1) ho hgr hob HGB.out
            obtain ⟨A2, c2, rfl, _⟩ := Rd.of_own ho
            have HST' := Lib.hid hst'
            have HRW' := Lib.hid hrw'
            clear hst' hrw' ho hgr hnil hob hbW hrW hfl e1 e2
            go_wp2_with (with_reducible show wpList _ _ _ (⟨none, Op.store _ _ _, _, _, _, _⟩ :: _) _ _; refine Hid.out ?_)
            refine Lib.hid ?_
            refine wpList_store_part rfl 44 _ _ rfl RB 0 1 rfl #[.slice (some ⟨lb, lo, none⟩) (k + 1) c', I 100000, .slice none 0 0, .slice none 0 0] #[.slice A2 (k + 1 + 1) c2, I 100000, .slice none 0 0, .slice none 0 0] #[.slice A2 (k + 1 + 1) c2] 48 HRW'.out (by show 1 ≤ 4; omega) (.slice A2 (k + 1 + 1) c2) rfl rfl (one1 rfl) rfl (by kernel_rfl) rfl ?_
            go_wp2_with fail
            refine ⟨⟨k + 1, by omega, rfl, HST'.out⟩, ?_⟩
            simp [intOf]
            omega
          · have d3 : decide (0 ≤ g.lo) = true := decide_eq_true hg0
            have d4 : decide (s2.v 0 < s1.v 0) = false := decide_eq_false (e3 hg0)
            clear e3
            go_upto_region 27 with fail
            clear d3 d4
            obtain ⟨i1, hi1, iz1, is1, ib1⟩ := info_parts stg_info
            have HBw : Hid (∀ u, Below wr.heap.size wr (ovr X4 u)) := fun u => (below_chain (below_chain (below_chain HBX1.out HBX2.out) HBX3.out) HBX4.out) u
            go_wp2_with (with_reducible show wpList _ _ _ (⟨some 203, _, _, _, _, _⟩ :: _) _ _; refine Hid.out ?_)
            refine Lib.hid ?_
            refine wpList_append_own_at _ rfl _ _ 44 rfl V.heap.size 37 i1 _ 8 64 Try.underlying44 hi1 iz1 is1 ib1 rfl (by omega) _ (k + 1) _ rfl (own_below HOWN.out ((HBw.out u7).alloc (HBw.out u7).size _)) ⟨(ovr X4 u7).heap.size, 0, none⟩ 1 1 [I (atQ sk (z k)), I sk.ph, I (s1.v 0), I (s1.v 1), I (s1.v 2), I (s1.v 3), I (s1.v 4), I (s1.v 5)] rfl rfl (cells_row (heap_last _ _ _ rfl)) (one8 rfl rfl rfl rfl rfl rfl rfl rfl) (by unfold maxLen; omega) (by omega) ?_ ?_
            · have h1 := HVwr.out.trans ((HBw.out u7).mono HVwr.out.size)
              have := h1.size
              simp
              omega
            intro v' w' ho hgr hnil hob
            have hfl := flat_ssQ q g h s0 z k s1 (by rw [HS1'.out, HSK.out]; rfl)
            rw [e1, e2] at hfl
            rw [← hfl] at ho
            have hbW : Below V.heap.size V ((ovr X4 u7).alloc (.cells #[I (atQ sk (z k)), I sk.ph, I (s1.v 0), I (s1.v 1), I (s1.v 2), I (s1.v 3), I (s1.v 4), I (s1.v 5)] 37)) := by
              have h1 := HVwr.out.trans ((HBw.out u7).mono HVwr.out.size)
              exact h1.alloc h1.size _
            have hrW : ((ovr X4 u7).alloc (.cells #[I (atQ sk (z k)), I sk.ph, I (s1.v 0), I (s1.v 1), I (s1.v 2), I (s1.v 3), I (s1.v 4), I (s1.v 5)] 37)).heap[RB]? = some (.cells #[.slice (some ⟨lb, lo, none⟩) (k + 1) c', I 100000, .slice none 0 0, .slice none 0 0] 48 (0, 0)) := heap_before (((HBw.out u7).block _ (Array.getElem?_eq_some_iff.1 HROW.out).1).trans HROW.out)
            obtain ⟨hst', hrw'⟩ := StP.more (by have := HXV.out; have := HRB.out; omega) hbW hrW HNB.out (fun b hb => (HOWN.out.lt b hb).1) ho hgr hob HGB.out
            obtain ⟨A2, c2, rfl, _⟩ := Rd.of_own ho
            have HST' := Lib.hid hst'
            have HRW' := Lib.hid hrw'
            clear hst' hrw' ho hgr hnil hob hbW hrW hfl e1 e2
            go_wp2_with (with_reducible show wpList _ _ _ (⟨none, Op.store _ _ _, _, _, _, _⟩ :: _) _ _; refine Hid.out ?_)
            refine Lib.hid ?_
            refine wpList_store_part rfl 44 _ _ rfl RB 0 1 rfl #[.slice (some ⟨lb, lo, none⟩) (k + 1) c', I 100000, .slice none 0 0, .slice none 0 0] #[.slice A2 (k + 1 + 1) c2, I 100000, .slice none 0 0, .slice none 0 0] #[.slice A2 (k + 1 + 1) c2] 48 HRW'.out (by show 1 ≤ 4; omega) (.slice A2 (k + 1 + 1) c2) rfl rfl (one1 rfl) rfl (by kernel_rfl) rfl ?_
            go_wp2_with fail
            refine ⟨⟨k + 1, by omega, rfl, HST'.out⟩, ?_⟩
            simp [intOf]
            omega
        · have hk : k = n := by omega
          subst hk
          obtain ⟨A', c', hrow, hrun, _, _⟩ := HST.out.run (by omega)
          have hVw : Below V.heap.size V wr := by obtain ⟨_, _, _, _, h4, _⟩ := HST.out; exact h4
          have hww : Below w.heap.size w wr := VB.out.trans (hVw.mono VB.out.size)
          have HUwr : Hid (∀ u, Below w.heap.size w (ovr wr u)) := fun u => hww.trans ((ovr_below wr u).mono hww.size)
          rw [show k + 1 = (ssQ q g h s0 z k).length from (ssQ_len q g h s0 z k).symm] at hrow
          have HRR : Hid (∀ V', Below wr.heap.size wr V' → RunIn V' A' none none (rnQ q g h s0 z k)) := fun V' hV' => runIn_over hrun hV'
          have HQQ : Hid (∀ V', Below wr.heap.size wr V' → ∀ j, j < 117 → V'.cell? ⟨PB, 0 + j, none⟩ = some (I (q j))) := fun V' hV' => HPV.out V' (hVw.trans (hV'.mono hVw.size))
          obtain ⟨r0, r1, r2, hbr⟩ : ∃ r0 r1 r2, obB q (rnQ q g h s0 z k) = ⟨r0, r1, r2⟩ := ⟨_, _, _, rfl⟩
          have hfin := fin_ok (g := g) (h := h) hp5.out HG0.out hn hz
          have hrok := run_ok (g := g) (h := h) hp5.out HG0.out hn hz
          rw [hbr] at hfin
          have CO : Hid (∀ W E1 E2 E3 e1 e2 e3, RunIn W E1 E2 E3 (rnQ q g h s0 z k) → Calls Try.prog 9 #[.agg (ia 117 q), runV E1 E2 E3 e1 e2 e3 (rnQ q g h s0 z k)] W fun e w' => e = .returned (.tuple #[.agg #[I r0, I r1, I r2], I 0]) ∧ Below W.heap.size W w') := fun W E1 E2 E3 e1 e2 e3 hr => by
            have := obeys_any E1 E2 E3 e1 e2 e3 q (rnQ q g h s0 z k) W hr
            rw [hbr, hp5.out, hrok] at this; exact this
          have HFIN := Lib.hid hfin
          have hdrow : wr.heap[DB]? = some (.cells (dvA g h s0 A k c) 40 (0, 0)) := (hVw.block _ (Array.getElem?_eq_some_iff.1 VD.out).1).trans VD.out
          have yd12 : wr.cell? ⟨DB, 12, none⟩ = some (.slice A k c) := by rw [cell_of_row _ _ _ _ _ _ hdrow]; rfl
          clear hbr hfin hrok hrun hVw hww HST hdrow
          have ywr00 := ovr_cell (W := wr) (b := RB) (o := 0) (v := .slice A' (ssQ q g h s0 z k).length c') (by rw [cell_of_row _ _ _ _ _ _ hrow]; rfl)
          have zwr00 : ∀ u, (ovr wr u).frozen? ⟨RB, 0, none⟩ = false := fun u => frozen_of_row _ _ _ _ _ (ovr_row hrow u)
          have ywr01 := ovr_cell (W := wr) (b := RB) (o := 1) (v := I 100000) (by rw [cell_of_row _ _ _ _ _ _ hrow]; rfl)
          have zwr01 : ∀ u, (ovr wr u).frozen? ⟨RB, 1, none⟩ = false := fun u => frozen_of_row _ _ _ _ _ (ovr_row hrow u)
          have ywr02 := ovr_cell (W := wr) (b := RB) (o := 2) (v := .slice none 0 0) (by rw [cell_of_row _ _ _ _ _ _ hrow]; rfl)
          have zwr02 : ∀ u, (ovr wr u).frozen? ⟨RB, 2, none⟩ = false := fun u => frozen_of_row _ _ _ _ _ (ovr_row hrow u)
          have ywr03 := ovr_cell (W := wr) (b := RB) (o := 3) (v := .slice none 0 0) (by rw [cell_of_row _ _ _ _ _ _ hrow]; rfl)
          have zwr03 : ∀ u, (ovr wr u).frozen? ⟨RB, 3, none⟩ = false := fun u => frozen_of_row _ _ _ _ _ (ovr_row hrow u)
          have Rrowwr0 := Lib.hid (ovr_row hrow)
          clear hrow
          have d1 : decide ((k : Int) < k) = false := decide_eq_false (by omega)
          go_upto_region 28 with fail
          refine wp_region_make_two (fun j => if j = 0 then some (fun u _ => u = .agg (ia 117 q)) else if j = 2 then some (OwnF (rnQ q g h s0 z k)) else if j = 3 then some (fun u _ => u = .tuple #[.agg #[I r0, I r1, I r2], I 0]) else if j = 7 then some (NewAt wr #[I 0, I 0, I 0] 53) else none) [6] (by kernel_rfl) (by kernel_rfl) (by kernel_rfl) (by kernel_rfl) (by kernel_rfl) (by intro i hi; simp at hi; subst hi; rfl) ⟨rfl, rfl⟩ (fun c a d v w h => by cases d <;> exact h) ?_
          simp only [sleepTwo_cons, sleepTwo_two]
          refine wpG_make (fun u _ => u = .agg (ia 117 q)) rfl rfl (fun w' hw' _ => ?_) (fun u hu => ?_)
          · exact load_grow rfl rfl (HQQ.out w' hw'.le)
          obtain ⟨_, _, rfl⟩ := hu
          simp only [Act.put, List.setIfInBounds_toArray, List.set_cons_zero, List.set_cons_succ]
          repeat (refine wpG_one rfl rfl rfl ?_; intro K hK; go_big_quiet_op; go_big_quiet_on)
          refine wpG_make (OwnF (rnQ q g h s0 z k)) rfl rfl (fun w' hw' _ => ?_) (fun u hu => ?_)
          · go_simp
            exact own_grow (own_any _ _ _ _ _ _ (rnQ q g h s0 z k) w' (HRR.out _ hw'.le))
          obtain ⟨_, _, B1, B2, B3, e1, e2, e3, rfl, _, _⟩ := hu
          simp only [Act.put, List.setIfInBounds_toArray, List.set_cons_zero, List.set_cons_succ]
          refine wpG_make (fun u _ => u = .tuple #[.agg #[I r0, I r1, I r2], I 0]) rfl rfl (fun w' hw' hk => ?_) (fun u hu => ?_)
          · have hk3 := hk ⟨2, .data⟩ (by simp) rfl _ _ _ rfl rfl rfl (by simp) rfl
            obtain ⟨E1, E2, E3, e1, e2, e3, he, hr, hc⟩ := hk3.now
            go_simp
            exact call_grow (CO.out _ _ _ _ _ _ _ hr)
          obtain ⟨_, _, rfl⟩ := hu
          simp only [Act.put, List.setIfInBounds_toArray, List.set_cons_zero, List.set_cons_succ]
          repeat (refine wpG_one rfl rfl rfl ?_; intro K hK; go_big_quiet_op; go_big_quiet_on)
          refine wpG_make (NewAt wr #[I 0, I 0, I 0] 53) rfl rfl (fun w' hw' _ => ?_) (fun u hu => ?_)
          · go_simp
            exact new_grow hw'
          obtain ⟨_, _, xb, rfl, _, hxb⟩ := hu
          simp only [Act.put, List.setIfInBounds_toArray, List.set_cons_zero, List.set_cons_succ]
          repeat (refine wpG_one rfl rfl rfl ?_; intro K hK; go_big_quiet_op; go_big_quiet_on)
          refine wpG_nil (fun w5 hw5 hG => ?_)
          have hx5 := (Box.now hG.2).at.1
          intro s5 t5 hs5 ht5
          obtain rfl := Option.some.inj hs5
          obtain rfl := Option.some.inj ht5
          clear hG hs5 ht5
          refine wp_store_row 53 _ _ rfl xb rfl _ _ hx5 #[I r0, I r1, I r2] rfl (one3 _ _ _) rfl (by kernel_rfl) ?_
          refine ⟨hw5.set hxb _, ?_⟩
          refine wp_assign _ (I 0) rfl rfl ?_
          refine ⟨hw5.set hxb _, ?_⟩
          simp only [Act.put, List.setIfInBounds_toArray, List.set_cons_zero, List.set_cons_succ]
          have L5 : Below wr.heap.size wr (w5.setRow xb #[I r0, I r1, I r2]) := below_setRow hw5.le hxb _
          have q5 : (w5.setRow xb #[I r0, I r1, I r2]).heap[xb]? = some (.cells #[I r0, I r1, I r2] 53 (0, 0)) := setRow_same hx5
          generalize w5.setRow xb #[I r0, I r1, I r2] = Z at *
          clear hx5 hw5
          obtain ⟨uz, rfl⟩ : ∃ u, Z = ovr wr u := ⟨Z, ovr_of L5⟩
          have yb : (ovr wr uz).cell? ⟨xb, 0, none⟩ = some (I r0) := by rw [cell_of_row _ _ _ _ _ _ q5]; rfl
          obtain ⟨f1, f2, f3⟩ := HFIN.out
          have f1 : ¬ r0 = 1 := f1
          have f2 : ¬ r0 = 2 := f2
          have f3 : ¬ r0 = 3 := f3
          have e1 : (r0 != 1) = true := by simp [f1]
          have e2 : (r0 != 2) = true := by simp [f2]
          have e3 : (r0 != 3) = true := by simp [f3]
          clear q5 L5 HQQ HRR CO
          go_wp2_with fail
          refine (ck.out _).mono ?_
          rintro e w1 ⟨rfl, hb1⟩
          obtain ⟨u4, rfl⟩ := ovr_next hb1
          clear hb1
          go_wp2_with fail
          go_ret
          exact ⟨rfl, HUwr.out u4⟩
end Go.Proofs.Ytbojgcaehlapiaa.Un
