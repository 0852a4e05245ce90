/- Contracts of minus, cross, off of package finish. Contracts of turned, sum, take of package finish. Contracts of sum and take of package finish. Contract of take of package finish. The iterator over the balances of some points, of package finish. -/
import Derived.Test.YtliolnfcgaflcaaGreatFae
import Derived.Test.YtliolnfcgaflcaaGreatDm
import Derived.Test.YtliolnfcgaflcaaGreatGae
import Derived.LoopN
import Derived.Test.YtliolnfcgaflcaaGreatSqf
import Derived.RangeFuncNested
import Derived.RangeFuncBound
import Derived.RangeFuncCalls
import Derived.RangeFuncLeaves
import Derived.Shelf.Abstract
import Derived.Shelf.RegionOpen
import Derived.OwnWalkIn
import Derived.TacticsInMore
import Derived.LoopNIn
import Derived.LoopIn
import Derived.Sort.CutIn
import Derived.Laws.OwnMore
namespace Go.Proofs.YtliolnfcgaflcaaGreat.Un
open Go.RowKit
abbrev ptA (p : Pt) : Array Value := #[I (p.at_ : Int), I p.x, I p.y]
def InG (p : Pt) : Prop := (0 ≤ p.x ∧ p.x ≤ 5) ∧ (0 ≤ p.y ∧ p.y ≤ 5) ∧ p.at_ < 36
theorem mul_bdF {a b A B : Int} (ha : -A ≤ a ∧ a ≤ A) (hb : -B ≤ b ∧ b ≤ B) : -(A * B) ≤ a * b ∧ a * b ≤ A * B := by
 have hA : 0 ≤ A := by omega
 have hB : 0 ≤ B := by omega
 rcases Int.le_total 0 a with h1 | h1
 · rcases Int.le_total 0 b with h2 | h2
   · have := Int.mul_le_mul ha.2 hb.2 h2 hA
     have := Int.mul_nonneg h1 h2
     have := Int.mul_nonneg hA hB
     omega
   · have := Int.mul_le_mul ha.2 (show -b ≤ B by omega) (by omega) hA
     have := Int.mul_nonneg h1 (show 0 ≤ -b by omega)
     have := Int.mul_nonneg hA hB
     rw [Int.mul_neg] at *
     omega
 · rcases Int.le_total 0 b with h2 | h2
   · have := Int.mul_le_mul (show -a ≤ A by omega) hb.2 h2 hA
     have := Int.mul_nonneg (show 0 ≤ -a by omega) h2
     have := Int.mul_nonneg hA hB
     rw [Int.neg_mul] at *
     omega
   · have := Int.mul_le_mul (show -a ≤ A by omega) (show -b ≤ B by omega) (by omega) hA
     have := Int.mul_nonneg (show 0 ≤ -a by omega) (show 0 ≤ -b by omega)
     have := Int.mul_nonneg hA hB
     rw [Int.neg_mul_neg] at *
     omega
theorem crs_bd {a b c : Pt} (ha : InG a) (hb : InG b) (hc : InG c) : -50 ≤ crs a b c ∧ crs a b c ≤ 50 := by
 unfold InG at *
 have h1 := mul_bdF (a := b.x - a.x) (b := c.y - a.y) (A := 5) (B := 5) (by omega) (by omega)
 have h2 := mul_bdF (a := c.x - a.x) (b := b.y - a.y) (A := 5) (B := 5) (by omega) (by omega)
 unfold crs
 omega
set_option maxRecDepth 100000 in
set_option maxHeartbeats 2000000 in
theorem minus_any (p q : Pt) (w : World) (hp : InG p) (hq : InG q) :
 Calls Tryz.prog 86 #[.agg (ptA p), .agg (ptA q)] w fun e w' => e = .returned (.tuple #[I (p.x - q.x), I (p.y - q.y)]) ∧ Below w.heap.size w w' := by
 unfold InG at hp hq
 have k1 : IntKind.i64.wrap (p.x - q.x) = p.x - q.x := IntWalk.i64_in _ (by omega)
 have k2 : IntKind.i64.wrap (p.y - q.y) = p.y - q.y := IntWalk.i64_in _ (by omega)
 clear hp hq
 obtain ⟨W, hW⟩ : ∃ W, W = ((w.alloc (.cells #[I (p.at_ : Int), I p.x, I p.y] 96)).alloc (.cells #[I (q.at_ : Int), I q.x, I q.y] 96)) := ⟨_, rfl⟩
 have rowW0 : W.heap[w.heap.size]? = some (.cells #[I (p.at_ : Int), I p.x, I p.y] 96 (0, 0)) := by rw [hW]; exact heap_before (heap_last _ _ _ rfl)
 have yW00 := ovr_cell (W := W) (b := w.heap.size) (o := 0) (v := I (p.at_ : Int)) (by rw [cell_of_row _ _ _ _ _ _ rowW0]; rfl)
 have yW01 := ovr_cell (W := W) (b := w.heap.size) (o := 1) (v := I p.x) (by rw [cell_of_row _ _ _ _ _ _ rowW0]; rfl)
 have yW02 := ovr_cell (W := W) (b := w.heap.size) (o := 2) (v := I p.y) (by rw [cell_of_row _ _ _ _ _ _ rowW0]; rfl)
 have RrowW0 := Lib.hid (ovr_row rowW0)
 clear rowW0
 have rowW1 : W.heap[w.heap.size + 1]? = some (.cells #[I (q.at_ : Int), I q.x, I q.y] 96 (0, 0)) := by rw [hW]; exact heap_last _ _ _ (by simp)
 have yW10 := ovr_cell (W := W) (b := w.heap.size + 1) (o := 0) (v := I (q.at_ : Int)) (by rw [cell_of_row _ _ _ _ _ _ rowW1]; rfl)
 have yW11 := ovr_cell (W := W) (b := w.heap.size + 1) (o := 1) (v := I q.x) (by rw [cell_of_row _ _ _ _ _ _ rowW1]; rfl)
 have yW12 := ovr_cell (W := W) (b := w.heap.size + 1) (o := 2) (v := I q.y) (by rw [cell_of_row _ _ _ _ _ _ rowW1]; rfl)
 have RrowW1 := Lib.hid (ovr_row rowW1)
 clear rowW1
 have HUW : Hid (∀ u, Below w.heap.size w (ovr W u)) := U2 hW
 have HW := Lib.hid hW
 clear hW
 go_enter Tryz.func86, Tryz.ntmps86
 go_upto_region 1 with (fail)
 rw [← HW.out]
 refine wp_region_make (fun _ => none) (by kernel_rfl) (by kernel_rfl) (by kernel_rfl) ?_
 repeat (first | (refine wpG_one rfl rfl rfl ?_; intro K hK; go_big_quiet_op; go_big_quiet_on) | (refine wpG_skip rfl ?_; simp only [Act.put, List.setIfInBounds_toArray, List.set_cons_zero, List.set_cons_succ]))
 refine wpG_nil (fun w5 hw5 hG => ?_)
 clear hG
 obtain ⟨x5, rfl⟩ : ∃ z, w5 = ovr W z := ⟨w5, ovr_of hw5.le⟩
 clear hw5
 go_wp2_with fail
 go_ret2
 exact ⟨rfl, HUW.out _⟩
set_option maxRecDepth 100000 in
set_option maxHeartbeats 2000000 in
theorem cross_any (a b c : Pt) (w : World) (ha : InG a) (hb : InG b) (hc : InG c) :
 Calls Tryz.prog 84 #[.agg (ptA a), .agg (ptA b), .agg (ptA c)] w fun e w' => e = .returned (I (crs a b c)) ∧ Below w.heap.size w w' := by
 have hf : Hid (crs a b c = (b.x - a.x) * (c.y - a.y) - (c.x - a.x) * (b.y - a.y)) := rfl
 have C1 := Lib.hid fun V => minus_any b a V hb ha
 have C2 := Lib.hid fun V => minus_any c a V hc ha
 have hk := crs_bd ha hb hc
 unfold InG at ha hb hc
 have h1 := mul_bdF (a := b.x - a.x) (b := c.y - a.y) (A := 5) (B := 5) (by omega) (by omega)
 have h2 := mul_bdF (a := c.x - a.x) (b := b.y - a.y) (A := 5) (B := 5) (by omega) (by omega)
 have k1 : IntKind.i64.wrap ((b.x - a.x) * (c.y - a.y)) = (b.x - a.x) * (c.y - a.y) := IntWalk.i64_in _ (by omega)
 have k2 : IntKind.i64.wrap ((c.x - a.x) * (b.y - a.y)) = (c.x - a.x) * (b.y - a.y) := IntWalk.i64_in _ (by omega)
 have k3 : IntKind.i64.wrap ((b.x - a.x) * (c.y - a.y) - (c.x - a.x) * (b.y - a.y)) = (b.x - a.x) * (c.y - a.y) - (c.x - a.x) * (b.y - a.y) := IntWalk.i64_in _ (by unfold crs at hk; omega)
 clear hk h1 h2 ha hb hc
 obtain ⟨W, hW⟩ : ∃ W, W = (((w.alloc (.cells #[I (a.at_ : Int), I a.x, I a.y] 96)).alloc (.cells #[I (b.at_ : Int), I b.x, I b.y] 96)).alloc (.cells #[I (c.at_ : Int), I c.x, I c.y] 96)) := ⟨_, rfl⟩
 have rowW0 : W.heap[w.heap.size]? = some (.cells #[I (a.at_ : Int), I a.x, I a.y] 96 (0, 0)) := by rw [hW]; exact heap_before (heap_before (heap_last _ _ _ rfl))
 have yW00 := ovr_cell (W := W) (b := w.heap.size) (o := 0) (v := I (a.at_ : Int)) (by rw [cell_of_row _ _ _ _ _ _ rowW0]; rfl)
 have yW01 := ovr_cell (W := W) (b := w.heap.size) (o := 1) (v := I a.x) (by rw [cell_of_row _ _ _ _ _ _ rowW0]; rfl)
 have yW02 := ovr_cell (W := W) (b := w.heap.size) (o := 2) (v := I a.y) (by rw [cell_of_row _ _ _ _ _ _ rowW0]; rfl)
 have RrowW0 := Lib.hid (ovr_row rowW0)
 clear rowW0
 have rowW1 : W.heap[w.heap.size + 1]? = some (.cells #[I (b.at_ : Int), I b.x, I b.y] 96 (0, 0)) := by rw [hW]; exact heap_before (heap_last _ _ _ (by simp))
 have yW10 := ovr_cell (W := W) (b := w.heap.size + 1) (o := 0) (v := I (b.at_ : Int)) (by rw [cell_of_row _ _ _ _ _ _ rowW1]; rfl)
 have yW11 := ovr_cell (W := W) (b := w.heap.size + 1) (o := 1) (v := I b.x) (by rw [cell_of_row _ _ _ _ _ _ rowW1]; rfl)
 have yW12 := ovr_cell (W := W) (b := w.heap.size + 1) (o := 2) (v := I b.y) (by rw [cell_of_row _ _ _ _ _ _ rowW1]; rfl)
 have RrowW1 := Lib.hid (ovr_row rowW1)
 clear rowW1
 have rowW2 : W.heap[w.heap.size + 1 + 1]? = some (.cells #[I (c.at_ : Int), I c.x, I c.y] 96 (0, 0)) := by rw [hW]; exact heap_last _ _ _ (by simp)
 have yW20 := ovr_cell (W := W) (b := w.heap.size + 1 + 1) (o := 0) (v := I (c.at_ : Int)) (by rw [cell_of_row _ _ _ _ _ _ rowW2]; rfl)
 have yW21 := ovr_cell (W := W) (b := w.heap.size + 1 + 1) (o := 1) (v := I c.x) (by rw [cell_of_row _ _ _ _ _ _ rowW2]; rfl)
 have yW22 := ovr_cell (W := W) (b := w.heap.size + 1 + 1) (o := 2) (v := I c.y) (by rw [cell_of_row _ _ _ _ _ _ rowW2]; rfl)
 have RrowW2 := Lib.hid (ovr_row rowW2)
 clear rowW2
 have HUW : Hid (∀ u, Below w.heap.size w (ovr W u)) := U3 hW
 have HW := Lib.hid hW
 clear hW
 go_enter Tryz.func84, Tryz.ntmps84
 go_upto_region 1 with (fail)
 rw [← HW.out]
 obtain ⟨u0, hu0⟩ := ovr_self W
 rw [hu0]
 clear hu0
 go_wp2_with fail
 refine (C1.out _).mono ?_
 rintro e w1 ⟨rfl, hb1⟩
 obtain ⟨u1, rfl⟩ := ovr_next hb1
 clear hb1
 go_wp2_with fail
 refine (C2.out _).mono ?_
 rintro e w1 ⟨rfl, hb1⟩
 obtain ⟨u2, rfl⟩ := ovr_next hb1
 clear hb1
 go_wp2_with fail
 go_ret
 exact ⟨by rw [hf.out]; rfl, HUW.out _⟩
abbrev plA (p : Pln) : Array Value := #[I p.a, I p.b, I p.c, I p.d]
def InP (p : Pln) : Prop := (-10000000000000 ≤ p.a ∧ p.a ≤ 10000000000000) ∧ (-10000000000000 ≤ p.b ∧ p.b ≤ 10000000000000) ∧ (-10000000000000 ≤ p.c ∧ p.c ≤ 10000000000000) ∧ (-100000 ≤ p.d ∧ p.d ≤ 100000)
theorem off_bd {p : Pln} {q : Pt} {z : Int} (hp : InP p) (hq : InG q) (hz : -1000000 ≤ z ∧ z ≤ 1000000) : -1000000000000000 ≤ p.off q z ∧ p.off q z ≤ 1000000000000000 := by
 unfold InP at hp
 unfold InG at hq
 have h1 := mul_bdF (a := z) (b := p.d) (A := 1000000) (B := 100000) hz hp.2.2.2
 have h2 := mul_bdF (a := p.a) (b := q.x) (A := 10000000000000) (B := 5) hp.1 (by omega)
 have h3 := mul_bdF (a := p.b) (b := q.y) (A := 10000000000000) (B := 5) hp.2.1 (by omega)
 unfold Pln.off Pln.on
 omega
set_option maxRecDepth 100000 in
set_option maxHeartbeats 2000000 in
theorem off_any (p : Pln) (q : Pt) (z : Int) (w : World) (hp : InP p) (hq : InG q) (hz : -1000000 ≤ z ∧ z ≤ 1000000) :
 Calls Tryz.prog 40 #[.agg (plA p), .agg (ptA q), I z] w fun e w' => e = .returned (I (p.off q z)) ∧ Below w.heap.size w w' := by
 have hf : Hid (p.off q z = z * p.d - p.a * q.x - p.b * q.y - p.c) := by show _ = _; unfold Pln.off Pln.on; omega
 have hk := off_bd hp hq hz
 unfold InP at hp
 unfold InG at hq
 have h1 := mul_bdF (a := z) (b := p.d) (A := 1000000) (B := 100000) hz hp.2.2.2
 have h2 := mul_bdF (a := p.a) (b := q.x) (A := 10000000000000) (B := 5) hp.1 (by omega)
 have h3 := mul_bdF (a := p.b) (b := q.y) (A := 10000000000000) (B := 5) hp.2.1 (by omega)
 have k1 : IntKind.i64.wrap (z * p.d) = z * p.d := IntWalk.i64_in _ (by omega)
 have k2 : IntKind.i64.wrap (p.a * q.x) = p.a * q.x := IntWalk.i64_in _ (by omega)
 have k3 : IntKind.i64.wrap (p.b * q.y) = p.b * q.y := IntWalk.i64_in _ (by omega)
 have k4 : IntKind.i64.wrap (z * p.d - p.a * q.x) = z * p.d - p.a * q.x := IntWalk.i64_in _ (by omega)
 have k5 : IntKind.i64.wrap (z * p.d - p.a * q.x - p.b * q.y) = z * p.d - p.a * q.x - p.b * q.y := IntWalk.i64_in _ (by omega)
 have k6 : IntKind.i64.wrap (z * p.d - p.a * q.x - p.b * q.y - p.c) = z * p.d - p.a * q.x - p.b * q.y - p.c := IntWalk.i64_in _ (by omega)
 clear hk h1 h2 h3 hp hq hz
 obtain ⟨W, hW⟩ : ∃ W, W = ((w.alloc (.cells #[I p.a, I p.b, I p.c, I p.d] 109)).alloc (.cells #[I (q.at_ : Int), I q.x, I q.y] 96)) := ⟨_, rfl⟩
 have rowW0 : W.heap[w.heap.size]? = some (.cells #[I p.a, I p.b, I p.c, I p.d] 109 (0, 0)) := by rw [hW]; exact heap_before (heap_last _ _ _ rfl)
 have yW00 := ovr_cell (W := W) (b := w.heap.size) (o := 0) (v := I p.a) (by rw [cell_of_row _ _ _ _ _ _ rowW0]; rfl)
 have yW01 := ovr_cell (W := W) (b := w.heap.size) (o := 1) (v := I p.b) (by rw [cell_of_row _ _ _ _ _ _ rowW0]; rfl)
 have yW02 := ovr_cell (W := W) (b := w.heap.size) (o := 2) (v := I p.c) (by rw [cell_of_row _ _ _ _ _ _ rowW0]; rfl)
 have yW03 := ovr_cell (W := W) (b := w.heap.size) (o := 3) (v := I p.d) (by rw [cell_of_row _ _ _ _ _ _ rowW0]; rfl)
 have RrowW0 := Lib.hid (ovr_row rowW0)
 clear rowW0
 have rowW1 : W.heap[w.heap.size + 1]? = some (.cells #[I (q.at_ : Int), I q.x, I q.y] 96 (0, 0)) := by rw [hW]; exact heap_last _ _ _ (by simp)
 have yW10 := ovr_cell (W := W) (b := w.heap.size + 1) (o := 0) (v := I (q.at_ : Int)) (by rw [cell_of_row _ _ _ _ _ _ rowW1]; rfl)
 have yW11 := ovr_cell (W := W) (b := w.heap.size + 1) (o := 1) (v := I q.x) (by rw [cell_of_row _ _ _ _ _ _ rowW1]; rfl)
 have yW12 := ovr_cell (W := W) (b := w.heap.size + 1) (o := 2) (v := I q.y) (by rw [cell_of_row _ _ _ _ _ _ rowW1]; rfl)
 have RrowW1 := Lib.hid (ovr_row rowW1)
 clear rowW1
 have HUW : Hid (∀ u, Below w.heap.size w (ovr W u)) := U2 hW
 have HW := Lib.hid hW
 clear hW
 go_enter Tryz.func40, Tryz.ntmps40
 go_upto_region 1 with (fail)
 rw [← HW.out]
 obtain ⟨u0, hu0⟩ := ovr_self W
 rw [hu0]
 clear hu0
 go_wp2_with fail
 go_ret
 exact ⟨by rw [hf.out]; rfl, HUW.out _⟩
end Go.Proofs.YtliolnfcgaflcaaGreat.Un
namespace Go.Proofs.YtliolnfcgaflcaaGreat.Un
open Go.RowKit
theorem name_rounds {P : Program} {c : Code} {Q : Exit → Act → World → Prop} {n : Nat} {a : Act} {w : World} (h : ∀ V, V = w → Code.rounds P c Q n a V) : Code.rounds P c Q n a w := h w rfl
theorem wpList_load_row9 {P : Program} {ops : Array Oper} {rest : List Oper} {o : Oper} {a : Act} {w : World} {Q : Exit → Act → World → Prop} (hgd : o.guard = none) (ty : TypeId) (x : Operand) (ho : o.op = .load ty x)
 (g : Nat) (hx : a.eval x = .pointer (some ⟨g, 0, none⟩)) (cs : Array Value) (t : TypeId) (fr : Nat × Nat) (d : TypeDesc) (hg : w.heap[g]? = some (.cells cs t fr))
 (hu : P.underlying ty = some d) (hd : (match d with | .struct _ | .array _ _ => true | _ => false) = true) (hi : (P.info? ty).map (·.size) = some cs.size)
 (h : wpList P ops Q rest (a.put o.dst (.agg cs)) w) : wpList P ops Q (o :: rest) a w := by
 refine wpList_plain hgd fun _ hK => ?_
 have hrun := run_loadVar_row (P := P) w g t ty cs fr d hg hu hd hi
 unfold Oper.wp execOp
 simp only [ho, hx, Instr.loadAt, Instr.sureAddr, Sem.run_bind, Sem.run_pure, Result.andThen_ok, hrun]
 exact hK _ _ h
theorem load_row_grow9 {P : Program} {o : Oper} {a : Act} {w : World} (ty : TypeId) (x : Operand) (ho : o.op = .load ty x) (g : Nat) (hx : a.eval x = .pointer (some ⟨g, 0, none⟩)) (cs : Array Value) (t : TypeId) (fr : Nat × Nat) (d : TypeDesc) (hg : w.heap[g]? = some (.cells cs t fr))
 (hu : P.underlying ty = some d) (hd : (match d with | .struct _ | .array _ _ => true | _ => false) = true) (hi : (P.info? ty).map (·.size) = some cs.size) : Oper.grows P o a w (fun u _ => u = .agg cs) := by
 have hrun := run_loadVar_row (P := P) w g t ty cs fr d hg hu hd hi
 unfold Oper.grows execOp
 simp only [ho, hx, Instr.loadAt, Instr.sureAddr, Sem.run_bind, Sem.run_pure, Result.andThen_ok, hrun]
 exact ⟨Le.refl _, fun _ _ => rfl⟩
theorem cell_row9 {w : World} {b : Nat} {cs : Array Value} {t : TypeId} (h : w.heap[b]? = some (.cells cs t (0, 0))) {j : Nat} {v : Value} (hv : cs[j]? = some v) : ∀ u, (ovr w u).cell? ⟨b, j, none⟩ = some v :=
 ovr_cell (W := w) (b := b) (o := j) (v := v) (by rw [cell_of_row _ _ _ _ _ _ h]; exact hv)
abbrev balA (b : Bal) : Array Value := #[I (b.a.at_ : Int), I b.a.x, I b.a.y, I (b.b.at_ : Int), I b.b.x, I b.b.y, I (b.c.at_ : Int), I b.c.x, I b.c.y, I (b.d.at_ : Int), I b.d.x, I b.d.y, I b.w0, I b.w1, I b.w2, I b.w3, I b.sz]
structure InB (x : Bal) : Prop where
 a : InG x.a
 b : InG x.b
 c : InG x.c
 d : InG x.d
 w0 : -50 ≤ x.w0 ∧ x.w0 ≤ 50
 w1 : -50 ≤ x.w1 ∧ x.w1 ≤ 50
 w2 : -50 ≤ x.w2 ∧ x.w2 ≤ 50
 w3 : -50 ≤ x.w3 ∧ x.w3 ≤ 50
 sz : 0 ≤ x.sz ∧ x.sz ≤ 200
theorem InB.turn {b : Bal} (h : InB b) : InB b.turn := ⟨h.a, h.b, h.c, h.d, by have := h.w0; show _ ≤ -b.w0 ∧ -b.w0 ≤ _; omega, by have := h.w1; show _ ≤ -b.w1 ∧ -b.w1 ≤ _; omega, by have := h.w2; show _ ≤ -b.w2 ∧ -b.w2 ≤ _; omega, by have := h.w3; show _ ≤ -b.w3 ∧ -b.w3 ≤ _; omega, h.sz⟩
set_option maxRecDepth 100000 in
set_option maxHeartbeats 4000000 in
theorem turned_any (b : Bal) (w : World) (hb : InB b) :
 Calls Tryz.prog 68 #[.agg (balA b)] w fun e w' => e = .returned (.agg (balA b.turn)) ∧ Below w.heap.size w w' := by
 have k0 : wrap64 (-b.w0) = -b.w0 := by have := hb.w0; unfold wrap64; omega
 have k1 : wrap64 (-b.w1) = -b.w1 := by have := hb.w1; unfold wrap64; omega
 have k2 : wrap64 (-b.w2) = -b.w2 := by have := hb.w2; unfold wrap64; omega
 have k3 : wrap64 (-b.w3) = -b.w3 := by have := hb.w3; unfold wrap64; omega
 clear hb
 obtain ⟨V, hV⟩ : ∃ V, V = (w.alloc (.cells (balA b) 100)).alloc (.cells #[I 0, I 0, I 0, I 0, I 0, I 0, I 0, I 0, I 0, I 0, I 0, I 0, I 0, I 0, I 0, I 0, I 0] 100) := ⟨_, rfl⟩
 have r0 : V.heap[w.heap.size]? = some (.cells (balA b) 100 (0, 0)) := by rw [hV]; exact heap_before (heap_last _ _ _ rfl)
 have r1 : V.heap[w.heap.size + 1]? = some (.cells #[I 0, I 0, I 0, I 0, I 0, I 0, I 0, I 0, I 0, I 0, I 0, I 0, I 0, I 0, I 0, I 0, I 0] 100 (0, 0)) := by rw [hV]; exact heap_last _ _ _ (by simp)
 have HBV : Hid (Below w.heap.size w V) := by show Below _ _ _; rw [hV]; exact ((Below.refl _ _).alloc (Nat.le_refl _) _).alloc (by simp) _
 have HV := Lib.hid hV
 have HR1 := Lib.hid r1
 clear hV r1
 have yV00 := ovr_cell (W := V) (b := w.heap.size) (o := 0) (v := I (b.a.at_ : Int)) (by rw [cell_of_row _ _ _ _ _ _ r0]; rfl)
 have zV00 : ∀ u, (ovr V u).frozen? ⟨w.heap.size, 0, none⟩ = false := fun u => frozen_of_row _ _ _ _ _ (ovr_row r0 u)
 have yV01 := ovr_cell (W := V) (b := w.heap.size) (o := 1) (v := I b.a.x) (by rw [cell_of_row _ _ _ _ _ _ r0]; rfl)
 have zV01 : ∀ u, (ovr V u).frozen? ⟨w.heap.size, 1, none⟩ = false := fun u => frozen_of_row _ _ _ _ _ (ovr_row r0 u)
 have yV02 := ovr_cell (W := V) (b := w.heap.size) (o := 2) (v := I b.a.y) (by rw [cell_of_row _ _ _ _ _ _ r0]; rfl)
 have zV02 : ∀ u, (ovr V u).frozen? ⟨w.heap.size, 2, none⟩ = false := fun u => frozen_of_row _ _ _ _ _ (ovr_row r0 u)
 have yV03 := ovr_cell (W := V) (b := w.heap.size) (o := 3) (v := I (b.b.at_ : Int)) (by rw [cell_of_row _ _ _ _ _ _ r0]; rfl)
 have zV03 : ∀ u, (ovr V u).frozen? ⟨w.heap.size, 3, none⟩ = false := fun u => frozen_of_row _ _ _ _ _ (ovr_row r0 u)
 have yV04 := ovr_cell (W := V) (b := w.heap.size) (o := 4) (v := I b.b.x) (by rw [cell_of_row _ _ _ _ _ _ r0]; rfl)
 have zV04 : ∀ u, (ovr V u).frozen? ⟨w.heap.size, 4, none⟩ = false := fun u => frozen_of_row _ _ _ _ _ (ovr_row r0 u)
 have yV05 := ovr_cell (W := V) (b := w.heap.size) (o := 5) (v := I b.b.y) (by rw [cell_of_row _ _ _ _ _ _ r0]; rfl)
 have zV05 : ∀ u, (ovr V u).frozen? ⟨w.heap.size, 5, none⟩ = false := fun u => frozen_of_row _ _ _ _ _ (ovr_row r0 u)
 have yV06 := ovr_cell (W := V) (b := w.heap.size) (o := 6) (v := I (b.c.at_ : Int)) (by rw [cell_of_row _ _ _ _ _ _ r0]; rfl)
 have zV06 : ∀ u, (ovr V u).frozen? ⟨w.heap.size, 6, none⟩ = false := fun u => frozen_of_row _ _ _ _ _ (ovr_row r0 u)
 have yV07 := ovr_cell (W := V) (b := w.heap.size) (o := 7) (v := I b.c.x) (by rw [cell_of_row _ _ _ _ _ _ r0]; rfl)
 have zV07 : ∀ u, (ovr V u).frozen? ⟨w.heap.size, 7, none⟩ = false := fun u => frozen_of_row _ _ _ _ _ (ovr_row r0 u)
 have yV08 := ovr_cell (W := V) (b := w.heap.size) (o := 8) (v := I b.c.y) (by rw [cell_of_row _ _ _ _ _ _ r0]; rfl)
 have zV08 : ∀ u, (ovr V u).frozen? ⟨w.heap.size, 8, none⟩ = false := fun u => frozen_of_row _ _ _ _ _ (ovr_row r0 u)
 have yV09 := ovr_cell (W := V) (b := w.heap.size) (o := 9) (v := I (b.d.at_ : Int)) (by rw [cell_of_row _ _ _ _ _ _ r0]; rfl)
 have zV09 : ∀ u, (ovr V u).frozen? ⟨w.heap.size, 9, none⟩ = false := fun u => frozen_of_row _ _ _ _ _ (ovr_row r0 u)
 have yV010 := ovr_cell (W := V) (b := w.heap.size) (o := 10) (v := I b.d.x) (by rw [cell_of_row _ _ _ _ _ _ r0]; rfl)
 have zV010 : ∀ u, (ovr V u).frozen? ⟨w.heap.size, 10, none⟩ = false := fun u => frozen_of_row _ _ _ _ _ (ovr_row r0 u)
 have yV011 := ovr_cell (W := V) (b := w.heap.size) (o := 11) (v := I b.d.y) (by rw [cell_of_row _ _ _ _ _ _ r0]; rfl)
 have zV011 : ∀ u, (ovr V u).frozen? ⟨w.heap.size, 11, none⟩ = false := fun u => frozen_of_row _ _ _ _ _ (ovr_row r0 u)
 have yV012 := ovr_cell (W := V) (b := w.heap.size) (o := 12) (v := I b.w0) (by rw [cell_of_row _ _ _ _ _ _ r0]; rfl)
 have zV012 : ∀ u, (ovr V u).frozen? ⟨w.heap.size, 12, none⟩ = false := fun u => frozen_of_row _ _ _ _ _ (ovr_row r0 u)
 have yV013 := ovr_cell (W := V) (b := w.heap.size) (o := 13) (v := I b.w1) (by rw [cell_of_row _ _ _ _ _ _ r0]; rfl)
 have zV013 : ∀ u, (ovr V u).frozen? ⟨w.heap.size, 13, none⟩ = false := fun u => frozen_of_row _ _ _ _ _ (ovr_row r0 u)
 have yV014 := ovr_cell (W := V) (b := w.heap.size) (o := 14) (v := I b.w2) (by rw [cell_of_row _ _ _ _ _ _ r0]; rfl)
 have zV014 : ∀ u, (ovr V u).frozen? ⟨w.heap.size, 14, none⟩ = false := fun u => frozen_of_row _ _ _ _ _ (ovr_row r0 u)
 have yV015 := ovr_cell (W := V) (b := w.heap.size) (o := 15) (v := I b.w3) (by rw [cell_of_row _ _ _ _ _ _ r0]; rfl)
 have zV015 : ∀ u, (ovr V u).frozen? ⟨w.heap.size, 15, none⟩ = false := fun u => frozen_of_row _ _ _ _ _ (ovr_row r0 u)
 have yV016 := ovr_cell (W := V) (b := w.heap.size) (o := 16) (v := I b.sz) (by rw [cell_of_row _ _ _ _ _ _ r0]; rfl)
 have zV016 : ∀ u, (ovr V u).frozen? ⟨w.heap.size, 16, none⟩ = false := fun u => frozen_of_row _ _ _ _ _ (ovr_row r0 u)
 have RrowV0 := Lib.hid (ovr_row r0)
 clear r0
 go_enter Tryz.func68, Tryz.ntmps68
 go_upto_region 1 with (fail)
 rw [← HV.out]
 obtain ⟨u0, hu0⟩ := ovr_self V
 rw [hu0]
 clear hu0
 go_wp2_with fail
 refine wp_loop_rounds 5 ?_
 rw [rounds_succ]
 go_wp2_with fail
 rw [rounds_succ]
 go_wp2_with fail
 rw [rounds_succ]
 go_wp2_with fail
 rw [rounds_succ]
 go_wp2_with fail
 refine name_rounds fun X hX => ?_
 have HX0 : Hid (X.heap[w.heap.size]? = some (.cells (balA b.turn) 100 (0, 0)) ∧ X.heap[w.heap.size + 1]? = some (.cells #[I 0, I 0, I 0, I 0, I 0, I 0, I 0, I 0, I 0, I 0, I 0, I 0, I 0, I 0, I 0, I 0, I 0] 100 (0, 0)) ∧ Below w.heap.size w X) := by
  show _ ∧ _ ∧ _
  rw [hX]
  exact ⟨rs (rs (rs (rs (RrowV0.out u0) 12 _) 13 _) 14 _) 15 _, sc_other (sc_other (sc_other (sc_other (((ovr_below V u0).block _ (Array.getElem?_eq_some_iff.1 HR1.out).1).trans HR1.out) (by omega)) (by omega)) (by omega)) (by omega),
   sc_below (sc_below (sc_below (sc_below (HBV.out.trans ((ovr_below V u0).mono HBV.out.size)) (Nat.le_refl _) _ _) (Nat.le_refl _) _ _) (Nat.le_refl _) _ _) (Nat.le_refl _) _ _⟩
 clear hX k0 k1 k2 k3 RrowV0
 obtain ⟨x0, x1, _⟩ := HX0.out
 have yX00 := ovr_cell (W := X) (b := w.heap.size) (o := 0) (v := I (b.a.at_ : Int)) (by rw [cell_of_row _ _ _ _ _ _ x0]; rfl)
 have zX00 : ∀ u, (ovr X u).frozen? ⟨w.heap.size, 0, none⟩ = false := fun u => frozen_of_row _ _ _ _ _ (ovr_row x0 u)
 have yX01 := ovr_cell (W := X) (b := w.heap.size) (o := 1) (v := I b.a.x) (by rw [cell_of_row _ _ _ _ _ _ x0]; rfl)
 have zX01 : ∀ u, (ovr X u).frozen? ⟨w.heap.size, 1, none⟩ = false := fun u => frozen_of_row _ _ _ _ _ (ovr_row x0 u)
 have yX02 := ovr_cell (W := X) (b := w.heap.size) (o := 2) (v := I b.a.y) (by rw [cell_of_row _ _ _ _ _ _ x0]; rfl)
 have zX02 : ∀ u, (ovr X u).frozen? ⟨w.heap.size, 2, none⟩ = false := fun u => frozen_of_row _ _ _ _ _ (ovr_row x0 u)
 have yX03 := ovr_cell (W := X) (b := w.heap.size) (o := 3) (v := I (b.b.at_ : Int)) (by rw [cell_of_row _ _ _ _ _ _ x0]; rfl)
 have zX03 : ∀ u, (ovr X u).frozen? ⟨w.heap.size, 3, none⟩ = false := fun u => frozen_of_row _ _ _ _ _ (ovr_row x0 u)
 have yX04 := ovr_cell (W := X) (b := w.heap.size) (o := 4) (v := I b.b.x) (by rw [cell_of_row _ _ _ _ _ _ x0]; rfl)
 have zX04 : ∀ u, (ovr X u).frozen? ⟨w.heap.size, 4, none⟩ = false := fun u => frozen_of_row _ _ _ _ _ (ovr_row x0 u)
 have yX05 := ovr_cell (W := X) (b := w.heap.size) (o := 5) (v := I b.b.y) (by rw [cell_of_row _ _ _ _ _ _ x0]; rfl)
 have zX05 : ∀ u, (ovr X u).frozen? ⟨w.heap.size, 5, none⟩ = false := fun u => frozen_of_row _ _ _ _ _ (ovr_row x0 u)
 have yX06 := ovr_cell (W := X) (b := w.heap.size) (o := 6) (v := I (b.c.at_ : Int)) (by rw [cell_of_row _ _ _ _ _ _ x0]; rfl)
 have zX06 : ∀ u, (ovr X u).frozen? ⟨w.heap.size, 6, none⟩ = false := fun u => frozen_of_row _ _ _ _ _ (ovr_row x0 u)
 have yX07 := ovr_cell (W := X) (b := w.heap.size) (o := 7) (v := I b.c.x) (by rw [cell_of_row _ _ _ _ _ _ x0]; rfl)
 have zX07 : ∀ u, (ovr X u).frozen? ⟨w.heap.size, 7, none⟩ = false := fun u => frozen_of_row _ _ _ _ _ (ovr_row x0 u)
 have yX08 := ovr_cell (W := X) (b := w.heap.size) (o := 8) (v := I b.c.y) (by rw [cell_of_row _ _ _ _ _ _ x0]; rfl)
 have zX08 : ∀ u, (ovr X u).frozen? ⟨w.heap.size, 8, none⟩ = false := fun u => frozen_of_row _ _ _ _ _ (ovr_row x0 u)
 have yX09 := ovr_cell (W := X) (b := w.heap.size) (o := 9) (v := I (b.d.at_ : Int)) (by rw [cell_of_row _ _ _ _ _ _ x0]; rfl)
 have zX09 : ∀ u, (ovr X u).frozen? ⟨w.heap.size, 9, none⟩ = false := fun u => frozen_of_row _ _ _ _ _ (ovr_row x0 u)
 have yX010 := ovr_cell (W := X) (b := w.heap.size) (o := 10) (v := I b.d.x) (by rw [cell_of_row _ _ _ _ _ _ x0]; rfl)
 have zX010 : ∀ u, (ovr X u).frozen? ⟨w.heap.size, 10, none⟩ = false := fun u => frozen_of_row _ _ _ _ _ (ovr_row x0 u)
 have yX011 := ovr_cell (W := X) (b := w.heap.size) (o := 11) (v := I b.d.y) (by rw [cell_of_row _ _ _ _ _ _ x0]; rfl)
 have zX011 : ∀ u, (ovr X u).frozen? ⟨w.heap.size, 11, none⟩ = false := fun u => frozen_of_row _ _ _ _ _ (ovr_row x0 u)
 have yX012 := ovr_cell (W := X) (b := w.heap.size) (o := 12) (v := I (-b.w0)) (by rw [cell_of_row _ _ _ _ _ _ x0]; rfl)
 have zX012 : ∀ u, (ovr X u).frozen? ⟨w.heap.size, 12, none⟩ = false := fun u => frozen_of_row _ _ _ _ _ (ovr_row x0 u)
 have yX013 := ovr_cell (W := X) (b := w.heap.size) (o := 13) (v := I (-b.w1)) (by rw [cell_of_row _ _ _ _ _ _ x0]; rfl)
 have zX013 : ∀ u, (ovr X u).frozen? ⟨w.heap.size, 13, none⟩ = false := fun u => frozen_of_row _ _ _ _ _ (ovr_row x0 u)
 have yX014 := ovr_cell (W := X) (b := w.heap.size) (o := 14) (v := I (-b.w2)) (by rw [cell_of_row _ _ _ _ _ _ x0]; rfl)
 have zX014 : ∀ u, (ovr X u).frozen? ⟨w.heap.size, 14, none⟩ = false := fun u => frozen_of_row _ _ _ _ _ (ovr_row x0 u)
 have yX015 := ovr_cell (W := X) (b := w.heap.size) (o := 15) (v := I (-b.w3)) (by rw [cell_of_row _ _ _ _ _ _ x0]; rfl)
 have zX015 : ∀ u, (ovr X u).frozen? ⟨w.heap.size, 15, none⟩ = false := fun u => frozen_of_row _ _ _ _ _ (ovr_row x0 u)
 have yX016 := ovr_cell (W := X) (b := w.heap.size) (o := 16) (v := I b.sz) (by rw [cell_of_row _ _ _ _ _ _ x0]; rfl)
 have zX016 : ∀ u, (ovr X u).frozen? ⟨w.heap.size, 16, none⟩ = false := fun u => frozen_of_row _ _ _ _ _ (ovr_row x0 u)
 have RrowX0 := Lib.hid (ovr_row x0)
 clear x0
 obtain ⟨u1, hu1⟩ := ovr_self X
 rw [hu1]
 clear hu1
 rw [rounds_succ]
 go_wp2_with (with_reducible show wpList _ _ _ _ _ _; refine wpList_store_row rfl 100 _ _ rfl (w.heap.size + 1) rfl _ _ (((ovr_below X u1).block _ (Array.getElem?_eq_some_iff.1 HX0.out.2.1).1).trans HX0.out.2.1) (balA b.turn) rfl (by simp [Value.oneCell']) rfl (by kernel_rfl) ?_)
 refine bodyPost_ret (results_cell_only rfl _ _ (w.heap.size + 1) 100 _ (0, 0) _ rfl (setRow_same ((((ovr_below X u1).block _ (Array.getElem?_eq_some_iff.1 HX0.out.2.1).1).trans HX0.out.2.1))) Tryz.underlying100 rfl (by kernel_rfl)) rfl ?_
 exact ⟨rfl, below_setRow (HX0.out.2.2.trans ((ovr_below X u1).mono HX0.out.2.2.size)) (by omega) _⟩
end Go.Proofs.YtliolnfcgaflcaaGreat.Un
namespace Go.Proofs.YtliolnfcgaflcaaGreat.Un
open Go.RowKit
def valK (z : Nat → Rng) (g : Bool) (b : Bal) : Nat → Int
 | 0 => 0 | 1 => tm9 b.w0 (z b.a.at_) g | 2 => tm9 b.w0 (z b.a.at_) g + tm9 b.w1 (z b.b.at_) g | 3 => tm9 b.w0 (z b.a.at_) g + tm9 b.w1 (z b.b.at_) g + tm9 b.w2 (z b.c.at_) g | _ => val9 z g b
def InZ (zs : List Rng) : Prop := ∀ j, j < zs.length → (-1000000 ≤ (at0 zs j).lo ∧ (at0 zs j).lo ≤ 1000000) ∧ -1000000 ≤ (at0 zs j).hi ∧ (at0 zs j).hi ≤ 1000000
theorem tm9_bd {w : Int} {r : Rng} {g : Bool} (hw : -50 ≤ w ∧ w ≤ 50) (h1 : -1000000 ≤ r.lo ∧ r.lo ≤ 1000000) (h2 : -1000000 ≤ r.hi ∧ r.hi ≤ 1000000) : -50000000 ≤ tm9 w r g ∧ tm9 w r g ≤ 50000000 := by
 have a1 := mul_bdF (a := w) (b := r.lo) (A := 50) (B := 1000000) hw h1
 have a2 := mul_bdF (a := w) (b := r.hi) (A := 50) (B := 1000000) hw h2
 unfold tm9
 split <;> omega
structure InN (x : Bal) (n : Nat) : Prop where
 a : x.a.at_ < n
 b : x.b.at_ < n
 c : x.c.at_ < n
 d : x.d.at_ < n
theorem val9_bd {zs : List Rng} {g : Bool} {b : Bal} (hb : InB b) (hn : InN b zs.length) (hz : InZ zs) : -200000000 ≤ val9 (at0 zs) g b ∧ val9 (at0 zs) g b ≤ 200000000 := by
 have a0 := tm9_bd (g := g) hb.w0 (hz _ hn.a).1 (hz _ hn.a).2
 have a1 := tm9_bd (g := g) hb.w1 (hz _ hn.b).1 (hz _ hn.b).2
 have a2 := tm9_bd (g := g) hb.w2 (hz _ hn.c).1 (hz _ hn.c).2
 have a3 := tm9_bd (g := g) hb.w3 (hz _ hn.d).1 (hz _ hn.d).2
 unfold val9
 omega
theorem valK_bd {zs : List Rng} {g : Bool} {b : Bal} (hb : InB b) (hn : InN b zs.length) (hz : InZ zs) (k : Nat) (hk : k ≤ 3) : -200000000 ≤ valK (at0 zs) g b k ∧ valK (at0 zs) g b k ≤ 200000000 := by
 have a0 := tm9_bd (g := g) hb.w0 (hz _ hn.a).1 (hz _ hn.a).2
 have a1 := tm9_bd (g := g) hb.w1 (hz _ hn.b).1 (hz _ hn.b).2
 have a2 := tm9_bd (g := g) hb.w2 (hz _ hn.c).1 (hz _ hn.c).2
 match k, hk with
 | 0, _ => show _ ≤ (0 : Int) ∧ (0 : Int) ≤ _; omega
 | 1, _ => show _ ≤ tm9 b.w0 (at0 zs b.a.at_) g ∧ tm9 b.w0 (at0 zs b.a.at_) g ≤ _; omega
 | 2, _ => show _ ≤ tm9 b.w0 (at0 zs b.a.at_) g + tm9 b.w1 (at0 zs b.b.at_) g ∧ tm9 b.w0 (at0 zs b.a.at_) g + tm9 b.w1 (at0 zs b.b.at_) g ≤ _; omega
 | 3, _ => show _ ≤ tm9 b.w0 (at0 zs b.a.at_) g + tm9 b.w1 (at0 zs b.b.at_) g + tm9 b.w2 (at0 zs b.c.at_) g ∧ tm9 b.w0 (at0 zs b.a.at_) g + tm9 b.w1 (at0 zs b.b.at_) g + tm9 b.w2 (at0 zs b.c.at_) g ≤ _; omega
theorem ixp0 (a0 a1 a2 a3 a4 a5 a6 a7 a8 a9 a10 a11 : Value) (w : World) : (Instr.index 97 (.agg #[a0, a1, a2, a3, a4, a5, a6, a7, a8, a9, a10, a11]) (.int .i64 0)).run Tryz.prog w = .ok (.agg #[a0, a1, a2]) w := by kernel_rfl
theorem ixp1 (a0 a1 a2 a3 a4 a5 a6 a7 a8 a9 a10 a11 : Value) (w : World) : (Instr.index 97 (.agg #[a0, a1, a2, a3, a4, a5, a6, a7, a8, a9, a10, a11]) (.int .i64 1)).run Tryz.prog w = .ok (.agg #[a3, a4, a5]) w := by kernel_rfl
theorem ixp2 (a0 a1 a2 a3 a4 a5 a6 a7 a8 a9 a10 a11 : Value) (w : World) : (Instr.index 97 (.agg #[a0, a1, a2, a3, a4, a5, a6, a7, a8, a9, a10, a11]) (.int .i64 2)).run Tryz.prog w = .ok (.agg #[a6, a7, a8]) w := by kernel_rfl
theorem ixp3 (a0 a1 a2 a3 a4 a5 a6 a7 a8 a9 a10 a11 : Value) (w : World) : (Instr.index 97 (.agg #[a0, a1, a2, a3, a4, a5, a6, a7, a8, a9, a10, a11]) (.int .i64 3)).run Tryz.prog w = .ok (.agg #[a9, a10, a11]) w := by kernel_rfl
theorem alloc_below {n : Nat} {a w : World} {o : Obj} (h : Below n a w) (hn : n ≤ w.heap.size := by exact Nat.le_refl _) : Below n a (w.alloc o) := h.alloc hn _
set_option maxRecDepth 100000 in
set_option maxHeartbeats 4000000 in
theorem sum9_any (b : Bal) (A : Option Addr) (c : Nat) (zs : List Rng) (g : Bool) (w : World) (B : Nat) (hb : InB b) (hn : InN b zs.length) (hz : InZ zs) (hB : B ≤ w.heap.size) (hx : Rd w B 2 A zs.length (rR zs)) :
 Calls Tryz.prog 67 #[.agg (balA b), .slice A zs.length c, .bool g] w fun e w' => e = .returned (I (val9 (at0 zs) g b)) ∧ Below w.heap.size w w' := by
 have HRD : Hid (∀ V, Below w.heap.size w V → Rd V B 2 A zs.length (rR zs)) := fun V hV => hx.below (hV.mono hB)
 have HB := Lib.hid hb
 have HN := Lib.hid hn
 have HZ := Lib.hid hz
 clear hx hB hb hn hz
 obtain ⟨W, hW⟩ : ∃ W, W = (w.alloc (.cells #[I (b.a.at_ : Int), I b.a.x, I b.a.y, I (b.b.at_ : Int), I b.b.x, I b.b.y, I (b.c.at_ : Int), I b.c.x, I b.c.y, I (b.d.at_ : Int), I b.d.x, I b.d.y, I b.w0, I b.w1, I b.w2, I b.w3, I b.sz] 100)) := ⟨_, rfl⟩
 have rowW0 : W.heap[w.heap.size]? = some (.cells #[I (b.a.at_ : Int), I b.a.x, I b.a.y, I (b.b.at_ : Int), I b.b.x, I b.b.y, I (b.c.at_ : Int), I b.c.x, I b.c.y, I (b.d.at_ : Int), I b.d.x, I b.d.y, I b.w0, I b.w1, I b.w2, I b.w3, I b.sz] 100 (0, 0)) := by rw [hW]; exact heap_last _ _ _ rfl
 have yW00 := ovr_cell (W := W) (b := w.heap.size) (o := 0) (v := I (b.a.at_ : Int)) (by rw [cell_of_row _ _ _ _ _ _ rowW0]; rfl)
 have yW01 := ovr_cell (W := W) (b := w.heap.size) (o := 1) (v := I b.a.x) (by rw [cell_of_row _ _ _ _ _ _ rowW0]; rfl)
 have yW02 := ovr_cell (W := W) (b := w.heap.size) (o := 2) (v := I b.a.y) (by rw [cell_of_row _ _ _ _ _ _ rowW0]; rfl)
 have yW03 := ovr_cell (W := W) (b := w.heap.size) (o := 3) (v := I (b.b.at_ : Int)) (by rw [cell_of_row _ _ _ _ _ _ rowW0]; rfl)
 have yW04 := ovr_cell (W := W) (b := w.heap.size) (o := 4) (v := I b.b.x) (by rw [cell_of_row _ _ _ _ _ _ rowW0]; rfl)
 have yW05 := ovr_cell (W := W) (b := w.heap.size) (o := 5) (v := I b.b.y) (by rw [cell_of_row _ _ _ _ _ _ rowW0]; rfl)
 have yW06 := ovr_cell (W := W) (b := w.heap.size) (o := 6) (v := I (b.c.at_ : Int)) (by rw [cell_of_row _ _ _ _ _ _ rowW0]; rfl)
 have yW07 := ovr_cell (W := W) (b := w.heap.size) (o := 7) (v := I b.c.x) (by rw [cell_of_row _ _ _ _ _ _ rowW0]; rfl)
 have yW08 := ovr_cell (W := W) (b := w.heap.size) (o := 8) (v := I b.c.y) (by rw [cell_of_row _ _ _ _ _ _ rowW0]; rfl)
 have yW09 := ovr_cell (W := W) (b := w.heap.size) (o := 9) (v := I (b.d.at_ : Int)) (by rw [cell_of_row _ _ _ _ _ _ rowW0]; rfl)
 have yW010 := ovr_cell (W := W) (b := w.heap.size) (o := 10) (v := I b.d.x) (by rw [cell_of_row _ _ _ _ _ _ rowW0]; rfl)
 have yW011 := ovr_cell (W := W) (b := w.heap.size) (o := 11) (v := I b.d.y) (by rw [cell_of_row _ _ _ _ _ _ rowW0]; rfl)
 have yW012 := ovr_cell (W := W) (b := w.heap.size) (o := 12) (v := I b.w0) (by rw [cell_of_row _ _ _ _ _ _ rowW0]; rfl)
 have yW013 := ovr_cell (W := W) (b := w.heap.size) (o := 13) (v := I b.w1) (by rw [cell_of_row _ _ _ _ _ _ rowW0]; rfl)
 have yW014 := ovr_cell (W := W) (b := w.heap.size) (o := 14) (v := I b.w2) (by rw [cell_of_row _ _ _ _ _ _ rowW0]; rfl)
 have yW015 := ovr_cell (W := W) (b := w.heap.size) (o := 15) (v := I b.w3) (by rw [cell_of_row _ _ _ _ _ _ rowW0]; rfl)
 have yW016 := ovr_cell (W := W) (b := w.heap.size) (o := 16) (v := I b.sz) (by rw [cell_of_row _ _ _ _ _ _ rowW0]; rfl)
 have RrowW0 := Lib.hid (ovr_row rowW0)
 clear rowW0
 have HUW : Hid (∀ u, Below w.heap.size w (ovr W u)) := U1 hW
 have HW := Lib.hid hW
 clear hW
 go_enter Tryz.func67, Tryz.ntmps67
 go_upto_region 1 with (fail)
 rw [← HW.out]
 obtain ⟨u0, hu0⟩ := ovr_self W
 rw [hu0]
 clear hu0
 go_wp2_with fail
 go_loopw [13, 7] (fun iv sv wr => ∃ (k : Nat) (u : World), k ≤ 4 ∧ iv = .int .i64 k ∧ sv = I (valK (at0 zs) g b k) ∧ wr = ovr W u) (fun iv _ _ => 4 - (intOf iv).toNat)
 case atStart => exact ⟨0, u0, by omega, rfl, rfl, rfl⟩
 case round =>
  obtain ⟨k, u, hk, rfl, rfl, rfl⟩ := hrel
  have hc : k = 0 ∨ k = 1 ∨ k = 2 ∨ k = 3 ∨ k = 4 := by omega
  rcases hc with rfl | rfl | rfl | rfl | rfl
  · rw [show ((0 : Nat) : Int) = 0 from rfl]
    have hn1 := HN.out.a
    have hz1 := HZ.out _ hn1
    have hw1 := HB.out.w0
    have ht1 := tm9_bd (g := g) hw1 hz1.1 hz1.2
    have hix := @ixp0
    go_upto_region 5 with fail
    clear hix
    obtain ⟨X, hX⟩ : ∃ X, X = ((ovr W u).alloc (.cells #[I (b.a.at_ : Int), I b.a.x, I b.a.y] 96)) := ⟨_, rfl⟩
    have reX : ∀ v, ∃ x, ovr X v = ovr W x := fun v => ovr_re1 hX
    replace yW00 := tr_cell reX yW00
    replace yW01 := tr_cell reX yW01
    replace yW02 := tr_cell reX yW02
    replace yW03 := tr_cell reX yW03
    replace yW04 := tr_cell reX yW04
    replace yW05 := tr_cell reX yW05
    replace yW06 := tr_cell reX yW06
    replace yW07 := tr_cell reX yW07
    replace yW08 := tr_cell reX yW08
    replace yW09 := tr_cell reX yW09
    replace yW010 := tr_cell reX yW010
    replace yW011 := tr_cell reX yW011
    replace yW012 := tr_cell reX yW012
    replace yW013 := tr_cell reX yW013
    replace yW014 := tr_cell reX yW014
    replace yW015 := tr_cell reX yW015
    replace yW016 := tr_cell reX yW016
    replace RrowW0 := Lib.hid (tr_row reX RrowW0.out)
    have rowX0 : X.heap[(ovr W u).heap.size]? = some (.cells #[I (b.a.at_ : Int), I b.a.x, I b.a.y] 96 (0, 0)) := by rw [hX]; exact heap_last _ _ _ rfl
    have yX00 := ovr_cell (W := X) (b := (ovr W u).heap.size) (o := 0) (v := I (b.a.at_ : Int)) (by rw [cell_of_row _ _ _ _ _ _ rowX0]; rfl)
    have yX01 := ovr_cell (W := X) (b := (ovr W u).heap.size) (o := 1) (v := I b.a.x) (by rw [cell_of_row _ _ _ _ _ _ rowX0]; rfl)
    have yX02 := ovr_cell (W := X) (b := (ovr W u).heap.size) (o := 2) (v := I b.a.y) (by rw [cell_of_row _ _ _ _ _ _ rowX0]; rfl)
    have RrowX0 := Lib.hid (ovr_row rowX0)
    clear rowX0
    have HBX : Hid (∀ u, Below W.heap.size W (ovr X u)) := fun u => by obtain ⟨x, hx⟩ := reX u; rw [hx]; exact ovr_below _ _
    clear reX
    have HX := Lib.hid hX
    clear hX
    rw [← HX.out]
    obtain ⟨u2, hu2⟩ := ovr_self X
    rw [hu2]
    clear hu2
    have HWX : Hid (∀ v, Below W.heap.size W (ovr X v)) := HBX.out
    obtain ⟨ab, ao, rfl, _, e0, e1⟩ := (HRD.out X (below_self (below_chain HUW.out HBX.out))).rng hn1
    have z0 := ovr_cell e0
    have z1 := ovr_cell e1
    obtain ⟨r, hr⟩ : ∃ r, at0 zs b.a.at_ = r := ⟨_, rfl⟩
    have HNX : Hid (valK (at0 zs) g b 1 = valK (at0 zs) g b 0 + tm9 b.w0 r g) := by show _ = _; rw [← hr]; (show _ = 0 + _; rw [Int.zero_add]; rfl)
    have HBV : Hid (-200000000 ≤ valK (at0 zs) g b 0 ∧ valK (at0 zs) g b 0 ≤ 200000000) :=
        valK_bd HB.out HN.out HZ.out 0 (by decide)
    rw [hr] at z0 z1 hz1 ht1
    obtain ⟨t, ht⟩ : ∃ t, valK (at0 zs) g b 0 = t := ⟨_, rfl⟩
    rw [ht] at HNX HBV
    rw [ht]
    clear hr ht e0 e1
    have a1 := mul_bdF (a := b.w0) (b := r.lo) (A := 50) (B := 1000000) hw1 hz1.1
    have a2 := mul_bdF (a := b.w0) (b := r.hi) (A := 50) (B := 1000000) hw1 hz1.2
    have k1 : IntKind.i64.wrap (b.w0 * r.lo) = b.w0 * r.lo := IntWalk.i64_in _ (by omega)
    have k2 : IntKind.i64.wrap (b.w0 * r.hi) = b.w0 * r.hi := IntWalk.i64_in _ (by omega)
    have k3 : IntKind.i64.wrap (t + b.w0 * r.lo) = t + b.w0 * r.lo := IntWalk.i64_in _ (by have := HBV.out; omega)
    have k4 : IntKind.i64.wrap (t + b.w0 * r.hi) = t + b.w0 * r.hi := IntWalk.i64_in _ (by have := HBV.out; omega)
    clear a1 a2 ht1 hw1 hz1
    rcases hq : (decide (0 < b.w0) == g) with _ | _
    · have HT : Hid (tm9 b.w0 r g = b.w0 * r.lo) := by show _ = _; unfold tm9; rw [hq]; rfl
      go_wp2_with fail
      exact ⟨⟨1, _, by omega, rfl, by rw [HNX.out, HT.out], ovr_of (HWX.out u2)⟩, by simp [intOf]⟩
    · have HT : Hid (tm9 b.w0 r g = b.w0 * r.hi) := by show _ = _; unfold tm9; rw [hq]; rfl
      go_wp2_with fail
      exact ⟨⟨1, _, by omega, rfl, by rw [HNX.out, HT.out], ovr_of (HWX.out u2)⟩, by simp [intOf]⟩
  · rw [show ((1 : Nat) : Int) = 1 from rfl]
    have hn1 := HN.out.b
    have hz1 := HZ.out _ hn1
    have hw1 := HB.out.w1
    have ht1 := tm9_bd (g := g) hw1 hz1.1 hz1.2
    have hix := @ixp1
    go_upto_region 5 with fail
    clear hix
    obtain ⟨X, hX⟩ : ∃ X, X = ((ovr W u).alloc (.cells #[I (b.b.at_ : Int), I b.b.x, I b.b.y] 96)) := ⟨_, rfl⟩
    have reX : ∀ v, ∃ x, ovr X v = ovr W x := fun v => ovr_re1 hX
    replace yW00 := tr_cell reX yW00
    replace yW01 := tr_cell reX yW01
    replace yW02 := tr_cell reX yW02
    replace yW03 := tr_cell reX yW03
    replace yW04 := tr_cell reX yW04
    replace yW05 := tr_cell reX yW05
    replace yW06 := tr_cell reX yW06
    replace yW07 := tr_cell reX yW07
    replace yW08 := tr_cell reX yW08
    replace yW09 := tr_cell reX yW09
    replace yW010 := tr_cell reX yW010
    replace yW011 := tr_cell reX yW011
    replace yW012 := tr_cell reX yW012
    replace yW013 := tr_cell reX yW013
    replace yW014 := tr_cell reX yW014
    replace yW015 := tr_cell reX yW015
    replace yW016 := tr_cell reX yW016
    replace RrowW0 := Lib.hid (tr_row reX RrowW0.out)
    have rowX0 : X.heap[(ovr W u).heap.size]? = some (.cells #[I (b.b.at_ : Int), I b.b.x, I b.b.y] 96 (0, 0)) := by rw [hX]; exact heap_last _ _ _ rfl
    have yX00 := ovr_cell (W := X) (b := (ovr W u).heap.size) (o := 0) (v := I (b.b.at_ : Int)) (by rw [cell_of_row _ _ _ _ _ _ rowX0]; rfl)
    have yX01 := ovr_cell (W := X) (b := (ovr W u).heap.size) (o := 1) (v := I b.b.x) (by rw [cell_of_row _ _ _ _ _ _ rowX0]; rfl)
    have yX02 := ovr_cell (W := X) (b := (ovr W u).heap.size) (o := 2) (v := I b.b.y) (by rw [cell_of_row _ _ _ _ _ _ rowX0]; rfl)
    have RrowX0 := Lib.hid (ovr_row rowX0)
    clear rowX0
    have HBX : Hid (∀ u, Below W.heap.size W (ovr X u)) := fun u => by obtain ⟨x, hx⟩ := reX u; rw [hx]; exact ovr_below _ _
    clear reX
    have HX := Lib.hid hX
    clear hX
    rw [← HX.out]
    obtain ⟨u2, hu2⟩ := ovr_self X
    rw [hu2]
    clear hu2
    have HWX : Hid (∀ v, Below W.heap.size W (ovr X v)) := HBX.out
    obtain ⟨ab, ao, rfl, _, e0, e1⟩ := (HRD.out X (below_self (below_chain HUW.out HBX.out))).rng hn1
    have z0 := ovr_cell e0
    have z1 := ovr_cell e1
    obtain ⟨r, hr⟩ : ∃ r, at0 zs b.b.at_ = r := ⟨_, rfl⟩
    have HNX : Hid (valK (at0 zs) g b 2 = valK (at0 zs) g b 1 + tm9 b.w1 r g) := by show _ = _; rw [← hr]; rfl
    have HBV : Hid (-200000000 ≤ valK (at0 zs) g b 1 ∧ valK (at0 zs) g b 1 ≤ 200000000) :=
        valK_bd HB.out HN.out HZ.out 1 (by decide)
    rw [hr] at z0 z1 hz1 ht1
    obtain ⟨t, ht⟩ : ∃ t, valK (at0 zs) g b 1 = t := ⟨_, rfl⟩
    rw [ht] at HNX HBV
    rw [ht]
    clear hr ht e0 e1
    have a1 := mul_bdF (a := b.w1) (b := r.lo) (A := 50) (B := 1000000) hw1 hz1.1
    have a2 := mul_bdF (a := b.w1) (b := r.hi) (A := 50) (B := 1000000) hw1 hz1.2
    have k1 : IntKind.i64.wrap (b.w1 * r.lo) = b.w1 * r.lo := IntWalk.i64_in _ (by omega)
    have k2 : IntKind.i64.wrap (b.w1 * r.hi) = b.w1 * r.hi := IntWalk.i64_in _ (by omega)
    have k3 : IntKind.i64.wrap (t + b.w1 * r.lo) = t + b.w1 * r.lo := IntWalk.i64_in _ (by have := HBV.out; omega)
    have k4 : IntKind.i64.wrap (t + b.w1 * r.hi) = t + b.w1 * r.hi := IntWalk.i64_in _ (by have := HBV.out; omega)
    clear a1 a2 ht1 hw1 hz1
    rcases hq : (decide (0 < b.w1) == g) with _ | _
    · have HT : Hid (tm9 b.w1 r g = b.w1 * r.lo) := by show _ = _; unfold tm9; rw [hq]; rfl
      go_wp2_with fail
      exact ⟨⟨2, _, by omega, rfl, by rw [HNX.out, HT.out], ovr_of (HWX.out u2)⟩, by simp [intOf]⟩
    · have HT : Hid (tm9 b.w1 r g = b.w1 * r.hi) := by show _ = _; unfold tm9; rw [hq]; rfl
      go_wp2_with fail
      exact ⟨⟨2, _, by omega, rfl, by rw [HNX.out, HT.out], ovr_of (HWX.out u2)⟩, by simp [intOf]⟩
  · rw [show ((2 : Nat) : Int) = 2 from rfl]
    have hn1 := HN.out.c
    have hz1 := HZ.out _ hn1
    have hw1 := HB.out.w2
    have ht1 := tm9_bd (g := g) hw1 hz1.1 hz1.2
    have hix := @ixp2
    go_upto_region 5 with fail
    clear hix
    obtain ⟨X, hX⟩ : ∃ X, X = ((ovr W u).alloc (.cells #[I (b.c.at_ : Int), I b.c.x, I b.c.y] 96)) := ⟨_, rfl⟩
    have reX : ∀ v, ∃ x, ovr X v = ovr W x := fun v => ovr_re1 hX
    replace yW00 := tr_cell reX yW00
    replace yW01 := tr_cell reX yW01
    replace yW02 := tr_cell reX yW02
    replace yW03 := tr_cell reX yW03
    replace yW04 := tr_cell reX yW04
    replace yW05 := tr_cell reX yW05
    replace yW06 := tr_cell reX yW06
    replace yW07 := tr_cell reX yW07
    replace yW08 := tr_cell reX yW08
    replace yW09 := tr_cell reX yW09
    replace yW010 := tr_cell reX yW010
    replace yW011 := tr_cell reX yW011
    replace yW012 := tr_cell reX yW012
    replace yW013 := tr_cell reX yW013
    replace yW014 := tr_cell reX yW014
    replace yW015 := tr_cell reX yW015
    replace yW016 := tr_cell reX yW016
    replace RrowW0 := Lib.hid (tr_row reX RrowW0.out)
    have rowX0 : X.heap[(ovr W u).heap.size]? = some (.cells #[I (b.c.at_ : Int), I b.c.x, I b.c.y] 96 (0, 0)) := by rw [hX]; exact heap_last _ _ _ rfl
    have yX00 := ovr_cell (W := X) (b := (ovr W u).heap.size) (o := 0) (v := I (b.c.at_ : Int)) (by rw [cell_of_row _ _ _ _ _ _ rowX0]; rfl)
    have yX01 := ovr_cell (W := X) (b := (ovr W u).heap.size) (o := 1) (v := I b.c.x) (by rw [cell_of_row _ _ _ _ _ _ rowX0]; rfl)
    have yX02 := ovr_cell (W := X) (b := (ovr W u).heap.size) (o := 2) (v := I b.c.y) (by rw [cell_of_row _ _ _ _ _ _ rowX0]; rfl)
    have RrowX0 := Lib.hid (ovr_row rowX0)
    clear rowX0
    have HBX : Hid (∀ u, Below W.heap.size W (ovr X u)) := fun u => by obtain ⟨x, hx⟩ := reX u; rw [hx]; exact ovr_below _ _
    clear reX
    have HX := Lib.hid hX
    clear hX
    rw [← HX.out]
    obtain ⟨u2, hu2⟩ := ovr_self X
    rw [hu2]
    clear hu2
    have HWX : Hid (∀ v, Below W.heap.size W (ovr X v)) := HBX.out
    obtain ⟨ab, ao, rfl, _, e0, e1⟩ := (HRD.out X (below_self (below_chain HUW.out HBX.out))).rng hn1
    have z0 := ovr_cell e0
    have z1 := ovr_cell e1
    obtain ⟨r, hr⟩ : ∃ r, at0 zs b.c.at_ = r := ⟨_, rfl⟩
    have HNX : Hid (valK (at0 zs) g b 3 = valK (at0 zs) g b 2 + tm9 b.w2 r g) := by show _ = _; rw [← hr]; rfl
    have HBV : Hid (-200000000 ≤ valK (at0 zs) g b 2 ∧ valK (at0 zs) g b 2 ≤ 200000000) :=
        valK_bd HB.out HN.out HZ.out 2 (by decide)
    rw [hr] at z0 z1 hz1 ht1
    obtain ⟨t, ht⟩ : ∃ t, valK (at0 zs) g b 2 = t := ⟨_, rfl⟩
    rw [ht] at HNX HBV
    rw [ht]
    clear hr ht e0 e1
    have a1 := mul_bdF (a := b.w2) (b := r.lo) (A := 50) (B := 1000000) hw1 hz1.1
    have a2 := mul_bdF (a := b.w2) (b := r.hi) (A := 50) (B := 1000000) hw1 hz1.2
    have k1 : IntKind.i64.wrap (b.w2 * r.lo) = b.w2 * r.lo := IntWalk.i64_in _ (by omega)
    have k2 : IntKind.i64.wrap (b.w2 * r.hi) = b.w2 * r.hi := IntWalk.i64_in _ (by omega)
    have k3 : IntKind.i64.wrap (t + b.w2 * r.lo) = t + b.w2 * r.lo := IntWalk.i64_in _ (by have := HBV.out; omega)
    have k4 : IntKind.i64.wrap (t + b.w2 * r.hi) = t + b.w2 * r.hi := IntWalk.i64_in _ (by have := HBV.out; omega)
    clear a1 a2 ht1 hw1 hz1
    rcases hq : (decide (0 < b.w2) == g) with _ | _
    · have HT : Hid (tm9 b.w2 r g = b.w2 * r.lo) := by show _ = _; unfold tm9; rw [hq]; rfl
      go_wp2_with fail
      exact ⟨⟨3, _, by omega, rfl, by rw [HNX.out, HT.out], ovr_of (HWX.out u2)⟩, by simp [intOf]⟩
    · have HT : Hid (tm9 b.w2 r g = b.w2 * r.hi) := by show _ = _; unfold tm9; rw [hq]; rfl
      go_wp2_with fail
      exact ⟨⟨3, _, by omega, rfl, by rw [HNX.out, HT.out], ovr_of (HWX.out u2)⟩, by simp [intOf]⟩
  · rw [show ((3 : Nat) : Int) = 3 from rfl]
    have hn1 := HN.out.d
    have hz1 := HZ.out _ hn1
    have hw1 := HB.out.w3
    have ht1 := tm9_bd (g := g) hw1 hz1.1 hz1.2
    have hix := @ixp3
    go_upto_region 5 with fail
    clear hix
    obtain ⟨X, hX⟩ : ∃ X, X = ((ovr W u).alloc (.cells #[I (b.d.at_ : Int), I b.d.x, I b.d.y] 96)) := ⟨_, rfl⟩
    have reX : ∀ v, ∃ x, ovr X v = ovr W x := fun v => ovr_re1 hX
    replace yW00 := tr_cell reX yW00
    replace yW01 := tr_cell reX yW01
    replace yW02 := tr_cell reX yW02
    replace yW03 := tr_cell reX yW03
    replace yW04 := tr_cell reX yW04
    replace yW05 := tr_cell reX yW05
    replace yW06 := tr_cell reX yW06
    replace yW07 := tr_cell reX yW07
    replace yW08 := tr_cell reX yW08
    replace yW09 := tr_cell reX yW09
    replace yW010 := tr_cell reX yW010
    replace yW011 := tr_cell reX yW011
    replace yW012 := tr_cell reX yW012
    replace yW013 := tr_cell reX yW013
    replace yW014 := tr_cell reX yW014
    replace yW015 := tr_cell reX yW015
    replace yW016 := tr_cell reX yW016
    replace RrowW0 := Lib.hid (tr_row reX RrowW0.out)
    have rowX0 : X.heap[(ovr W u).heap.size]? = some (.cells #[I (b.d.at_ : Int), I b.d.x, I b.d.y] 96 (0, 0)) := by rw [hX]; exact heap_last _ _ _ rfl
    have yX00 := ovr_cell (W := X) (b := (ovr W u).heap.size) (o := 0) (v := I (b.d.at_ : Int)) (by rw [cell_of_row _ _ _ _ _ _ rowX0]; rfl)
    have yX01 := ovr_cell (W := X) (b := (ovr W u).heap.size) (o := 1) (v := I b.d.x) (by rw [cell_of_row _ _ _ _ _ _ rowX0]; rfl)
    have yX02 := ovr_cell (W := X) (b := (ovr W u).heap.size) (o := 2) (v := I b.d.y) (by rw [cell_of_row _ _ _ _ _ _ rowX0]; rfl)
    have RrowX0 := Lib.hid (ovr_row rowX0)
    clear rowX0
    have HBX : Hid (∀ u, Below W.heap.size W (ovr X u)) := fun u => by obtain ⟨x, hx⟩ := reX u; rw [hx]; exact ovr_below _ _
    clear reX
    have HX := Lib.hid hX
    clear hX
    rw [← HX.out]
    obtain ⟨u2, hu2⟩ := ovr_self X
    rw [hu2]
    clear hu2
    have HWX : Hid (∀ v, Below W.heap.size W (ovr X v)) := HBX.out
    obtain ⟨ab, ao, rfl, _, e0, e1⟩ := (HRD.out X (below_self (below_chain HUW.out HBX.out))).rng hn1
    have z0 := ovr_cell e0
    have z1 := ovr_cell e1
    obtain ⟨r, hr⟩ : ∃ r, at0 zs b.d.at_ = r := ⟨_, rfl⟩
    have HNX : Hid (valK (at0 zs) g b 4 = valK (at0 zs) g b 3 + tm9 b.w3 r g) := by show _ = _; rw [← hr]; rfl
    have HBV : Hid (-200000000 ≤ valK (at0 zs) g b 3 ∧ valK (at0 zs) g b 3 ≤ 200000000) :=
        valK_bd HB.out HN.out HZ.out 3 (by decide)
    rw [hr] at z0 z1 hz1 ht1
    obtain ⟨t, ht⟩ : ∃ t, valK (at0 zs) g b 3 = t := ⟨_, rfl⟩
    rw [ht] at HNX HBV
    rw [ht]
    clear hr ht e0 e1
    have a1 := mul_bdF (a := b.w3) (b := r.lo) (A := 50) (B := 1000000) hw1 hz1.1
    have a2 := mul_bdF (a := b.w3) (b := r.hi) (A := 50) (B := 1000000) hw1 hz1.2
    have k1 : IntKind.i64.wrap (b.w3 * r.lo) = b.w3 * r.lo := IntWalk.i64_in _ (by omega)
    have k2 : IntKind.i64.wrap (b.w3 * r.hi) = b.w3 * r.hi := IntWalk.i64_in _ (by omega)
    have k3 : IntKind.i64.wrap (t + b.w3 * r.lo) = t + b.w3 * r.lo := IntWalk.i64_in _ (by have := HBV.out; omega)
    have k4 : IntKind.i64.wrap (t + b.w3 * r.hi) = t + b.w3 * r.hi := IntWalk.i64_in _ (by have := HBV.out; omega)
    clear a1 a2 ht1 hw1 hz1
    rcases hq : (decide (0 < b.w3) == g) with _ | _
    · have HT : Hid (tm9 b.w3 r g = b.w3 * r.lo) := by show _ = _; unfold tm9; rw [hq]; rfl
      go_wp2_with fail
      exact ⟨⟨4, _, by omega, rfl, by rw [HNX.out, HT.out], ovr_of (HWX.out u2)⟩, by simp [intOf]⟩
    · have HT : Hid (tm9 b.w3 r g = b.w3 * r.hi) := by show _ = _; unfold tm9; rw [hq]; rfl
      go_wp2_with fail
      exact ⟨⟨4, _, by omega, rfl, by rw [HNX.out, HT.out], ovr_of (HWX.out u2)⟩, by simp [intOf]⟩
  · rw [show ((4 : Nat) : Int) = 4 from rfl]
    go_wp2_with fail
    go_ret
    exact ⟨rfl, HUW.out _⟩
end Go.Proofs.YtliolnfcgaflcaaGreat.Un
namespace Go.Proofs.YtliolnfcgaflcaaGreat.Un
open Go.RowKit
abbrev pfA (p : Prf) : Array Value := #[I (p.b.a.at_ : Int), I p.b.a.x, I p.b.a.y, I (p.b.b.at_ : Int), I p.b.b.x, I p.b.b.y, I (p.b.c.at_ : Int), I p.b.c.x, I p.b.c.y, I (p.b.d.at_ : Int), I p.b.d.x, I p.b.d.y, I p.b.w0, I p.b.w1, I p.b.w2, I p.b.w3, I p.b.sz, I p.v, .bool p.s]
structure InF (p : Prf) (n : Nat) : Prop where
 b : InB p.b
 n : p.s = true → InN p.b n
 v : -200000000 ≤ p.v ∧ p.v ≤ 200000000
theorem InF.take {p : Prf} {b : Bal} {v : Int} {n : Nat} (h : InF p n) (hb : InB b) (hn : InN b n) (hv : -200000000 ≤ v ∧ v ≤ 200000000) : InF (take9 p b v) n := by
 unfold take9
 split
 · exact ⟨hb, fun _ => hn, hv⟩
 · exact h
theorem below_row9 {w V : World} {q : Nat} {cs cs2 : Array Value} {t t2 : TypeId} {ds : Array Value} (h : Below w.heap.size w V) (h1 : w.heap[q]? = some (.cells cs t (0, 0))) (h2 : V.heap[q]? = some (.cells ds t2 (0, 0))) : Below w.heap.size (w.setRow q cs2) (V.setRow q cs2) := by
 have hq := (Array.getElem?_eq_some_iff.1 h1).1
 have e : V.heap[q]? = w.heap[q]? := h.block q hq
 rw [h1, h2] at e
 injection e with e
 injection e with e1 e2
 subst e2
 obtain ⟨a1, a2, a3, a4, a5⟩ := h
 refine ⟨a1, a2, a3, by rw [setRow_size, setRow_size]; exact a4, fun k hk => ?_⟩
 by_cases hkq : k = q
 · subst hkq; rw [setRow_same h1, setRow_same h2]
 · rw [setRow_other hkq, setRow_other hkq, a5 k hk]
set_option maxRecDepth 100000 in
set_option maxHeartbeats 4000000 in
theorem take_any (p : Prf) (b : Bal) (v : Int) (q n : Nat) (w : World) (hp : InF p n) (hb : InB b) (hv : -200000000 ≤ v ∧ v ≤ 200000000) (hr : w.heap[q]? = some (.cells (pfA p) 102 (0, 0))) :
 Calls Tryz.prog 66 #[.pointer (some ⟨q, 0, none⟩), .agg (balA b), I v] w fun e w' => e = .returned (.tuple #[]) ∧ Below w.heap.size (w.setRow q (pfA (take9 p b v))) w' := by
 have hf : Hid (take9 p b v = if 0 < v ∧ (p.s = false ∨ p.v * b.sz < v * p.b.sz) then ⟨b, v, true⟩ else p) := rfl
 have m1 := mul_bdF (a := v) (b := p.b.sz) (A := 200000000) (B := 200) hv (by have := hp.b.sz; omega)
 have m2 := mul_bdF (a := p.v) (b := b.sz) (A := 200000000) (B := 200) hp.v (by have := hb.sz; omega)
 have k1 : IntKind.i64.wrap (v * p.b.sz) = v * p.b.sz := IntWalk.i64_in _ (by omega)
 have k2 : IntKind.i64.wrap (p.v * b.sz) = p.v * b.sz := IntWalk.i64_in _ (by omega)
 have hr0 := Lib.hid hr
 have HQ := Lib.hid (Array.getElem?_eq_some_iff.1 hr).1
 clear hp hb hv m1 m2
 obtain ⟨W, hW⟩ : ∃ W, W = w.alloc (.cells (balA b) 100) := ⟨_, rfl⟩
 have HUW : Hid (∀ u, Below w.heap.size w (ovr W u)) := U1 hW
 have rb : W.heap[w.heap.size]? = some (.cells (balA b) 100 (0, 0)) := by rw [hW]; exact heap_last _ _ _ rfl
 have rq : W.heap[q]? = some (.cells (pfA p) 102 (0, 0)) := by rw [hW]; exact heap_before hr
 have HRB : Hid (∀ u, (ovr W u).heap[w.heap.size]? = some (.cells (balA b) 100 (0, 0))) := ovr_row rb
 have yb := cell_row9 rb (j := 16) (v := I b.sz) rfl
 have y0 := cell_row9 rq (j := 16) (v := I p.b.sz) rfl
 have y1 := cell_row9 rq (j := 17) (v := I p.v) rfl
 have y2 := cell_row9 rq (j := 18) (v := .bool p.s) rfl
 have HW := Lib.hid hW
 clear hW rb rq hr
 have HQR : Hid (∀ u, (ovr W u).heap[q]? = some (.cells (pfA p) 102 (0, 0))) := fun u => ((HUW.out u).block q HQ.out).trans hr0.out
 go_enter Tryz.func66, Tryz.ntmps66
 go_upto_region 1 with (fail)
 rw [← HW.out]
 by_cases h1 : 0 < v
 case neg =>
  have d1 : decide (0 < v) = false := decide_eq_false h1
  rw [if_neg (fun h => h1 h.1)] at hf
  clear h1
  refine wp_region_make (fun _ => none) (by kernel_rfl) (by kernel_rfl) (by kernel_rfl) ?_
  repeat (first | (refine wpG_one rfl rfl rfl ?_; intro K hK; go_big_quiet_op; go_big_quiet_on) | (refine wpG_skip rfl ?_; simp only [Act.put, List.setIfInBounds_toArray, List.set_cons_zero, List.set_cons_succ]))
  refine wpG_nil (fun w5 hw5 hG => ?_)
  clear hG
  obtain ⟨x5, rfl⟩ : ∃ z, w5 = ovr W z := ⟨w5, ovr_of hw5.le⟩
  clear hw5
  go_wp2_with fail
  go_end0
  refine ⟨rfl, ?_⟩
  rw [hf.out, setRow_id hr0.out]
  exact HUW.out x5
 have d1 : decide (0 < v) = true := decide_eq_true h1
 rcases hs : p.s with _ | _
 · rw [hs, if_pos ⟨h1, .inl rfl⟩] at hf
   rw [hs] at y2
   clear h1
   refine wp_region_make (fun _ => none) (by kernel_rfl) (by kernel_rfl) (by kernel_rfl) ?_
   repeat (first | (refine wpG_one rfl rfl rfl ?_; intro K hK; go_big_quiet_op; go_big_quiet_on) | (refine wpG_skip rfl ?_; simp only [Act.put, List.setIfInBounds_toArray, List.set_cons_zero, List.set_cons_succ]))
   refine wpG_nil (fun w5 hw5 hG => ?_)
   clear hG
   obtain ⟨x5, rfl⟩ : ∃ z, w5 = ovr W z := ⟨w5, ovr_of hw5.le⟩
   clear hw5
   go_wp2_with (first | (with_reducible show wpList _ _ _ _ _ _; refine wpList_load_row9 rfl 100 _ rfl w.heap.size rfl (balA b) _ _ _ (HRB.out x5) Tryz.underlying100 rfl (by kernel_rfl) ?_) | with_reducible show wpList _ _ _ _ _ _; refine wpList_store_row rfl 102 _ _ rfl q rfl _ _ (HQR.out x5) (pfA ⟨b, v, true⟩) rfl (by simp [Value.oneCell']) rfl (by kernel_rfl) ?_)
   go_end0
   refine ⟨rfl, ?_⟩
   rw [hf.out]
   exact below_row9 (HUW.out x5) hr0.out (HQR.out x5)
 rw [hs] at y2
 by_cases h2 : p.v * b.sz < v * p.b.sz
 · rw [if_pos ⟨h1, .inr h2⟩] at hf
   have d2 : decide (p.v * b.sz < v * p.b.sz) = true := decide_eq_true h2
   clear h1 h2
   refine wp_region_make (fun _ => none) (by kernel_rfl) (by kernel_rfl) (by kernel_rfl) ?_
   repeat (first | (refine wpG_one rfl rfl rfl ?_; intro K hK; go_big_quiet_op; go_big_quiet_on) | (refine wpG_skip rfl ?_; simp only [Act.put, List.setIfInBounds_toArray, List.set_cons_zero, List.set_cons_succ]))
   refine wpG_nil (fun w5 hw5 hG => ?_)
   clear hG
   obtain ⟨x5, rfl⟩ : ∃ z, w5 = ovr W z := ⟨w5, ovr_of hw5.le⟩
   clear hw5
   go_wp2_with (first | (with_reducible show wpList _ _ _ _ _ _; refine wpList_load_row9 rfl 100 _ rfl w.heap.size rfl (balA b) _ _ _ (HRB.out x5) Tryz.underlying100 rfl (by kernel_rfl) ?_) | with_reducible show wpList _ _ _ _ _ _; refine wpList_store_row rfl 102 _ _ rfl q rfl _ _ (HQR.out x5) (pfA ⟨b, v, true⟩) rfl (by simp [Value.oneCell']) rfl (by kernel_rfl) ?_)
   go_end0
   refine ⟨rfl, ?_⟩
   rw [hf.out]
   exact below_row9 (HUW.out x5) hr0.out (HQR.out x5)
 rw [if_neg (fun h => h.2.elim (fun h => by rw [hs] at h; cases h) h2)] at hf
 have d2 : decide (p.v * b.sz < v * p.b.sz) = false := decide_eq_false h2
 clear h1 h2
 refine wp_region_make (fun _ => none) (by kernel_rfl) (by kernel_rfl) (by kernel_rfl) ?_
 repeat (first | (refine wpG_one rfl rfl rfl ?_; intro K hK; go_big_quiet_op; go_big_quiet_on) | (refine wpG_skip rfl ?_; simp only [Act.put, List.setIfInBounds_toArray, List.set_cons_zero, List.set_cons_succ]))
 refine wpG_nil (fun w5 hw5 hG => ?_)
 clear hG
 obtain ⟨x5, rfl⟩ : ∃ z, w5 = ovr W z := ⟨w5, ovr_of hw5.le⟩
 clear hw5
 go_wp2_with fail
 go_end0
 refine ⟨rfl, ?_⟩
 rw [hf.out, setRow_id hr0.out]
 exact HUW.out x5
end Go.Proofs.YtliolnfcgaflcaaGreat.Un
namespace Go.Proofs.YtliolnfcgaflcaaGreat.Un
open Go.RowKit
attribute [local go_sem] Oper.semAt_some
def rP (l : List Pt) (k j : Nat) : Value := if j = 0 then I ((l.getD k ⟨0, 0, 0⟩).at_ : Int) else if j = 1 then I (l.getD k ⟨0, 0, 0⟩).x else I (l.getD k ⟨0, 0, 0⟩).y
theorem rd_pt {w : World} {B n k : Nat} {A : Option Addr} {l : List Pt} (h : Rd w B 3 A n (rP l)) (hk : k < n) : ∃ b o, A = some ⟨b, o, none⟩ ∧ b < B ∧
 w.cell? ⟨b, o + k * 3, none⟩ = some (I ((l.getD k ⟨0, 0, 0⟩).at_ : Int)) ∧ w.cell? ⟨b, o + k * 3 + 1, none⟩ = some (I (l.getD k ⟨0, 0, 0⟩).x) ∧ w.cell? ⟨b, o + k * 3 + 2, none⟩ = some (I (l.getD k ⟨0, 0, 0⟩).y) := by
 obtain ⟨b, o, e, hb, hc⟩ := h (by omega)
 exact ⟨b, o, e, hb, hc k hk 0 (by omega), hc k hk 1 (by omega), hc k hk 2 (by omega)⟩
abbrev Pl9 (n : Nat) : Type := { k : Nat // k < n }
def fwd9 (n : Nat) : Nat → List (Pl9 n)
 | 0 => [] | k + 1 => if h : k < n then fwd9 n k ++ [⟨k, h⟩] else fwd9 n k
theorem fwd9_succ {n k : Nat} (h : k < n) : fwd9 n (k + 1) = fwd9 n k ++ [⟨k, h⟩] := by rw [fwd9, dif_pos h]
theorem fwd9_len {n : Nat} : ∀ {k : Nat}, k ≤ n → (fwd9 n k).length = k
 | 0, _ => rfl
 | k + 1, h => by rw [fwd9_succ (by omega), List.length_append, fwd9_len (by omega)]; rfl
def isBal9 : Obj → Bool
 | .cells _ t _ => t == 100
 | _ => false
def KpW (n₀ : Nat) (X : Nat → Prop) (W W' : World) : Prop := (∀ (k : Nat) (o : Obj), W.heap[k]? = some o → o.isCells = true → ¬ X k → (k < n₀ ∨ isBal9 o = false) → W'.heap[k]? = some o) ∧ W.heap.size ≤ W'.heap.size
theorem KpW.refl {n₀ : Nat} {X : Nat → Prop} (W : World) : KpW n₀ X W W := ⟨fun _ _ h _ _ _ => h, Nat.le_refl _⟩
theorem KpW.trans {n₀ : Nat} {X : Nat → Prop} {A B C : World} (h : KpW n₀ X A B) (h' : KpW n₀ X B C) : KpW n₀ X A C := ⟨fun k o hk hc hq hb => h'.1 k o (h.1 k o hk hc hq hb) hc hq hb, Nat.le_trans h.2 h'.2⟩
theorem KpW.of_below {n₀ : Nat} {X : Nat → Prop} {A B : World} (h : Below A.heap.size A B) : KpW n₀ X A B := ⟨fun k _ hk _ _ _ => (h.block k (Array.getElem?_eq_some_iff.1 hk).1).trans hk, h.size⟩
theorem KpW.row {n₀ : Nat} {X : Nat → Prop} {A B : World} (h : KpW n₀ X A B) {b : Nat} {cs : Array Value} {t : TypeId} {fr : Nat × Nat} (hr : A.heap[b]? = some (.cells cs t fr)) (hq : ¬ X b) (hb : b < n₀ ∨ (t == 100) = false) : B.heap[b]? = some (.cells cs t fr) := h.1 b _ hr rfl hq hb
theorem KpW.cell {n₀ : Nat} {X : Nat → Prop} {A B : World} (h : KpW n₀ X A B) {b o : Nat} {v : Value} (hv : A.cell? ⟨b, o, none⟩ = some v) (hq : b < n₀ ∧ ¬ X b) : B.cell? ⟨b, o, none⟩ = some v := by
 unfold World.cell? at hv ⊢
 cases ho : A.heap[b]? with
 | none => rw [ho] at hv; cases hv
 | some x =>
   rw [ho] at hv
   cases x with
   | cells cs t fr =>
     rw [h.row ho hq.2 (.inl hq.1)]
     exact hv
   | _ => cases hv
theorem KpW.rd {n₀ : Nat} {X : Nat → Prop} {A B : World} (h : KpW n₀ X A B) {b0 sz n : Nat} {p : Option Addr} {g : Nat → Nat → Value} (hx : Rd A b0 sz p n g) (hq : b0 ≤ n₀ ∧ ∀ k, k < b0 → ¬ X k) : Rd B b0 sz p n g := fun hn => by
 obtain ⟨b, o, e, hb, hc⟩ := hx hn
 exact ⟨b, o, e, hb, fun k hk j hj => h.cell (hc k hk j hj) ⟨Nat.lt_of_lt_of_le hb hq.1, hq.2 b hb⟩⟩
/-! What is still to come. -/
def pt9 (l : List Pt) (k : Nat) : Pt := l.getD k ⟨0, 0, 0⟩
def rest1 (l : List Pt) (i j : Nat) : List Bal := B1 (pt9 l i) (l.drop j) ++ bals (l.drop (i + 1))
def rest2 (l : List Pt) (i j k : Nat) : List Bal := B2 (pt9 l i) (pt9 l j) (l.drop k) ++ rest1 l i (j + 1)
def rest3 (l : List Pt) (i j k m : Nat) : List Bal := B3 (pt9 l i) (pt9 l j) (pt9 l k) (l.drop m) ++ rest2 l i j (k + 1)
theorem drop_pt {l : List Pt} {k : Nat} (h : k < l.length) : l.drop k = pt9 l k :: l.drop (k + 1) := by
 rw [List.drop_eq_getElem_cons h]
 unfold pt9
 rw [List.getD_eq_getElem?_getD, List.getElem?_eq_getElem h]
 rfl
theorem rest0_in {l : List Pt} {i : Nat} (h : i < l.length) : bals (l.drop i) = rest1 l i (i + 1) := by rw [drop_pt h]; rfl
theorem rest1_in {l : List Pt} {i j : Nat} (h : j < l.length) : rest1 l i j = rest2 l i j (j + 1) := by
 unfold rest1 rest2
 rw [drop_pt h]
 show (B2 _ _ _ ++ B1 _ _) ++ _ = _
 rw [List.append_assoc]
 rfl
theorem rest2_in {l : List Pt} {i j k : Nat} (h : k < l.length) : rest2 l i j k = rest3 l i j k (k + 1) := by
 unfold rest2 rest3
 rw [drop_pt h]
 show (B3 _ _ _ _ ++ B2 _ _ _) ++ _ = _
 rw [List.append_assoc]
 rfl
theorem rest3_in {l : List Pt} {i j k m : Nat} (h : m < l.length) : rest3 l i j k m = if 0 < Sz (pt9 l i) (pt9 l j) (pt9 l k) (pt9 l m) then mkB (pt9 l i) (pt9 l j) (pt9 l k) (pt9 l m) :: rest3 l i j k (m + 1) else rest3 l i j k (m + 1) := by
 unfold rest3
 rw [drop_pt h]
 show (if _ then _ else _) ++ _ = _
 split <;> rfl
theorem rest_end {l : List Pt} {k : Nat} (h : l.length ≤ k) : l.drop k = [] := List.drop_of_length_le h
theorem rest1_end {l : List Pt} {i j : Nat} (h : l.length ≤ j) : rest1 l i j = bals (l.drop (i + 1)) := by unfold rest1; rw [rest_end h]; rfl
theorem rest2_end {l : List Pt} {i j k : Nat} (h : l.length ≤ k) : rest2 l i j k = rest1 l i (j + 1) := by unfold rest2; rw [rest_end h]; rfl
theorem rest3_end {l : List Pt} {i j k m : Nat} (h : l.length ≤ m) : rest3 l i j k m = rest2 l i j (k + 1) := by unfold rest3; rw [rest_end h]; rfl
theorem drop_at {α : Type} {Y : List α} {e : Nat} {x : α} {t : List α} (h : Y.drop e = x :: t) : ∃ he : e < Y.length, Y[e] = x ∧ Y.drop (e + 1) = t := by
 have he : e < Y.length := by
  rcases Nat.lt_or_ge e Y.length with h1 | h1
  · exact h1
  · rw [List.drop_of_length_le h1] at h; cases h
 rw [List.drop_eq_getElem_cons he] at h
 injection h with h1 h2
 exact ⟨he, h1, h2⟩
theorem mkB_in {a b c d : Pt} (ha : InG a) (hb : InG b) (hc : InG c) (hd : InG d) : InB (mkB a b c d) := by
 have h0 := crs_bd hb hc hd
 have h1 := crs_bd ha hc hd
 have h2 := crs_bd ha hb hd
 have h3 := crs_bd ha hb hc
 refine ⟨ha, hb, hc, hd, h0, ?_, h2, ?_, ?_⟩
 · show _ ≤ -crs a c d ∧ -crs a c d ≤ _
   omega
 · show _ ≤ -crs a b c ∧ -crs a b c ≤ _
   omega
 · show 0 ≤ Sz a b c d ∧ Sz a b c d ≤ _
   unfold Sz mxa
   omega
theorem pt9_in {l : List Pt} (hl : ∀ q ∈ l, InG q) {k : Nat} (hk : k < l.length) : InG (pt9 l k) := by
 unfold pt9
 rw [List.getD_eq_getElem?_getD, List.getElem?_eq_getElem hk]
 exact hl _ (List.getElem_mem hk)
theorem alloc_pt (w : World) : ∃ w', (Instr.alloc 96 true (.tuple #[])).run Tryz.prog w = .ok (.pointer (some ⟨w.heap.size, 0, none⟩)) w' := ⟨w.alloc (.cells #[I 0, I 0, I 0] 96), by kernel_rfl⟩
set_option maxHeartbeats 1000000 in
theorem balances_any (A : Option Addr) (n c : Nat) (w : World) : Calls Tryz.prog 65 #[.slice A n c] w fun e w' => e = .returned (.func (.func 83) #[] #[.pointer (some ⟨w.heap.size, 0, none⟩)]) ∧ w' = w.alloc (.cells #[.slice A n c] 93) := by
 have hmf := @makeFunc_run Tryz.prog
 go_enter Tryz.func65, Tryz.ntmps65
 go_wp2
 go_ret
 exact ⟨rfl, rfl⟩
end Go.Proofs.YtliolnfcgaflcaaGreat.Un
