/- The contracts of soft and own of the statements' package. -/
import Derived.Test.YtlebefopdnadaaaSp
namespace Go.Proofs.Ytlebefopdnadaaa
open Go.RowKit
/-- Some cells of an aggregate, written over. -/
def ovw (f : Vec) (k m : Nat) (g : Vec) : Vec := fun i => if k ≤ i ∧ i < k + m then g (i - k) else f i
theorem ovw_ia (f g : Vec) {n k m : Nat} (h : k + m ≤ n) : ((ia n f).toList.take (k + 0) ++ (ia m g).toList ++ (ia n f).toList.drop (k + 0 + (ia m g).toList.length)).toArray = ia n (ovw f k m g) := by
  apply Array.ext_getElem?
  intro i
  have hl : (ia n f).toList.length = n := by simp [ia]
  have hm : (ia m g).toList.length = m := by simp [ia]
  rw [List.getElem?_toArray, hm, Nat.add_zero]
  by_cases hi : i < n
  · rw [ia_get hi]
    by_cases h1 : i < k
    · rw [List.append_assoc, List.getElem?_append_left (by rw [List.length_take]; omega), List.getElem?_take, if_pos h1, Array.getElem?_toList, ia_get hi, ovw, if_neg (by omega)]
    · by_cases h2 : i < k + m
      · rw [List.append_assoc, List.getElem?_append_right (by rw [List.length_take]; omega), List.length_take, List.getElem?_append_left (by rw [hm]; omega), Array.getElem?_toList, hl, show i - min k n = i - k by omega, ia_get (by omega), ovw, if_pos (by omega)]
      · rw [List.getElem?_append_right (by rw [List.length_append, List.length_take]; omega), List.length_append, List.length_take, List.getElem?_drop, Array.getElem?_toList, hl, hm, show k + m + (i - (min k n + m)) = i by omega, ia_get hi, ovw, if_neg (by omega)]
  · rw [List.getElem?_eq_none (by simp only [List.length_append, List.length_take, List.length_drop, hl, hm]; omega), Array.getElem?_eq_none (by rw [ia_size]; omega)]
section
variable {P : Program}
/-- A store of some integers into a block of integers. -/
theorem wpList_store_ia {ops : Array Oper} {rest : List Oper} {o : Oper} {a : Act} {w : World} {Q : Exit → Act → World → Prop} (hgd : o.guard = none) (ty : TypeId) (x y : Operand) (ho : o.op = .store ty x y)
    (b k n m : Nat) (hx : a.eval x = .pointer (some ⟨b, k, none⟩)) (f g : Vec) (t : TypeId) (hg : w.heap[b]? = some (.cells (ia n f) t (0, 0))) (hk : k + m ≤ n) (v : Value) (hv : v.cells = ia m g) (hy : a.eval y = v) (hi : (P.info? ty).map (·.size) = some m)
    (h : wpList P ops Q rest (a.put o.dst undef) (w.setRow b (ia n (ovw f k m g)))) : wpList P ops Q (o :: rest) a w := by
  refine wpList_plain hgd fun _ hK => ?_
  have hst := run_storeCells_at (P := P) b k t (ia m g).toList 0 (ia n f) w hg (by rw [ia_size]; simp [ia]; omega) ia_one
  rw [ovw_ia f g hk] at hst
  have hrun : (storeVar ty ⟨b, k, none⟩ v).run P w = .ok () (w.setRow b (ia n (ovw f k m g))) := by
    cases hq : P.info? ty with
    | none => simp [hq] at hi
    | some i =>
      have hs' : i.size = m := by simpa [hq] using hi
      simp only [storeVar, Sem.run_bind, sizeOf, typeInfo, hv]
      simp [hq, hs', Sem.run_bind, ia_size] at hst ⊢
      exact hst
  unfold Oper.wp execOp
  simp only [ho, hx, hy, Instr.storeAt, Instr.sureAddr, Sem.run_bind, Sem.run_pure, Result.andThen_ok, hrun]
  exact hK _ _ h
end
/-- A rule that lets everything through, its first g gauges set. -/
def softR (g : Nat) : Vec := fun i => if i < 12 then (if i / 2 < g ∧ i % 2 = 1 then 1000000 else 0) else if i < 18 then (if i - 12 < g then 1000000 else 0) else if i = 19 then 100000 else if i = 21 then 10000000000 else 0
/-- The puller whose first k rules are set. -/
def softP (k : Nat) : Vec := fun i => if i < 110 then (if i / 22 < k then softR 6 (i % 22) else 0) else if i = 110 then 2 else if i = 111 then 1 else if i = 112 then 97 else if i = 113 then 104 else if i = 114 then 600 else if i = 115 then 10 else 0
def softV : Vec := softP 5
theorem ia_congr {n : Nat} {f g : Vec} (h : ∀ i, i < n → f i = g i) : ia n f = ia n g := by
  apply Array.ext_getElem?
  intro i
  by_cases hi : i < n
  · rw [ia_get hi, ia_get hi, h i hi]
  · rw [Array.getElem?_eq_none (by rw [ia_size]; omega), Array.getElem?_eq_none (by rw [ia_size]; omega)]
theorem softR_step {g : Nat} (hg : g < 6) : ia 22 (ovw (ovw (softR g) (g * 2) 2 fun i => if i = 1 then 1000000 else 0) (12 + g) 1 fun _ => 1000000) = ia 22 (softR (g + 1)) := by
  refine ia_congr fun i hi => ?_
  unfold ovw softR
  dsimp only
  repeat' split
  all_goals first | rfl | omega
theorem softP_step {k : Nat} (hk : k < 5) : ia 117 (ovw (softP k) (k * 22) 22 (softR 6)) = ia 117 (softP (k + 1)) := by
  refine ia_congr fun i hi => ?_
  unfold ovw softP
  by_cases h1 : k * 22 ≤ i ∧ i < k * 22 + 22
  · rw [if_pos h1, if_pos (by omega), if_pos (by omega), show i - k * 22 = i % 22 by omega]
  · rw [if_neg h1]
    repeat' split
    all_goals first | rfl | omega
theorem soft_puller : Try.prog.built 30 [(1, I 2), (2, I 1), (3, .agg #[I 97, I 104]), (4, I 600), (5, I 10)] = some (ia 117 (softP 0)) := by kernel_rfl
theorem soft_rule : Try.prog.built 27 [(2, .agg #[I 0, I 100000]), (3, .agg #[I 0, I 10000000000])] = some (ia 22 (softR 0)) := by kernel_rfl
theorem soft1 : (ia 117 (softP 0)).size = Try.zeroCells30.size := by rw [ia_size]; kernel_rfl
theorem soft2 : (Try.prog.info? 30).map (·.size) = some Try.zeroCells30.size := by kernel_rfl
theorem soft4 : (Try.prog.info? 27).map (·.size) = some 22 := by kernel_rfl
theorem wpList_built {P : Program} {ops : Array Oper} {rest : List Oper} {o : Oper} {a : Act} {w : World} {Q : Exit → Act → World → Prop} (hgd : o.guard = none) (t : TypeId) (parts : Array (Nat × Operand)) (ho : o.op = .build t parts)
    (ps : List (Nat × Value)) (hp : (parts.map fun (i, x) => (i, a.eval x)).toList = ps) (cs : Array Value) (hb : P.built t ps = some cs) (h : wpList P ops Q rest (a.put o.dst (.agg cs)) w) : wpList P ops Q (o :: rest) a w := by
  refine wpList_plain hgd fun _ hK => ?_
  unfold Oper.wp execOp
  simp only [ho, Sem.run_bind, run_build w t _ cs (by rw [hp]; exact hb), Result.andThen_ok]
  exact hK _ _ h
set_option maxRecDepth 100000 in
set_option maxHeartbeats 1000000 in
theorem soft_any (w : World) : Calls Try.prog 42 #[] w fun e w' => e = .returned (.agg (ia 117 softV)) ∧ Below w.heap.size w w' := by
  go_enter Try.func42, Try.ntmps42
  go_wp2_with (first | (refine wpList_built rfl 30 _ rfl _ rfl _ soft_puller ?_) | (refine wpList_store_new rfl 30 _ _ rfl _ _ (w.heap.size + 1) rfl (by simp) (ia 117 (softP 0)) rfl ia_one soft1 soft2 ?_))
  go_loopw [2] (fun i wr => ∃ k : Nat, k ≤ 5 ∧ i = .int .i64 k ∧ wr.heap[w.heap.size + 1]? = some (.cells (ia 117 (softP k)) 30 (0, 0)) ∧ wr.heap[w.heap.size]? = some (.cells Try.zeroCells30 30 (0, 0)) ∧ Below w.heap.size w wr) (fun i _ => 5 - (intOf i).toNat)
  case atStart => exact ⟨0, by omega, rfl, heap_last _ _ _ (by simp), heap_before (heap_last _ _ _ rfl), ((Below.refl _ _).alloc (Nat.le_refl _) _).alloc (by simp) _⟩
  case round =>
    obtain ⟨k, hk, rfl, h1, h0, hbw⟩ := hrel
    have H1 := Lib.hid h1
    have H0 := Lib.hid h0
    have HB := Lib.hid hbw
    clear h1 h0 hbw
    have hk5 : (k : Int) ≤ 5 := by omega
    by_cases hlt : k < 5
    · go_wp2_with (first | (refine wpList_built rfl 27 _ rfl _ rfl _ soft_rule ?_) | (refine wpList_store_new rfl 27 _ _ rfl _ _ wr.heap.size rfl rfl (ia 22 (softR 0)) rfl ia_one (ia_size _ _) soft4 ?_))
      obtain ⟨wo, rfl⟩ : ∃ wo : World, wo = wr := ⟨_, rfl⟩
      go_loopw [4] (fun i wq => ∃ g : Nat, g ≤ 6 ∧ i = .int .i64 g ∧ wq.heap[wo.heap.size]? = some (.cells (ia 22 (softR g)) 27 (0, 0)) ∧ Below wo.heap.size wo wq) (fun i _ => 6 - (intOf i).toNat)
      case atStart => exact ⟨0, by omega, rfl, heap_last _ _ _ rfl, (Below.refl _ _).alloc (Nat.le_refl _) _⟩
      case round =>
        obtain ⟨g, hg, rfl, hr, hbq⟩ := hrel
        have HR := Lib.hid hr
        have HQ := Lib.hid hbq
        clear hr hbq
        have hg6 : (g : Int) ≤ 6 := by omega
        by_cases hlg : g < 6
        · have e1 : Hid ((wr.setRow wo.heap.size (ia 22 (ovw (softR g) (g * 2) 2 fun i => if i = 1 then 1000000 else 0))).heap[wo.heap.size]? = some (.cells (ia 22 (ovw (softR g) (g * 2) 2 fun i => if i = 1 then 1000000 else 0)) 27 (0, 0))) := setRow_same HR.out
          go_wp2_with (first | (refine wpList_store_ia rfl 23 _ _ rfl wo.heap.size (g * 2) 22 2 (by first | rfl | (simp; done)) (softR g) (fun i => if i = 1 then 1000000 else 0) _ HR.out (by omega) (.agg #[I 0, I 1000000]) rfl rfl (by kernel_rfl) ?_) | (refine wpList_store_ia rfl 3 _ _ rfl wo.heap.size (12 + g) 22 1 (by first | rfl | (simp; done)) _ (fun _ => 1000000) _ e1.out (by omega) (I 1000000) rfl rfl (by kernel_rfl) ?_))
          have hs : Hid (ia 22 (ovw (ovw (softR g) (g * 2) 2 fun i => if i = 1 then 1000000 else 0) (12 + g) 1 fun _ => 1000000) = ia 22 (softR (g + 1))) := softR_step hlg
          go_roundw
          case rel => exact ⟨g + 1, by omega, by go_num, by rw [← hs.out]; exact setRow_same e1.out, below_setRow (below_setRow HQ.out (Nat.le_refl _) _) (Nat.le_refl _) _⟩
          case measure => simp [intOf]; omega
        · obtain rfl : g = 6 := by omega
          have hb1 : Hid (wr.heap[w.heap.size + 1]? = some (.cells (ia 117 (softP k)) 30 (0, 0))) := (HQ.out.block _ (Array.getElem?_eq_some_iff.1 H1.out).1).trans H1.out
          have hz : w.heap.size + 1 < wo.heap.size := (Array.getElem?_eq_some_iff.1 H1.out).1
          have hs : Hid (ia 117 (ovw (softP k) (k * 22) 22 (softR 6)) = ia 117 (softP (k + 1))) := softP_step hlt
          go_wp2_with (first | (refine wpList_load_ia rfl 27 _ rfl wo.heap.size 0 rfl 22 (softR 6) _ (fun j hj => by rw [cell_of_row _ _ _ _ _ _ HR.out, Nat.zero_add]; exact ia_get hj) Try.underlying27 rfl (by kernel_rfl) ?_) | (refine wpList_store_ia rfl 27 _ _ rfl (w.heap.size + 1) (k * 22) 117 22 (by first | rfl | (simp; done)) (softP k) (softR 6) _ hb1.out (by omega) (.agg (ia 22 (softR 6))) rfl rfl soft4 ?_))
          go_roundw
          case rel => exact ⟨k + 1, by omega, by go_num, by rw [← hs.out]; exact setRow_same hb1.out, (setRow_other (by omega)).trans ((HQ.out.block _ (by omega)).trans H0.out), below_setRow (HB.out.trans (HQ.out.mono HB.out.size)) (by omega) _⟩
          case measure => simp [intOf]; omega
    · obtain rfl : k = 5 := by omega
      go_wp2_with (first | (refine wpList_load_ia rfl 30 _ rfl (w.heap.size + 1) 0 rfl 117 (softP 5) _ (fun j hj => by rw [cell_of_row _ _ _ _ _ _ H1.out, Nat.zero_add]; exact ia_get hj) Try.underlying30 rfl (by kernel_rfl) ?_) | (refine wpList_store_row rfl 30 _ _ rfl w.heap.size rfl _ _ H0.out (ia 117 (softP 5)) rfl ia_one (by rw [ia_size]; kernel_rfl) soft2 ?_))
      refine bodyPost_ret (results_cell_only rfl _ _ w.heap.size 30 (ia 117 (softP 5)) (0, 0) _ rfl (setRow_same H0.out) Try.underlying30 rfl (by kernel_rfl)) rfl ?_
      exact ⟨rfl, below_setRow HB.out (Nat.le_refl _) _⟩
end Go.Proofs.Ytlebefopdnadaaa
