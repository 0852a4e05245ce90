/- The contract of newChart of package pull: what is known before and from each second. -/
import Derived.Test.YtlebefopdnadaaaRn
namespace Go.Proofs.Ytlebefopdnadaaa
open Go.RowKit
def kn0 : Kn := ⟨0, 0, false⟩
theorem kn_info : (Try.prog.info? 147).map (fun i => (i.zero, i.size, i.bytes)) = some (some (.agg #[I 0, I 0, .bool false]), 3, 24) := by kernel_rfl
theorem made_kn (N : Nat) : madeCells (Value.agg #[I 0, I 0, .bool false]).cells (N * 3) = kArr (fun _ => kn0) N := by
  apply Array.ext_getElem?
  intro i
  by_cases hi : i < N * 3
  · have h3 : i % 3 = 0 ∨ i % 3 = 1 ∨ i % 3 = 2 := by omega
    have e1 : (madeCells (Value.agg #[I 0, I 0, .bool false]).cells (N * 3))[i]? = some ((#[I 0, I 0, .bool false] : Array Value)[i % 3]!) := by
      simp [madeCells, hi, Value.cells]
    have e2 : (kArr (fun _ => kn0) N)[i]? = some (kn0.c (i % 3)) := by simp [kArr, flat, hi, rK]
    rw [e1, e2]
    rcases h3 with h | h | h <;> rw [h] <;> rfl
  · rw [Array.getElem?_eq_none (by rw [size_madeCells]; omega), Array.getElem?_eq_none (by rw [kArr_size]; omega)]
theorem make_kn (m : Int) (N : Nat) (hN : N = m.toNat) (h0 : 0 ≤ m) (h1 : m ≤ 1000000) (w : World) :
    (Instr.makeSlice 148 (.int .i64 m) (.int .i64 m)).run Try.prog w = .ok (.slice (some ⟨w.heap.size, 0, none⟩) N N) (w.alloc (.cells (kArr (fun _ => kn0) N) 147)) := by
  obtain ⟨i0, hi0, iz0, iz1, iz2⟩ := info_parts kn_info
  have hm : m = (N : Int) := by omega
  rw [hm]
  have hr := run_make (P := Try.prog) w 148 147 i0 _ Try.underlying148 hi0 iz0 .i64 .i64 N N (by omega) (by omega) (by rw [iz2]; omega) (by omega)
  simp only [Int.toNat_natCast] at hr
  rw [hr, iz1, made_kn]
def updK (f : Nat → Kn) (k : Nat) (q : Kn) (i : Nat) : Kn := if i = k then q else f i
theorem kArr_upd (f : Nat → Kn) {n k : Nat} (hk : k < n) (q : Kn) : ((kArr f n).toList.take (k * 3 + 0) ++ (knArr q).toList ++ (kArr f n).toList.drop (k * 3 + 0 + (knArr q).toList.length)).toArray = kArr (updK f k q) n := by
  have hl : (kArr f n).toList.length = n * 3 := by simp [kArr, flat_len]
  have hle : k * 3 + 3 ≤ n * 3 := by omega
  apply Array.ext_getElem?
  intro i
  rw [List.getElem?_toArray]
  have h3 : (knArr q).toList.length = 3 := rfl
  rw [h3, Nat.add_zero]
  have hf : ∀ (g : Nat → Kn) i, i < n * 3 → (kArr g n)[i]? = some ((g (i / 3)).c (i % 3)) := fun g i hi => by simp [kArr, flat, hi, rK]
  by_cases hi : i < n * 3
  · rw [hf _ i hi]
    by_cases h1 : i < k * 3
    · rw [List.append_assoc, List.getElem?_append_left (by rw [List.length_take]; omega), List.getElem?_take, if_pos h1, Array.getElem?_toList, hf _ i hi, updK, if_neg (by omega)]
    · by_cases h2 : i < k * 3 + 3
      · rw [List.append_assoc, List.getElem?_append_right (by rw [List.length_take]; omega), List.length_take, List.getElem?_append_left (by rw [h3]; omega)]
        have e1 : i / 3 = k := by omega
        have e2 : i - min (k * 3) (kArr f n).toList.length = i % 3 := by omega
        rw [e1, e2, updK, if_pos rfl]
        have : i % 3 = 0 ∨ i % 3 = 1 ∨ i % 3 = 2 := by omega
        rcases this with h | h | h <;> rw [h] <;> rfl
      · rw [List.getElem?_append_right (by rw [List.length_append, List.length_take, h3]; omega), List.length_append, List.length_take, h3, List.getElem?_drop]
        have e : k * 3 + 3 + (i - (min (k * 3) (kArr f n).toList.length + 3)) = i := by omega
        rw [e, Array.getElem?_toList, hf _ i hi, updK, if_neg (by omega)]
  · rw [List.getElem?_eq_none (by simp only [List.length_append, List.length_take, List.length_drop, h3]; omega), Array.getElem?_eq_none (by rw [kArr_size]; omega)]
section
variable {P : Program}
theorem run_store_kn {w : World} {g k n : Nat} {f : Nat → Kn} {t : TypeId} (hg : w.heap[g]? = some (.cells (kArr f n) t (0, 0))) (hk : k < n) (q : Kn) {ty : TypeId} (hi : (P.info? ty).map (·.size) = some 3) :
    (storeVar ty ⟨g, k * 3, none⟩ (.agg (knArr q))).run P w = .ok () (w.setRow g (kArr (updK f k q) n)) := by
  have hst := run_storeCells_at (P := P) g (k * 3) t (knArr q).toList 0 (kArr f n) w hg (by rw [kArr_size]; show k * 3 + 0 + 3 ≤ _; omega) (knOne q)
  rw [kArr_upd f hk q] at hst
  cases hq : P.info? ty with
  | none => simp [hq] at hi
  | some i =>
    have hs' : i.size = 3 := by simpa [hq] using hi
    simp only [storeVar, Sem.run_bind, sizeOf, typeInfo, Value.cells]
    simp [hq, hs', Sem.run_bind] at hst ⊢
    exact hst
theorem wp_store_kn {o : Oper} {a : Act} {w : World} {K : Act → World → Prop} {Q : Exit → Act → World → Prop} (ty : TypeId) (x y : Operand) (ho : o.op = .store ty x y)
    (g k : Nat) (hx : a.eval x = .pointer (some ⟨g, k * 3, none⟩)) (f : Nat → Kn) (n : Nat) (t : TypeId) (hg : w.heap[g]? = some (.cells (kArr f n) t (0, 0))) (hk : k < n) (q : Kn) (hy : a.eval y = .agg (knArr q)) (hi : (P.info? ty).map (·.size) = some 3)
    (h : K (a.put o.dst undef) (w.setRow g (kArr (updK f k q) n))) : o.wp P a w K Q := by
  unfold Oper.wp execOp
  simp only [ho, hx, hy, Instr.storeAt, Instr.sureAddr, Sem.run_bind, Sem.run_pure, Result.andThen_ok, run_store_kn hg hk q hi]
  exact h
theorem wpList_store_kn {ops : Array Oper} {rest : List Oper} {o : Oper} {a : Act} {w : World} {Q : Exit → Act → World → Prop} (hgd : o.guard = none) (ty : TypeId) (x y : Operand) (ho : o.op = .store ty x y)
    (g k : Nat) (hx : a.eval x = .pointer (some ⟨g, k * 3, none⟩)) (f : Nat → Kn) (n : Nat) (t : TypeId) (hg : w.heap[g]? = some (.cells (kArr f n) t (0, 0))) (hk : k < n) (q : Kn) (hy : a.eval y = .agg (knArr q)) (hi : (P.info? ty).map (·.size) = some 3)
    (h : wpList P ops Q rest (a.put o.dst undef) (w.setRow g (kArr (updK f k q) n))) : wpList P ops Q (o :: rest) a w :=
  wpList_plain hgd fun _ hK => wp_store_kn ty x y ho g k hx f n t hg hk q hy hi (hK _ _ h)
end
end Go.Proofs.Ytlebefopdnadaaa
