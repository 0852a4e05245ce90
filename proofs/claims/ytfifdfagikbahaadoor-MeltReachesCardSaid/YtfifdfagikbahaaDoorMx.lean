/- A map from numbers to levels, under way. -/
import Derived.Test.YtfifdfagikbahaaDoorMs
import Derived.Maps.OwnIn
namespace Go.Proofs.YtfifdfagikbahaaDoor
open Go.RowKit
open Go.Maps
/-- How a level reads. -/
def d3 (q : Int × Int × Int) : DataW Unit := .agg [.lit (.int .i64 q.1), .lit (.int .i64 q.2.1), .lit (.int .i64 q.2.2)]
open Classical in
noncomputable def R3 (v : Value) : Option (DataW Unit × List MemPlace) :=
  if h : ∃ q : Int × Int × Int, v = .agg #[I q.1, I q.2.1, I q.2.2] then some (d3 h.choose, []) else none
theorem R3_mk (q : Int × Int × Int) : R3 (.agg #[I q.1, I q.2.1, I q.2.2]) = some (d3 q, []) := by
  have h : ∃ q' : Int × Int × Int, (.agg #[I q.1, I q.2.1, I q.2.2] : Value) = .agg #[I q'.1, I q'.2.1, I q'.2.2] := ⟨q, rfl⟩
  unfold R3
  rw [dif_pos h]
  have hs := h.choose_spec
  generalize h.choose = r at hs
  obtain ⟨a, b, c⟩ := q
  obtain ⟨a', b', c'⟩ := r
  simp at hs
  obtain ⟨rfl, rfl, rfl⟩ := hs
  rfl
theorem R3_inv {v : Value} {q : Int × Int × Int} {ps : List MemPlace} (h : R3 v = some (d3 q, ps)) : v = .agg #[I q.1, I q.2.1, I q.2.2] := by
  unfold R3 at h
  split at h
  · rename_i hq
    obtain ⟨r, rfl⟩ := hq
    have h2 := R3_mk r
    unfold R3 at h2
    rw [dif_pos ⟨r, rfl⟩] at h2
    rw [h2] at h
    obtain ⟨a, b, c⟩ := q
    obtain ⟨a', b', c'⟩ := r
    simp [d3] at h
    obtain ⟨⟨rfl, rfl, rfl⟩, _⟩ := h
    rfl
  · cases h
theorem law_int : Keyed Tryd.prog 3 := int_keyed Tryd.underlying3
theorem zero_lv (w : World) : (zeroValue 62).run Tryd.prog w = .ok (.agg #[I 0, I 0, I 0]) w := by kernel_rfl
theorem key_int {k : Nat} (hk : k ≤ 1000000) : keyOf Tryd.prog 3 (I k) = some (.int .i64 k) := keyOf_int_mk Tryd.underlying3 (by
  have h1 : IntKind.i64.min = -9223372036854775808 := by decide
  have h2 : IntKind.i64.max = 9223372036854775807 := by decide
  simp only [Lit.wf, Bool.and_eq_true, decide_eq_true_eq, h1, h2]
  omega)
/-- Block b is a map of the first n numbers to their levels. -/
def MpAt (w : World) (b n : Nat) (f : Nat → Int × Int × Int) : Prop := ∃ D : DataW Unit, w.ownsMap Tryd.prog 3 R3 b n D ∧ IsMap D ∧ ∀ j, j < n → D.atKey (.int .i64 j) (d3 (0, 0, 0)) = d3 (f j)
theorem MpAt.made (w : World) (f : Nat → Int × Int × Int) : MpAt (w.alloc (.map #[] 0)) w.heap.size 0 f := ⟨.map [], World.ownsMap_made _ _ _ _, isMap_empty, fun j hj => absurd hj (by omega)⟩
theorem MpAt.kept {w w' : World} {b n : Nat} {f : Nat → Int × Int × Int} {row : Option Nat} (h : MpAt w b n f) (hg : w.grownBy w' row) (hne : some b ≠ row) : MpAt w' b n f := by
  obtain ⟨D, h1, h2, h3⟩ := h
  exact ⟨D, h1.kept hg hne, h2, h3⟩
theorem MpAt.row {w w' : World} {b n : Nat} {f : Nat → Int × Int × Int} (h : MpAt w b n f) (hg : w'.heap[b]? = w.heap[b]?) : MpAt w' b n f := by
  obtain ⟨D, ⟨es, clock, hb, F, hs, hD⟩, h2, h3⟩ := h
  exact ⟨D, ⟨es, clock, hg.trans hb, F, hs, hD⟩, h2, h3⟩
theorem MpAt.lt {w : World} {b n : Nat} {f : Nat → Int × Int × Int} (h : MpAt w b n f) : b < w.heap.size := h.choose_spec.1.lt
theorem MpAt.put {w' : World} {b n : Nat} {f : Nat → Int × Int × Int} {D : DataW Unit} (h2 : IsMap D) (h3 : ∀ j, j < n → D.atKey (.int .i64 j) (d3 (0, 0, 0)) = d3 (f j))
    (h : w'.ownsMap Tryd.prog 3 R3 b (n + 1) (D.put (.int .i64 n) (d3 (f n)))) : MpAt w' b (n + 1) f := by
  refine ⟨_, h, h2.put _ _, fun j hj => ?_⟩
  by_cases e : j = n
  · subst e
    exact atKey_put_same h2 (by trivial) _ _
  · rw [atKey_put_other (by simp only [ne_eq, Lit.int.injEq, true_and]; omega)]
    exact h3 j (by omega)
theorem wpListIn_put3 {F : Fence} {nF : Nat} {w : World} {ops : Array Oper} {rest : List Oper} {o : Oper} {a : Act} {Q : Exit → Act → World → Prop}
    (hg : o.guard = none) (m x v : Operand) (hop : o.op = Op.mapUpdate 138 m x v) (b n : Nat) (f : Nat → Int × Int × Int) (hm : a.eval m = .map (some b)) (h : MpAt w b n f) (hn : n ≤ 1000000) (hx : a.eval x = I n) (hv : a.eval v = .agg #[I (f n).1, I (f n).2.1, I (f n).2.2])
    (hK : ∀ w', MpAt w' b (n + 1) f → w.grownBy w' (some b) → wpListIn F nF Tryd.prog ops Q rest (a.put o.dst undef) w') : wpListIn F nF Tryd.prog ops Q (o :: rest) a w := by
  obtain ⟨D, h1, h2, h3⟩ := h
  exact wpListIn_mapUpdate_own w hg m x v _ hop _ _ law_int Tryd.underlying138 R3 b n D hm h1 (by unfold maxLen; omega) _ _ (.int .i64 n) hx hv (key_int hn) _ [] (R3_mk (f n)) fun w' h4 h5 => hK w' (MpAt.put h2 h3 h4) h5
theorem wpListIn_look3 {F : Fence} {nF : Nat} {w : World} {ops : Array Oper} {rest : List Oper} {o : Oper} {a : Act} {Q : Exit → Act → World → Prop}
    (hg : o.guard = none) (m x : Operand) (hop : o.op = Op.lookup 138 m x false) (b n : Nat) (f : Nat → Int × Int × Int) (hm : a.eval m = .map (some b)) (h : MpAt w b n f) (k : Nat) (hk : k < n) (hn : n ≤ 1000000) (hx : a.eval x = I k)
    (hK : wpListIn F nF Tryd.prog ops Q rest (a.put o.dst (.agg #[I (f k).1, I (f k).2.1, I (f k).2.2])) w) : wpListIn F nF Tryd.prog ops Q (o :: rest) a w := by
  obtain ⟨D, h1, h2, h3⟩ := h
  refine wpListIn_plain hg fun K' hK' => ?_
  obtain ⟨v, ps, hrun, hv⟩ := h1.lookup law_int Tryd.underlying138 (zero_lv w) (R3_mk (0, 0, 0)) (key_int (k := k) (by omega))
  rw [h3 k hk] at hv
  rw [R3_inv hv] at hrun
  unfold Oper.wpIn
  refine ⟨by simp [Oper.about, hop], ?_⟩
  rw [Oper.semAt_plain F _ _ (by rw [hop]; intro c hc'; cases hc')]
  simp [execOp, hop, hm, hx, hrun, Result.andThen]
  exact hK' _ _ hK
end Go.Proofs.YtfifdfagikbahaaDoor
