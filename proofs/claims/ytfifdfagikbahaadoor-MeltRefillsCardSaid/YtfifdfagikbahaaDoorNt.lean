/- A row put behind a literal of one cell. -/
import Derived.Test.YtfifdfagikbahaaDoorNr
namespace Go.Proofs.YtfifdfagikbahaaDoor
open Go.RowKit
attribute [local go_sem] Oper.semAt_some
theorem run_app_pre {P : Program} (w : World) (t ty e : TypeId) (i : TypeInfo) (z : Value) (bytes : Nat) (ht : P.underlying t = some (.slice e)) (hi : P.info? e = some i) (hz : i.zero = some z) (hsz : i.size = 1) (hby : i.bytes = bytes) (hzs : z.cells.size = 1)
    (B zb : Nat) (u : Value) (hzb : w.heap[zb]? = some (.cells #[u] e (0, 0))) (hB : B ≤ zb) (A : Option Addr) (n c : Nat) (g : Nat → Nat → Value) (hr : Rd w w.heap.size 1 A n g) (hn : n ≤ 1000000) (hb : bytes ≤ 1000000) :
    ∃ v' w', (Builtin.append_ #[t, t] ty #[.slice (some ⟨zb, 0, none⟩) 1 1, .slice A n c]).run P w = .ok v' w' ∧ Below w.heap.size w w' ∧ w'.ownsRow B e 1 v' (n + 1) ([u] ++ flat 1 g n) := by
  have hzl : zb < w.heap.size := (Array.getElem?_eq_some_iff.1 hzb).1
  by_cases hn0 : n = 0
  · subst hn0
    refine ⟨.slice (some ⟨zb, 0, none⟩) 1 1, w, ?_, Below.refl _ _, ?_⟩
    · cases A <;> simp [go_sem, Builtin.append_, run_underlying ht, sizeOf, typeInfo, hi, Builtin.lenOf, Builtin.firstCells, storeCells]
    · have := own_lit (base := B) hzb rfl hB
      simpa [flat] using this
  · obtain ⟨b2, o2, hA, _, hc⟩ := hr (by omega)
    subst hA
    have hm : (1 + n) * bytes ≤ 1000001 * 1000000 := Nat.mul_le_mul (by omega) hb
    obtain ⟨v', w', hrun, hown, hgr⟩ := run_append_arg_grows (P := P) w t ty e i z 1 bytes ht hi hz hsz hby hzs (by decide) ⟨zb, 0, none⟩ 1 1 [u] (by simp) (fun j x hj => by
      rcases j with _ | j
      · cases hj
        exact (cell_of_row _ _ 0 _ _ _ hzb).trans rfl
      · simp at hj) ⟨b2, o2, none⟩ n c (flat 1 g n) (flat_len _ _ _) (Rd.flat_at hc (by decide)) (by omega) (by unfold maxLen; omega) (by omega)
    rw [Nat.add_comm 1 n] at hown
    exact ⟨v', w', hrun, (Below.refl _ _).grown hgr (Nat.le_refl _) (fun g hg => by cases hg), own_base hown (by omega)⟩
theorem wpList_app_pre {P : Program} {ops : Array Oper} {rest : List Oper} {o : Oper} {a : Act} {w : World} {Q : Exit → Act → World → Prop} (hg : o.guard = none) (s x : Operand) (t : TypeId) (ho : o.op = .call { callee := .builtin .append, args := #[s, x], argTypes := #[t, t] })
    (e : TypeId) (i : TypeInfo) (z : Value) (bytes : Nat) (ht : P.underlying t = some (.slice e)) (hi : P.info? e = some i) (hz : i.zero = some z) (hsz : i.size = 1) (hby : i.bytes = bytes) (hzs : z.cells.size = 1)
    (B zb : Nat) (u : Value) (hs : a.eval s = .slice (some ⟨zb, 0, none⟩) 1 1) (A : Option Addr) (n c : Nat) (hx : a.eval x = .slice A n c) (g : Nat → Nat → Value) (hzb : w.heap[zb]? = some (.cells #[u] e (0, 0))) (hB : B ≤ zb) (hr : Rd w w.heap.size 1 A n g) (hn : n ≤ 1000000) (hb : bytes ≤ 1000000)
    (hK : ∀ v' w', Below w.heap.size w w' → w'.ownsRow B e 1 v' (n + 1) ([u] ++ flat 1 g n) → wpList P ops Q rest (a.put o.dst v') w') : wpList P ops Q (o :: rest) a w := by
  refine wpList_plain hg fun K hK' => ?_
  obtain ⟨v', w', hrun, h1, h2⟩ := run_app_pre (P := P) w t o.type e i z bytes ht hi hz hsz hby hzs B zb u hzb hB A n c g hr hn hb
  unfold Oper.wp
  simp [execOp, ho, resolve, invoke, builtin, hs, hx, hrun, Result.andThen]
  exact hK' _ _ (hK v' w' h1 h2)
end Go.Proofs.YtfifdfagikbahaaDoor
