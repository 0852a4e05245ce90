/- Rows of digits in the heap: appended zeros, one digit set. -/
import Derived.Test.YtfifdfagikbahaaDoorNp
namespace Go.Proofs.YtfifdfagikbahaaDoor
open Go.RowKit
attribute [local go_sem] Oper.semAt_some
theorem digs_eq (l : List Nat) : flat 1 (rN l) l.length = l.map fun x => I ((x : Nat) : Int) := by
  refine List.ext_getElem (by simp [flat]) fun i h1 h2 => ?_
  have hi : i < l.length := by simpa using h2
  simp only [flat, List.getElem_map, List.getElem_range, Nat.div_one]
  show I ((at0 l i : Nat) : Int) = _
  rw [at0_get hi]
theorem digs_app (l : List Nat) : flat 1 (rN (l ++ [0])) (l.length + 1) = flat 1 (rN l) l.length ++ [I 0] := by
  have := digs_eq (l ++ [0])
  rw [List.length_append] at this
  rw [digs_eq]
  refine this.trans ?_
  rw [List.map_append]; rfl
theorem digs_cons (l : List Nat) : flat 1 (rN (0 :: l)) (l.length + 1) = [I 0] ++ flat 1 (rN l) l.length := by
  rw [digs_eq]; exact digs_eq (0 :: l)
theorem digs_set (l : List Nat) (k v : Nat) : (flat 1 (rN l) l.length).set k (I (v : Int)) = flat 1 (rN (l.set k v)) l.length := by
  have := digs_eq (l.set k v)
  rw [List.length_set] at this
  rw [digs_eq, this, List.map_set]
theorem run_app_lit_soc {P : Program} (w : World) (t ty e : TypeId) (i : TypeInfo) (z : Value) (sz bytes : Nat) (ht : P.underlying t = some (.slice e)) (hi : P.info? e = some i) (hz : i.zero = some z) (hsz : i.size = sz) (hby : i.bytes = bytes) (hzs : z.cells.size = sz) (h0 : 0 < sz)
    (b : Nat) (A : Option Addr) (n c : Nat) (g : Nat → Nat → Value) (hr : Rd w w.heap.size sz A n g) (hn : n ≤ 1000000) (hb : bytes ≤ 1000000) :
    ∃ v' w', (Builtin.append_ #[t, t] ty #[.slice (some ⟨b, 0, none⟩) 0 0, .slice A n c]).run P w = .ok v' w' ∧ Below w.heap.size w w' ∧ SoC e sz w.heap.size n (flat sz g n) v' w' := by
  by_cases hn0 : n = 0
  · subst hn0
    refine ⟨.slice (some ⟨b, 0, none⟩) 0 0, w, ?_, Below.refl _ _, .inl ⟨rfl, by simp [flat], b, rfl⟩⟩
    cases A <;> simp [go_sem, Builtin.append_, run_underlying ht, sizeOf, typeInfo, hi, Builtin.lenOf, Builtin.firstCells, storeCells]
  · obtain ⟨b2, o2, hA, _, hc⟩ := hr (by omega)
    subst hA
    have hm : n * bytes ≤ 1000000 * 1000000 := Nat.mul_le_mul hn hb
    obtain ⟨v', w', hrun, hown, hgr⟩ := run_append_arg_grows (P := P) w t ty e i z sz bytes ht hi hz hsz hby hzs h0 ⟨b, 0, none⟩ 0 0 [] (by simp) (fun j u hu => by simp at hu) ⟨b2, o2, none⟩ n c (flat sz g n) (flat_len _ _ _) (Rd.flat_at hc h0) (by omega) (by unfold maxLen; omega) (by rw [Nat.zero_add]; omega)
    rw [Nat.zero_add, List.nil_append] at hown
    exact ⟨v', w', hrun, (Below.refl _ _).grown hgr (Nat.le_refl _) (fun g hg => by cases hg), .inr hown⟩
theorem wpList_app_lit_soc {P : Program} {ops : Array Oper} {rest : List Oper} {o : Oper} {a : Act} {w : World} {Q : Exit → Act → World → Prop} (hg : o.guard = none) (s x : Operand) (t : TypeId) (ho : o.op = .call { callee := .builtin .append, args := #[s, x], argTypes := #[t, t] })
    (e : TypeId) (i : TypeInfo) (z : Value) (sz bytes : Nat) (ht : P.underlying t = some (.slice e)) (hi : P.info? e = some i) (hz : i.zero = some z) (hsz : i.size = sz) (hby : i.bytes = bytes) (hzs : z.cells.size = sz) (h0 : 0 < sz)
    (b : Nat) (hs : a.eval s = .slice (some ⟨b, 0, none⟩) 0 0) (A : Option Addr) (n c : Nat) (hx : a.eval x = .slice A n c) (g : Nat → Nat → Value) (hr : Rd w w.heap.size sz A n g) (hn : n ≤ 1000000) (hb : bytes ≤ 1000000)
    (hK : ∀ v' w', Below w.heap.size w w' → SoC e sz w.heap.size n (flat sz g n) v' w' → wpList P ops Q rest (a.put o.dst v') w') : wpList P ops Q (o :: rest) a w := by
  refine wpList_plain hg fun K hK' => ?_
  obtain ⟨v', w', hrun, h1, h2⟩ := run_app_lit_soc (P := P) w t o.type e i z sz bytes ht hi hz hsz hby hzs h0 b A n c g hr hn hb
  unfold Oper.wp
  simp [execOp, ho, resolve, invoke, builtin, hs, hx, hrun, Result.andThen]
  exact hK' _ _ (hK v' w' h1 h2)
/-- A row of one's own with a digit at k: its address, the digit, and the row after a store. -/
theorem own_open {w : World} {B : Nat} {e : TypeId} {v : Value} {l : List Nat} {k : Nat} (h : w.ownsRow B e 1 v l.length (flat 1 (rN l) l.length)) (hk : k < l.length) :
    ∃ g cap, v = .slice (some ⟨g, 0, none⟩) l.length cap ∧ B ≤ g ∧ w.cell? ⟨g, k, none⟩ = some (I ((at0 l k : Nat) : Int)) ∧ w.frozen? ⟨g, k, none⟩ = false ∧ ∀ d : Nat, (w.setCell ⟨g, k, none⟩ (I (d : Int))).ownsRow B e 1 v (l.set k d).length (flat 1 (rN (l.set k d)) (l.set k d).length) := by
  have h' := h
  rcases h.2 with ⟨rfl, e1⟩ | ⟨g, cap, cur, rfl, hb, _⟩
  · have := flat_len 1 (rN l) l.length
    rw [e1] at this
    simp at this; omega
  · refine ⟨g, cap, rfl, hb, ?_, ?_, fun d => ?_⟩
    · rw [h'.cellAt k (by omega), digs_eq, List.getElem?_map, List.getElem?_eq_getElem hk, at0_get hk]; rfl
    · exact h'.frozenAt k
    · have := (h'.stored k (I (d : Int))).1
      rw [digs_set] at this
      rw [List.length_set]
      exact this
end Go.Proofs.YtfifdfagikbahaaDoor
