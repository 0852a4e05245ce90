/- Lists of integers of one's own, as rows that can grow; the plain law of UnitsAddUp. -/
import Derived.Test.YtmadlmmfbpmebaaJe
namespace Go.Proofs.Ytmadlmmfbpmebaa
open Go.RowKit
theorem run_app_lit2 {P : Program} (w : World) (t ty e : TypeId) (i : TypeInfo) (z : Value) (sz bytes : Nat) (ht : P.underlying t = some (.slice e)) (hi : P.info? e = some i) (hz : i.zero = some z) (hsz : i.size = sz) (hby : i.bytes = bytes) (hzs : z.cells.size = sz) (h0 : 0 < sz)
    (b : Nat) (A : Option Addr) (n c : Nat) (g : Nat → Nat → Value) (hr : Rd w w.heap.size sz A n g) (hn : n ≤ 1000000) (hb : bytes ≤ 1000000) :
    ∃ u w', (Builtin.append_ #[t, t] ty #[.slice (some ⟨b, 0, none⟩) 0 0, .slice A n c]).run P w = .ok u w' ∧ Below w.heap.size w w' ∧ SoC e sz w.heap.size n (flat sz g n) u w' := by
  by_cases hn0 : n = 0
  · subst hn0
    refine ⟨.slice (some ⟨b, 0, none⟩) 0 0, w, ?_, Below.refl _ _, .inl ⟨rfl, by simp [flat], b, rfl⟩⟩
    cases A <;> simp [go_sem, Builtin.append_, run_underlying ht, sizeOf, typeInfo, hi, Builtin.lenOf, Builtin.firstCells, storeCells]
  · obtain ⟨b2, o2, hA, _, hc⟩ := hr (by omega)
    subst hA
    have hm : n * bytes ≤ 1000000 * 1000000 := Nat.mul_le_mul hn hb
    obtain ⟨v', w', hrun, hown, hgr⟩ := run_append_arg_grows (P := P) w t ty e i z sz bytes ht hi hz hsz hby hzs h0 ⟨b, 0, none⟩ 0 0 [] (by simp) (fun j u hu => by simp at hu) ⟨b2, o2, none⟩ n c (flat sz g n) (flat_len _ _ _) (Rd.flat_at hc h0) (by omega) (by unfold maxLen; omega) (by rw [Nat.zero_add]; omega)
    rw [Nat.zero_add, List.nil_append] at hown
    exact ⟨v', w', hrun, (Below.refl _ _).grown hgr (Nat.le_refl _) (fun g hg => by cases hg), .inr hown⟩
theorem wpList_app_lit2 {P : Program} {ops : Array Oper} {rest : List Oper} {o : Oper} {a : Act} {w : World} {Q : Exit → Act → World → Prop} (hg : o.guard = none) (s x : Operand) (t : TypeId) (ho : o.op = .call { callee := .builtin .append, args := #[s, x], argTypes := #[t, t] })
    (e : TypeId) (i : TypeInfo) (z : Value) (sz bytes : Nat) (ht : P.underlying t = some (.slice e)) (hi : P.info? e = some i) (hz : i.zero = some z) (hsz : i.size = sz) (hby : i.bytes = bytes) (hzs : z.cells.size = sz) (h0 : 0 < sz)
    (b : Nat) (hs : a.eval s = .slice (some ⟨b, 0, none⟩) 0 0) (A : Option Addr) (n c : Nat) (hx : a.eval x = .slice A n c) (g : Nat → Nat → Value) (hr : Rd w w.heap.size sz A n g) (hn : n ≤ 1000000) (hb : bytes ≤ 1000000)
    (hK : ∀ u w', SoC e sz w.heap.size n (flat sz g n) u w' → Below w.heap.size w w' → wpList P ops Q rest (a.put o.dst u) w') : wpList P ops Q (o :: rest) a w := by
  refine wpList_plain hg fun K hK' => ?_
  obtain ⟨u, w', hrun, h1, h2⟩ := run_app_lit2 (P := P) w t o.type e i z sz bytes ht hi hz hsz hby hzs h0 b A n c g hr hn hb
  unfold Oper.wp
  simp [execOp, ho, resolve, invoke, builtin, hs, hx, hrun, Result.andThen]
  exact hK' _ _ (hK u w' h2 h1)
theorem SoC.base {e : TypeId} {sz B B' n : Nat} {l : List Value} {v : Value} {w : World} (h : SoC e sz B n l v w) (hb : B' ≤ B) : SoC e sz B' n l v w := h.imp id fun ho => own_base ho hb
/-- A list with its own cells comes back, as a row that can grow. -/
def RetSo (w : World) (e : TypeId) (sz n : Nat) (g : Nat → Nat → Value) (en : Ending) (w' : World) : Prop := ∃ u, en = .returned u ∧ SoC e sz w.heap.size n (flat sz g n) u w' ∧ Below w.heap.size w w'
set_option maxRecDepth 100000 in
theorem ownIntsS_any (A : Option Addr) (n c : Nat) (g : Nat → Nat → Value) (w : World) (B : Nat) (hn : n ≤ 1000) (hB : B ≤ w.heap.size) (hx : Rd w B 1 A n g) : Calls Try.prog 23 #[.slice A n c] w (RetSo w 3 1 n g) := by
  obtain ⟨i0, hi0, iz0, iz1, iz2⟩ := info_parts intK_info
  have HX := Lib.hid hx
  have HB := Lib.hid hB
  have HN := Lib.hid hn
  clear hx hB hn
  go_enter Try.func23, Try.ntmps23
  go_wp2_with (at_builtin; go_loud (refine wpList_app_lit2 rfl _ _ 30 rfl 3 i0 _ 1 8 Try.underlying30 hi0 iz0 iz1 iz2 rfl (by decide) _ rfl A n c rfl g ?hr ?hn (by decide) ?_))
  case hr => exact (HX.out.alloc HB.out _).more (by have := HB.out; simp; omega)
  case hn => have := HN.out; omega
  intro u w' h3 h4
  have H4 : Hid (Below w.heap.size w w') := ((Below.refl _ _).alloc (Nat.le_refl _) _).trans (h4.mono (by omega))
  have H3 : Hid (SoC 3 1 w.heap.size n (flat 1 g n) u w') := h3.base (by simp)
  clear h3 h4
  go_wp2_with fail
  go_ret
  exact ⟨u, rfl, H3.out, H4.out⟩
/-- What Portions has told. -/
theorem po_ok {n : Int} {ws l : List Int} (h : poF n ws = (l, 0)) : (0 ≤ n ∧ n ≤ 1000000000000000) ∧ ws.any noP = false ∧ ws.length ≤ 100 ∧ (1 ≤ sumK ws ws.length ∧ sumK ws ws.length ≤ 1000000000000000) ∧ l = parL n (sumK ws ws.length) ws ws.length := by
  unfold poF at h
  split at h
  · injection h with _ h2; cases h2
  · rename_i h1
    split at h
    · rename_i h2
      obtain ⟨h3, h4⟩ := Bool.and_eq_true_iff.1 h2
      have h5 : ws.any noP = false := by simpa using h4
      have h6 := sumK_bd h5 ws.length (Nat.le_refl _)
      split at h
      · injection h with _ h7; cases h7
      · split at h
        · injection h with _ h7; cases h7
        · rename_i h7 h8
          injection h with h9 _
          rw [poL_out (wiP_iff.1 h3) h5 (by omega)] at h9
          exact ⟨wiP_iff.1 h3, h5, by omega, by omega, h9.symm⟩
    · injection h with _ h2; cases h2
theorem po_of {n : Int} {ws : List Int} (hn : 0 ≤ n ∧ n ≤ 1000000000000000) (hw : ws.any noP = false) (hl : ws.length ≤ 100) (ha : 1 ≤ sumK ws ws.length ∧ sumK ws ws.length ≤ 1000000000000000) : poF n ws = (parL n (sumK ws ws.length) ws ws.length, 0) := by
  unfold poF
  rw [if_neg (by omega), if_pos (by rw [wiP_iff.2 hn, hw]; rfl), if_neg (by omega), if_neg (by omega), poL_out hn hw ha.1]
theorem parL_at {n all : Int} {ws : List Int} {m k : Nat} (h : k < m) : at0 (parL n all ws m) k = parF n all ws k := by
  rw [at0_get (by rw [parL_len]; exact h)]; simp [parL]
theorem up_mono {n all : Int} {ws : List Int} (hn : 0 ≤ n) (ha : 1 ≤ all) (hw : ws.any noP = false) {j k : Nat} (hjk : j ≤ k) (hk : k ≤ ws.length) : upF2 n all ws j ≤ upF2 n all ws k := by
  unfold upF2
  exact Int.ediv_le_ediv (by omega) (Int.mul_le_mul_of_nonneg_left (sumK_mono hw k hk j hjk) hn)
/-- Two neighbouring weights put together. -/
def joW (ws : List Int) (k : Nat) : List Int := ws.take k ++ [at0 ws k + at0 ws (k + 1)] ++ ws.drop (k + 2)
theorem joW_len {ws : List Int} {k : Nat} (h : k + 1 < ws.length) : (joW ws k).length = ws.length - 1 := by
  unfold joW
  simp only [List.length_append, List.length_take, List.length_cons, List.length_nil, List.length_drop]
  omega
theorem at0_app2 {α : Type} [Inhabited α] (l r : List α) (j : Nat) : at0 (l ++ r) (l.length + j) = at0 r j := by
  unfold at0
  rw [List.getD_eq_getElem?_getD, List.getD_eq_getElem?_getD, List.getElem?_append_right (by omega)]
  congr 2; omega
theorem joW_lo {ws : List Int} {k j : Nat} (h : k + 1 < ws.length) (hj : j < k) : at0 (joW ws k) j = at0 ws j := by
  unfold joW
  have h1 : j < (ws.take k).length := by simp; omega
  rw [List.append_assoc, at0_app _ _ h1, at0_get h1, at0_get (by omega)]
  simp
theorem joW_at {ws : List Int} {k : Nat} (h : k + 1 < ws.length) : at0 (joW ws k) k = at0 ws k + at0 ws (k + 1) := by
  unfold joW
  have e : (ws.take k).length = k := by simp; omega
  have := at0_app2 (ws.take k) ([at0 ws k + at0 ws (k + 1)] ++ ws.drop (k + 2)) 0
  rw [e] at this
  rw [List.append_assoc]
  exact this
theorem joW_hi {ws : List Int} {k j : Nat} (h : k + 1 < ws.length) (hj : k < j) (hl : j + 1 < ws.length) : at0 (joW ws k) j = at0 ws (j + 1) := by
  unfold joW
  have e : (ws.take k ++ [at0 ws k + at0 ws (k + 1)]).length = k + 1 := by simp; omega
  have := at0_app2 (ws.take k ++ [at0 ws k + at0 ws (k + 1)]) (ws.drop (k + 2)) (j - (k + 1))
  rw [e, show k + 1 + (j - (k + 1)) = j by omega] at this
  rw [this, at0_get (by simp; omega), at0_get hl]
  rw [List.getElem_drop]
  congr 1; omega
theorem joW_sum {ws : List Int} {k : Nat} (h : k + 1 < ws.length) : ∀ j, j + 1 ≤ ws.length → sumK (joW ws k) j = if j ≤ k then sumK ws j else sumK ws (j + 1)
  | 0, _ => by rw [if_pos (by omega)]; rfl
  | j + 1, hj => by
    have ih := joW_sum h j (by omega)
    simp only [sumK]
    rw [ih]
    rcases Nat.lt_trichotomy j k with h1 | h1 | h1
    · rw [if_pos (by omega), if_pos (by omega), joW_lo h h1]
    · subst h1
      rw [if_pos (by omega), if_neg (by omega), joW_at h]
      omega
    · rw [if_neg (by omega), if_neg (by omega), joW_hi h h1 (by omega)]
      simp only [sumK]
theorem joW_ok {ws : List Int} {k : Nat} (h : k + 1 < ws.length) (hw : ws.any noP = false) (hs : sumK ws ws.length ≤ 1000000000000000) : (joW ws k).any noP = false := by
  refine any_no fun j hj => ?_
  rw [joW_len h] at hj
  rw [wiP_iff]
  rcases Nat.lt_trichotomy j k with h1 | h1 | h1
  · rw [joW_lo h h1]; exact noP_at hw (by omega)
  · subst h1
    rw [joW_at h]
    have a1 := noP_at hw (j := j) (by omega)
    have a2 := noP_at hw (j := j + 1) h
    have m1 := sumK_mono hw ws.length (Nat.le_refl _) (j + 2) (by omega)
    have m2 := (sumK_bd hw j (by omega)).1
    simp only [sumK] at m1
    omega
  · rw [joW_hi h h1 (by omega)]; exact noP_at hw (by omega)
theorem joW_po {n : Int} {ws l : List Int} {k : Nat} (h : k + 1 < ws.length) (hp : poF n ws = (l, 0)) : poF n (joW ws k) = (parL n (sumK ws ws.length) (joW ws k) (ws.length - 1), 0) := by
  obtain ⟨h1, h2, h3, h4, _⟩ := po_ok hp
  have e : sumK (joW ws k) (joW ws k).length = sumK ws ws.length := by
    rw [joW_len h, joW_sum h _ (by omega), if_neg (by omega), show ws.length - 1 + 1 = ws.length by omega]
  have := po_of h1 (joW_ok h h2 h4.2) (by rw [joW_len h]; omega) (by rw [e]; exact h4)
  rw [e, joW_len h] at this
  exact this
theorem joW_par {n all : Int} {ws : List Int} {k j : Nat} (h : k + 1 < ws.length) (hj : j + 1 < ws.length) : parF n all (joW ws k) j = if j = k then parF n all ws k + parF n all ws (k + 1) else if k < j then parF n all ws (j + 1) else parF n all ws j := by
  unfold parF upF2
  rw [joW_sum h (j + 1) (by omega), joW_sum h j (by omega)]
  rcases Nat.lt_trichotomy j k with h1 | h1 | h1
  · rw [if_pos (by omega), if_pos (by omega), if_neg (by omega), if_neg (by omega)]
  · subst h1
    rw [if_neg (by omega), if_pos (by omega), if_pos rfl]; omega
  · rw [if_neg (by omega), if_neg (by omega), if_neg (by omega), if_pos h1]
end Go.Proofs.Ytmadlmmfbpmebaa
