/- DefectWindowHolds: zones, hasRate, fits, bare. -/
import Derived.Test.YteibgenkklpoaaaGreatDn2
import Derived.Test.YteibgenkklpoaaaGreatDt2
import Derived.Test.YteibgenkklpoaaaGreatRo
import Derived.Test.YteibgenkklpoaaaGreatDl
namespace Go.Proofs.YteibgenkklpoaaaGreat.Un
open Go.RowKit
theorem run_app_big {P : Program} (w : World) (t ty e : TypeId) (i : TypeInfo) (z : Value) (sz bytes : Nat) (ht : P.underlying t = some (.slice e)) (hi : P.info? e = some i) (hz : i.zero = some z) (hsz : i.size = sz) (hby : i.bytes = bytes) (hzs : z.cells.size = sz) (h0 : 0 < sz)
    (b : Nat) (A : Option Addr) (n c : Nat) (g : Nat → Nat → Value) (hr : Rd w w.heap.size sz A n g) (hn : n ≤ maxLen) (hb : n * bytes ≤ 140737488355328) :
    ∃ A' c' w', (Builtin.append_ #[t, t] ty #[.slice (some ⟨b, 0, none⟩) 0 0, .slice A n c]).run P w = .ok (.slice A' n c') w' ∧ Below w.heap.size w w' ∧ n ≤ c' ∧ c' ≤ maxLen ∧ Rd w' w'.heap.size sz A' n g := by
  by_cases hn0 : n = 0
  · subst hn0
    refine ⟨some ⟨b, 0, none⟩, 0, w, ?_, Below.refl _ _, Nat.le_refl _, by unfold maxLen; omega, Rd.nil⟩
    cases A <;> simp [go_sem, Builtin.append_, run_underlying ht, sizeOf, typeInfo, hi, Builtin.lenOf, Builtin.firstCells, storeCells]
  · obtain ⟨b2, o2, hA, _, hc⟩ := hr (by omega)
    subst hA
    obtain ⟨v', w', hrun, hown, hgr⟩ := run_append_arg_grows (P := P) w t ty e i z sz bytes ht hi hz hsz hby hzs h0 ⟨b, 0, none⟩ 0 0 [] (by simp) (fun j u hu => by simp at hu) ⟨b2, o2, none⟩ n c (flat sz g n) (flat_len _ _ _) (Rd.flat_at hc h0) (by omega) (by omega) (by rw [Nat.zero_add]; exact hb)
    rw [Nat.zero_add, List.nil_append] at hown
    obtain ⟨A', c', hv, hnc, hcm, hrd⟩ := Rd.of_own_max hown
    subst hv
    exact ⟨A', c', w', hrun, (Below.refl _ _).grown hgr (Nat.le_refl _) (fun g hg => by cases hg), hnc, hcm, hrd⟩
theorem wpList_app_big {P : Program} {ops : Array Oper} {rest : List Oper} {o : Oper} {a : Act} {w : World} {Q : Exit → Act → World → Prop} (hg : o.guard = none) (s x : Operand) (t : TypeId) (ho : o.op = .call { callee := .builtin .append, args := #[s, x], argTypes := #[t, t] })
    (e : TypeId) (i : TypeInfo) (z : Value) (sz bytes : Nat) (ht : P.underlying t = some (.slice e)) (hi : P.info? e = some i) (hz : i.zero = some z) (hsz : i.size = sz) (hby : i.bytes = bytes) (hzs : z.cells.size = sz) (h0 : 0 < sz)
    (b : Nat) (hs : a.eval s = .slice (some ⟨b, 0, none⟩) 0 0) (A : Option Addr) (n c : Nat) (hx : a.eval x = .slice A n c) (g : Nat → Nat → Value) (hr : Rd w w.heap.size sz A n g) (hn : n ≤ maxLen) (hb : n * bytes ≤ 140737488355328)
    (hK : ∀ A' c' w', n ≤ c' → c' ≤ maxLen → Rd w' w'.heap.size sz A' n g → Below w.heap.size w w' → wpList P ops Q rest (a.put o.dst (.slice A' n c')) w') : wpList P ops Q (o :: rest) a w := by
  refine wpList_plain hg fun K hK' => ?_
  obtain ⟨A', c', w', hrun, h1, h2, h3, h4⟩ := run_app_big (P := P) w t o.type e i z sz bytes ht hi hz hsz hby hzs h0 b A n c g hr hn hb
  unfold Oper.wp
  simp [execOp, ho, resolve, invoke, builtin, hs, hx, hrun, Result.andThen]
  exact hK' _ _ (hK A' c' w' h2 h3 h4 h1)
/-- A list that fits in the memory. -/
structure Fits (n : Nat) : Prop where
  a : n ≤ maxLen
  b : n * 16 ≤ 140737488355328
set_option maxRecDepth 100000 in
theorem zones_any (A : Option Addr) (n c : Nat) (g : Nat → Nat → Value) (w : World) (B : Nat) (hn : Fits n) (hB : B ≤ w.heap.size) (hx : Rd w B 2 A n g) : Calls Tryz.prog 8 #[.slice A n c] w (RetLc w 2 n g) := by
  obtain ⟨i0, hi0, iz0, iz1, iz2⟩ := info_parts rng_info5
  have HX := Lib.hid hx
  have HB := Lib.hid hB
  have HN := Lib.hid hn
  clear hx hB hn
  go_enter Tryz.func8, Tryz.ntmps8
  go_wp2_with (at_builtin; go_loud (refine wpList_app_big rfl _ _ 27 rfl 23 i0 _ 2 16 Tryz.underlying27 hi0 iz0 iz1 iz2 rfl (by decide) _ rfl A n c rfl g ?hr ?hn ?hb ?_))
  case hr => exact (HX.out.alloc HB.out _).more (by have := HB.out; simp; omega)
  case hn => exact HN.out.a
  case hb => exact HN.out.b
  intro A' c' w' h1 h2 h3 h4
  have H4 : Hid (Below w.heap.size w w') := ((Below.refl _ _).alloc (Nat.le_refl _) _).trans (h4.mono (by omega))
  clear h4
  go_wp2_with fail
  go_ret
  exact ⟨A', c', rfl, h1, h2, h3, H4.out⟩
def hasB (l : List Rng) (v : Int) : Bool := l.any fun r => decide (r.lo ≤ v) && decide (v ≤ r.hi)
theorem hasB_iff {l : List Rng} {v : Int} : hasB l v = true ↔ inL l v := by
  unfold hasB inL inR
  simp only [List.any_eq_true, Bool.and_eq_true, decide_eq_true_eq]
/-- A slice that reads as g. -/
def SlK (sz n : Nat) (g : Nat → Nat → Value) (u : Value) (w : World) : Prop := ∃ A c, u = .slice A n c ∧ n ≤ c ∧ c ≤ maxLen ∧ Rd w w.heap.size sz A n g
theorem own_growK {P : Program} {f : FuncId} {args : Array Value} {w : World} {sz n : Nat} {g : Nat → Nat → Value} (h : Calls P f args w (RetLc w sz n g)) : Calls P f args w fun e w' => ∃ u, e = .returned u ∧ Le w w' ∧ Box (SlK sz n g) u w' :=
  h.mono fun _ _ ⟨A, c, he, h1, h2, hr, hb⟩ => ⟨_, he, hb, fun _ hl => ⟨A, c, rfl, h1, h2, (hr.below hl).more hl.size⟩⟩
def whyQ : Option (Nat × Nat) → Int × Int
  | some (i, k) => (i, k)
  | none => (-1, 0)
theorem whyT_Q (q : Option (Nat × Nat)) : whyT q = .tuple #[I (whyQ q).1, I (whyQ q).2, I 0] := by
  rcases q with _ | ⟨i, k⟩ <;> rfl
def barB (q : Option (Nat × Nat)) : Bool := (whyQ q).1 == -1
theorem barB_iff {q : Option (Nat × Nat)} : barB q = true ↔ q = none := by
  rcases q with _ | ⟨i, k⟩
  · exact ⟨fun _ => rfl, fun _ => rfl⟩
  · refine ⟨fun h => ?_, fun h => (by cases h)⟩
    unfold barB whyQ at h
    rw [beq_iff_eq] at h
    simp only at h
    omega
theorem whyF_in {m : Mdl} {zs : List Rng} {u v : Int} (hck : ckF m zs u = 0) (hv : 0 ≤ v ∧ v ≤ 1000000) : whyF m zs u v = .tuple #[I (whyQ (whyL m u v zs)).1, I (whyQ (whyL m u v zs)).2, I 0] := by
  unfold whyF
  rw [if_neg (by omega), if_neg (by omega), whyT_Q]
def WdT (m : Mdl) (zs : List Rng) (u : Int) (V : Value) (w : World) : Prop := ∃ A c l, V = .tuple #[.slice A l.length c, I (ckF m zs u)] ∧ WinR m zs u l ∧ Rd w w.heap.size 2 A l.length (rR l)
theorem win_T {w w' : World} {m : Mdl} {zs : List Rng} {u : Int} {e : Ending} (h : RetW w m zs u e w') : ∃ V, e = .returned V ∧ Below w.heap.size w w' ∧ WdT m zs u V w' := by
  obtain ⟨V, l, he, hw, ho, hb⟩ := h
  obtain ⟨A, c, rfl, _, hrd⟩ := Rd.of_rc rfl ho
  exact ⟨_, he, hb, A, c, l, rfl, hw, hrd⟩
theorem WdT.below {m : Mdl} {zs : List Rng} {u : Int} {V : Value} {w w' : World} (h : WdT m zs u V w) (hb : Below w.heap.size w w') : WdT m zs u V w' := by
  obtain ⟨A, c, l, e, hw, hr⟩ := h
  exact ⟨A, c, l, e, hw, (hr.below hb).more hb.size⟩
theorem win_grow {P : Program} {f : FuncId} {args : Array Value} {w : World} {m : Mdl} {zs : List Rng} {u : Int} (h : Calls P f args w (RetW w m zs u)) : Calls P f args w fun e w' => ∃ V, e = .returned V ∧ Le w w' ∧ Box (WdT m zs u) V w' :=
  h.mono fun _ _ h => by
    obtain ⟨V, he, hb, hw⟩ := win_T h
    exact ⟨V, he, hb, fun _ hl => hw.below hl⟩
theorem WdT.same {m : Mdl} {zs : List Rng} {u : Int} {A : Option Addr} {n c : Nat} {e : Int} {w : World} (h : WdT m zs u (.tuple #[.slice A n c, I e]) w) : ∃ l, n = l.length ∧ WinR m zs u l ∧ Rd w w.heap.size 2 A l.length (rR l) := by
  obtain ⟨A', c', l, he, hw, hr⟩ := h
  injection he with he
  simp at he
  obtain ⟨⟨rfl, h2, _⟩, _⟩ := he
  exact ⟨l, h2, hw, hr⟩
theorem ck_cases (m : Mdl) (zs : List Rng) (u : Int) : ckF m zs u = 0 ∨ ckF m zs u = 2 ∨ ckF m zs u = 5 := by
  unfold ckF
  split
  · split
    · exact .inr (.inr rfl)
    · split
      · exact .inr (.inl rfl)
      · exact .inl rfl
  · exact .inr (.inl rfl)
end Go.Proofs.YteibgenkklpoaaaGreat.Un
