/- A region that draws its order and ends in a store and one operation more, where some operations that only reckon may come behind the store: one walk in the order of the text serves every order. -/
import Derived.Test.YtlebefopdnadaaaMk
import Derived.OrdersHeld
namespace Go.Proofs.Ytlebefopdnadaaa
open Go.RowKit
theorem noGo_value {o : Oper} (h : noGo o.op = true) {P : Program} {ρ : Operand → Value} {w w' : World} : (execOp ρ o).run P w ≠ .ok .skip w' := by
  have vs : ∀ {s : Sem Value} {w w' : World}, (do pure (Next.value (← s)) : Sem Next).run P w ≠ .ok .skip w' := by
    intro s w w'
    rw [Sem.run_bind]
    cases s.run P w <;> simp [Result.andThen]
  have ps : ∀ {w w' : World}, (runtimePanic .nilDeref : Sem Next).run P w ≠ .ok .skip w' := by
    intro w w'; simp [runtimePanic, goPanic]
  unfold execOp
  cases hop : o.op <;> rw [hop] at h <;> simp only [noGo] at h <;> try exact absurd h (by decide)
  all_goals try exact vs
  all_goals try (simp; done)
  case pick c a b =>
    change (do pure (Next.value (if ← asBool (ρ c) then ρ a else ρ b)) : Sem Next).run P w ≠ _
    rw [Sem.run_bind]
    cases (asBool (ρ c)).run P w <;> simp [Result.andThen]
  case nilCheck x =>
    dsimp only
    split
    all_goals try exact ps
    all_goals try (simp; done)
    split
    all_goals try exact ps
    all_goals try (simp; done)
    rw [Sem.run_bind]
    cases Sem.run P program w with
    | halt _ _ => simp [Result.andThen]
    | ok p w1 =>
      simp only [Result.andThen]
      rw [Sem.run_bind]
      generalize Sem.run P (nilAhead _ _ _ _) w1 = r
      cases r with
      | halt _ _ => simp [Result.andThen]
      | ok b w2 =>
        simp only [Result.andThen]
        split
        · simp [unsupported, Result.andThen]
        · simp
  case call c =>
    change (do let d ← resolve ρ c o.type; invoke d.target d.args : Sem Next).run P w ≠ _
    rw [Sem.run_bind]
    unfold resolve
    cases hc : c.callee with
    | builtin b =>
      rw [hc] at h
      simp only [Sem.run_pure, Result.andThen_ok, invoke]
      cases b <;> first | exact vs | (simp at h)
    | invoke r n => rw [hc] at h; simp at h
    | value f => rw [hc] at h; simp at h
/-- The last two operations are put to sleep. -/
def sleepTwo : List Oper → List Oper
  | [] => []
  | [o] => [o]
  | [o, o'] => [{ o with op := .move (.const (.bool true)), dst := none }, { o' with op := .move (.const (.bool true)), dst := none }]
  | o :: o' :: o'' :: r => o :: sleepTwo (o' :: o'' :: r)
theorem sleepTwo_two (o o' : Oper) : sleepTwo [o, o'] = [{ o with op := .move (.const (.bool true)), dst := none }, { o' with op := .move (.const (.bool true)), dst := none }] := rfl
theorem sleepTwo_cons (o o' o'' : Oper) (r : List Oper) : sleepTwo (o :: o' :: o'' :: r) = o :: sleepTwo (o' :: o'' :: r) := rfl
theorem sleepTwo_len : ∀ l : List Oper, (sleepTwo l).length = l.length
  | [] => rfl
  | [_] => rfl
  | [_, _] => rfl
  | o :: o' :: o'' :: r => by rw [sleepTwo_cons, List.length_cons, sleepTwo_len (o' :: o'' :: r)]; rfl
theorem sleepTwo_lt : ∀ (l : List Oper) (i : Nat), i + 2 < l.length → (sleepTwo l)[i]? = l[i]?
  | [], _, h => by simp at h
  | [_], _, h => by simp at h
  | [_, _], i, h => absurd h (by show ¬ i + 2 < 2; omega)
  | o :: o' :: o'' :: r, 0, _ => rfl
  | o :: o' :: o'' :: r, i + 1, h => by
    rw [sleepTwo_cons, List.getElem?_cons_succ, List.getElem?_cons_succ]
    exact sleepTwo_lt (o' :: o'' :: r) i (by simp at h ⊢; omega)
theorem sleepTwo_after : ∀ (l : List Oper) (i : Nat), ((sleepTwo l)[i]?).map (fun o => (o.after, o.guard)) = (l[i]?).map fun o => (o.after, o.guard)
  | [], _ => rfl
  | [_], _ => rfl
  | [_, _], 0 => rfl
  | [_, _], 1 => rfl
  | [_, _], _ + 2 => rfl
  | o :: o' :: o'' :: r, 0 => rfl
  | o :: o' :: o'' :: r, i + 1 => by
    rw [sleepTwo_cons, List.getElem?_cons_succ, List.getElem?_cons_succ]
    exact sleepTwo_after (o' :: o'' :: r) i
theorem sleepTwo_dst : ∀ (l : List Oper) (i : Nat), l.length ≤ i + 2 → 2 ≤ l.length → ∀ o, (sleepTwo l)[i]? = some o → o.dst = none
  | [], _, _, h => by simp at h
  | [_], _, _, h => by simp at h
  | [_, _], 0, _, _ => fun o h => by cases h; rfl
  | [_, _], 1, _, _ => fun o h => by cases h; rfl
  | [_, _], _ + 2, _, _ => fun o h => by simp [sleepTwo] at h
  | o :: o' :: o'' :: r, 0, h, _ => by simp at h
  | o :: o' :: o'' :: r, i + 1, h, _ => by
    intro q hq
    rw [sleepTwo_cons, List.getElem?_cons_succ] at hq
    exact sleepTwo_dst (o' :: o'' :: r) i (by simp at h ⊢; omega) (by simp) q hq
theorem sleepTwo_ready (md : Region.Mode) (l : List Oper) (listed : Array Bool) : Region.ready md (sleepTwo l).toArray listed = Region.ready md l.toArray listed := by
  unfold Region.ready
  rw [List.size_toArray, List.size_toArray, sleepTwo_len]
  apply List.filter_congr
  intro i _
  have := congrArg (fun x => x.map fun q : Array Edge × Option (Nat × Bool) => q.1) (sleepTwo_after l i)
  simp only [Option.map_map, List.getElem?_toArray] at this ⊢
  congr 1
  have h2 : ((sleepTwo l)[i]?.map fun o => o.after) = (l[i]?.map fun o => o.after) := by simpa [Function.comp_def] using this
  have h3 : ∀ x : Option Oper, (x.map fun o => o.after.all fun e => !Region.binds md e || listed.getD e.on false) = (x.map fun o => o.after).map fun a => a.all fun e => !Region.binds md e || listed.getD e.on false := fun x => by cases x <;> rfl
  rw [h3, h3, h2]
theorem sleepTwo_wanted (l : List Oper) (o : Oper) (hg : ∀ g b, o.guard = some (g, b) → g + 2 < l.length) (t : Array Value) : Region.wanted o (yielded (sleepTwo l).toArray t) = Region.wanted o (yielded l.toArray t) := by
  unfold Region.wanted
  cases h : o.guard with
  | none => rfl
  | some q =>
    obtain ⟨g, b⟩ := q
    have := sleepTwo_lt l g (hg g b h)
    simp only
    have hy : yielded (sleepTwo l).toArray t g = yielded l.toArray t g := by
      unfold yielded
      rw [List.getElem?_toArray, List.getElem?_toArray, this]
    rw [hy]
def waitsOn (md : Region.Mode) (o : Oper) (i : Nat) : Bool := o.after.any fun e => Region.binds md e && e.on == i
theorem waitsOn_spec {md : Region.Mode} {o : Oper} {i : Nat} (h : waitsOn md o i = true) : ∃ e ∈ o.after, Region.binds md e = true ∧ e.on = i := by
  obtain ⟨e, he, hb⟩ := Array.any_eq_true'.1 h
  simp only [Bool.and_eq_true, beq_iff_eq] at hb
  exact ⟨e, he, hb.1, hb.2⟩
theorem waitsOn_of {md : Region.Mode} {o : Oper} {i : Nat} {e : Edge} (he : e ∈ o.after) (hb : Region.binds md e = true) (hi : e.on = i) : waitsOn md o i = true :=
  Array.any_eq_true'.2 ⟨e, he, by simp [hb, hi]⟩
/-- What is asked of such a region; L: those that may come behind the store. -/
structure TwoOk (md : Region.Mode) (l : List Oper) (L : List Nat) (n : Nat) (s t : Oper) : Prop where
  len : l.length = n + 2
  hs : l[n]? = some s
  ht : l[n + 1]? = some t
  sg : s.guard = none
  sd : s.dst = none
  tg : t.guard = none
  sw : ∀ i, i < n → i ∈ L ∨ waitsOn md s i = true
  tw : ∀ i, i < n + 1 → waitsOn md t i = true
  fw : ∀ k q, l[k]? = some q → ∀ e ∈ q.after, Region.binds md e = true → e.on < k
  gd : ∀ (k : Nat) q, l[k]? = some q → ∀ g b, q.guard = some (g, b) → g < n
  lt : ∀ i ∈ L, i < n
  fr : ∀ i ∈ L, ∀ oi, l[i]? = some oi → ∀ (j : Nat) oj, l[j]? = some oj → j ≠ i → waitsOn md oj i = true ∨ oi.apart l.toArray oj = true ∨ waitsOn md oi j = true
def twoB (md : Region.Mode) (l : List Oper) (L : List Nat) : Bool :=
  match l[l.length - 2]?, l[l.length - 1]? with
  | some s, some t => decide (2 ≤ l.length) && s.guard.isNone && s.dst.isNone && t.guard.isNone && ((List.range (l.length - 2)).all fun i => L.contains i || waitsOn md s i) && ((List.range (l.length - 1)).all fun i => waitsOn md t i) &&
    ((List.range l.length).all fun k => match l[k]? with | some q => (q.after.all fun e => !Region.binds md e || decide (e.on < k)) && (match q.guard with | some (g, _) => decide (g < l.length - 2) | none => true) | none => true) &&
    (L.all fun i => decide (i < l.length - 2) && (List.range l.length).all fun j => j == i || (match l[i]?, l[j]? with | some oi, some oj => waitsOn md oj i || (oi.apart l.toArray oj || waitsOn md oi j) | _, _ => true))
  | _, _ => false
theorem twoB_spec {md : Region.Mode} {l : List Oper} {L : List Nat} (h : twoB md l L = true) : ∃ n s t, TwoOk md l L n s t := by
  unfold twoB at h
  cases hs : l[l.length - 2]? with
  | none => rw [hs] at h; simp at h
  | some s =>
    cases ht : l[l.length - 1]? with
    | none => rw [hs, ht] at h; simp at h
    | some t =>
      rw [hs, ht] at h
      simp only [Bool.and_eq_true, decide_eq_true_eq, List.all_eq_true, List.mem_range, Option.isNone_iff_eq_none] at h
      obtain ⟨⟨⟨⟨⟨⟨⟨h1, h2⟩, h3⟩, h4⟩, h5⟩, h6⟩, h7⟩, h8⟩ := h
      refine ⟨l.length - 2, s, t, ⟨by omega, hs, by rw [← ht]; congr 1; omega, h2, h3, h4, fun i hi => ?_, fun i hi => h6 i (by omega), fun k q hq e he hb => ?_, fun k q hq g b hg => ?_, fun i hi => (h8 i hi).1, fun i hi oi hoi j oj hoj hji => ?_⟩⟩
      · have := h5 i hi
        simpa using this
      · have hk := (List.getElem?_eq_some_iff.1 hq).1
        have := h7 k hk
        rw [hq] at this
        simp only [Bool.and_eq_true] at this
        have h9 := Array.all_eq_true'.1 this.1 e he
        simp [hb] at h9
        exact h9
      · have hk := (List.getElem?_eq_some_iff.1 hq).1
        have := h7 k hk
        rw [hq] at this
        simp only [Bool.and_eq_true, hg, decide_eq_true_eq] at this
        exact this.2
      · have hj := (List.getElem?_eq_some_iff.1 hoj).1
        have := (h8 i hi).2 j hj
        simp only [hoi, hoj, Bool.or_eq_true, beq_iff_eq, hji, false_or] at this
        exact this
section
variable {P : Program} {md : Region.Mode} {W0 : World} {F : Nat → Option (Value → World → Prop)} {l : List Oper} {L : List Nat} {n : Nat} {s t : Oper} {Q' : Exit → Act → World → Prop}
theorem not_ready_of {ops : Array Oper} {j i : Nat} {o : Oper} {listed : Array Bool} (ho : ops[j]? = some o) (hw : waitsOn md o i = true) (hi : listed.getD i false = false) : j ∉ Region.ready md ops listed := by
  intro hj
  obtain ⟨_, o', ho', hall⟩ := mem_ready.1 hj
  have : o' = o := Option.some.inj (ho'.symm.trans ho)
  subst this
  obtain ⟨e, he, hb, hon⟩ := waitsOn_spec hw
  have := hall e he hb
  rw [hon, hi] at this
  cases this
theorem getD_ff {listed : Array Bool} {i : Nat} (h : listed.getD i true = false) : listed.getD i false = false := getD_both h
theorem wpOp_of_gOp2 {ops ops' : Array Oper} {i : Nat} {listed : Array Bool} {a : Act} {w : World} {K K' : Act → World → Prop} (hop : ops'[i]? = ops[i]?) (hy : ∀ o, ops[i]? = some o → Region.wanted o (yielded ops' a.tmps) = Region.wanted o (yielded ops a.tmps))
    (hu : uniqB ops = true) (hw : Cl W0 w) (ht : Told ops F listed a w) (hr : i ∈ Region.ready md ops listed)
    (h : ∀ a' w', Cl W0 w' → Told ops F (listed.setIfInBounds i true) a' w' → K a' w' → K' a' w') (hh : gOp P md ops W0 F i K a w) : wpOp P ops' Q' i K' a w := by
  unfold gOp at hh
  unfold wpOp
  obtain ⟨_, o, ho, _⟩ := mem_ready.1 hr
  have hy' := hy o ho
  rw [ho] at hh
  rw [hop, ho]
  simp only [hy']
  obtain ⟨kd, hk, hK⟩ := hh
  have hn : ∀ u w', Le w w' → kd.out u w' → K' (a.put o.dst u) w' := fun u w' hl hout => h _ _ (hw.next hl) (ht.put hu ho hk hl hout) (hK u w' hl hout)
  cases kd with
  | skip =>
    have hk' : Region.wanted o (yielded ops a.tmps) = false := hk
    simp only [hk', Bool.false_eq_true, if_false]
    exact hn undef w (Le.refl w) rfl
  | one v =>
    obtain ⟨hwant, _, hng, hq⟩ := hk
    simp only [hwant, if_true]
    left
    unfold Oper.wp
    rcases quiet_value hng (hq w hw) with he | ⟨he, rfl⟩ <;> rw [he] <;> exact hn _ w (Le.refl w) rfl
  | make f =>
    obtain ⟨hwant, _, hg⟩ := hk
    simp only [hwant, if_true]
    exact .inl (grows_wp (hg w hw (ht.knows hr ho)) hn)
theorem wpAnyH_of_two (hT : TwoOk md l L n s t) (hLF : ∀ i ∈ L, F i = none) (hFn : F n = none ∧ F (n + 1) = none) (hu : uniqB (sleepTwo l).toArray = true) (hsel : Region.noSelect l.toArray = true)
    (hQ : ∀ (c : List PanicEntry) a d v w, Q' (.panic c) (Act.put a d v) w → Q' (.panic c) a w) :
    ∀ (fuel : Nat) (listed : Array Bool) (a : Act) (w : World), Cl W0 w → Told (sleepTwo l).toArray F listed a w → listed.size = n + 2 → listed.getD n true = false → listed.getD (n + 1) true = false →
      wpAnyG P md (sleepTwo l).toArray W0 F (fun a' w' => s.wp P a' w' (fun a1 w1 => Cl W0 w1 ∧ t.wp P a1 w1 (fun a2 w2 => Cl W0 w2 ∧ Q' .normal a2 w2) Q') Q') fuel listed a w → wpAnyH P md l.toArray Q' (Cl W0) fuel listed a w := by
  have hin : ∀ {i : Nat} {q : Oper}, l[i]? = some q → i < n + 2 := fun {i q} h => by have := (List.getElem?_eq_some_iff.1 h).1; rw [hT.len] at this; exact this
  have hlt : ∀ {i : Nat}, i < n → (sleepTwo l).toArray[i]? = l.toArray[i]? := fun {i} h => by
    rw [List.getElem?_toArray, List.getElem?_toArray]; exact sleepTwo_lt l i (by rw [hT.len]; omega)
  -- some early operation is ready, if one is not listed
  have hearly : ∀ listed : Array Bool, listed.size = n + 2 → ∀ k, k ≤ n → (∃ i, i < k ∧ listed.getD i true = false) → ∃ i, i < k ∧ i ∈ Region.ready md l.toArray listed := by
    intro listed hsz k
    induction k with
    | zero => rintro _ ⟨i, hi, _⟩; omega
    | succ k ih =>
      intro hk hex
      by_cases h0 : ∃ i, i < k ∧ listed.getD i true = false
      · obtain ⟨i, hi, hr⟩ := ih (by omega) h0
        exact ⟨i, by omega, hr⟩
      · obtain ⟨i, hi, hl⟩ := hex
        have hik : i = k := by
          rcases Nat.lt_succ_iff_lt_or_eq.1 hi with h | h
          · exact absurd ⟨i, h, hl⟩ h0
          · exact h
        subst hik
        refine ⟨i, by omega, ?_⟩
        rw [mem_ready]
        have hil : i < l.length := by rw [hT.len]; omega
        refine ⟨hl, l[i], by simp, fun e he hb => ?_⟩
        have hei := hT.fw i _ (List.getElem?_eq_getElem hil) e he hb
        cases hq : listed.getD e.on true with
        | false => exact absurd ⟨e.on, hei, hq⟩ h0
        | true =>
          have : e.on < listed.size := by omega
          simp [this] at hq ⊢; exact hq
  intro fuel
  induction fuel with
  | zero =>
    intro listed a w _ _ hsz hn hn1 h
    have h0 := h.1
    rw [sleepTwo_ready] at h0
    exfalso
    by_cases hex : ∃ i, i < n ∧ listed.getD i true = false
    · obtain ⟨i, _, hi⟩ := hearly listed hsz n (Nat.le_refl _) hex
      rw [h0] at hi; cases hi
    · have : n ∈ Region.ready md l.toArray listed := by
        rw [mem_ready]
        refine ⟨hn, s, by simpa using hT.hs, fun e he hb => ?_⟩
        have hei := hT.fw n s hT.hs e he hb
        cases hq : listed.getD e.on true with
        | false => exact absurd ⟨e.on, hei, hq⟩ hex
        | true =>
          have : e.on < listed.size := by omega
          simp [this] at hq ⊢; exact hq
      rw [h0] at this; cases this
  | succ fuel ih =>
    intro listed a w hC hTold hsz hn hn1 h
    by_cases hlate : ∃ i ∈ L, i ∈ Region.ready md l.toArray listed
    · obtain ⟨i, hiL, hir⟩ := hlate
      have hi' : i ∈ Region.ready md (sleepTwo l).toArray listed := by rw [sleepTwo_ready]; exact hir
      have hin' := hT.lt i hiL
      obtain ⟨_, oi, hoi, _⟩ := mem_ready.1 hir
      have hoi2 : (sleepTwo l).toArray[i]? = some oi := by rw [hlt hin']; exact hoi
      have hq := h.2 i hi'
      unfold gOp at hq
      rw [hoi2] at hq
      obtain ⟨kd, hk, hK⟩ := hq
      have hgd : ∀ g b, oi.guard = some (g, b) → g + 2 < l.length := fun g b hg => by
        have := hT.gd i oi (by simpa using hoi) g b hg
        rw [hT.len]; omega
      have hap := fun (j : Nat) (oj : Oper) (hj : l.toArray[j]? = some oj) (hji : j ≠ i) (hun : listed.getD j true = false) (hno : ∀ e ∈ oj.after, Region.binds md e = true → e.on ≠ i) => show oi.apart l.toArray oj = true by
        rcases hT.fr i hiL oi (by simpa using hoi) j oj (by simpa using hj) hji with hw | hw | hw
        · obtain ⟨e, he, hb, hon⟩ := waitsOn_spec hw
          exact absurd hon (hno e he hb)
        · exact hw
        · exact absurd hir (not_ready_of hoi hw (getD_ff hun))
      have hrest : ∀ v, kd.out v w → wpAnyH P md l.toArray Q' (Cl W0) fuel (listed.setIfInBounds i true) (a.put oi.dst v) w := fun v ho => by
        refine ih (listed.setIfInBounds i true) (a.put oi.dst v) w hC (hTold.put hu hoi2 hk (Le.refl w) ho) (by simpa using hsz) ?_ ?_ (hK v w (Le.refl w) ho)
        · rw [getD_set_ne true (by omega)]; exact hn
        · rw [getD_set_ne true (by omega)]; exact hn1
      cases kd with
      | skip =>
        have hk' : Region.wanted oi (yielded (sleepTwo l).toArray a.tmps) = false := hk
        rw [sleepTwo_wanted l oi hgd] at hk'
        exact wpAnyH_first hoi (Region.noSelect_spec hsel) (fun c a w => hQ c a _ _ w) fuel listed a w hap hir (.inr ⟨hk', rfl⟩) hC (hrest undef rfl)
      | one v =>
        obtain ⟨hk1, _, hk3, hk4⟩ := hk
        rw [sleepTwo_wanted l oi hgd] at hk1
        refine wpAnyH_first hoi (Region.noSelect_spec hsel) (fun c a w => hQ c a _ _ w) fuel listed a w hap hir (.inl ⟨hk1, fun w2 hw2 => ?_⟩) hC (hrest v rfl)
        rcases quiet_value hk3 (hk4 w2 hw2) with h1 | ⟨h1, _⟩
        · exact h1
        · exact absurd h1 (noGo_value hk3)
      | make f =>
        have := hk.2.1
        rw [hLF i hiL] at this; cases this
    · have hne : Region.ready md l.toArray listed ≠ [] := by
        intro h0
        by_cases hex : ∃ i, i < n ∧ listed.getD i true = false
        · obtain ⟨i, _, hi⟩ := hearly listed hsz n (Nat.le_refl _) hex
          rw [h0] at hi; cases hi
        · have : n ∈ Region.ready md l.toArray listed := by
            rw [mem_ready]
            refine ⟨hn, s, by simpa using hT.hs, fun e he hb => ?_⟩
            have hei := hT.fw n s hT.hs e he hb
            cases hq : listed.getD e.on true with
            | false => exact absurd ⟨e.on, hei, hq⟩ hex
            | true =>
              have : e.on < listed.size := by omega
              simp [this] at hq ⊢; exact hq
          rw [h0] at this; cases this
      refine ⟨fun h0 => absurd h0 hne, fun i hi => ?_⟩
      have hi' : i ∈ Region.ready md (sleepTwo l).toArray listed := by rw [sleepTwo_ready]; exact hi
      obtain ⟨hiun, oi, hoi, hall⟩ := mem_ready.1 hi
      have hil := hin (show l[i]? = some oi by simpa using hoi)
      have hq := h.2 i hi'
      by_cases hin1 : i = n + 1
      · subst hin1
        have hot : oi = t := Option.some.inj ((show l[n + 1]? = some oi by simpa using hoi).symm.trans hT.ht)
        subst hot
        exact absurd hi (not_ready_of hoi (hT.tw n (by omega)) (getD_ff hn))
      by_cases hin2 : i = n
      · subst hin2
        have hos : oi = s := Option.some.inj ((show l[i]? = some oi by simpa using hoi).symm.trans hT.hs)
        subst hos
        -- all early ones are listed
        have hE : ∀ j, j < i → listed.getD j true = true := by
          intro j hj
          cases hq : listed.getD j true with
          | true => rfl
          | false =>
            exfalso
            obtain ⟨m, hm, hmr⟩ := hearly listed hsz i (Nat.le_refl _) ⟨j, hj, hq⟩
            rcases hT.sw m hm with hmL | hmw
            · exact hlate ⟨m, hmL, hmr⟩
            · exact not_ready_of hoi hmw (getD_ff (mem_ready.1 hmr).1) hi
        have hset : ∀ j, j < i + 1 → (listed.setIfInBounds i true).getD j true = true := by
          intro j hj
          by_cases hji : j = i
          · subst hji; simp [hsz]
          · rw [getD_set_ne true (fun e => hji e.symm)]; exact hE j (by omega)
        have hready1 : ∀ j ∈ Region.ready md l.toArray (listed.setIfInBounds i true), j = i + 1 := by
          intro j hj
          obtain ⟨h1, q, h2, _⟩ := mem_ready.1 hj
          have hjl := hin (show l[j]? = some q by simpa using h2)
          by_cases hj1 : j < i + 1
          · rw [hset j hj1] at h1; cases h1
          · omega
        have ht1 : i + 1 ∈ Region.ready md l.toArray (listed.setIfInBounds i true) := by
          rw [mem_ready]
          refine ⟨by rw [getD_set_ne true (by omega)]; exact hn1, t, by simpa using hT.ht, fun e he hb => ?_⟩
          have hei := hT.fw (i + 1) t hT.ht e he hb
          have h1 := hset e.on hei
          have : e.on < (listed.setIfInBounds i true).size := by simp; omega
          simp only [Array.getD_eq_getD_getElem?] at h1 ⊢
          rw [Array.getElem?_eq_getElem this] at h1 ⊢
          exact h1
        have hempty : Region.ready md l.toArray ((listed.setIfInBounds i true).setIfInBounds (i + 1) true) = [] := by
          rw [List.eq_nil_iff_forall_not_mem]
          intro j hj
          obtain ⟨h1, q, h2, _⟩ := mem_ready.1 hj
          have hjl := hin (show l[j]? = some q by simpa using h2)
          by_cases hj1 : j = i + 1
          · subst hj1; simp [hsz] at h1
          · rw [getD_set_ne true (fun e => hj1 e.symm), hset j (by omega)] at h1; cases h1
        have hQE : oi.wp P a w (fun a1 w1 => Cl W0 w1 ∧ t.wp P a1 w1 (fun a2 w2 => Cl W0 w2 ∧ Q' .normal a2 w2) Q') Q' := by
          have hil2 : i < (sleepTwo l).length := by rw [sleepTwo_len, hT.len]; omega
          have hil3 : i + 1 < (sleepTwo l).length := by rw [sleepTwo_len, hT.len]; omega
          have e1 : (sleepTwo l).toArray[i]? = some ((sleepTwo l)[i]'hil2) := by simp [hil2]
          have e2 : (sleepTwo l).toArray[i + 1]? = some ((sleepTwo l)[i + 1]'hil3) := by simp [hil3]
          have d1 := sleepTwo_dst l i (by rw [hT.len]; omega) (by rw [hT.len]; omega) _ (List.getElem?_eq_getElem hil2)
          have d2 := sleepTwo_dst l (i + 1) (by rw [hT.len]; omega) (by rw [hT.len]; omega) _ (List.getElem?_eq_getElem hil3)
          have step : ∀ (kd : Kd) (j : Nat) (o : Oper), F j = none → kd.ok P md (sleepTwo l).toArray W0 F j o a → ∃ v, kd.out v w := fun kd j o hF hk => by
            cases kd with
            | skip => exact ⟨undef, rfl⟩
            | one v => exact ⟨v, rfl⟩
            | make f => have := hk.2.1; rw [hF] at this; cases this
          unfold gOp at hq
          rw [e1] at hq
          obtain ⟨kd, hk, hK⟩ := hq
          obtain ⟨v, hv⟩ := step kd i _ hFn.1 hk
          have h1 := hK v w (Le.refl w) hv
          rw [d1] at h1
          have ea : ∀ v, a.put none v = a := fun _ => rfl
          rw [ea] at h1
          cases fuel with
          | zero =>
            have := h1.1
            rw [sleepTwo_ready] at this
            rw [this] at ht1; cases ht1
          | succ f =>
            have h2 := h1.2 (i + 1) (by rw [sleepTwo_ready]; exact ht1)
            unfold gOp at h2
            rw [e2] at h2
            obtain ⟨kd2, hk2, hK2⟩ := h2
            obtain ⟨v2, hv2⟩ := step kd2 (i + 1) _ hFn.2 hk2
            have h3 := hK2 v2 w (Le.refl w) hv2
            rw [d2, ea] at h3
            cases f with
            | zero => exact h3.2
            | succ g => exact h3.1 (by rw [sleepTwo_ready]; exact hempty)
        unfold wpOp
        rw [hoi]
        simp only
        rw [if_pos (by simp [Region.wanted, hT.sg])]
        left
        refine Oper.wp_mono (fun a1 w1 ⟨hc1, hw1⟩ => ⟨hc1, ?_⟩) hQE
        cases fuel with
        | zero =>
          exfalso
          -- the fuel does not end here
          have hil2 : i < (sleepTwo l).length := by rw [sleepTwo_len, hT.len]; omega
          have e1 : (sleepTwo l).toArray[i]? = some ((sleepTwo l)[i]'hil2) := by simp [hil2]
          unfold gOp at hq
          rw [e1] at hq
          obtain ⟨kd, hk, hK⟩ := hq
          have : ∃ v, kd.out v w := by
            cases kd with
            | skip => exact ⟨undef, rfl⟩
            | one v => exact ⟨v, rfl⟩
            | make f => have := hk.2.1; rw [hFn.1] at this; cases this
          obtain ⟨v, hv⟩ := this
          have := (hK v w (Le.refl w) hv).1
          rw [sleepTwo_ready] at this
          rw [this] at ht1; cases ht1
        | succ f =>
          refine ⟨fun h0 => (by rw [h0] at ht1; cases ht1), fun j hj => ?_⟩
          have hj1 := hready1 j hj
          subst hj1
          unfold wpOp
          have : l.toArray[i + 1]? = some t := by simpa using hT.ht
          rw [this]
          simp only
          rw [if_pos (by simp [Region.wanted, hT.tg])]
          left
          refine Oper.wp_mono (fun a2 w2 ⟨hc2, hw2⟩ => ⟨hc2, ?_⟩) hw1
          cases f with
          | zero => exact ⟨hempty, hw2⟩
          | succ g => exact ⟨fun _ => hw2, fun j hj => by rw [hempty] at hj; cases hj⟩
      · have hi3 : i < n := by omega
        have hgd2 : ∀ g b, oi.guard = some (g, b) → g + 2 < l.length := fun g b hg => by
          have := hT.gd i oi (by simpa using hoi) g b hg
          rw [hT.len]; omega
        refine wpOp_of_gOp2 (hlt hi3).symm (fun o ho => ?_) hu hC hTold hi' (fun a' w' hC' hT' hk => ⟨hC', ih (listed.setIfInBounds i true) a' w' hC' hT' (by simpa using hsz) (by rw [getD_set_ne true (by omega)]; exact hn) (by rw [getD_set_ne true (by omega)]; exact hn1) hk⟩) hq
        have : o = oi := Option.some.inj ((show (sleepTwo l).toArray[i]? = some o from ho).symm.trans ((hlt hi3).trans hoi))
        subst this
        exact (sleepTwo_wanted l o hgd2 _).symm
end
/-- As wp_region_make_last, where the last two operations are a store and one that waits for it, and those of L may come behind the store. -/
theorem wp_region_make_two {P : Program} {id : Nat} {Q : Exit → Act → World → Prop} {a : Act} {w : World} {l : List Oper} (F : Nat → Option (Value → World → Prop)) (L : List Nat) (hm : P.follows .mixedOrders = true) (hB : Region.lexB .any (sleepTwo l).toArray = true) (hs : Region.noSelect l.toArray = true)
    (hu : uniqB (sleepTwo l).toArray = true) (ht : twoB .any l L = true) (hLF : ∀ i ∈ L, F i = none) (hFn : F (l.length - 2) = none ∧ F (l.length - 1) = none) (hQ : ∀ (c : List PanicEntry) a d v w, Q (.panic c) (Act.put a d v) w → Q (.panic c) a w)
    (h : wpG P .any (sleepTwo l).toArray w F (fun a' w' => ∀ s t, l[l.length - 2]? = some s → l[l.length - 1]? = some t → s.wp P a' w' (fun a1 w1 => Cl w w1 ∧ t.wp P a1 w1 (fun a2 w2 => Cl w w2 ∧ Q .normal a2 w2) Q) Q) (sleepTwo l) 0 (fun _ => True) a) : (Code.region id l.toArray true).wp P Q a w := by
  obtain ⟨n, s, t, hT⟩ := twoB_spec ht
  have e1 : l.length - 2 = n := by rw [hT.len]; omega
  have e2 : l.length - 1 = n + 1 := by rw [hT.len]; omega
  rw [e1, e2] at hFn
  simp only [Region.lexB, Bool.and_eq_true] at hB
  have hw : Cl w w.drew := Cl.of (Below.refl _ _).drew
  have hany := wpAnyG_lex hu hB.1 (sleepTwo l) 0 (Array.replicate (sleepTwo l).toArray.size false) a w.drew (fun _ => True) (by simp) (by simpa using hB.2) hw (told_none _) trivial (fun _ _ _ h => h) h
  have hQe : (fun (a' : Act) (w' : World) => ∀ s t, l[l.length - 2]? = some s → l[l.length - 1]? = some t → s.wp P a' w' (fun a1 w1 => Cl w w1 ∧ t.wp P a1 w1 (fun a2 w2 => Cl w w2 ∧ Q .normal a2 w2) Q) Q) = (fun a' w' => s.wp P a' w' (fun a1 w1 => Cl w w1 ∧ t.wp P a1 w1 (fun a2 w2 => Cl w w2 ∧ Q .normal a2 w2) Q) Q) := by
    funext a' w'
    apply propext
    rw [e1, e2]
    constructor
    · intro h; exact h s t hT.hs hT.ht
    · intro h s' t' hs' ht'
      rw [hT.hs] at hs'; rw [hT.ht] at ht'
      cases hs'; cases ht'; exact h
  rw [hQe] at hany
  refine wp_region_held (S := Cl w) hm ?_
  have hl : (sleepTwo l).length = n + 2 := by rw [sleepTwo_len, hT.len]
  have hl2 : l.length = n + 2 := hT.len
  have := wpAnyH_of_two hT hLF hFn hu hs hQ (sleepTwo l).length (Array.replicate (sleepTwo l).toArray.size false) a w.drew hw (told_none _) (by simp [hl]) (by simp [hl]) (by simp [hl]) hany
  simpa [hl, hl2] using this
def lastTwo : List Oper → Oper × Oper
  | [] => (default, default)
  | [o] => (o, o)
  | [o, o'] => (o, o')
  | _ :: o' :: o'' :: r => lastTwo (o' :: o'' :: r)
theorem lastTwo_two (o o' : Oper) : lastTwo [o, o'] = (o, o') := rfl
theorem lastTwo_cons (o o' o'' : Oper) (r : List Oper) : lastTwo (o :: o' :: o'' :: r) = lastTwo (o' :: o'' :: r) := rfl
end Go.Proofs.Ytlebefopdnadaaa
