/- A region that draws its order, whose last operation waits for all the others, which only read or call functions that leave alone what was there: one walk in the order of the text serves every order. -/
import Derived.Test.YtlebefopdnadaaaQb
import Derived.StillTail
namespace Go.Proofs.Ytlebefopdnadaaa
open Go.RowKit
/-- The last operation is put to sleep. -/
def skipLast : List Oper → List Oper
  | [] => []
  | [o] => [{ o with op := .move (.const (.bool true)) }]
  | o :: o' :: r => o :: skipLast (o' :: r)
theorem skipLast_one (o : Oper) : skipLast [o] = [{ o with op := .move (.const (.bool true)) }] := rfl
theorem skipLast_two (o o' : Oper) (r : List Oper) : skipLast (o :: o' :: r) = o :: skipLast (o' :: r) := rfl
theorem skipLast_len : ∀ l : List Oper, (skipLast l).length = l.length
  | [] => rfl
  | [_] => rfl
  | o :: o' :: r => by rw [skipLast_two, List.length_cons, skipLast_len (o' :: r)]; rfl
theorem skipLast_lt : ∀ (l : List Oper) (i : Nat), i + 1 < l.length → (skipLast l)[i]? = l[i]?
  | [], _, h => by simp at h
  | [_], _, h => by simp at h
  | o :: o' :: r, 0, _ => rfl
  | o :: o' :: r, i + 1, h => by
    rw [skipLast_two, List.getElem?_cons_succ, List.getElem?_cons_succ]
    exact skipLast_lt (o' :: r) i (by simpa using h)
theorem skipLast_after : ∀ (l : List Oper) (i : Nat), ((skipLast l)[i]?).map (fun o => (o.after, o.dst, o.guard)) = (l[i]?).map fun o => (o.after, o.dst, o.guard)
  | [], _ => rfl
  | [_], 0 => rfl
  | [_], _ + 1 => rfl
  | o :: o' :: r, 0 => rfl
  | o :: o' :: r, i + 1 => by
    rw [skipLast_two, List.getElem?_cons_succ, List.getElem?_cons_succ]
    exact skipLast_after (o' :: r) i
theorem skipLast_ready (md : Region.Mode) (l : List Oper) (listed : Array Bool) : Region.ready md (skipLast l).toArray listed = Region.ready md l.toArray listed := by
  unfold Region.ready
  rw [List.size_toArray, List.size_toArray, skipLast_len]
  apply List.filter_congr
  intro i _
  have := congrArg (fun x => x.map fun q : Array Edge × Option Tmp × Option (Nat × Bool) => q.1) (skipLast_after l i)
  simp only [Option.map_map, List.getElem?_toArray] at this ⊢
  congr 1
  have h2 : ((skipLast l)[i]?.map fun o => o.after) = (l[i]?.map fun o => o.after) := by simpa [Function.comp_def] using this
  have h3 : ∀ x : Option Oper, (x.map fun o => o.after.all fun e => !Region.binds md e || listed.getD e.on false) = (x.map fun o => o.after).map fun a => a.all fun e => !Region.binds md e || listed.getD e.on false := fun x => by cases x <;> rfl
  rw [h3, h3, h2]
theorem skipLast_yielded (l : List Oper) (tmps : Array Value) : yielded (skipLast l).toArray tmps = yielded l.toArray tmps := by
  funext j
  unfold yielded
  have := congrArg (fun x => x.bind fun q : Array Edge × Option Tmp × Option (Nat × Bool) => q.2.1) (skipLast_after l j)
  have h3 : ∀ x : Option Oper, (x.bind fun o => o.dst) = ((x.map fun o => (o.after, o.dst, o.guard)).bind fun q => q.2.1) := fun x => by cases x <;> rfl
  rw [List.getElem?_toArray, List.getElem?_toArray, h3, h3, skipLast_after]
/-- The last operation waits for each other one; no other waits for a later one. -/
def tailB (md : Region.Mode) (l : List Oper) : Bool :=
  match l[l.length - 1]? with
  | none => false
  | some o => o.guard.isNone && o.dst.isNone && ((List.range (l.length - 1)).all fun i => o.after.any fun e => Region.binds md e && e.on == i) &&
    (List.range l.length).all fun k => match l[k]? with | some o => o.after.all fun e => !Region.binds md e || decide (e.on < k) | none => true
section
variable {P : Program} {C : World → Prop} {md : Region.Mode}
theorem wpAny_of_tail {l : List Oper} {o : Oper} {n : Nat} {Q' : Exit → Act → World → Prop} (hn : l.length = n + 1) (ho : l[n]? = some o) (hg : o.guard = none) (hd : o.dst = none)
    (hs : ∀ i, i < n → ∃ e ∈ o.after, Region.binds md e = true ∧ e.on = i) (hf : ∀ k q, l[k]? = some q → ∀ e ∈ q.after, Region.binds md e = true → e.on < k) :
    ∀ (fuel : Nat) (listed : Array Bool) (a : Act) (w : World), C w → listed.size = n + 1 → listed.getD n true = false →
      wpAnyQ P md (skipLast l).toArray C (fun a' => ∀ w', C w' → o.wp P a' w' (fun a'' w'' => Q' .normal a'' w'') Q') fuel listed a → wpAny P md l.toArray Q' fuel listed a w := by
  -- some operation is ready as long as the last one is not listed
  have hne : ∀ listed : Array Bool, listed.size = n + 1 → listed.getD n true = false → Region.ready md l.toArray listed ≠ [] := by
    intro listed hsz hnl he
    have : ∀ k, k ≤ n → ∀ i, i < k → listed.getD i false = true := by
      intro k
      induction k with
      | zero => intro _ i hi; omega
      | succ k ih =>
        intro hk i hi
        rcases Nat.lt_succ_iff_lt_or_eq.1 hi with h | rfl
        · exact ih (by omega) i h
        · cases hl : listed.getD i true with
          | false =>
            have hmem : i ∈ Region.ready md l.toArray listed := by
              rw [mem_ready]
              refine ⟨hl, l[i]'(by omega), by simp, fun e he hb => ?_⟩
              exact ih (by omega) e.on (hf i _ (List.getElem?_eq_getElem (by omega)) e he hb)
            rw [he] at hmem; cases hmem
          | true =>
            have hi' : i < listed.size := by omega
            simp [hi'] at hl ⊢; exact hl
    have hmem : n ∈ Region.ready md l.toArray listed := by
      rw [mem_ready]
      refine ⟨hnl, o, by simpa using ho, fun e he hb => this n (Nat.le_refl _) e.on (hf n o ho e he hb)⟩
    rw [he] at hmem; cases hmem
  intro fuel
  induction fuel with
  | zero =>
    intro listed a w hC hsz hnl h
    have := h.1
    rw [skipLast_ready] at this
    exact absurd this (hne listed hsz hnl)
  | succ fuel ih =>
    intro listed a w hC hsz hnl h
    refine ⟨fun h0 => absurd h0 (hne listed hsz hnl), fun i hi => ?_⟩
    have hq := h.2 i (by rw [skipLast_ready]; exact hi)
    have hil : i < n + 1 := by
      obtain ⟨_, q, hq', _⟩ := mem_ready.1 hi
      have := (Array.getElem?_eq_some_iff.1 hq').1
      simpa [hn] using this
    by_cases hin : i = n
    · subst hin
      obtain ⟨_, q, hq', hall⟩ := mem_ready.1 hi
      have hqo : q = o := by
        have : l[i]? = some q := by simpa using hq'
        rw [ho] at this; exact (Option.some.inj this).symm
      subst hqo
      have hlist : ∀ j, j < i + 1 → (listed.setIfInBounds i true).getD j false = true := by
        intro j hj
        by_cases hji : j = i
        · subst hji; simp [hsz]
        · obtain ⟨e, he, hb, hon⟩ := hs j (by omega)
          have := hall e he hb
          rw [hon] at this
          have hjs : j < listed.size := by omega
          have hij : ¬ i = j := fun e => hji e.symm
          simp [hjs, hij] at this ⊢
          exact this
      have hempty : Region.ready md l.toArray (listed.setIfInBounds i true) = [] := by
        rw [List.eq_nil_iff_forall_not_mem]
        intro j hj
        obtain ⟨h1, q', h2, _⟩ := mem_ready.1 hj
        have hjl : j < i + 1 := by
          have := (Array.getElem?_eq_some_iff.1 h2).1
          simpa [hn] using this
        have h3 := hlist j hjl
        rw [getD_both h1] at h3
        cases h3
      have hK : ∀ w', C w' → q.wp P a w' (fun a'' w'' => Q' .normal a'' w'') Q' := by
        unfold qOp at hq
        have h2 : (skipLast l).toArray[i]? = some ((skipLast l)[i]'(by rw [skipLast_len]; omega)) := by simp [skipLast_len, hn]
        have hsa := skipLast_after l i
        rw [ho, List.getElem?_eq_getElem (by rw [skipLast_len]; omega)] at hsa
        simp only [Option.map_some, Option.some.injEq, Prod.mk.injEq] at hsa
        obtain ⟨_, hsd, hsg⟩ := hsa
        rw [h2] at hq
        simp only at hq
        have hfin : ∀ v, wpAnyQ P md (skipLast l).toArray C (fun a' => ∀ w', C w' → q.wp P a' w' (fun a'' w'' => Q' .normal a'' w'') Q') fuel (listed.setIfInBounds i true) (a.put ((skipLast l)[i]'(by rw [skipLast_len]; omega)).dst v) → ∀ w', C w' → q.wp P a w' (fun a'' w'' => Q' .normal a'' w'') Q' := by
          intro v hv
          rw [hsd, hd] at hv
          have ea : a.put none v = a := rfl
          rw [ea] at hv
          cases fuel with
          | zero => exact hv.2
          | succ f => exact hv.1 (by rw [skipLast_ready]; exact hempty)
        split at hq
        · obtain ⟨v, _, hv⟩ := hq; exact hfin v hv
        · exact hfin undef hq
      unfold wpOp
      have ho' : l.toArray[i]? = some q := by simpa using ho
      rw [ho']
      simp only
      rw [if_pos (by simp [Region.wanted, hg])]
      left
      refine Oper.wp_mono (fun a'' w'' h3 => ?_) (hK w hC)
      cases fuel with
      | zero => exact ⟨hempty, h3⟩
      | succ f => exact ⟨fun _ => h3, fun j hj => by rw [hempty] at hj; cases hj⟩
    · have hop : (skipLast l).toArray[i]? = l.toArray[i]? := by simpa using skipLast_lt l i (by omega)
      have hq2 : qOp P l.toArray C i (wpAnyQ P md (skipLast l).toArray C (fun a' => ∀ w', C w' → o.wp P a' w' (fun a'' w'' => Q' .normal a'' w'') Q') fuel (listed.setIfInBounds i true)) a := by
        unfold qOp at hq ⊢
        rw [hop, skipLast_yielded] at hq
        exact hq
      exact wpOp_of_qOp hC (fun a' w' hC' hk => ih (listed.setIfInBounds i true) a' w' hC' (by simpa using hsz) (by
        have : ¬ i = n := hin
        rw [← hnl]; simp [hsz, this]) hk) hq2
end
theorem wp_region_below_tail {P : Program} {id : Nat} {Q : Exit → Act → World → Prop} {a : Act} {w : World} {l : List Oper} (hm : P.follows .mixedOrders = true) (hB : Region.lexB .any (skipLast l).toArray = true) (ht : tailB .any l = true)
    (h : wpQuiet P (skipLast l).toArray (fun w' => ∃ u, w' = ovr w u) (fun a' => ∀ w', Below w.heap.size w w' → ∀ o, l[l.length - 1]? = some o → o.wp P a' w' (fun a'' w'' => Q .normal a'' w'') Q) (skipLast l) a) : (Code.region id l.toArray true).wp P Q a w := by
  unfold tailB at ht
  cases ho : l[l.length - 1]? with
  | none => rw [ho] at ht; cases ht
  | some o =>
    rw [ho] at ht h
    simp only [Bool.and_eq_true, List.all_eq_true, List.mem_range, Option.isNone_iff_eq_none] at ht
    obtain ⟨⟨⟨hg, hd⟩, hs⟩, hf⟩ := ht
    have hlen : l.length = (l.length - 1) + 1 := by have := (List.getElem?_eq_some_iff.1 ho).1; omega
    simp only [Region.lexB, Bool.and_eq_true] at hB
    have hq : wpQuiet P (skipLast l).toArray (fun w' => ∃ u, w' = ovr w u) (fun a' => ∀ w', (∃ u, w' = ovr w u) → o.wp P a' w' (fun a'' w'' => Q .normal a'' w'') Q) (skipLast l) a := by
      have e : (fun a' => ∀ w', (∃ u, w' = ovr w u) → o.wp P a' w' (fun a'' w'' => Q .normal a'' w'') Q) = (fun a' => ∀ w', Below w.heap.size w w' → ∀ o', some o = some o' → o'.wp P a' w' (fun a'' w'' => Q .normal a'' w'') Q) := by
        funext a'
        apply propext
        constructor
        · intro h w' hb o' ho'; cases ho'; exact h w' ⟨w', ovr_of hb⟩
        · rintro h w' ⟨u, rfl⟩; exact h _ (ovr_below _ _) o rfl
      rw [e]; exact h
    have hany := wpAnyQ_lex (C := fun w' => ∃ u, w' = ovr w u) (md := .any) hB.1 (skipLast l) 0 (Array.replicate (skipLast l).length false) a (by simp) (by simpa using hB.2) hq
    refine wp_region_any hm ?_
    rw [List.size_toArray]
    refine wpAny_of_tail (o := o) (n := l.length - 1) (C := fun w' => ∃ u, w' = ovr w u) hlen ho hg hd (fun i hi => ?_) (fun k q hk e he hb => ?_) _ _ _ _ ⟨w.drew, ovr_of (Below.refl _ _).drew⟩ (by simp; omega) (by simp [show l.length - 1 < l.length by omega]) (by rw [skipLast_len] at hany; exact hany)
    · have := hs i hi
      obtain ⟨e, he, hb⟩ := Array.any_eq_true'.1 this
      simp only [Bool.and_eq_true, beq_iff_eq] at hb
      exact ⟨e, he, hb.1, hb.2⟩
    · have hkl := (List.getElem?_eq_some_iff.1 hk).1
      have := hf k hkl
      rw [hk] at this
      have h2 := Array.all_eq_true'.1 this e he
      simp [hb] at h2
      exact h2
def lastOf : List Oper → Oper
  | [] => default
  | [o] => o
  | _ :: o' :: r => lastOf (o' :: r)
theorem lastOf_one (o : Oper) : lastOf [o] = o := rfl
theorem lastOf_two (o o' : Oper) (r : List Oper) : lastOf (o :: o' :: r) = lastOf (o' :: r) := rfl
theorem lastOf_eq : ∀ (l : List Oper) (o : Oper), l[l.length - 1]? = some o → o = lastOf l
  | [], _, h => by simp at h
  | [q], o, h => by
    have h2 : q = o := by simpa using h
    exact h2.symm
  | q :: q' :: r, o, h => by
    rw [lastOf_two]
    refine lastOf_eq (q' :: r) o ?_
    simpa using h
/-- As wp_region_below_tail, the last operation named by 'lastOf'. -/
theorem wp_region_below_last {P : Program} {id : Nat} {Q : Exit → Act → World → Prop} {a : Act} {w : World} {l : List Oper} (hm : P.follows .mixedOrders = true) (hB : Region.lexB .any (skipLast l).toArray = true) (ht : tailB .any l = true)
    (h : wpQuiet P (skipLast l).toArray (fun w' => ∃ u, w' = ovr w u) (fun a' => ∀ w', Below w.heap.size w w' → (lastOf l).wp P a' w' (fun a'' w'' => Q .normal a'' w'') Q) (skipLast l) a) : (Code.region id l.toArray true).wp P Q a w := by
  refine wp_region_below_tail hm hB ht ?_
  have e : (fun a' => ∀ w', Below w.heap.size w w' → (lastOf l).wp P a' w' (fun a'' w'' => Q .normal a'' w'') Q) = (fun a' => ∀ w', Below w.heap.size w w' → ∀ o, l[l.length - 1]? = some o → o.wp P a' w' (fun a'' w'' => Q .normal a'' w'') Q) := by
    funext a'
    apply propext
    constructor
    · intro h w' hb o ho; rw [lastOf_eq l o ho]; exact h w' hb
    · intro h w' hb
      unfold tailB at ht
      cases ho : l[l.length - 1]? with
      | none => rw [ho] at ht; cases ht
      | some o => rw [← lastOf_eq l o ho]; exact h w' hb o ho
  rw [e] at h
  exact h
end Go.Proofs.Ytlebefopdnadaaa
