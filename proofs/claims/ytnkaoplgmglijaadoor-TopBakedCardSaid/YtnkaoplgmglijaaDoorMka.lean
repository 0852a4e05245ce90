/- A region that draws its order, whose operations leave alone what was there: each yields one value, or, where it is named so, something of which a lasting fact is told. One walk in the order of the text serves every order. -/
import Derived.Test.YtnkaoplgmglijaaDoorBa
import Derived.OrdersHeld
namespace Go.Proofs.YtnkaoplgmglijaaDoor
open Go.RowKit Classical
def Le (w w' : World) : Prop := Below w.heap.size w w'
theorem Le.refl (w : World) : Le w w := Below.refl _ _
theorem Le.trans {a b c : World} (h : Le a b) (h' : Le b c) : Le a c := Below.trans h (Below.mono h' (Below.size h))
def Cl (W0 w : World) : Prop := ∃ u, w = ovr W0 u
theorem Cl.of {W0 w : World} (h : Le W0 w) : Cl W0 w := ⟨w, ovr_of h⟩
theorem Cl.le {W0 w : World} (h : Cl W0 w) : Le W0 w := by obtain ⟨u, rfl⟩ := h; exact ovr_below _ _
theorem Cl.next {W0 w w' : World} (h : Cl W0 w) (h' : Le w w') : Cl W0 w' := Cl.of (h.le.trans h')
def Box (f : Value → World → Prop) (u : Value) (w : World) : Prop := ∀ w', Le w w' → f u w'
theorem Box.now {f : Value → World → Prop} {u : Value} {w : World} (h : Box f u w) : f u w := h w (Le.refl w)
theorem Box.later {f : Value → World → Prop} {u : Value} {w w' : World} (h : Box f u w) (hl : Le w w') : Box f u w' := fun w'' h'' => h w'' (hl.trans h'')
def growUpon (P : Program) (w : World) (R : Value → World → Prop) : Result Next → Prop
 | .ok (.value u) w' => Le w w' ∧ Box R u w'
 | .ok .skip w' => Le w w' ∧ Box R undef w'
 | .ok (.enter f args) w' => w' = w ∧ Calls P f args w (fun e w'' => ∃ u, e = .returned u ∧ Le w w'' ∧ Box R u w'')
 | _ => False
def Oper.grows (P : Program) (o : Oper) (a : Act) (w : World) (R : Value → World → Prop) : Prop := growUpon P w R ((execOp a.eval o).run P w)
theorem grows_some {P : Program} {o : Oper} {a : Act} {w : World} {R : Value → World → Prop} (h : Oper.grows P o a w R) : ∃ u w', Le w w' ∧ Box R u w' := by
 unfold Oper.grows at h
 generalize (execOp a.eval o).run P w = r at h
 cases r with
 | ok n w' =>
   cases n <;> simp only [growUpon] at h <;> try exact h.elim
   case value u => exact ⟨u, w', h⟩
   case skip => exact ⟨undef, w', h⟩
   case enter f args =>
    obtain ⟨e, w'', fr, ⟨u, _, h1, h2⟩, _⟩ := h.2 []
    exact ⟨u, w'', h1, h2⟩
 | halt x w' => exact h.elim
theorem grows_wp {P : Program} {o : Oper} {a : Act} {w : World} {R : Value → World → Prop} {K : Act → World → Prop} {Q : Exit → Act → World → Prop} (h : Oper.grows P o a w R)
 (hK : ∀ u w', Le w w' → Box R u w' → K (a.put o.dst u) w') : o.wp P a w K Q := by
 unfold Oper.grows at h
 unfold Oper.wp
 generalize (execOp a.eval o).run P w = r at *
 cases r with
 | ok n w' =>
   cases n <;> simp only [growUpon] at h <;> simp only [Oper.upon] <;> try exact h.elim
   case value u => exact hK _ _ h.1 h.2
   case skip => exact hK _ _ h.1 h.2
   case enter f args =>
    obtain ⟨rfl, hc⟩ := h
    exact hc.mono fun e w'' ⟨u, he, h1, h2⟩ => by subst he; exact hK _ _ h1 h2
 | halt x w' => exact h.elim
def noGo : Op → Bool
 | .move _ | .assign _ | .pick .. | .load .. | .nilCheck _ | .binOp .. | .unOp .. | .convert .. | .makeFunc .. | .fieldAddr .. | .field .. | .indexAddr .. | .index .. | .extract .. | .build .. | .makeInterface .. | .slice .. => true
 | .call c => match c.callee with | .builtin .len | .builtin .cap | .builtin .max | .builtin .min => true | _ => false
 | _ => false
theorem v_ne {P : Program} {s : Sem Value} {w w' : World} {f : FuncId} {args : Array Value} : (do pure (Next.value (← s)) : Sem Next).run P w ≠ .ok (.enter f args) w' := by
 rw [Sem.run_bind]
 cases s.run P w <;> simp [Result.andThen]
theorem panic_ne {P : Program} {w w' : World} {f : FuncId} {args : Array Value} : (runtimePanic .nilDeref : Sem Next).run P w ≠ .ok (.enter f args) w' := by
 simp [runtimePanic, goPanic]
theorem noGo_spec {o : Oper} (h : noGo o.op = true) {P : Program} {ρ : Operand → Value} {w w' : World} {f : FuncId} {args : Array Value} : (execOp ρ o).run P w ≠ .ok (.enter f args) w' := by
 unfold execOp
 cases hop : o.op <;> rw [hop] at h <;> simp only [noGo] at h <;> try exact absurd h (by decide)
 all_goals try exact v_ne
 all_goals try (simp; done)
 case pick c a b =>
  change (do pure (Next.value (if ← asBool (ρ c) then ρ a else ρ b)) : Sem Next).run P w ≠ _
  rw [Sem.run_bind]
  cases (asBool (ρ c)).run P w <;> simp [Result.andThen]
 case nilCheck x =>
  dsimp only
  split
  all_goals try exact panic_ne
  all_goals try (simp; done)
  split
  all_goals try exact panic_ne
  all_goals try (simp; done)
  rw [Sem.run_bind]
  cases Sem.run P program w with
  | halt _ _ => simp [Result.andThen]
  | ok p w1 =>
    simp only [Result.andThen]
    rw [Sem.run_bind]
    generalize Sem.run P (nilAhead _ _ _ _) w1 = r
    cases r with
    | halt _ _ => simp [Result.andThen]
    | ok b w2 =>
      simp only [Result.andThen]
      split
      · simp [unsupported, Result.andThen]
      · simp
 case call c =>
  change (do let d ← resolve ρ c o.type; invoke d.target d.args : Sem Next).run P w ≠ _
  rw [Sem.run_bind]
  unfold resolve
  cases hc : c.callee with
  | builtin b =>
    rw [hc] at h
    simp only [Sem.run_pure, Result.andThen_ok, invoke]
    cases b <;> first | exact v_ne | (simp at h)
  | invoke r n => rw [hc] at h; simp at h
  | value f => rw [hc] at h; simp at h
section
variable {P : Program} {ops : Array Oper} {md : Region.Mode} {W0 : World} {F : Nat → Option (Value → World → Prop)} {Q : Act → World → Prop}
def Knows (md : Region.Mode) (ops : Array Oper) (F : Nat → Option (Value → World → Prop)) (o : Oper) (a : Act) (w : World) : Prop :=
 ∀ e ∈ o.after, Region.binds md e = true → ∀ oi d f, ops[e.on]? = some oi → oi.guard = none → oi.dst = some d → d < a.tmps.size → F e.on = some f → Box f (a.tmps.getD d undef) w
inductive Kd where
 | skip
 | one (v : Value)
 | make (f : Value → World → Prop)
def Kd.ok (P : Program) (md : Region.Mode) (ops : Array Oper) (W0 : World) (F : Nat → Option (Value → World → Prop)) (j : Nat) (o : Oper) (a : Act) : Kd → Prop
 | .skip => Region.wanted o (yielded ops a.tmps) = false
 | .one v => Region.wanted o (yielded ops a.tmps) = true ∧ F j = none ∧ noGo o.op = true ∧ ∀ w, Cl W0 w → o.quietAt P a (Cl W0) w v
 | .make f => Region.wanted o (yielded ops a.tmps) = true ∧ F j = some f ∧ ∀ w, Cl W0 w → Knows md ops F o a w → Oper.grows P o a w f
def Kd.out : Kd → Value → World → Prop
 | .skip => fun u _ => u = undef
 | .one v => fun u _ => u = v
 | .make f => fun u w => Box f u w
theorem Kd.out_later {kd : Kd} {u : Value} {w w' : World} (h : kd.out u w) (hl : Le w w') : kd.out u w' := by
 cases kd with
 | skip => exact h
 | one v => exact h
 | make f => exact Box.later h hl
theorem quiet_value {o : Oper} {a : Act} {w : World} {v : Value} (hn : noGo o.op = true) (h : o.quietAt P a (Cl W0) w v) : (execOp a.eval o).run P w = .ok (.value v) w ∨ ((execOp a.eval o).run P w = .ok .skip w ∧ v = undef) := by
 unfold Oper.quietAt at h
 have hne := @noGo_spec o hn P a.eval w
 generalize (execOp a.eval o).run P w = r at *
 cases r with
 | ok n w' =>
   cases n <;> simp only [Oper.quietUpon] at h <;> try exact h.elim
   case value u => left; rw [h.1, h.2]
   case skip => right; rw [h.1, h.2]; exact ⟨rfl, rfl⟩
   case enter f args => exact absurd rfl (hne (w' := w') (f := f) (args := args))
 | halt x w' => exact h.elim
theorem Kd.uniq {j : Nat} {o : Oper} {a : Act} {w : World} (hw : Cl W0 w) {kd kd' : Kd} (h : kd.ok P md ops W0 F j o a) (h' : kd'.ok P md ops W0 F j o a) : kd.out = kd'.out := by
 cases kd <;> cases kd' <;> simp only [Kd.ok] at h h'
 case skip.skip => rfl
 case skip.one v => rw [h'.1] at h; cases h
 case skip.make f => rw [h'.1] at h; cases h
 case one.skip v => rw [h.1] at h'; cases h'
 case one.one v v' =>
  have a1 := quiet_value h.2.2.1 (h.2.2.2 w hw)
  have a2 := quiet_value h'.2.2.1 (h'.2.2.2 w hw)
  have e : v = v' := by
   rcases a1 with a1 | ⟨a1, rfl⟩ <;> rcases a2 with a2 | ⟨a2, rfl⟩
   · rw [a1] at a2; injection a2 with b1; injection b1
   · rw [a1] at a2; injection a2 with b1; cases b1
   · rw [a1] at a2; injection a2 with b1; cases b1
   · rfl
  rw [e]
 case one.make v f => rw [h.2.1] at h'; cases h'.2.1
 case make.skip f => rw [h.1] at h'; cases h'
 case make.one f v => rw [h'.2.1] at h; cases h.2.1
 case make.make f f' =>
  have : f = f' := Option.some.inj (h.2.1.symm.trans h'.2.1)
  rw [this]
def gOp (P : Program) (md : Region.Mode) (ops : Array Oper) (W0 : World) (F : Nat → Option (Value → World → Prop)) (j : Nat) (K : Act → World → Prop) (a : Act) (w : World) : Prop :=
 match ops[j]? with
 | none => K a w
 | some o => ∃ kd : Kd, kd.ok P md ops W0 F j o a ∧ ∀ u w', Le w w' → kd.out u w' → K (a.put o.dst u) w'
def wpAnyG (P : Program) (md : Region.Mode) (ops : Array Oper) (W0 : World) (F : Nat → Option (Value → World → Prop)) (Q : Act → World → Prop) : Nat → Array Bool → Act → World → Prop
 | 0, listed, a, w => Region.ready md ops listed = [] ∧ Q a w
 | fuel + 1, listed, a, w =>
   (Region.ready md ops listed = [] → Q a w) ∧
   ∀ i ∈ Region.ready md ops listed, gOp P md ops W0 F i (wpAnyG P md ops W0 F Q fuel (listed.setIfInBounds i true)) a w
def Told (ops : Array Oper) (F : Nat → Option (Value → World → Prop)) (listed : Array Bool) (a : Act) (w : World) : Prop :=
 ∀ i oi d f, ops[i]? = some oi → listed.getD i false = true → oi.guard = none → oi.dst = some d → d < a.tmps.size → F i = some f → Box f (a.tmps.getD d undef) w
def uniqB (ops : Array Oper) : Bool := (List.range ops.size).all fun i => (List.range ops.size).all fun j => i == j || (match ops[i]?, ops[j]? with | some x, some y => x.dst.isNone || x.dst != y.dst | _, _ => true)
theorem uniqB_spec (h : uniqB ops = true) {i j : Nat} {x y : Oper} (hx : ops[i]? = some x) (hy : ops[j]? = some y) (hij : i ≠ j) {d : Tmp} (hd : x.dst = some d) : y.dst ≠ some d := by
 intro hd'
 unfold uniqB at h
 simp only [List.all_eq_true, List.mem_range] at h
 have := h i (Array.getElem?_eq_some_iff.1 hx).1 j (Array.getElem?_eq_some_iff.1 hy).1
 simp [hx, hy, hd, hd', hij] at this
theorem put_size (a : Act) (dst : Option Tmp) (u : Value) : (a.put dst u).tmps.size = a.tmps.size := by
 cases dst with
 | none => rfl
 | some d => show (a.tmps.setIfInBounds d u).size = _; simp
theorem put_getD_ne (a : Act) {dst : Option Tmp} (u : Value) {d : Tmp} (h : dst ≠ some d) : (a.put dst u).tmps.getD d undef = a.tmps.getD d undef := by
 cases dst with
 | none => rfl
 | some d' =>
   have hne : d' ≠ d := fun e => h (by rw [e])
   show (a.tmps.setIfInBounds d' u).getD d undef = _
   simp [Array.getElem?_setIfInBounds_ne hne]
theorem put_getD_same (a : Act) (u : Value) {d : Tmp} (h : d < a.tmps.size) : (a.put (some d) u).tmps.getD d undef = u := by
 show (a.tmps.setIfInBounds d u).getD d undef = _
 simp [h]
theorem Told.knows {listed : Array Bool} {a : Act} {w : World} {j : Nat} {o : Oper} (h : Told ops F listed a w) (hj : j ∈ Region.ready md ops listed) (ho : ops[j]? = some o) : Knows md ops F o a w := by
 obtain ⟨_, o', ho', hall⟩ := mem_ready.1 hj
 have : o' = o := Option.some.inj (ho'.symm.trans ho)
 subst this
 exact fun e he hb oi d f hoi hg hd hs hf => h e.on oi d f hoi (hall e he hb) hg hd hs hf
theorem Told.put (hu : uniqB ops = true) {listed : Array Bool} {a : Act} {w w' : World} {j : Nat} {o : Oper} {kd : Kd} {u : Value} (h : Told ops F listed a w) (hj : ops[j]? = some o) (hk : kd.ok P md ops W0 F j o a) (hl : Le w w') (ho : kd.out u w') :
 Told ops F (listed.setIfInBounds j true) (a.put o.dst u) w' := by
 intro i oi d f hi hli hg hd hs hf
 rw [put_size] at hs
 by_cases hij : j = i
 · subst hij
   have : oi = o := Option.some.inj (hi.symm.trans hj)
   subst this
   rw [hd, put_getD_same a u hs]
   cases kd with
   | skip => simp only [Kd.ok, Region.wanted, hg] at hk; cases hk
   | one v => rw [hk.2.1] at hf; cases hf
   | make f' =>
     have : f' = f := Option.some.inj (hk.2.1.symm.trans hf)
     subst this
     exact ho
 · rw [getD_set_ne false hij] at hli
   rw [put_getD_ne a u (uniqB_spec hu hi hj (Ne.symm hij) hd)]
   exact (h i oi d f hi hli hg hd hs hf).later hl
theorem Knows.put_iff (hu : uniqB ops = true) {i : Nat} {oi oj : Oper} {a : Act} {u : Value} {w : World} (hi : ops[i]? = some oi) (hno : ∀ e ∈ oj.after, Region.binds md e = true → e.on ≠ i) :
 Knows md ops F oj (a.put oi.dst u) w ↔ Knows md ops F oj a w := by
 unfold Knows
 rw [put_size]
 constructor <;> intro h e he hb o d f ho hg hd hs hf
 · rw [← put_getD_ne a u (uniqB_spec hu ho hi (hno e he hb) hd)]; exact h e he hb o d f ho hg hd hs hf
 · rw [put_getD_ne a u (uniqB_spec hu ho hi (hno e he hb) hd)]; exact h e he hb o d f ho hg hd hs hf
theorem Kd.ok_put (hu : uniqB ops = true) {i j : Nat} {oi oj : Oper} {a : Act} {u : Value} {kd : Kd} (hi : ops[i]? = some oi) (hl : ∀ d, oi.dst = some d → d ∉ oj.looksAt ops) (hs : ∀ cs b, oj.op ≠ .select cs b)
 (hno : ∀ e ∈ oj.after, Region.binds md e = true → e.on ≠ i) : kd.ok P md ops W0 F j oj (a.put oi.dst u) ↔ kd.ok P md ops W0 F j oj a := by
 cases kd with
 | skip => simp only [Kd.ok]; rw [wanted_put oj a oi.dst u hl]
 | one v => simp only [Kd.ok, Oper.quietAt]; rw [wanted_put oj a oi.dst u hl, execOp_put oj hs a oi.dst u hl]
 | make f =>
   simp only [Kd.ok, Oper.grows]
   rw [wanted_put oj a oi.dst u hl, execOp_put oj hs a oi.dst u hl]
   have : ∀ w, Knows md ops F oj (a.put oi.dst u) w ↔ Knows md ops F oj a w := fun w => Knows.put_iff hu hi hno
   simp only [this]
theorem Kd.some_out {listed : Array Bool} {a : Act} {w : World} {j : Nat} {o : Oper} {kd : Kd} (hw : Cl W0 w) (h : Told ops F listed a w) (hj : j ∈ Region.ready md ops listed) (ho : ops[j]? = some o) (hk : kd.ok P md ops W0 F j o a) : ∃ u w', Le w w' ∧ kd.out u w' := by
 cases kd with
 | skip => exact ⟨undef, w, Le.refl w, rfl⟩
 | one v => exact ⟨v, w, Le.refl w, rfl⟩
 | make f => exact grows_some (hk.2.2 w hw (h.knows hj ho))
theorem wpAnyG_first (hu : uniqB ops = true) {i : Nat} {oi : Oper} (hi : ops[i]? = some oi) (hsel : ∀ (j : Nat) (o : Oper) cs b, ops[j]? = some o → o.op ≠ .select cs b) :
 ∀ (fuel : Nat) (listed : Array Bool) (a : Act) (w : World), Cl W0 w → Told ops F listed a w →
   (∀ j oj, ops[j]? = some oj → j ≠ i → listed.getD j true = false → (∀ e ∈ oj.after, Region.binds md e = true → e.on ≠ i) → oi.apart ops oj = true) →
   i ∈ Region.ready md ops listed → ∀ kd : Kd, kd.ok P md ops W0 F i oi a →
   (∀ u w', Le w w' → kd.out u w' → wpAnyG P md ops W0 F Q fuel (listed.setIfInBounds i true) (a.put oi.dst u) w') → wpAnyG P md ops W0 F Q (fuel + 1) listed a w := by
 intro fuel
 induction fuel with
 | zero =>
   intro listed a w hw ht _ hr kd hk H
   obtain ⟨u0, w0, hl0, ho0⟩ := Kd.some_out hw ht hr hi hk
   refine ⟨fun h => (by rw [h] at hr; cases hr), fun j hj => ?_⟩
   by_cases hji : j = i
   · subst hji; unfold gOp; rw [hi]; exact ⟨kd, hk, H⟩
   · have := ready_mono hj hji
     rw [(H u0 w0 hl0 ho0).1] at this
     cases this
 | succ fuel ih =>
   intro listed a w hw ht hfree hr kd hk H
   obtain ⟨u0, w0, hl0, ho0⟩ := Kd.some_out hw ht hr hi hk
   refine ⟨fun h => (by rw [h] at hr; cases hr), fun j hj => ?_⟩
   by_cases hji : j = i
   · subst hji; unfold gOp; rw [hi]; exact ⟨kd, hk, H⟩
   · obtain ⟨hjun, oj, hoj, hall⟩ := mem_ready.1 hj
     have hnot : ∀ e ∈ oj.after, Region.binds md e = true → e.on ≠ i := fun e he hb heq => by
        have h1 := hall e he hb
        have h0 := (mem_ready.1 hr).1
        rw [heq] at h1
        rcases Nat.lt_or_ge i listed.size with h' | h'
        · simp [h'] at h0 h1; rw [h0] at h1; cases h1
        · simp [Array.getElem?_eq_none h'] at h1
     have hnot2 : ∀ e ∈ oi.after, Region.binds md e = true → e.on ≠ j := fun e he hb heq => by
        obtain ⟨_, oi', hoi', hall'⟩ := mem_ready.1 hr
        have : oi' = oi := Option.some.inj (hoi'.symm.trans hi)
        subst this
        have h1 := hall' e he hb
        rw [heq] at h1
        rcases Nat.lt_or_ge j listed.size with h' | h'
        · simp [h'] at hjun h1; rw [hjun] at h1; cases h1
        · simp [Array.getElem?_eq_none h'] at h1
     obtain ⟨ha1, ha2, ha3⟩ := Oper.apart_spec (hfree j oj hoj hji hjun hnot)
     have h1 := (H u0 w0 hl0 ho0).2 j (ready_mono hj hji)
     unfold gOp at h1 ⊢
     rw [hoj] at h1 ⊢
     obtain ⟨kj, hkj, _⟩ := h1
     have hkj' := (Kd.ok_put hu hi ha1 (fun cs b => hsel j oj cs b hoj) hnot).1 hkj
     refine ⟨kj, hkj', fun uj w1 hl1 ho1 => ?_⟩
     refine ih (listed.setIfInBounds j true) (a.put oj.dst uj) w1 (hw.next hl1) (ht.put hu hoj hkj' hl1 ho1) (fun k ok hk' hki hun hno => ?_) (ready_mono hr (Ne.symm hji)) kd ((Kd.ok_put hu hoj ha3 (fun cs b => hsel i oi cs b hi) hnot2).2 hk) (fun u w' hl ho => ?_)
     · refine hfree k ok hk' hki ?_ hno
       by_cases hjk : j = k
       · subst hjk; exact hjun
       · rw [getD_set_ne true hjk] at hun; exact hun
     · have h2 := (H u w' (hl1.trans hl) ho).2 j (ready_mono hj hji)
       unfold gOp at h2
       rw [hoj] at h2
       obtain ⟨kj2, hkj2, hK2⟩ := h2
       have hkj2' := (Kd.ok_put hu hi ha1 (fun cs b => hsel j oj cs b hoj) hnot).1 hkj2
       have he := Kd.uniq hw hkj2' hkj'
       have h3 := hK2 uj w' (Le.refl _) (by rw [he]; exact Kd.out_later ho1 hl)
       rw [Array.setIfInBounds_comm _ _ hji, ← Act.put_comm a u uj ha2]
       exact h3
def wpG (P : Program) (md : Region.Mode) (ops : Array Oper) (W0 : World) (F : Nat → Option (Value → World → Prop)) (Q : Act → World → Prop) : List Oper → Nat → (World → Prop) → Act → Prop
 | [], _, G, a => ∀ w, Cl W0 w → G w → Q a w
 | o :: rest, k, G, a => ∃ kd : Kd, kd.ok P md ops W0 F k o a ∧ ∀ u, (∃ w, Cl W0 w ∧ G w ∧ kd.out u w) → wpG P md ops W0 F Q rest (k + 1) (fun w => G w ∧ kd.out u w) (a.put o.dst u)
theorem wpAnyG_lex (hu : uniqB ops = true) (hs : Region.noSelect ops = true) : ∀ (l : List Oper) (k : Nat) (listed : Array Bool) (a : Act) (w : World) (G : World → Prop), (∀ j, l[j]? = ops[k + j]?) →
 Region.lexFrom md ops l.length k listed = true → Cl W0 w → Told ops F listed a w → G w → (∀ w w', Le w w' → G w → G w') → wpG P md ops W0 F Q l k G a → wpAnyG P md ops W0 F Q l.length listed a w
 | [], _, _, _, w, _, _, hB, hw, _, hG, _, h => ⟨by simpa [Region.lexFrom] using hB, h w hw hG⟩
 | o :: l, k, listed, a, w, G, hl, hB, hw, ht, hG, hp, h => by
   have h0 : ops[k]? = some o := by simpa using (hl 0).symm
   simp only [List.length_cons, Region.lexFrom, Bool.and_eq_true] at hB
   obtain ⟨⟨hr, hf⟩, hB'⟩ := hB
   obtain ⟨kd, hk, hK⟩ := h
   exact wpAnyG_first hu h0 (Region.noSelect_spec hs) l.length listed a w hw ht (Region.free_spec h0 hf) (by simpa using hr) kd hk fun u w' hl1 ho =>
     wpAnyG_lex hu hs l (k + 1) _ _ w' _ (fun j => by have := hl (j + 1); simpa [Nat.add_assoc, Nat.add_comm 1 j] using this) hB' (hw.next hl1) (ht.put hu h0 hk hl1 ho) ⟨hp _ _ hl1 hG, ho⟩
        (fun w1 w2 h12 hg => ⟨hp _ _ h12 hg.1, Kd.out_later hg.2 h12⟩) (hK u ⟨w', hw.next hl1, hp _ _ hl1 hG, ho⟩)
theorem wpOp_of_gOp {ops' : Array Oper} {i : Nat} {listed : Array Bool} {a : Act} {w : World} {K K' : Act → World → Prop} {Q' : Exit → Act → World → Prop} (hop : ops'[i]? = ops[i]?) (hy : ∀ t, yielded ops' t = yielded ops t)
 (hu : uniqB ops = true) (hw : Cl W0 w) (ht : Told ops F listed a w) (hr : i ∈ Region.ready md ops listed)
 (h : ∀ a' w', Cl W0 w' → Told ops F (listed.setIfInBounds i true) a' w' → K a' w' → K' a' w') (hh : gOp P md ops W0 F i K a w) : wpOp P ops' Q' i K' a w := by
 unfold gOp at hh
 unfold wpOp
 obtain ⟨_, o, ho, _⟩ := mem_ready.1 hr
 rw [ho] at hh
 rw [hop, ho, hy]
 obtain ⟨kd, hk, hK⟩ := hh
 have hn : ∀ u w', Le w w' → kd.out u w' → K' (a.put o.dst u) w' := fun u w' hl hout => h _ _ (hw.next hl) (ht.put hu ho hk hl hout) (hK u w' hl hout)
 cases kd with
 | skip =>
   have hk' : Region.wanted o (yielded ops a.tmps) = false := hk
   simp only [hk', Bool.false_eq_true, if_false]
   exact hn undef w (Le.refl w) rfl
 | one v =>
   obtain ⟨hwant, _, hng, hq⟩ := hk
   simp only [hwant, if_true]
   left
   unfold Oper.wp
   rcases quiet_value hng (hq w hw) with he | ⟨he, rfl⟩ <;> rw [he] <;> exact hn _ w (Le.refl w) rfl
 | make f =>
   obtain ⟨hwant, _, hg⟩ := hk
   simp only [hwant, if_true]
   exact .inl (grows_wp (hg w hw (ht.knows hr ho)) hn)
theorem wpAny_of_G (hu : uniqB ops = true) {Q' : Exit → Act → World → Prop} (hQ : ∀ a w, Q a w → Q' .normal a w) : ∀ (fuel : Nat) (listed : Array Bool) (a : Act) (w : World), Cl W0 w → Told ops F listed a w →
 wpAnyG P md ops W0 F Q fuel listed a w → wpAny P md ops Q' fuel listed a w
 | 0, _, _, _, _, _, h => ⟨h.1, hQ _ _ h.2⟩
 | fuel + 1, _, _, _, hw, ht, h => ⟨fun h0 => hQ _ _ (h.1 h0), fun i hi => wpOp_of_gOp rfl (fun _ => rfl) hu hw ht hi (fun a' w' hw' ht' => wpAny_of_G hu hQ fuel _ a' w' hw' ht') (h.2 i hi)⟩
theorem told_none {a : Act} {w : World} (n : Nat) : Told ops F (Array.replicate n false) a w := by
 intro i oi d f _ hl
 have : (Array.replicate n false).getD i false = false := by
  by_cases h : i < n <;> simp [h]
 rw [this] at hl; cases hl
end
theorem wp_region_make {P : Program} {id : Nat} {Q : Exit → Act → World → Prop} {a : Act} {w : World} {l : List Oper} (F : Nat → Option (Value → World → Prop)) (hm : P.follows .mixedOrders = true) (hB : Region.lexB .any l.toArray = true) (hu : uniqB l.toArray = true)
 (h : wpG P .any l.toArray w F (fun a' w' => Q .normal a' w') l 0 (fun _ => True) a) : (Code.region id l.toArray true).wp P Q a w := by
 simp only [Region.lexB, Bool.and_eq_true] at hB
 refine wp_region_any hm ?_
 have hw : Cl w w.drew := Cl.of (Below.refl _ _).drew
 have := wpAnyG_lex hu hB.1 l 0 (Array.replicate l.toArray.size false) a w.drew (fun _ => True) (by simp) (by simpa using hB.2) hw (told_none _) trivial (fun _ _ _ h => h) h
 exact wpAny_of_G hu (fun _ _ h => h) _ _ _ _ hw (told_none _) this
theorem wpAny_of_G_tail {P : Program} {md : Region.Mode} {W0 : World} {F : Nat → Option (Value → World → Prop)} {l : List Oper} {o : Oper} {n : Nat} {Q' : Exit → Act → World → Prop} (hn : l.length = n + 1) (ho : l[n]? = some o) (hg : o.guard = none) (hd : o.dst = none)
 (hs : ∀ i, i < n → ∃ e ∈ o.after, Region.binds md e = true ∧ e.on = i) (hf : ∀ k q, l[k]? = some q → ∀ e ∈ q.after, Region.binds md e = true → e.on < k) (hFn : F n = none) (hu : uniqB (skipLast l).toArray = true) :
 ∀ (fuel : Nat) (listed : Array Bool) (a : Act) (w : World), Cl W0 w → Told (skipLast l).toArray F listed a w → listed.size = n + 1 → listed.getD n true = false →
   wpAnyG P md (skipLast l).toArray W0 F (fun a' w' => o.wp P a' w' (fun a'' w'' => Q' .normal a'' w'') Q') fuel listed a w → wpAny P md l.toArray Q' fuel listed a w := by
 have hne : ∀ listed : Array Bool, listed.size = n + 1 → listed.getD n true = false → Region.ready md l.toArray listed ≠ [] := by
  intro listed hsz hnl he
  have : ∀ k, k ≤ n → ∀ i, i < k → listed.getD i false = true := by
   intro k
   induction k with
   | zero => intro _ i hi; omega
   | succ k ih =>
     intro hk i hi
     rcases Nat.lt_succ_iff_lt_or_eq.1 hi with h | rfl
     · exact ih (by omega) i h
     · cases hl : listed.getD i true with
       | false =>
         have hmem : i ∈ Region.ready md l.toArray listed := by
          rw [mem_ready]
          refine ⟨hl, l[i]'(by omega), by simp, fun e he hb => ?_⟩
          exact ih (by omega) e.on (hf i _ (List.getElem?_eq_getElem (by omega)) e he hb)
         rw [he] at hmem; cases hmem
       | true =>
         have hi' : i < listed.size := by omega
         simp [hi'] at hl ⊢; exact hl
  have hmem : n ∈ Region.ready md l.toArray listed := by
   rw [mem_ready]
   refine ⟨hnl, o, by simpa using ho, fun e he hb => this n (Nat.le_refl _) e.on (hf n o ho e he hb)⟩
  rw [he] at hmem; cases hmem
 intro fuel
 induction fuel with
 | zero =>
   intro listed a w _ _ hsz hnl h
   have := h.1
   rw [skipLast_ready] at this
   exact absurd this (hne listed hsz hnl)
 | succ fuel ih =>
   intro listed a w hC hT hsz hnl h
   refine ⟨fun h0 => absurd h0 (hne listed hsz hnl), fun i hi => ?_⟩
   have hi' : i ∈ Region.ready md (skipLast l).toArray listed := by rw [skipLast_ready]; exact hi
   have hq := h.2 i hi'
   have hil : i < n + 1 := by
    obtain ⟨_, q, hq', _⟩ := mem_ready.1 hi
    have := (Array.getElem?_eq_some_iff.1 hq').1
    simpa [hn] using this
   by_cases hin : i = n
   · subst hin
     obtain ⟨_, q, hq', hall⟩ := mem_ready.1 hi
     have hqo : q = o := by
        have : l[i]? = some q := by simpa using hq'
        rw [ho] at this; exact (Option.some.inj this).symm
     subst hqo
     have hlist : ∀ j, j < i + 1 → (listed.setIfInBounds i true).getD j false = true := by
        intro j hj
        by_cases hji : j = i
        · subst hji; simp [hsz]
        · obtain ⟨e, he, hb, hon⟩ := hs j (by omega)
          have := hall e he hb
          rw [hon] at this
          have hjs : j < listed.size := by omega
          have hij : ¬ i = j := fun e => hji e.symm
          simp [hjs, hij] at this ⊢
          exact this
     have hempty : Region.ready md l.toArray (listed.setIfInBounds i true) = [] := by
        rw [List.eq_nil_iff_forall_not_mem]
        intro j hj
        obtain ⟨h1, q', h2, _⟩ := mem_ready.1 hj
        have hjl : j < i + 1 := by
         have := (Array.getElem?_eq_some_iff.1 h2).1
         simpa [hn] using this
        have h3 := hlist j hjl
        rw [getD_both h1] at h3
        cases h3
     have hK : q.wp P a w (fun a'' w'' => Q' .normal a'' w'') Q' := by
        unfold gOp at hq
        have h2 : (skipLast l).toArray[i]? = some ((skipLast l)[i]'(by rw [skipLast_len]; omega)) := by simp [skipLast_len, hn]
        have hsa := skipLast_after l i
        rw [ho, List.getElem?_eq_getElem (by rw [skipLast_len]; omega)] at hsa
        simp only [Option.map_some, Option.some.injEq, Prod.mk.injEq] at hsa
        obtain ⟨_, hsd, _⟩ := hsa
        rw [h2] at hq
        simp only at hq
        obtain ⟨kd, hk, hK⟩ := hq
        have hfin : ∀ v, wpAnyG P md (skipLast l).toArray W0 F (fun a' w' => q.wp P a' w' (fun a'' w'' => Q' .normal a'' w'') Q') fuel (listed.setIfInBounds i true) (a.put ((skipLast l)[i]'(by rw [skipLast_len]; omega)).dst v) w → q.wp P a w (fun a'' w'' => Q' .normal a'' w'') Q' := by
         intro v hv
         rw [hsd, hd] at hv
         have ea : a.put none v = a := rfl
         rw [ea] at hv
         cases fuel with
         | zero => exact hv.2
         | succ f => exact hv.1 (by rw [skipLast_ready]; exact hempty)
        cases kd with
        | skip => exact hfin undef (hK undef w (Le.refl w) rfl)
        | one v => exact hfin v (hK v w (Le.refl w) rfl)
        | make f =>
          have hk2 := hk.2.1
          rw [hFn] at hk2; cases hk2
     unfold wpOp
     have ho' : l.toArray[i]? = some q := by simpa using ho
     rw [ho']
     simp only
     rw [if_pos (by simp [Region.wanted, hg])]
     left
     refine Oper.wp_mono (fun a'' w'' h3 => ?_) hK
     cases fuel with
     | zero => exact ⟨hempty, h3⟩
     | succ f => exact ⟨fun _ => h3, fun j hj => by rw [hempty] at hj; cases hj⟩
   · have hop : l.toArray[i]? = (skipLast l).toArray[i]? := by
        have := skipLast_lt l i (by omega)
        simpa using this.symm
     refine wpOp_of_gOp hop (fun t => (skipLast_yielded l t).symm) hu hC hT hi' (fun a' w' hC' hT' hk => ih (listed.setIfInBounds i true) a' w' hC' hT' (by simpa using hsz) (by
        rw [← hnl]; simp [hsz, hin]) hk) hq
theorem wp_region_make_last {P : Program} {id : Nat} {Q : Exit → Act → World → Prop} {a : Act} {w : World} {l : List Oper} (F : Nat → Option (Value → World → Prop)) (hm : P.follows .mixedOrders = true) (hB : Region.lexB .any (skipLast l).toArray = true) (hu : uniqB (skipLast l).toArray = true) (ht : tailB .any l = true)
 (hFn : F (l.length - 1) = none) (h : wpG P .any (skipLast l).toArray w F (fun a' w' => (lastOf l).wp P a' w' (fun a'' w'' => Q .normal a'' w'') Q) (skipLast l) 0 (fun _ => True) a) : (Code.region id l.toArray true).wp P Q a w := by
 unfold tailB at ht
 cases ho : l[l.length - 1]? with
 | none => rw [ho] at ht; cases ht
 | some o =>
   rw [ho] at ht
   simp only [Bool.and_eq_true, List.all_eq_true, List.mem_range, Option.isNone_iff_eq_none] at ht
   obtain ⟨⟨⟨hg, hd⟩, hs⟩, hf⟩ := ht
   have hlen : l.length = (l.length - 1) + 1 := by have := (List.getElem?_eq_some_iff.1 ho).1; omega
   rw [← lastOf_eq l o ho] at h
   simp only [Region.lexB, Bool.and_eq_true] at hB
   have hw : Cl w w.drew := Cl.of (Below.refl _ _).drew
   have hany := wpAnyG_lex hu hB.1 (skipLast l) 0 (Array.replicate (skipLast l).toArray.size false) a w.drew (fun _ => True) (by simp) (by simpa using hB.2) hw (told_none _) trivial (fun _ _ _ h => h) h
   refine wp_region_any hm ?_
   have := wpAny_of_G_tail (n := l.length - 1) (o := o) (Q' := Q) hlen ho hg hd (fun i hi => ?_) (fun k q hk e he hb => ?_) hFn hu (skipLast l).length (Array.replicate (skipLast l).toArray.size false) a w.drew hw (told_none _) (by simp [skipLast_len]; omega) (by simp [skipLast_len, show l.length - 1 < l.length by omega]) hany
   · simpa [skipLast_len] using this
   · have := hs i hi
     obtain ⟨e, he, hb⟩ := Array.any_eq_true'.1 this
     simp only [Bool.and_eq_true, beq_iff_eq] at hb
     exact ⟨e, he, hb.1, hb.2⟩
   · have hkl := (List.getElem?_eq_some_iff.1 hk).1
     have := hf k hkl
     rw [hk] at this
     have h2 := Array.all_eq_true'.1 this e he
     simp [hb] at h2
     exact h2
attribute [go_sem] growUpon Oper.grows
section
variable {P : Program} {ops : Array Oper} {W0 : World} {F : Nat → Option (Value → World → Prop)} {Q : Act → World → Prop} {o : Oper} {rest : List Oper} {k : Nat} {G : World → Prop} {a : Act}
theorem wpG_one (hw : Region.wanted o (yielded ops a.tmps) = true) (hF : F k = none) (hn : noGo o.op = true) (h : ∀ K : Act → Prop, (∀ a', wpG P .any ops W0 F Q rest (k + 1) G a' → K a') → o.quiet P a (fun w' => ∃ u, w' = ovr W0 u) K) : wpG P .any ops W0 F Q (o :: rest) k G a := by
 obtain ⟨v, hv, hK⟩ := h _ (fun _ h => h)
 refine ⟨.one v, ⟨hw, hF, hn, hv⟩, fun u hu => ?_⟩
 obtain ⟨w, _, _, he⟩ := hu
 have he' : u = v := he
 subst he'
 have e : (fun w => G w ∧ Kd.out (.one u) u w) = G := by funext w; exact propext ⟨fun h => h.1, fun h => ⟨h, rfl⟩⟩
 rw [e]; exact hK
theorem wpG_skip (hw : Region.wanted o (yielded ops a.tmps) = false) (h : wpG P .any ops W0 F Q rest (k + 1) G (a.put o.dst undef)) : wpG P .any ops W0 F Q (o :: rest) k G a := by
 refine ⟨.skip, hw, fun u hu => ?_⟩
 obtain ⟨w, _, _, he⟩ := hu
 have he' : u = undef := he
 subst he'
 have e : (fun w => G w ∧ Kd.out .skip undef w) = G := by funext w; exact propext ⟨fun h => h.1, fun h => ⟨h, rfl⟩⟩
 rw [e]; exact h
theorem wpG_make (f : Value → World → Prop) (hw : Region.wanted o (yielded ops a.tmps) = true) (hF : F k = some f) (hg : ∀ w, Cl W0 w → Knows .any ops F o a w → Oper.grows P o a w f)
 (h : ∀ u, (∃ w, Cl W0 w ∧ f u w) → wpG P .any ops W0 F Q rest (k + 1) (fun w => G w ∧ Box f u w) (a.put o.dst u)) : wpG P .any ops W0 F Q (o :: rest) k G a :=
 ⟨.make f, ⟨hw, hF, hg⟩, fun u ⟨w, hc, _, hb⟩ => h u ⟨w, hc, Box.now hb⟩⟩
theorem wpG_nil (h : ∀ w, Cl W0 w → G w → Q a w) : wpG P .any ops W0 F Q [] k G a := h
end
theorem call_grow {P : Program} {f : FuncId} {args : Array Value} {w : World} {v : Value} (h : Calls P f args w fun e w' => e = .returned v ∧ Below w.heap.size w w') :
 Calls P f args w fun e w' => ∃ u, e = .returned u ∧ Le w w' ∧ Box (fun u _ => u = v) u w' := h.mono fun _ _ ⟨he, hb⟩ => ⟨v, he, hb, fun _ _ => rfl⟩
def NewAt (w0 : World) (cs : Array Value) (t : TypeId) (u : Value) (w : World) : Prop := ∃ b, u = .pointer (some ⟨b, 0, none⟩) ∧ w.heap[b]? = some (.cells cs t (0, 0)) ∧ w0.heap.size ≤ b
theorem new_grow {w0 w : World} {cs : Array Value} {t : TypeId} (h : Cl w0 w) : Le w (w.alloc (.cells cs t)) ∧ Box (NewAt w0 cs t) (.pointer (some ⟨w.heap.size, 0, none⟩)) (w.alloc (.cells cs t)) :=
 ⟨(Below.refl _ _).alloc (Nat.le_refl _) _, fun _ h2 => ⟨_, rfl, (h2.block _ (by simp)).trans (heap_alloc_new w _), h.le.size⟩⟩
theorem NewAt.at {w0 w : World} {cs : Array Value} {t : TypeId} {b : Nat} (h : NewAt w0 cs t (.pointer (some ⟨b, 0, none⟩)) w) : w.heap[b]? = some (.cells cs t (0, 0)) ∧ w0.heap.size ≤ b := by
 obtain ⟨b', e, h1, h2⟩ := h
 have : b = b' := by injection e with e1; injection e1 with e2; injection e2
 subst this
 exact ⟨h1, h2⟩
end Go.Proofs.YtnkaoplgmglijaaDoor
/- A region that draws its order and ends in a store and one operation more, where some operations that only reckon may come behind the store: one walk in the order of the text serves every order. -/
namespace Go.Proofs.YtnkaoplgmglijaaDoor
open Go.RowKit
theorem noGo_value {o : Oper} (h : noGo o.op = true) {P : Program} {ρ : Operand → Value} {w w' : World} : (execOp ρ o).run P w ≠ .ok .skip w' := by
 have vs : ∀ {s : Sem Value} {w w' : World}, (do pure (Next.value (← s)) : Sem Next).run P w ≠ .ok .skip w' := by
  intro s w w'
  rw [Sem.run_bind]
  cases s.run P w <;> simp [Result.andThen]
 have ps : ∀ {w w' : World}, (runtimePanic .nilDeref : Sem Next).run P w ≠ .ok .skip w' := by
  intro w w'; simp [runtimePanic, goPanic]
 unfold execOp
 cases hop : o.op <;> rw [hop] at h <;> simp only [noGo] at h <;> try exact absurd h (by decide)
 all_goals try exact vs
 all_goals try (simp; done)
 case pick c a b =>
  change (do pure (Next.value (if ← asBool (ρ c) then ρ a else ρ b)) : Sem Next).run P w ≠ _
  rw [Sem.run_bind]
  cases (asBool (ρ c)).run P w <;> simp [Result.andThen]
 case nilCheck x =>
  dsimp only
  split
  all_goals try exact ps
  all_goals try (simp; done)
  split
  all_goals try exact ps
  all_goals try (simp; done)
  rw [Sem.run_bind]
  cases Sem.run P program w with
  | halt _ _ => simp [Result.andThen]
  | ok p w1 =>
    simp only [Result.andThen]
    rw [Sem.run_bind]
    generalize Sem.run P (nilAhead _ _ _ _) w1 = r
    cases r with
    | halt _ _ => simp [Result.andThen]
    | ok b w2 =>
      simp only [Result.andThen]
      split
      · simp [unsupported, Result.andThen]
      · simp
 case call c =>
  change (do let d ← resolve ρ c o.type; invoke d.target d.args : Sem Next).run P w ≠ _
  rw [Sem.run_bind]
  unfold resolve
  cases hc : c.callee with
  | builtin b =>
    rw [hc] at h
    simp only [Sem.run_pure, Result.andThen_ok, invoke]
    cases b <;> first | exact vs | (simp at h)
  | invoke r n => rw [hc] at h; simp at h
  | value f => rw [hc] at h; simp at h
def sleepTwo : List Oper → List Oper
 | [] => []
 | [o] => [o]
 | [o, o'] => [{ o with op := .move (.const (.bool true)), dst := none }, { o' with op := .move (.const (.bool true)), dst := none }]
 | o :: o' :: o'' :: r => o :: sleepTwo (o' :: o'' :: r)
theorem sleepTwo_two (o o' : Oper) : sleepTwo [o, o'] = [{ o with op := .move (.const (.bool true)), dst := none }, { o' with op := .move (.const (.bool true)), dst := none }] := rfl
theorem sleepTwo_cons (o o' o'' : Oper) (r : List Oper) : sleepTwo (o :: o' :: o'' :: r) = o :: sleepTwo (o' :: o'' :: r) := rfl
theorem sleepTwo_len : ∀ l : List Oper, (sleepTwo l).length = l.length
 | [] => rfl
 | [_] => rfl
 | [_, _] => rfl
 | o :: o' :: o'' :: r => by rw [sleepTwo_cons, List.length_cons, sleepTwo_len (o' :: o'' :: r)]; rfl
theorem sleepTwo_lt : ∀ (l : List Oper) (i : Nat), i + 2 < l.length → (sleepTwo l)[i]? = l[i]?
 | [], _, h => by simp at h
 | [_], _, h => by simp at h
 | [_, _], i, h => absurd h (by show ¬ i + 2 < 2; omega)
 | o :: o' :: o'' :: r, 0, _ => rfl
 | o :: o' :: o'' :: r, i + 1, h => by
   rw [sleepTwo_cons, List.getElem?_cons_succ, List.getElem?_cons_succ]
   exact sleepTwo_lt (o' :: o'' :: r) i (by simp at h ⊢; omega)
theorem sleepTwo_after : ∀ (l : List Oper) (i : Nat), ((sleepTwo l)[i]?).map (fun o => (o.after, o.guard)) = (l[i]?).map fun o => (o.after, o.guard)
 | [], _ => rfl
 | [_], _ => rfl
 | [_, _], 0 => rfl
 | [_, _], 1 => rfl
 | [_, _], _ + 2 => rfl
 | o :: o' :: o'' :: r, 0 => rfl
 | o :: o' :: o'' :: r, i + 1 => by
   rw [sleepTwo_cons, List.getElem?_cons_succ, List.getElem?_cons_succ]
   exact sleepTwo_after (o' :: o'' :: r) i
theorem sleepTwo_dst : ∀ (l : List Oper) (i : Nat), l.length ≤ i + 2 → 2 ≤ l.length → ∀ o, (sleepTwo l)[i]? = some o → o.dst = none
 | [], _, _, h => by simp at h
 | [_], _, _, h => by simp at h
 | [_, _], 0, _, _ => fun o h => by cases h; rfl
 | [_, _], 1, _, _ => fun o h => by cases h; rfl
 | [_, _], _ + 2, _, _ => fun o h => by simp [sleepTwo] at h
 | o :: o' :: o'' :: r, 0, h, _ => by simp at h
 | o :: o' :: o'' :: r, i + 1, h, _ => by
   intro q hq
   rw [sleepTwo_cons, List.getElem?_cons_succ] at hq
   exact sleepTwo_dst (o' :: o'' :: r) i (by simp at h ⊢; omega) (by simp) q hq
theorem sleepTwo_ready (md : Region.Mode) (l : List Oper) (listed : Array Bool) : Region.ready md (sleepTwo l).toArray listed = Region.ready md l.toArray listed := by
 unfold Region.ready
 rw [List.size_toArray, List.size_toArray, sleepTwo_len]
 apply List.filter_congr
 intro i _
 have := congrArg (fun x => x.map fun q : Array Edge × Option (Nat × Bool) => q.1) (sleepTwo_after l i)
 simp only [Option.map_map, List.getElem?_toArray] at this ⊢
 congr 1
 have h2 : ((sleepTwo l)[i]?.map fun o => o.after) = (l[i]?.map fun o => o.after) := by simpa [Function.comp_def] using this
 have h3 : ∀ x : Option Oper, (x.map fun o => o.after.all fun e => !Region.binds md e || listed.getD e.on false) = (x.map fun o => o.after).map fun a => a.all fun e => !Region.binds md e || listed.getD e.on false := fun x => by cases x <;> rfl
 rw [h3, h3, h2]
theorem sleepTwo_wanted (l : List Oper) (o : Oper) (hg : ∀ g b, o.guard = some (g, b) → g + 2 < l.length) (t : Array Value) : Region.wanted o (yielded (sleepTwo l).toArray t) = Region.wanted o (yielded l.toArray t) := by
 unfold Region.wanted
 cases h : o.guard with
 | none => rfl
 | some q =>
   obtain ⟨g, b⟩ := q
   have := sleepTwo_lt l g (hg g b h)
   simp only
   have hy : yielded (sleepTwo l).toArray t g = yielded l.toArray t g := by
    unfold yielded
    rw [List.getElem?_toArray, List.getElem?_toArray, this]
   rw [hy]
def waitsOn (md : Region.Mode) (o : Oper) (i : Nat) : Bool := o.after.any fun e => Region.binds md e && e.on == i
theorem waitsOn_spec {md : Region.Mode} {o : Oper} {i : Nat} (h : waitsOn md o i = true) : ∃ e ∈ o.after, Region.binds md e = true ∧ e.on = i := by
 obtain ⟨e, he, hb⟩ := Array.any_eq_true'.1 h
 simp only [Bool.and_eq_true, beq_iff_eq] at hb
 exact ⟨e, he, hb.1, hb.2⟩
theorem waitsOn_of {md : Region.Mode} {o : Oper} {i : Nat} {e : Edge} (he : e ∈ o.after) (hb : Region.binds md e = true) (hi : e.on = i) : waitsOn md o i = true :=
 Array.any_eq_true'.2 ⟨e, he, by simp [hb, hi]⟩
structure TwoOk (md : Region.Mode) (l : List Oper) (L : List Nat) (n : Nat) (s t : Oper) : Prop where
 len : l.length = n + 2
 hs : l[n]? = some s
 ht : l[n + 1]? = some t
 sg : s.guard = none
 sd : s.dst = none
 tg : t.guard = none
 sw : ∀ i, i < n → i ∈ L ∨ waitsOn md s i = true
 tw : ∀ i, i < n + 1 → waitsOn md t i = true
 fw : ∀ k q, l[k]? = some q → ∀ e ∈ q.after, Region.binds md e = true → e.on < k
 gd : ∀ (k : Nat) q, l[k]? = some q → ∀ g b, q.guard = some (g, b) → g < n
 lt : ∀ i ∈ L, i < n
 fr : ∀ i ∈ L, ∀ oi, l[i]? = some oi → ∀ (j : Nat) oj, l[j]? = some oj → j ≠ i → waitsOn md oj i = true ∨ oi.apart l.toArray oj = true ∨ waitsOn md oi j = true
def twoB (md : Region.Mode) (l : List Oper) (L : List Nat) : Bool :=
 match l[l.length - 2]?, l[l.length - 1]? with
 | some s, some t => decide (2 ≤ l.length) && s.guard.isNone && s.dst.isNone && t.guard.isNone && ((List.range (l.length - 2)).all fun i => L.contains i || waitsOn md s i) && ((List.range (l.length - 1)).all fun i => waitsOn md t i) &&
   ((List.range l.length).all fun k => match l[k]? with | some q => (q.after.all fun e => !Region.binds md e || decide (e.on < k)) && (match q.guard with | some (g, _) => decide (g < l.length - 2) | none => true) | none => true) &&
   (L.all fun i => decide (i < l.length - 2) && (List.range l.length).all fun j => j == i || (match l[i]?, l[j]? with | some oi, some oj => waitsOn md oj i || (oi.apart l.toArray oj || waitsOn md oi j) | _, _ => true))
 | _, _ => false
theorem twoB_spec {md : Region.Mode} {l : List Oper} {L : List Nat} (h : twoB md l L = true) : ∃ n s t, TwoOk md l L n s t := by
 unfold twoB at h
 cases hs : l[l.length - 2]? with
 | none => rw [hs] at h; simp at h
 | some s =>
   cases ht : l[l.length - 1]? with
   | none => rw [hs, ht] at h; simp at h
   | some t =>
     rw [hs, ht] at h
     simp only [Bool.and_eq_true, decide_eq_true_eq, List.all_eq_true, List.mem_range, Option.isNone_iff_eq_none] at h
     obtain ⟨⟨⟨⟨⟨⟨⟨h1, h2⟩, h3⟩, h4⟩, h5⟩, h6⟩, h7⟩, h8⟩ := h
     refine ⟨l.length - 2, s, t, ⟨by omega, hs, by rw [← ht]; congr 1; omega, h2, h3, h4, fun i hi => ?_, fun i hi => h6 i (by omega), fun k q hq e he hb => ?_, fun k q hq g b hg => ?_, fun i hi => (h8 i hi).1, fun i hi oi hoi j oj hoj hji => ?_⟩⟩
     · have := h5 i hi
       simpa using this
     · have hk := (List.getElem?_eq_some_iff.1 hq).1
       have := h7 k hk
       rw [hq] at this
       simp only [Bool.and_eq_true] at this
       have h9 := Array.all_eq_true'.1 this.1 e he
       simp [hb] at h9
       exact h9
     · have hk := (List.getElem?_eq_some_iff.1 hq).1
       have := h7 k hk
       rw [hq] at this
       simp only [Bool.and_eq_true, hg, decide_eq_true_eq] at this
       exact this.2
     · have hj := (List.getElem?_eq_some_iff.1 hoj).1
       have := (h8 i hi).2 j hj
       simp only [hoi, hoj, Bool.or_eq_true, beq_iff_eq, hji, false_or] at this
       exact this
section
variable {P : Program} {md : Region.Mode} {W0 : World} {F : Nat → Option (Value → World → Prop)} {l : List Oper} {L : List Nat} {n : Nat} {s t : Oper} {Q' : Exit → Act → World → Prop}
theorem not_ready_of {ops : Array Oper} {j i : Nat} {o : Oper} {listed : Array Bool} (ho : ops[j]? = some o) (hw : waitsOn md o i = true) (hi : listed.getD i false = false) : j ∉ Region.ready md ops listed := by
 intro hj
 obtain ⟨_, o', ho', hall⟩ := mem_ready.1 hj
 have : o' = o := Option.some.inj (ho'.symm.trans ho)
 subst this
 obtain ⟨e, he, hb, hon⟩ := waitsOn_spec hw
 have := hall e he hb
 rw [hon, hi] at this
 cases this
theorem getD_ff {listed : Array Bool} {i : Nat} (h : listed.getD i true = false) : listed.getD i false = false := getD_both h
theorem wpOp_of_gOp2 {ops ops' : Array Oper} {i : Nat} {listed : Array Bool} {a : Act} {w : World} {K K' : Act → World → Prop} (hop : ops'[i]? = ops[i]?) (hy : ∀ o, ops[i]? = some o → Region.wanted o (yielded ops' a.tmps) = Region.wanted o (yielded ops a.tmps))
 (hu : uniqB ops = true) (hw : Cl W0 w) (ht : Told ops F listed a w) (hr : i ∈ Region.ready md ops listed)
 (h : ∀ a' w', Cl W0 w' → Told ops F (listed.setIfInBounds i true) a' w' → K a' w' → K' a' w') (hh : gOp P md ops W0 F i K a w) : wpOp P ops' Q' i K' a w := by
 unfold gOp at hh
 unfold wpOp
 obtain ⟨_, o, ho, _⟩ := mem_ready.1 hr
 have hy' := hy o ho
 rw [ho] at hh
 rw [hop, ho]
 simp only [hy']
 obtain ⟨kd, hk, hK⟩ := hh
 have hn : ∀ u w', Le w w' → kd.out u w' → K' (a.put o.dst u) w' := fun u w' hl hout => h _ _ (hw.next hl) (ht.put hu ho hk hl hout) (hK u w' hl hout)
 cases kd with
 | skip =>
   have hk' : Region.wanted o (yielded ops a.tmps) = false := hk
   simp only [hk', Bool.false_eq_true, if_false]
   exact hn undef w (Le.refl w) rfl
 | one v =>
   obtain ⟨hwant, _, hng, hq⟩ := hk
   simp only [hwant, if_true]
   left
   unfold Oper.wp
   rcases quiet_value hng (hq w hw) with he | ⟨he, rfl⟩ <;> rw [he] <;> exact hn _ w (Le.refl w) rfl
 | make f =>
   obtain ⟨hwant, _, hg⟩ := hk
   simp only [hwant, if_true]
   exact .inl (grows_wp (hg w hw (ht.knows hr ho)) hn)
theorem wpAnyH_of_two (hT : TwoOk md l L n s t) (hLF : ∀ i ∈ L, F i = none) (hFn : F n = none ∧ F (n + 1) = none) (hu : uniqB (sleepTwo l).toArray = true) (hsel : Region.noSelect l.toArray = true)
 (hQ : ∀ (c : List PanicEntry) a d v w, Q' (.panic c) (Act.put a d v) w → Q' (.panic c) a w) :
 ∀ (fuel : Nat) (listed : Array Bool) (a : Act) (w : World), Cl W0 w → Told (sleepTwo l).toArray F listed a w → listed.size = n + 2 → listed.getD n true = false → listed.getD (n + 1) true = false →
   wpAnyG P md (sleepTwo l).toArray W0 F (fun a' w' => s.wp P a' w' (fun a1 w1 => Cl W0 w1 ∧ t.wp P a1 w1 (fun a2 w2 => Cl W0 w2 ∧ Q' .normal a2 w2) Q') Q') fuel listed a w → wpAnyH P md l.toArray Q' (Cl W0) fuel listed a w := by
 have hin : ∀ {i : Nat} {q : Oper}, l[i]? = some q → i < n + 2 := fun {i q} h => by have := (List.getElem?_eq_some_iff.1 h).1; rw [hT.len] at this; exact this
 have hlt : ∀ {i : Nat}, i < n → (sleepTwo l).toArray[i]? = l.toArray[i]? := fun {i} h => by
  rw [List.getElem?_toArray, List.getElem?_toArray]; exact sleepTwo_lt l i (by rw [hT.len]; omega)
 have hearly : ∀ listed : Array Bool, listed.size = n + 2 → ∀ k, k ≤ n → (∃ i, i < k ∧ listed.getD i true = false) → ∃ i, i < k ∧ i ∈ Region.ready md l.toArray listed := by
  intro listed hsz k
  induction k with
  | zero => rintro _ ⟨i, hi, _⟩; omega
  | succ k ih =>
    intro hk hex
    by_cases h0 : ∃ i, i < k ∧ listed.getD i true = false
    · obtain ⟨i, hi, hr⟩ := ih (by omega) h0
      exact ⟨i, by omega, hr⟩
    · obtain ⟨i, hi, hl⟩ := hex
      have hik : i = k := by
       rcases Nat.lt_succ_iff_lt_or_eq.1 hi with h | h
       · exact absurd ⟨i, h, hl⟩ h0
       · exact h
      subst hik
      refine ⟨i, by omega, ?_⟩
      rw [mem_ready]
      have hil : i < l.length := by rw [hT.len]; omega
      refine ⟨hl, l[i], by simp, fun e he hb => ?_⟩
      have hei := hT.fw i _ (List.getElem?_eq_getElem hil) e he hb
      cases hq : listed.getD e.on true with
      | false => exact absurd ⟨e.on, hei, hq⟩ h0
      | true =>
        have : e.on < listed.size := by omega
        simp [this] at hq ⊢; exact hq
 intro fuel
 induction fuel with
 | zero =>
   intro listed a w _ _ hsz hn hn1 h
   have h0 := h.1
   rw [sleepTwo_ready] at h0
   exfalso
   by_cases hex : ∃ i, i < n ∧ listed.getD i true = false
   · obtain ⟨i, _, hi⟩ := hearly listed hsz n (Nat.le_refl _) hex
     rw [h0] at hi; cases hi
   · have : n ∈ Region.ready md l.toArray listed := by
        rw [mem_ready]
        refine ⟨hn, s, by simpa using hT.hs, fun e he hb => ?_⟩
        have hei := hT.fw n s hT.hs e he hb
        cases hq : listed.getD e.on true with
        | false => exact absurd ⟨e.on, hei, hq⟩ hex
        | true =>
          have : e.on < listed.size := by omega
          simp [this] at hq ⊢; exact hq
     rw [h0] at this; cases this
 | succ fuel ih =>
   intro listed a w hC hTold hsz hn hn1 h
   by_cases hlate : ∃ i ∈ L, i ∈ Region.ready md l.toArray listed
   · obtain ⟨i, hiL, hir⟩ := hlate
     have hi' : i ∈ Region.ready md (sleepTwo l).toArray listed := by rw [sleepTwo_ready]; exact hir
     have hin' := hT.lt i hiL
     obtain ⟨_, oi, hoi, _⟩ := mem_ready.1 hir
     have hoi2 : (sleepTwo l).toArray[i]? = some oi := by rw [hlt hin']; exact hoi
     have hq := h.2 i hi'
     unfold gOp at hq
     rw [hoi2] at hq
     obtain ⟨kd, hk, hK⟩ := hq
     have hgd : ∀ g b, oi.guard = some (g, b) → g + 2 < l.length := fun g b hg => by
        have := hT.gd i oi (by simpa using hoi) g b hg
        rw [hT.len]; omega
     have hap := fun (j : Nat) (oj : Oper) (hj : l.toArray[j]? = some oj) (hji : j ≠ i) (hun : listed.getD j true = false) (hno : ∀ e ∈ oj.after, Region.binds md e = true → e.on ≠ i) => show oi.apart l.toArray oj = true by
        rcases hT.fr i hiL oi (by simpa using hoi) j oj (by simpa using hj) hji with hw | hw | hw
        · obtain ⟨e, he, hb, hon⟩ := waitsOn_spec hw
          exact absurd hon (hno e he hb)
        · exact hw
        · exact absurd hir (not_ready_of hoi hw (getD_ff hun))
     have hrest : ∀ v, kd.out v w → wpAnyH P md l.toArray Q' (Cl W0) fuel (listed.setIfInBounds i true) (a.put oi.dst v) w := fun v ho => by
        refine ih (listed.setIfInBounds i true) (a.put oi.dst v) w hC (hTold.put hu hoi2 hk (Le.refl w) ho) (by simpa using hsz) ?_ ?_ (hK v w (Le.refl w) ho)
        · rw [getD_set_ne true (by omega)]; exact hn
        · rw [getD_set_ne true (by omega)]; exact hn1
     cases kd with
     | skip =>
       have hk' : Region.wanted oi (yielded (sleepTwo l).toArray a.tmps) = false := hk
       rw [sleepTwo_wanted l oi hgd] at hk'
       exact wpAnyH_first hoi (Region.noSelect_spec hsel) (fun c a w => hQ c a _ _ w) fuel listed a w hap hir (.inr ⟨hk', rfl⟩) hC (hrest undef rfl)
     | one v =>
       obtain ⟨hk1, _, hk3, hk4⟩ := hk
       rw [sleepTwo_wanted l oi hgd] at hk1
       refine wpAnyH_first hoi (Region.noSelect_spec hsel) (fun c a w => hQ c a _ _ w) fuel listed a w hap hir (.inl ⟨hk1, fun w2 hw2 => ?_⟩) hC (hrest v rfl)
       rcases quiet_value hk3 (hk4 w2 hw2) with h1 | ⟨h1, _⟩
       · exact h1
       · exact absurd h1 (noGo_value hk3)
     | make f =>
       have := hk.2.1
       rw [hLF i hiL] at this; cases this
   · have hne : Region.ready md l.toArray listed ≠ [] := by
        intro h0
        by_cases hex : ∃ i, i < n ∧ listed.getD i true = false
        · obtain ⟨i, _, hi⟩ := hearly listed hsz n (Nat.le_refl _) hex
          rw [h0] at hi; cases hi
        · have : n ∈ Region.ready md l.toArray listed := by
           rw [mem_ready]
           refine ⟨hn, s, by simpa using hT.hs, fun e he hb => ?_⟩
           have hei := hT.fw n s hT.hs e he hb
           cases hq : listed.getD e.on true with
           | false => exact absurd ⟨e.on, hei, hq⟩ hex
           | true =>
             have : e.on < listed.size := by omega
             simp [this] at hq ⊢; exact hq
          rw [h0] at this; cases this
     refine ⟨fun h0 => absurd h0 hne, fun i hi => ?_⟩
     have hi' : i ∈ Region.ready md (sleepTwo l).toArray listed := by rw [sleepTwo_ready]; exact hi
     obtain ⟨hiun, oi, hoi, hall⟩ := mem_ready.1 hi
     have hil := hin (show l[i]? = some oi by simpa using hoi)
     have hq := h.2 i hi'
     by_cases hin1 : i = n + 1
     · subst hin1
       have hot : oi = t := Option.some.inj ((show l[n + 1]? = some oi by simpa using hoi).symm.trans hT.ht)
       subst hot
       exact absurd hi (not_ready_of hoi (hT.tw n (by omega)) (getD_ff hn))
     by_cases hin2 : i = n
     · subst hin2
       have hos : oi = s := Option.some.inj ((show l[i]? = some oi by simpa using hoi).symm.trans hT.hs)
       subst hos
       have hE : ∀ j, j < i → listed.getD j true = true := by
        intro j hj
        cases hq : listed.getD j true with
        | true => rfl
        | false =>
          exfalso
          obtain ⟨m, hm, hmr⟩ := hearly listed hsz i (Nat.le_refl _) ⟨j, hj, hq⟩
          rcases hT.sw m hm with hmL | hmw
          · exact hlate ⟨m, hmL, hmr⟩
          · exact not_ready_of hoi hmw (getD_ff (mem_ready.1 hmr).1) hi
       have hset : ∀ j, j < i + 1 → (listed.setIfInBounds i true).getD j true = true := by
        intro j hj
        by_cases hji : j = i
        · subst hji; simp [hsz]
        · rw [getD_set_ne true (fun e => hji e.symm)]; exact hE j (by omega)
       have hready1 : ∀ j ∈ Region.ready md l.toArray (listed.setIfInBounds i true), j = i + 1 := by
        intro j hj
        obtain ⟨h1, q, h2, _⟩ := mem_ready.1 hj
        have hjl := hin (show l[j]? = some q by simpa using h2)
        by_cases hj1 : j < i + 1
        · rw [hset j hj1] at h1; cases h1
        · omega
       have ht1 : i + 1 ∈ Region.ready md l.toArray (listed.setIfInBounds i true) := by
        rw [mem_ready]
        refine ⟨by rw [getD_set_ne true (by omega)]; exact hn1, t, by simpa using hT.ht, fun e he hb => ?_⟩
        have hei := hT.fw (i + 1) t hT.ht e he hb
        have h1 := hset e.on hei
        have : e.on < (listed.setIfInBounds i true).size := by simp; omega
        simp only [Array.getD_eq_getD_getElem?] at h1 ⊢
        rw [Array.getElem?_eq_getElem this] at h1 ⊢
        exact h1
       have hempty : Region.ready md l.toArray ((listed.setIfInBounds i true).setIfInBounds (i + 1) true) = [] := by
        rw [List.eq_nil_iff_forall_not_mem]
        intro j hj
        obtain ⟨h1, q, h2, _⟩ := mem_ready.1 hj
        have hjl := hin (show l[j]? = some q by simpa using h2)
        by_cases hj1 : j = i + 1
        · subst hj1; simp [hsz] at h1
        · rw [getD_set_ne true (fun e => hj1 e.symm), hset j (by omega)] at h1; cases h1
       have hQE : oi.wp P a w (fun a1 w1 => Cl W0 w1 ∧ t.wp P a1 w1 (fun a2 w2 => Cl W0 w2 ∧ Q' .normal a2 w2) Q') Q' := by
        have hil2 : i < (sleepTwo l).length := by rw [sleepTwo_len, hT.len]; omega
        have hil3 : i + 1 < (sleepTwo l).length := by rw [sleepTwo_len, hT.len]; omega
        have e1 : (sleepTwo l).toArray[i]? = some ((sleepTwo l)[i]'hil2) := by simp [hil2]
        have e2 : (sleepTwo l).toArray[i + 1]? = some ((sleepTwo l)[i + 1]'hil3) := by simp [hil3]
        have d1 := sleepTwo_dst l i (by rw [hT.len]; omega) (by rw [hT.len]; omega) _ (List.getElem?_eq_getElem hil2)
        have d2 := sleepTwo_dst l (i + 1) (by rw [hT.len]; omega) (by rw [hT.len]; omega) _ (List.getElem?_eq_getElem hil3)
        have step : ∀ (kd : Kd) (j : Nat) (o : Oper), F j = none → kd.ok P md (sleepTwo l).toArray W0 F j o a → ∃ v, kd.out v w := fun kd j o hF hk => by
         cases kd with
         | skip => exact ⟨undef, rfl⟩
         | one v => exact ⟨v, rfl⟩
         | make f => have := hk.2.1; rw [hF] at this; cases this
        unfold gOp at hq
        rw [e1] at hq
        obtain ⟨kd, hk, hK⟩ := hq
        obtain ⟨v, hv⟩ := step kd i _ hFn.1 hk
        have h1 := hK v w (Le.refl w) hv
        rw [d1] at h1
        have ea : ∀ v, a.put none v = a := fun _ => rfl
        rw [ea] at h1
        cases fuel with
        | zero =>
          have := h1.1
          rw [sleepTwo_ready] at this
          rw [this] at ht1; cases ht1
        | succ f =>
          have h2 := h1.2 (i + 1) (by rw [sleepTwo_ready]; exact ht1)
          unfold gOp at h2
          rw [e2] at h2
          obtain ⟨kd2, hk2, hK2⟩ := h2
          obtain ⟨v2, hv2⟩ := step kd2 (i + 1) _ hFn.2 hk2
          have h3 := hK2 v2 w (Le.refl w) hv2
          rw [d2, ea] at h3
          cases f with
          | zero => exact h3.2
          | succ g => exact h3.1 (by rw [sleepTwo_ready]; exact hempty)
       unfold wpOp
       rw [hoi]
       simp only
       rw [if_pos (by simp [Region.wanted, hT.sg])]
       left
       refine Oper.wp_mono (fun a1 w1 ⟨hc1, hw1⟩ => ⟨hc1, ?_⟩) hQE
       cases fuel with
       | zero =>
         exfalso
         have hil2 : i < (sleepTwo l).length := by rw [sleepTwo_len, hT.len]; omega
         have e1 : (sleepTwo l).toArray[i]? = some ((sleepTwo l)[i]'hil2) := by simp [hil2]
         unfold gOp at hq
         rw [e1] at hq
         obtain ⟨kd, hk, hK⟩ := hq
         have : ∃ v, kd.out v w := by
          cases kd with
          | skip => exact ⟨undef, rfl⟩
          | one v => exact ⟨v, rfl⟩
          | make f => have := hk.2.1; rw [hFn.1] at this; cases this
         obtain ⟨v, hv⟩ := this
         have := (hK v w (Le.refl w) hv).1
         rw [sleepTwo_ready] at this
         rw [this] at ht1; cases ht1
       | succ f =>
         refine ⟨fun h0 => (by rw [h0] at ht1; cases ht1), fun j hj => ?_⟩
         have hj1 := hready1 j hj
         subst hj1
         unfold wpOp
         have : l.toArray[i + 1]? = some t := by simpa using hT.ht
         rw [this]
         simp only
         rw [if_pos (by simp [Region.wanted, hT.tg])]
         left
         refine Oper.wp_mono (fun a2 w2 ⟨hc2, hw2⟩ => ⟨hc2, ?_⟩) hw1
         cases f with
         | zero => exact ⟨hempty, hw2⟩
         | succ g => exact ⟨fun _ => hw2, fun j hj => by rw [hempty] at hj; cases hj⟩
     · have hi3 : i < n := by omega
       have hgd2 : ∀ g b, oi.guard = some (g, b) → g + 2 < l.length := fun g b hg => by
        have := hT.gd i oi (by simpa using hoi) g b hg
        rw [hT.len]; omega
       refine wpOp_of_gOp2 (hlt hi3).symm (fun o ho => ?_) hu hC hTold hi' (fun a' w' hC' hT' hk => ⟨hC', ih (listed.setIfInBounds i true) a' w' hC' hT' (by simpa using hsz) (by rw [getD_set_ne true (by omega)]; exact hn) (by rw [getD_set_ne true (by omega)]; exact hn1) hk⟩) hq
       have : o = oi := Option.some.inj ((show (sleepTwo l).toArray[i]? = some o from ho).symm.trans ((hlt hi3).trans hoi))
       subst this
       exact (sleepTwo_wanted l o hgd2 _).symm
end
theorem wp_region_make_two {P : Program} {id : Nat} {Q : Exit → Act → World → Prop} {a : Act} {w : World} {l : List Oper} (F : Nat → Option (Value → World → Prop)) (L : List Nat) (hm : P.follows .mixedOrders = true) (hB : Region.lexB .any (sleepTwo l).toArray = true) (hs : Region.noSelect l.toArray = true)
 (hu : uniqB (sleepTwo l).toArray = true) (ht : twoB .any l L = true) (hLF : ∀ i ∈ L, F i = none) (hFn : F (l.length - 2) = none ∧ F (l.length - 1) = none) (hQ : ∀ (c : List PanicEntry) a d v w, Q (.panic c) (Act.put a d v) w → Q (.panic c) a w)
 (h : wpG P .any (sleepTwo l).toArray w F (fun a' w' => ∀ s t, l[l.length - 2]? = some s → l[l.length - 1]? = some t → s.wp P a' w' (fun a1 w1 => Cl w w1 ∧ t.wp P a1 w1 (fun a2 w2 => Cl w w2 ∧ Q .normal a2 w2) Q) Q) (sleepTwo l) 0 (fun _ => True) a) : (Code.region id l.toArray true).wp P Q a w := by
 obtain ⟨n, s, t, hT⟩ := twoB_spec ht
 have e1 : l.length - 2 = n := by rw [hT.len]; omega
 have e2 : l.length - 1 = n + 1 := by rw [hT.len]; omega
 rw [e1, e2] at hFn
 simp only [Region.lexB, Bool.and_eq_true] at hB
 have hw : Cl w w.drew := Cl.of (Below.refl _ _).drew
 have hany := wpAnyG_lex hu hB.1 (sleepTwo l) 0 (Array.replicate (sleepTwo l).toArray.size false) a w.drew (fun _ => True) (by simp) (by simpa using hB.2) hw (told_none _) trivial (fun _ _ _ h => h) h
 have hQe : (fun (a' : Act) (w' : World) => ∀ s t, l[l.length - 2]? = some s → l[l.length - 1]? = some t → s.wp P a' w' (fun a1 w1 => Cl w w1 ∧ t.wp P a1 w1 (fun a2 w2 => Cl w w2 ∧ Q .normal a2 w2) Q) Q) = (fun a' w' => s.wp P a' w' (fun a1 w1 => Cl w w1 ∧ t.wp P a1 w1 (fun a2 w2 => Cl w w2 ∧ Q .normal a2 w2) Q) Q) := by
  funext a' w'
  apply propext
  rw [e1, e2]
  constructor
  · intro h; exact h s t hT.hs hT.ht
  · intro h s' t' hs' ht'
    rw [hT.hs] at hs'; rw [hT.ht] at ht'
    cases hs'; cases ht'; exact h
 rw [hQe] at hany
 refine wp_region_held (S := Cl w) hm ?_
 have hl : (sleepTwo l).length = n + 2 := by rw [sleepTwo_len, hT.len]
 have hl2 : l.length = n + 2 := hT.len
 have := wpAnyH_of_two hT hLF hFn hu hs hQ (sleepTwo l).length (Array.replicate (sleepTwo l).toArray.size false) a w.drew hw (told_none _) (by simp [hl]) (by simp [hl]) (by simp [hl]) hany
 simpa [hl, hl2] using this
def lastTwo : List Oper → Oper × Oper
 | [] => (default, default)
 | [o] => (o, o)
 | [o, o'] => (o, o')
 | _ :: o' :: o'' :: r => lastTwo (o' :: o'' :: r)
theorem lastTwo_two (o o' : Oper) : lastTwo [o, o'] = (o, o') := rfl
theorem lastTwo_cons (o o' o'' : Oper) (r : List Oper) : lastTwo (o :: o' :: o'' :: r) = lastTwo (o' :: o'' :: r) := rfl
end Go.Proofs.YtnkaoplgmglijaaDoor
