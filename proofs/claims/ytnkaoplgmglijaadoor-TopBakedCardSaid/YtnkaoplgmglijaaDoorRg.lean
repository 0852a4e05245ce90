/- A region that draws its order: one walk in the order of the text serves every order. As in Mka, but under any order of worlds that the operations keep: blocks that were there may change, too, where each change is told. -/
import Derived.Test.YtnkaoplgmglijaaDoorMka
namespace Go.Proofs.YtnkaoplgmglijaaDoor.Pr
open Go.RowKit Classical
structure Pre where
 le : World → World → Prop
 refl : ∀ w, le w w
 trans : ∀ {a b c}, le a b → le b c → le a c
noncomputable def ovl (L : Pre) (W u : World) : World := if L.le W u then u else W
theorem ovl_le (L : Pre) (W u : World) : L.le W (ovl L W u) := by
 unfold ovl
 split
 · assumption
 · exact L.refl _
theorem ovl_of {L : Pre} {W u : World} (h : L.le W u) : u = ovl L W u := by unfold ovl; rw [if_pos h]
def Cl (L : Pre) (W0 w : World) : Prop := ∃ u, w = ovl L W0 u
theorem Cl.of {L : Pre} {W0 w : World} (h : L.le W0 w) : Cl L W0 w := ⟨w, ovl_of h⟩
theorem Cl.le {L : Pre} {W0 w : World} (h : Cl L W0 w) : L.le W0 w := by obtain ⟨u, rfl⟩ := h; exact ovl_le _ _ _
theorem Cl.next {L : Pre} {W0 w w' : World} (h : Cl L W0 w) (h' : L.le w w') : Cl L W0 w' := Cl.of (L.trans h.le h')
def Box (L : Pre) (f : Value → World → Prop) (u : Value) (w : World) : Prop := ∀ w', L.le w w' → f u w'
theorem Box.now {L : Pre} {f : Value → World → Prop} {u : Value} {w : World} (h : Box L f u w) : f u w := h w (L.refl w)
theorem Box.later {L : Pre} {f : Value → World → Prop} {u : Value} {w w' : World} (h : Box L f u w) (hl : L.le w w') : Box L f u w' := fun w'' h'' => h w'' (L.trans hl h'')
def growUpon (L : Pre) (P : Program) (w : World) (R : Value → World → Prop) : Result Next → Prop
 | .ok (.value u) w' => L.le w w' ∧ Box L R u w'
 | .ok .skip w' => L.le w w' ∧ Box L R undef w'
 | .ok (.enter f args) w' => w' = w ∧ Calls P f args w (fun e w'' => ∃ u, e = .returned u ∧ L.le w w'' ∧ Box L R u w'')
 | _ => False
def grows (L : Pre) (P : Program) (o : Oper) (a : Act) (w : World) (R : Value → World → Prop) : Prop := growUpon L P w R ((execOp a.eval o).run P w)
theorem grows_some {L : Pre} {P : Program} {o : Oper} {a : Act} {w : World} {R : Value → World → Prop} (h : grows L P o a w R) : ∃ u w', L.le w w' ∧ Box L R u w' := by
 unfold grows at h
 generalize (execOp a.eval o).run P w = r at h
 cases r with
 | ok n w' =>
   cases n <;> simp only [growUpon] at h <;> try exact h.elim
   case value u => exact ⟨u, w', h⟩
   case skip => exact ⟨undef, w', h⟩
   case enter f args =>
    obtain ⟨e, w'', fr, ⟨u, _, h1, h2⟩, _⟩ := h.2 []
    exact ⟨u, w'', h1, h2⟩
 | halt x w' => exact h.elim
theorem grows_wp {L : Pre} {P : Program} {o : Oper} {a : Act} {w : World} {R : Value → World → Prop} {K : Act → World → Prop} {Q : Exit → Act → World → Prop} (h : grows L P o a w R)
 (hK : ∀ u w', L.le w w' → Box L R u w' → K (a.put o.dst u) w') : o.wp P a w K Q := by
 unfold grows at h
 unfold Oper.wp
 generalize (execOp a.eval o).run P w = r at *
 cases r with
 | ok n w' =>
   cases n <;> simp only [growUpon] at h <;> simp only [Oper.upon] <;> try exact h.elim
   case value u => exact hK _ _ h.1 h.2
   case skip => exact hK _ _ h.1 h.2
   case enter f args =>
    obtain ⟨rfl, hc⟩ := h
    exact hc.mono fun e w'' ⟨u, he, h1, h2⟩ => by subst he; exact hK _ _ h1 h2
 | halt x w' => exact h.elim
section
variable {P : Program} {ops : Array Oper} {md : Region.Mode} {L : Pre} {W0 : World} {F : Nat → Option (Value → World → Prop)} {Q : Act → World → Prop}
def Knows (L : Pre) (md : Region.Mode) (ops : Array Oper) (F : Nat → Option (Value → World → Prop)) (o : Oper) (a : Act) (w : World) : Prop :=
 ∀ e ∈ o.after, Region.binds md e = true → ∀ oi d f, ops[e.on]? = some oi → oi.guard = none → oi.dst = some d → d < a.tmps.size → F e.on = some f → Box L f (a.tmps.getD d undef) w
inductive Kd where
 | skip
 | one (v : Value)
 | make (f : Value → World → Prop)
def Kd.ok (L : Pre) (P : Program) (md : Region.Mode) (ops : Array Oper) (W0 : World) (F : Nat → Option (Value → World → Prop)) (j : Nat) (o : Oper) (a : Act) : Kd → Prop
 | .skip => Region.wanted o (yielded ops a.tmps) = false
 | .one v => Region.wanted o (yielded ops a.tmps) = true ∧ F j = none ∧ noGo o.op = true ∧ ∀ w, Cl L W0 w → o.quietAt P a (Cl L W0) w v
 | .make f => Region.wanted o (yielded ops a.tmps) = true ∧ F j = some f ∧ ∀ w, Cl L W0 w → Knows L md ops F o a w → grows L P o a w f
def Kd.out (L : Pre) : Kd → Value → World → Prop
 | .skip => fun u _ => u = undef
 | .one v => fun u _ => u = v
 | .make f => fun u w => Box L f u w
theorem Kd.out_later {kd : Kd} {u : Value} {w w' : World} (h : kd.out L u w) (hl : L.le w w') : kd.out L u w' := by
 cases kd with
 | skip => exact h
 | one v => exact h
 | make f => exact Box.later h hl
theorem quiet_value {o : Oper} {a : Act} {w : World} {v : Value} (hn : noGo o.op = true) (h : o.quietAt P a (Cl L W0) w v) : (execOp a.eval o).run P w = .ok (.value v) w ∨ ((execOp a.eval o).run P w = .ok .skip w ∧ v = undef) := by
 unfold Oper.quietAt at h
 have hne := @noGo_spec o hn P a.eval w
 generalize (execOp a.eval o).run P w = r at *
 cases r with
 | ok n w' =>
   cases n <;> simp only [Oper.quietUpon] at h <;> try exact h.elim
   case value u => left; rw [h.1, h.2]
   case skip => right; rw [h.1, h.2]; exact ⟨rfl, rfl⟩
   case enter f args => exact absurd rfl (hne (w' := w') (f := f) (args := args))
 | halt x w' => exact h.elim
theorem Kd.uniq {j : Nat} {o : Oper} {a : Act} {w : World} (hw : Cl L W0 w) {kd kd' : Kd} (h : kd.ok L P md ops W0 F j o a) (h' : kd'.ok L P md ops W0 F j o a) : kd.out L = kd'.out L := by
 cases kd <;> cases kd' <;> simp only [Kd.ok] at h h'
 case skip.skip => rfl
 case skip.one v => rw [h'.1] at h; cases h
 case skip.make f => rw [h'.1] at h; cases h
 case one.skip v => rw [h.1] at h'; cases h'
 case one.one v v' =>
  have a1 := quiet_value h.2.2.1 (h.2.2.2 w hw)
  have a2 := quiet_value h'.2.2.1 (h'.2.2.2 w hw)
  have e : v = v' := by
   rcases a1 with a1 | ⟨a1, rfl⟩ <;> rcases a2 with a2 | ⟨a2, rfl⟩
   · rw [a1] at a2; injection a2 with b1; injection b1
   · rw [a1] at a2; injection a2 with b1; cases b1
   · rw [a1] at a2; injection a2 with b1; cases b1
   · rfl
  rw [e]
 case one.make v f => rw [h.2.1] at h'; cases h'.2.1
 case make.skip f => rw [h.1] at h'; cases h'
 case make.one f v => rw [h'.2.1] at h; cases h.2.1
 case make.make f f' =>
  have : f = f' := Option.some.inj (h.2.1.symm.trans h'.2.1)
  rw [this]
def gOp (L : Pre) (P : Program) (md : Region.Mode) (ops : Array Oper) (W0 : World) (F : Nat → Option (Value → World → Prop)) (j : Nat) (K : Act → World → Prop) (a : Act) (w : World) : Prop :=
 match ops[j]? with
 | none => K a w
 | some o => ∃ kd : Kd, kd.ok L P md ops W0 F j o a ∧ ∀ u w', L.le w w' → kd.out L u w' → K (a.put o.dst u) w'
def wpAnyG (L : Pre) (P : Program) (md : Region.Mode) (ops : Array Oper) (W0 : World) (F : Nat → Option (Value → World → Prop)) (Q : Act → World → Prop) : Nat → Array Bool → Act → World → Prop
 | 0, listed, a, w => Region.ready md ops listed = [] ∧ Q a w
 | fuel + 1, listed, a, w =>
   (Region.ready md ops listed = [] → Q a w) ∧
   ∀ i ∈ Region.ready md ops listed, gOp L P md ops W0 F i (wpAnyG L P md ops W0 F Q fuel (listed.setIfInBounds i true)) a w
def Told (L : Pre) (ops : Array Oper) (F : Nat → Option (Value → World → Prop)) (listed : Array Bool) (a : Act) (w : World) : Prop :=
 ∀ i oi d f, ops[i]? = some oi → listed.getD i false = true → oi.guard = none → oi.dst = some d → d < a.tmps.size → F i = some f → Box L f (a.tmps.getD d undef) w
theorem Told.knows {listed : Array Bool} {a : Act} {w : World} {j : Nat} {o : Oper} (h : Told L ops F listed a w) (hj : j ∈ Region.ready md ops listed) (ho : ops[j]? = some o) : Knows L md ops F o a w := by
 obtain ⟨_, o', ho', hall⟩ := mem_ready.1 hj
 have : o' = o := Option.some.inj (ho'.symm.trans ho)
 subst this
 exact fun e he hb oi d f hoi hg hd hs hf => h e.on oi d f hoi (hall e he hb) hg hd hs hf
theorem Told.put (hu : uniqB ops = true) {listed : Array Bool} {a : Act} {w w' : World} {j : Nat} {o : Oper} {kd : Kd} {u : Value} (h : Told L ops F listed a w) (hj : ops[j]? = some o) (hk : kd.ok L P md ops W0 F j o a) (hl : L.le w w') (ho : kd.out L u w') :
 Told L ops F (listed.setIfInBounds j true) (a.put o.dst u) w' := by
 intro i oi d f hi hli hg hd hs hf
 rw [put_size] at hs
 by_cases hij : j = i
 · subst hij
   have : oi = o := Option.some.inj (hi.symm.trans hj)
   subst this
   rw [hd, put_getD_same a u hs]
   cases kd with
   | skip => simp only [Kd.ok, Region.wanted, hg] at hk; cases hk
   | one v => rw [hk.2.1] at hf; cases hf
   | make f' =>
     have : f' = f := Option.some.inj (hk.2.1.symm.trans hf)
     subst this
     exact ho
 · rw [getD_set_ne false hij] at hli
   rw [put_getD_ne a u (uniqB_spec hu hi hj (Ne.symm hij) hd)]
   exact (h i oi d f hi hli hg hd hs hf).later hl
theorem Knows.put_iff (hu : uniqB ops = true) {i : Nat} {oi oj : Oper} {a : Act} {u : Value} {w : World} (hi : ops[i]? = some oi) (hno : ∀ e ∈ oj.after, Region.binds md e = true → e.on ≠ i) :
 Knows L md ops F oj (a.put oi.dst u) w ↔ Knows L md ops F oj a w := by
 unfold Knows
 rw [put_size]
 constructor <;> intro h e he hb o d f ho hg hd hs hf
 · rw [← put_getD_ne a u (uniqB_spec hu ho hi (hno e he hb) hd)]; exact h e he hb o d f ho hg hd hs hf
 · rw [put_getD_ne a u (uniqB_spec hu ho hi (hno e he hb) hd)]; exact h e he hb o d f ho hg hd hs hf
theorem Kd.ok_put (hu : uniqB ops = true) {i j : Nat} {oi oj : Oper} {a : Act} {u : Value} {kd : Kd} (hi : ops[i]? = some oi) (hl : ∀ d, oi.dst = some d → d ∉ oj.looksAt ops) (hs : ∀ cs b, oj.op ≠ .select cs b)
 (hno : ∀ e ∈ oj.after, Region.binds md e = true → e.on ≠ i) : kd.ok L P md ops W0 F j oj (a.put oi.dst u) ↔ kd.ok L P md ops W0 F j oj a := by
 cases kd with
 | skip => simp only [Kd.ok]; rw [wanted_put oj a oi.dst u hl]
 | one v => simp only [Kd.ok, Oper.quietAt]; rw [wanted_put oj a oi.dst u hl, execOp_put oj hs a oi.dst u hl]
 | make f =>
   simp only [Kd.ok, grows]
   rw [wanted_put oj a oi.dst u hl, execOp_put oj hs a oi.dst u hl]
   have : ∀ w, Knows L md ops F oj (a.put oi.dst u) w ↔ Knows L md ops F oj a w := fun w => Knows.put_iff hu hi hno
   simp only [this]
theorem Kd.some_out {listed : Array Bool} {a : Act} {w : World} {j : Nat} {o : Oper} {kd : Kd} (hw : Cl L W0 w) (h : Told L ops F listed a w) (hj : j ∈ Region.ready md ops listed) (ho : ops[j]? = some o) (hk : kd.ok L P md ops W0 F j o a) : ∃ u w', L.le w w' ∧ kd.out L u w' := by
 cases kd with
 | skip => exact ⟨undef, w, L.refl w, rfl⟩
 | one v => exact ⟨v, w, L.refl w, rfl⟩
 | make f => exact grows_some (hk.2.2 w hw (h.knows hj ho))
theorem wpAnyG_first (hu : uniqB ops = true) {i : Nat} {oi : Oper} (hi : ops[i]? = some oi) (hsel : ∀ (j : Nat) (o : Oper) cs b, ops[j]? = some o → o.op ≠ .select cs b) :
 ∀ (fuel : Nat) (listed : Array Bool) (a : Act) (w : World), Cl L W0 w → Told L ops F listed a w →
   (∀ j oj, ops[j]? = some oj → j ≠ i → listed.getD j true = false → (∀ e ∈ oj.after, Region.binds md e = true → e.on ≠ i) → oi.apart ops oj = true) →
   i ∈ Region.ready md ops listed → ∀ kd : Kd, kd.ok L P md ops W0 F i oi a →
   (∀ u w', L.le w w' → kd.out L u w' → wpAnyG L P md ops W0 F Q fuel (listed.setIfInBounds i true) (a.put oi.dst u) w') → wpAnyG L P md ops W0 F Q (fuel + 1) listed a w := by
 intro fuel
 induction fuel with
 | zero =>
   intro listed a w hw ht _ hr kd hk H
   obtain ⟨u0, w0, hl0, ho0⟩ := Kd.some_out hw ht hr hi hk
   refine ⟨fun h => (by rw [h] at hr; cases hr), fun j hj => ?_⟩
   by_cases hji : j = i
   · subst hji; unfold gOp; rw [hi]; exact ⟨kd, hk, H⟩
   · have := ready_mono hj hji
     rw [(H u0 w0 hl0 ho0).1] at this
     cases this
 | succ fuel ih =>
   intro listed a w hw ht hfree hr kd hk H
   obtain ⟨u0, w0, hl0, ho0⟩ := Kd.some_out hw ht hr hi hk
   refine ⟨fun h => (by rw [h] at hr; cases hr), fun j hj => ?_⟩
   by_cases hji : j = i
   · subst hji; unfold gOp; rw [hi]; exact ⟨kd, hk, H⟩
   · obtain ⟨hjun, oj, hoj, hall⟩ := mem_ready.1 hj
     have hnot : ∀ e ∈ oj.after, Region.binds md e = true → e.on ≠ i := fun e he hb heq => by
        have h1 := hall e he hb
        have h0 := (mem_ready.1 hr).1
        rw [heq] at h1
        rcases Nat.lt_or_ge i listed.size with h' | h'
        · simp [h'] at h0 h1; rw [h0] at h1; cases h1
        · simp [Array.getElem?_eq_none h'] at h1
     have hnot2 : ∀ e ∈ oi.after, Region.binds md e = true → e.on ≠ j := fun e he hb heq => by
        obtain ⟨_, oi', hoi', hall'⟩ := mem_ready.1 hr
        have : oi' = oi := Option.some.inj (hoi'.symm.trans hi)
        subst this
        have h1 := hall' e he hb
        rw [heq] at h1
        rcases Nat.lt_or_ge j listed.size with h' | h'
        · simp [h'] at hjun h1; rw [hjun] at h1; cases h1
        · simp [Array.getElem?_eq_none h'] at h1
     obtain ⟨ha1, ha2, ha3⟩ := Oper.apart_spec (hfree j oj hoj hji hjun hnot)
     have h1 := (H u0 w0 hl0 ho0).2 j (ready_mono hj hji)
     unfold gOp at h1 ⊢
     rw [hoj] at h1 ⊢
     obtain ⟨kj, hkj, _⟩ := h1
     have hkj' := (Kd.ok_put hu hi ha1 (fun cs b => hsel j oj cs b hoj) hnot).1 hkj
     refine ⟨kj, hkj', fun uj w1 hl1 ho1 => ?_⟩
     refine ih (listed.setIfInBounds j true) (a.put oj.dst uj) w1 (hw.next hl1) (ht.put hu hoj hkj' hl1 ho1) (fun k ok hk' hki hun hno => ?_) (ready_mono hr (Ne.symm hji)) kd ((Kd.ok_put hu hoj ha3 (fun cs b => hsel i oi cs b hi) hnot2).2 hk) (fun u w' hl ho => ?_)
     · refine hfree k ok hk' hki ?_ hno
       by_cases hjk : j = k
       · subst hjk; exact hjun
       · rw [getD_set_ne true hjk] at hun; exact hun
     · have h2 := (H u w' (L.trans hl1 hl) ho).2 j (ready_mono hj hji)
       unfold gOp at h2
       rw [hoj] at h2
       obtain ⟨kj2, hkj2, hK2⟩ := h2
       have hkj2' := (Kd.ok_put hu hi ha1 (fun cs b => hsel j oj cs b hoj) hnot).1 hkj2
       have he := Kd.uniq hw hkj2' hkj'
       have h3 := hK2 uj w' (L.refl _) (by rw [he]; exact Kd.out_later ho1 hl)
       rw [Array.setIfInBounds_comm _ _ hji, ← Act.put_comm a u uj ha2]
       exact h3
def wpG (L : Pre) (P : Program) (md : Region.Mode) (ops : Array Oper) (W0 : World) (F : Nat → Option (Value → World → Prop)) (Q : Act → World → Prop) : List Oper → Nat → (World → Prop) → Act → Prop
 | [], _, G, a => ∀ w, Cl L W0 w → G w → Q a w
 | o :: rest, k, G, a => ∃ kd : Kd, kd.ok L P md ops W0 F k o a ∧ ∀ u, (∃ w, Cl L W0 w ∧ G w ∧ kd.out L u w) → wpG L P md ops W0 F Q rest (k + 1) (fun w => G w ∧ kd.out L u w) (a.put o.dst u)
theorem wpAnyG_lex (hu : uniqB ops = true) (hs : Region.noSelect ops = true) : ∀ (l : List Oper) (k : Nat) (listed : Array Bool) (a : Act) (w : World) (G : World → Prop), (∀ j, l[j]? = ops[k + j]?) →
 Region.lexFrom md ops l.length k listed = true → Cl L W0 w → Told L ops F listed a w → G w → (∀ w w', L.le w w' → G w → G w') → wpG L P md ops W0 F Q l k G a → wpAnyG L P md ops W0 F Q l.length listed a w
 | [], _, _, _, w, _, _, hB, hw, _, hG, _, h => ⟨by simpa [Region.lexFrom] using hB, h w hw hG⟩
 | o :: l, k, listed, a, w, G, hl, hB, hw, ht, hG, hp, h => by
   have h0 : ops[k]? = some o := by simpa using (hl 0).symm
   simp only [List.length_cons, Region.lexFrom, Bool.and_eq_true] at hB
   obtain ⟨⟨hr, hf⟩, hB'⟩ := hB
   obtain ⟨kd, hk, hK⟩ := h
   exact wpAnyG_first hu h0 (Region.noSelect_spec hs) l.length listed a w hw ht (Region.free_spec h0 hf) (by simpa using hr) kd hk fun u w' hl1 ho =>
     wpAnyG_lex hu hs l (k + 1) _ _ w' _ (fun j => by have := hl (j + 1); simpa [Nat.add_assoc, Nat.add_comm 1 j] using this) hB' (hw.next hl1) (ht.put hu h0 hk hl1 ho) ⟨hp _ _ hl1 hG, ho⟩
        (fun w1 w2 h12 hg => ⟨hp _ _ h12 hg.1, Kd.out_later hg.2 h12⟩) (hK u ⟨w', hw.next hl1, hp _ _ hl1 hG, ho⟩)
theorem wpOp_of_gOp {ops' : Array Oper} {i : Nat} {listed : Array Bool} {a : Act} {w : World} {K K' : Act → World → Prop} {Q' : Exit → Act → World → Prop} (hop : ops'[i]? = ops[i]?) (hy : ∀ t, yielded ops' t = yielded ops t)
 (hu : uniqB ops = true) (hw : Cl L W0 w) (ht : Told L ops F listed a w) (hr : i ∈ Region.ready md ops listed)
 (h : ∀ a' w', Cl L W0 w' → Told L ops F (listed.setIfInBounds i true) a' w' → K a' w' → K' a' w') (hh : gOp L P md ops W0 F i K a w) : wpOp P ops' Q' i K' a w := by
 unfold gOp at hh
 unfold wpOp
 obtain ⟨_, o, ho, _⟩ := mem_ready.1 hr
 rw [ho] at hh
 rw [hop, ho, hy]
 obtain ⟨kd, hk, hK⟩ := hh
 have hn : ∀ u w', L.le w w' → kd.out L u w' → K' (a.put o.dst u) w' := fun u w' hl hout => h _ _ (hw.next hl) (ht.put hu ho hk hl hout) (hK u w' hl hout)
 cases kd with
 | skip =>
   have hk' : Region.wanted o (yielded ops a.tmps) = false := hk
   simp only [hk', Bool.false_eq_true, if_false]
   exact hn undef w (L.refl w) rfl
 | one v =>
   obtain ⟨hwant, _, hng, hq⟩ := hk
   simp only [hwant, if_true]
   left
   unfold Oper.wp
   rcases quiet_value hng (hq w hw) with he | ⟨he, rfl⟩ <;> rw [he] <;> exact hn _ w (L.refl w) rfl
 | make f =>
   obtain ⟨hwant, _, hg⟩ := hk
   simp only [hwant, if_true]
   exact .inl (grows_wp (hg w hw (ht.knows hr ho)) hn)
theorem wpAny_of_G (hu : uniqB ops = true) {Q' : Exit → Act → World → Prop} (hQ : ∀ a w, Q a w → Q' .normal a w) : ∀ (fuel : Nat) (listed : Array Bool) (a : Act) (w : World), Cl L W0 w → Told L ops F listed a w →
 wpAnyG L P md ops W0 F Q fuel listed a w → wpAny P md ops Q' fuel listed a w
 | 0, _, _, _, _, _, h => ⟨h.1, hQ _ _ h.2⟩
 | fuel + 1, _, _, _, hw, ht, h => ⟨fun h0 => hQ _ _ (h.1 h0), fun i hi => wpOp_of_gOp rfl (fun _ => rfl) hu hw ht hi (fun a' w' hw' ht' => wpAny_of_G hu hQ fuel _ a' w' hw' ht') (h.2 i hi)⟩
theorem told_none {a : Act} {w : World} (n : Nat) : Told L ops F (Array.replicate n false) a w := by
 intro i oi d f _ hl
 have : (Array.replicate n false).getD i false = false := by
  by_cases h : i < n <;> simp [h]
 rw [this] at hl; cases hl
end
theorem wp_region_pre (L : Pre) {P : Program} {id : Nat} {Q : Exit → Act → World → Prop} {a : Act} {w : World} {l : List Oper} (F : Nat → Option (Value → World → Prop)) (hd : L.le w w.drew) (hm : P.follows .mixedOrders = true) (hB : Region.lexB .any l.toArray = true) (hu : uniqB l.toArray = true)
 (h : wpG L P .any l.toArray w F (fun a' w' => Q .normal a' w') l 0 (fun _ => True) a) : (Code.region id l.toArray true).wp P Q a w := by
 simp only [Region.lexB, Bool.and_eq_true] at hB
 refine wp_region_any hm ?_
 have hw : Cl L w w.drew := Cl.of hd
 have := wpAnyG_lex hu hB.1 l 0 (Array.replicate l.toArray.size false) a w.drew (fun _ => True) (by simp) (by simpa using hB.2) hw (told_none _) trivial (fun _ _ _ h => h) h
 exact wpAny_of_G hu (fun _ _ h => h) _ _ _ _ hw (told_none _) this
section
variable {P : Program} {ops : Array Oper} {L : Pre} {W0 : World} {F : Nat → Option (Value → World → Prop)} {Q : Act → World → Prop} {o : Oper} {rest : List Oper} {k : Nat} {G : World → Prop} {a : Act}
theorem wpG_one (hw : Region.wanted o (yielded ops a.tmps) = true) (hF : F k = none) (hn : noGo o.op = true) (h : ∀ K : Act → Prop, (∀ a', wpG L P .any ops W0 F Q rest (k + 1) G a' → K a') → o.quiet P a (fun w' => ∃ u, w' = ovl L W0 u) K) : wpG L P .any ops W0 F Q (o :: rest) k G a := by
 obtain ⟨v, hv, hK⟩ := h _ (fun _ h => h)
 refine ⟨.one v, ⟨hw, hF, hn, hv⟩, fun u hu => ?_⟩
 obtain ⟨w, _, _, he⟩ := hu
 have he' : u = v := he
 subst he'
 have e : (fun w => G w ∧ Kd.out L (.one u) u w) = G := by funext w; exact propext ⟨fun h => h.1, fun h => ⟨h, rfl⟩⟩
 rw [e]; exact hK
theorem wpG_skip (hw : Region.wanted o (yielded ops a.tmps) = false) (h : wpG L P .any ops W0 F Q rest (k + 1) G (a.put o.dst undef)) : wpG L P .any ops W0 F Q (o :: rest) k G a := by
 refine ⟨.skip, hw, fun u hu => ?_⟩
 obtain ⟨w, _, _, he⟩ := hu
 have he' : u = undef := he
 subst he'
 have e : (fun w => G w ∧ Kd.out L .skip undef w) = G := by funext w; exact propext ⟨fun h => h.1, fun h => ⟨h, rfl⟩⟩
 rw [e]; exact h
theorem wpG_make (f : Value → World → Prop) (hw : Region.wanted o (yielded ops a.tmps) = true) (hF : F k = some f) (hg : ∀ w, Cl L W0 w → Knows L .any ops F o a w → grows L P o a w f)
 (h : ∀ u, (∃ w, Cl L W0 w ∧ f u w) → wpG L P .any ops W0 F Q rest (k + 1) (fun w => G w ∧ Box L f u w) (a.put o.dst u)) : wpG L P .any ops W0 F Q (o :: rest) k G a :=
 ⟨.make f, ⟨hw, hF, hg⟩, fun u ⟨w, hc, _, hb⟩ => h u ⟨w, hc, Box.now hb⟩⟩
theorem wpG_nil (h : ∀ w, Cl L W0 w → G w → Q a w) : wpG L P .any ops W0 F Q [] k G a := h
end
structure ChgLe (X : Nat → Option (Array Value)) (w w' : World) : Prop where
 os : w'.os = w.os
 tape : w'.tape = w.tape
 output : w'.output = w.output
 size : w.heap.size ≤ w'.heap.size
 block : ∀ k, k < w.heap.size → X k = none → w'.heap[k]? = w.heap[k]?
 shape : ∀ (k : Nat) cs t fr, w.heap[k]? = some (.cells cs t fr) → ∃ cs' : Array Value, cs'.size = cs.size ∧ w'.heap[k]? = some (.cells cs' t fr)
 fin : ∀ (k : Nat) row t fr, X k = some row → w.heap[k]? = some (.cells row t fr) → w'.heap[k]? = some (.cells row t fr)
def Chg (X : Nat → Option (Array Value)) : Pre where
 le := ChgLe X
 refl w := ⟨rfl, rfl, rfl, Nat.le_refl _, fun _ _ _ => rfl, fun _ cs _ _ h => ⟨cs, rfl, h⟩, fun _ _ _ _ _ h => h⟩
 trans {a b c} h h' := ⟨h'.os.trans h.os, h'.tape.trans h.tape, h'.output.trans h.output, Nat.le_trans h.size h'.size, fun k hk hx => (h'.block k (Nat.lt_of_lt_of_le hk h.size) hx).trans (h.block k hk hx),
    fun k cs t fr hc => by
     obtain ⟨c1, s1, h1⟩ := h.shape k cs t fr hc
     obtain ⟨c2, s2, h2⟩ := h'.shape k c1 t fr h1
     exact ⟨c2, s2.trans s1, h2⟩,
    fun k row t fr hx hk => h'.fin k row t fr hx (h.fin k row t fr hx hk)⟩
theorem Chg.of {X : Nat → Option (Array Value)} {w w' : World} (h : Le w w') : (Chg X).le w w' :=
 ⟨Below.os h, Below.tape h, Below.output h, Below.size h, fun k hk _ => Below.block h k hk, fun k cs _ _ hk => ⟨cs, rfl, (Below.block h k (Array.getElem?_eq_some_iff.1 hk).1).trans hk⟩, fun k _ _ _ _ hk => (Below.block h k (Array.getElem?_eq_some_iff.1 hk).1).trans hk⟩
theorem Chg.cell {X : Nat → Option (Array Value)} {w w' : World} (h : (Chg X).le w w') {k o : Nat} {v : Value} (hx : X k = none) (hc : w.cell? ⟨k, o, none⟩ = some v) : w'.cell? ⟨k, o, none⟩ = some v := by
 rw [← hc]; exact World.cell?_of_block (h.block k (block_lt_of_cell hc) hx)
theorem Chg.ovl_cell {X : Nat → Option (Array Value)} {w : World} {k o : Nat} {v : Value} (hx : X k = none) (hc : w.cell? ⟨k, o, none⟩ = some v) (u : World) : (ovl (Chg X) w u).cell? ⟨k, o, none⟩ = some v := Chg.cell (ovl_le _ w u) hx hc
theorem Chg.set {X : Nat → Option (Array Value)} {w : World} {k : Nat} {row cs0 : Array Value} {t0 : TypeId} {fr0 : Nat × Nat} (hx : X k = some row) (hg : w.heap[k]? = some (.cells cs0 t0 fr0)) (hs : row.size = cs0.size) : (Chg X).le w (w.setRow k row) :=
 ⟨rfl, rfl, rfl, by show w.heap.size ≤ (w.setRow k row).heap.size; simp [World.setRow], fun j _ hj => setRow_other (fun e => by subst e; rw [hx] at hj; cases hj), fun j cs t fr hj => by
  by_cases e : j = k
  · subst e
    rw [hg] at hj
    injection hj with hj
    injection hj with e1 e2 e3
    subst e1 e2 e3
    exact ⟨row, hs, setRow_same hg⟩
  · exact ⟨cs, rfl, (setRow_other e).trans hj⟩, fun j row' t fr hj hk => by
  by_cases e : j = k
  · subst e
    rw [hx] at hj
    injection hj with hj
    subst hj
    rw [hg] at hk
    injection hk with hk
    injection hk with e1 e2 e3
    subst e2 e3
    exact setRow_same hg
  · exact (setRow_other e).trans hk⟩
theorem ChgLe.below {X : Nat → Option (Array Value)} {B : Nat} {v w w' : World} (h : ChgLe X w w') (hb : Below B v w) (hB : B ≤ w.heap.size) (hX : ∀ k, k < B → X k = none) : Below B v w' :=
 hb.trans ⟨h.os, h.tape, h.output, h.size, fun k hk => h.block k (Nat.lt_of_lt_of_le hk hB) (hX k hk)⟩
theorem call_grow {X : Nat → Option (Array Value)} {P : Program} {f : FuncId} {args : Array Value} {w : World} {R : Value → World → Prop} (h : Calls P f args w fun e w' => ∃ u, e = .returned u ∧ Le w w' ∧ Box (Chg X) R u w') :
 Calls P f args w fun e w' => ∃ u, e = .returned u ∧ (Chg X).le w w' ∧ Box (Chg X) R u w' := h.mono fun _ _ ⟨u, he, hl, hb⟩ => ⟨u, he, Chg.of hl, hb⟩
def RowAt (g : Nat) (row : Array Value) (t : TypeId) (_ : Value) (w : World) : Prop := w.heap[g]? = some (.cells row t (0, 0))
theorem RowAt.box {X : Nat → Option (Array Value)} {g : Nat} {row : Array Value} {t : TypeId} {u : Value} {w : World} (hx : X g = some row) (h : RowAt g row t u w) : Box (Chg X) (RowAt g row t) u w := fun _ hl => hl.fin g row t (0, 0) hx h
theorem store_grow {X : Nat → Option (Array Value)} {P : Program} {o : Oper} {a : Act} {w : World} (ty : TypeId) (x y : Operand) (ho : o.op = .store ty x y) (g : Nat) (hx : a.eval x = .pointer (some ⟨g, 0, none⟩)) (cs : Array Value) (t : TypeId)
 (hg : w.heap[g]? = some (.cells cs t (0, 0))) (row : Array Value) (hy : a.eval y = .agg row) (h1 : ∀ v ∈ row.toList, v.oneCell' = true) (hs : row.size = cs.size) (hi : (P.info? ty).map (·.size) = some row.size) (hX : X g = some row) :
 grows (Chg X) P o a w (RowAt g row t) := by
 have hle := Chg.set hX hg hs
 have hbx : ∀ u, Box (Chg X) (RowAt g row t) u (w.setRow g row) := fun u => RowAt.box hX (setRow_same hg)
 have hst := run_storeCells_from (P := P) g t row.toList 0 cs w hg (by simpa using hs) h1
 simp only [List.take_zero, List.nil_append, Array.toArray_toList] at hst
 have hrun : (storeVar ty ⟨g, 0, none⟩ (.agg row)).run P w = .ok () (w.setRow g row) := by
  cases hq : P.info? ty with
  | none => simp [hq] at hi
  | some q =>
    have hs' : q.size = row.size := by simpa [hq] using hi
    simp [storeVar, Sem.run_bind, sizeOf, typeInfo, hq, hs', Value.cells, hst]
 unfold grows execOp
 simp only [ho, hx, hy, Instr.storeAt, Instr.sureAddr, Sem.run_bind, Sem.run_pure, Result.andThen_ok, hrun]
 exact ⟨hle, hbx _⟩
def outX (g : Nat) (row : Array Value) : Nat → Option (Array Value) := fun k => if k = g then some row else none
theorem outX_ne {g k : Nat} {row : Array Value} (h : k ≠ g) : outX g row k = none := if_neg h
theorem outX_at {g : Nat} {row : Array Value} : outX g row g = some row := if_pos rfl
end Go.Proofs.YtnkaoplgmglijaaDoor.Pr
