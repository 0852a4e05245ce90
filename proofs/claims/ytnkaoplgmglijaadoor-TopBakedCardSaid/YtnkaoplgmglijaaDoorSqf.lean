/- A region that draws its order and ends in operations each of which waits, be it through others, for all ahead of it: within a fence that lets all through. -/
import Derived.Test.YtnkaoplgmglijaaDoorSq
import Derived.OrdersIn
import Derived.ControlIn
import Derived.RangeFuncCalls
namespace Go.Proofs.YtnkaoplgmglijaaDoor
open Go.RowKit Classical
def Wd (F : Fence) : Prop := F = Fence.wide ∨ ∃ L, F = Fence.wide.inRound L
theorem Wd.wide : Wd Fence.wide := .inl rfl
theorem Wd.round (L : Nat) : Wd (Fence.wide.inRound L) := .inr ⟨L, rfl⟩
theorem Wd.fn {F : Fence} (h : Wd F) (f : FuncId) : F.fn f := by rcases h with rfl | ⟨L, rfl⟩ <;> trivial
theorem Wd.depth {F : Fence} (h : Wd F) : F.depth = none := by rcases h with rfl | ⟨L, rfl⟩ <;> rfl
theorem Wd.calls {F : Fence} (h : Wd F) {n : Nat} {P : Program} {f : FuncId} {args : Array Value} {w : World} {R : Ending → World → Prop} (hc : Calls P f args w R) : CallsIn F n P f args w R := by
 rcases h with rfl | ⟨L, rfl⟩
 · exact callsIn_wide.2 hc
 · exact CallsIn.inRound L (callsIn_wide.2 hc)
theorem Wd.steps {F : Fence} (h : Wd F) {P : Program} {m m' : Machine} (hs : Steps P m m') : StepsIn (Machine.fenced P F) P m m' := by
 rcases h with rfl | ⟨L, rfl⟩
 · exact stepsIn_wide.2 hs
 · exact stepsIn_wide.2 hs
theorem wpIn_of_wp {P : Program} {o : Oper} {a : Act} {w : World} {K : Act → World → Prop} {Q : Exit → Act → World → Prop} {F : Fence} (hF : Wd F) (N : Nat) (hd : ∀ c, o.op ≠ .defer c) (h : o.wp P a w K Q) : o.wpIn F N P a w K Q := by
 unfold Oper.wpIn
 refine ⟨fun _ _ => hF.fn _, ?_⟩
 rw [Oper.semAt_eq _ _ _ hd]
 unfold Oper.wp at h
 generalize (execOp a.eval o).run P w = r at *
 cases r with
 | halt x w' => cases x <;> exact h
 | ok q w' =>
   cases q <;> try exact h
   case enter f args =>
    refine ⟨fun hq => by rw [hF.depth] at hq; exact absurd hq (by decide), hF.calls (Calls.mono h fun e w2 he => ?_)⟩
    cases e <;> exact he
   case row r args =>
    refine ⟨fun hq => by rw [hF.depth] at hq; exact absurd hq (by decide), fun c cs _ => ?_⟩
    obtain ⟨v, w2, h1, h2⟩ := h c cs
    exact ⟨v, w2, h1, hF.steps h2⟩
   case round => exact h.elim
def covL (md : Region.Mode) (l : List Oper) (o : Oper) : Nat → List Nat → Bool
 | 0, _ => true
 | m + 1, C => (waitsOn md o m || C.any (fun j => match l[j]? with | some q => waitsOn md q m | none => false)) && covL md l o m (m :: C)
def Closed (md : Region.Mode) (l : List Oper) (listed : Array Bool) : Prop := ∀ (j : Nat) o, l[j]? = some o → listed.getD j false = true → ∀ e ∈ o.after, Region.binds md e = true → listed.getD e.on false = true
theorem covL_all {md : Region.Mode} {l : List Oper} {listed : Array Bool} {o : Oper} (hc : Closed md l listed) (ho : ∀ e ∈ o.after, Region.binds md e = true → listed.getD e.on false = true) : ∀ (m : Nat) (C : List Nat), (∀ j ∈ C, listed.getD j false = true) → covL md l o m C = true → ∀ i, i < m → listed.getD i false = true
 | 0, _, _, _, i, hi => absurd hi (by omega)
 | m + 1, C, hC, h, i, hi => by
   simp only [covL, Bool.and_eq_true, Bool.or_eq_true] at h
   have hm : listed.getD m false = true := by
     rcases h.1 with h1 | h1
     · obtain ⟨e, he, hb, hon⟩ := waitsOn_spec h1
       rw [← hon]; exact ho e he hb
     · obtain ⟨j, hj, h2⟩ := List.any_eq_true.1 h1
       cases hq : l[j]? with
       | none => rw [hq] at h2; cases h2
       | some q =>
         rw [hq] at h2
         obtain ⟨e, he, hb, hon⟩ := waitsOn_spec h2
         rw [← hon]; exact hc j q hq (hC j hj) e he hb
   rcases Nat.lt_succ_iff_lt_or_eq.1 hi with h1 | rfl
   · exact covL_all hc ho m (m :: C) (fun j hj => by
       rcases List.mem_cons.1 hj with rfl | hj
       · exact hm
       · exact hC j hj) h.2 i h1
   · exact hm
def seqB2 (md : Region.Mode) (l : List Oper) (n : Nat) : Bool := decide (n ≤ l.length) && (List.range l.length).all fun k => match l[k]? with
 | some o => (o.after.all fun e => !Region.binds md e || decide (e.on < k)) && (match o.guard with | none => true | some (g, _) => decide (g < n) && decide (k < n)) && (decide (k < n) || covL md l o k [])
 | none => true
structure SeqOk2 (md : Region.Mode) (l : List Oper) (n : Nat) : Prop where
 le : n ≤ l.length
 fw : ∀ (k : Nat) o, l[k]? = some o → ∀ e ∈ o.after, Region.binds md e = true → e.on < k
 gd : ∀ (k : Nat) o g b, l[k]? = some o → o.guard = some (g, b) → g < n ∧ k < n
 cv : ∀ (k : Nat) o, n ≤ k → l[k]? = some o → covL md l o k [] = true
theorem seqB2_spec {md : Region.Mode} {l : List Oper} {n : Nat} (h : seqB2 md l n = true) : SeqOk2 md l n := by
 unfold seqB2 at h
 simp only [Bool.and_eq_true, List.all_eq_true, List.mem_range, decide_eq_true_eq] at h
 obtain ⟨h0, h1⟩ := h
 have h2 : ∀ (k : Nat) o, l[k]? = some o → (o.after.all fun e => !Region.binds md e || decide (e.on < k)) = true ∧ (match o.guard with | none => true | some (g, _) => decide (g < n) && decide (k < n)) = true ∧ (decide (k < n) || covL md l o k []) = true := fun k o hk => by
  have := h1 k (List.getElem?_eq_some_iff.1 hk).1
  rw [hk] at this
  simp only [Bool.and_eq_true] at this
  exact ⟨this.1.1, this.1.2, this.2⟩
 refine ⟨h0, fun k o hk e he hb => ?_, fun k o g b hk hg => ?_, fun k o hn hk => ?_⟩
 · have := Array.all_eq_true'.1 (h2 k o hk).1 e he
   simp [hb] at this
   exact this
 · have := (h2 k o hk).2.1
   rw [hg] at this
   simpa using this
 · have := (h2 k o hk).2.2
   rw [Bool.or_eq_true] at this
   rcases this with h | h
   · rw [decide_eq_true_eq] at h; omega
   · exact h
theorem SeqOk2.not_ready {md : Region.Mode} {l : List Oper} {n k i : Nat} {o : Oper} {listed : Array Bool} (h : SeqOk2 md l n) (hc : Closed md l listed) (hk : n ≤ k) (ho : l[k]? = some o) (hi : i < k) (hf : listed.getD i false = false) : k ∉ Region.ready md l.toArray listed := by
 intro hr
 obtain ⟨_, o', ho', hall⟩ := mem_ready.1 hr
 have : o' = o := Option.some.inj ((show l[k]? = some o' by simpa using ho').symm.trans ho)
 subst this
 have := covL_all hc hall k [] (fun j hj => by cases hj) (h.cv k o' hk ho) i hi
 rw [hf] at this; cases this
theorem Closed.put {md : Region.Mode} {l : List Oper} {listed : Array Bool} {i : Nat} (hc : Closed md l listed) (hr : i ∈ Region.ready md l.toArray listed) : Closed md l (listed.setIfInBounds i true) := by
 intro j o hj hl e he hb
 by_cases hij : i = j
 · subst hij
   obtain ⟨_, o', ho', hall⟩ := mem_ready.1 hr
   have : o' = o := Option.some.inj ((show l[i]? = some o' by simpa using ho').symm.trans hj)
   subst this
   exact getD_set_true (hall e he hb)
 · rw [getD_set_ne false hij] at hl
   exact getD_set_true (hc j o hj hl e he hb)
theorem Closed.none {md : Region.Mode} {l : List Oper} (n : Nat) : Closed md l (Array.replicate n false) := by
 intro j o _ hl
 exfalso
 by_cases h : j < n <;> simp [h] at hl
def wpTailIn (F : Fence) (N : Nat) (P : Program) (Q : Exit → Act → World → Prop) : List Oper → Act → World → Prop
 | [], a, w => Q .normal a w
 | o :: r, a, w => o.wpIn F N P a w (wpTailIn F N P Q r) Q
structure SeqOkD (md : Region.Mode) (l : List Oper) (n : Nat) : Prop where
 s : SeqOk2 md l n
 dc : ∀ (k : Nat) o, l[k]? = some o → ∀ c, o.op ≠ .defer c
def noDefer (l : List Oper) : Bool := l.all fun o => match o.op with | .defer _ => false | _ => true
theorem noDefer_spec {l : List Oper} (h : noDefer l = true) : ∀ (k : Nat) o, l[k]? = some o → ∀ c, o.op ≠ .defer c := by
 intro k o hk c hc
 unfold noDefer at h
 have := List.all_eq_true.1 h o (List.mem_of_getElem? hk)
 rw [hc] at this
 cases this
theorem wpOpIn_of_gOp2 {P : Program} {md : Region.Mode} {W0 : World} {F : Nat → Option (Value → World → Prop)} {Q' : Exit → Act → World → Prop} {Fe : Fence} (hF : Wd Fe) (N : Nat) {ops ops' : Array Oper} {i : Nat} {listed : Array Bool} {a : Act} {w : World} {K K' : Act → World → Prop} (hop : ops'[i]? = ops[i]?)
 (hdc : ∀ o, ops[i]? = some o → ∀ c, o.op ≠ .defer c) (hy : ∀ o, ops[i]? = some o → Region.wanted o (yielded ops' a.tmps) = Region.wanted o (yielded ops a.tmps))
 (hu : uniqB ops = true) (hw : Cl W0 w) (ht : Told ops F listed a w) (hr : i ∈ Region.ready md ops listed)
 (h : ∀ a' w', Cl W0 w' → Told ops F (listed.setIfInBounds i true) a' w' → K a' w' → K' a' w') (hh : gOp P md ops W0 F i K a w) : wpOpIn Fe N P ops' Q' i K' a w := by
 unfold gOp at hh
 unfold wpOpIn
 obtain ⟨_, o, ho, _⟩ := mem_ready.1 hr
 have hy' := hy o ho
 rw [ho] at hh
 rw [hop, ho]
 simp only [hy']
 obtain ⟨kd, hk, hK⟩ := hh
 have hn : ∀ u w', Le w w' → kd.out u w' → K' (a.put o.dst u) w' := fun u w' hl hout => h _ _ (hw.next hl) (ht.put hu ho hk hl hout) (hK u w' hl hout)
 cases kd with
 | skip =>
   have hk' : Region.wanted o (yielded ops a.tmps) = false := hk
   simp only [hk', Bool.false_eq_true, if_false]
   exact ⟨fun _ _ => hF.fn _, hn undef w (Le.refl w) rfl⟩
 | one v =>
   obtain ⟨hwant, _, hng, hq⟩ := hk
   simp only [hwant, if_true]
   refine wpIn_of_wp hF N (hdc o ho) ?_
   unfold Oper.wp
   rcases quiet_value hng (hq w hw) with he | ⟨he, rfl⟩ <;> rw [he] <;> exact hn _ w (Le.refl w) rfl
 | make f =>
   obtain ⟨hwant, _, hg⟩ := hk
   simp only [hwant, if_true]
   exact wpIn_of_wp hF N (hdc o ho) (grows_wp (hg w hw (ht.knows hr ho)) hn)
section
variable {P : Program} {md : Region.Mode} {l : List Oper} {n : Nat} {Q' : Exit → Act → World → Prop} {Fe : Fence} {N : Nat}
theorem wpAnyIn_tail (hT : SeqOkD md l n) : ∀ (m k : Nat) (fuel : Nat) (listed : Array Bool) (a : Act) (w : World), Closed md l listed → k + m = l.length → n ≤ k → m ≤ fuel → listed.size = l.length → (∀ j, j < k → listed.getD j false = true) →
 (∀ j, k ≤ j → j < l.length → listed.getD j true = false) → wpTailIn Fe N P Q' (l.drop k) a w → wpAnyIn Fe N P md l.toArray Q' fuel listed a w
 | 0, k, fuel, listed, a, w, _, hk, _, _, _, hin, _, h => by
   have he : Region.ready md l.toArray listed = [] := by
    rw [List.eq_nil_iff_forall_not_mem]
    intro j hj
    obtain ⟨h1, o, h2, _⟩ := mem_ready.1 hj
    have hjl : j < l.length := by simpa using (Array.getElem?_eq_some_iff.1 h2).1
    rw [getD_tf (hin j (by omega))] at h1; cases h1
   rw [List.drop_of_length_le (by omega)] at h
   cases fuel with
   | zero => exact ⟨he, h⟩
   | succ f => exact ⟨fun _ => h, fun i hi => by rw [he] at hi; cases hi⟩
 | m + 1, k, fuel, listed, a, w, hcl, hk, hn, hf, hs, hin, hout, h => by
   have hkl : k < l.length := by omega
   obtain ⟨ok, ho⟩ : ∃ o, l[k]? = some o := ⟨l[k], List.getElem?_eq_getElem hkl⟩
   have hg : ok.guard = none := by
     cases hq : ok.guard with
     | none => rfl
     | some q => have := (hT.s.gd k _ q.1 q.2 ho hq).2; omega
   have hkr : k ∈ Region.ready md l.toArray listed := by
     rw [mem_ready]
     exact ⟨hout k (Nat.le_refl _) hkl, ok, by simpa using ho, fun e he hb => hin _ (hT.s.fw k _ ho e he hb)⟩
   cases fuel with
   | zero => omega
   | succ f =>
     refine ⟨fun he => (by rw [he] at hkr; cases hkr), fun i hi => ?_⟩
     obtain ⟨h1, o, h2, h3⟩ := mem_ready.1 hi
     have hil : i < l.length := by simpa using (Array.getElem?_eq_some_iff.1 h2).1
     have hik : i = k := by
       rcases Nat.lt_trichotomy i k with h' | h' | h'
       · rw [getD_tf (hin i h')] at h1; cases h1
       · exact h'
       · exact absurd hi (hT.s.not_ready hcl (by omega) (by simpa using h2) h' (getD_ff (hout k (Nat.le_refl _) hkl)))
     subst hik
     unfold wpOpIn
     rw [show l.toArray[i]? = some ok by simpa using ho]
     simp only
     rw [if_pos (by simp [Region.wanted, hg])]
     rw [List.drop_eq_getElem_cons hkl, show l[i] = ok from Option.some.inj ((List.getElem?_eq_getElem hkl).symm.trans ho)] at h
     refine Oper.wpIn_mono (fun a' w' h' => ?_) h
     refine wpAnyIn_tail hT m (i + 1) f _ a' w' (hcl.put hi) (by omega) (by omega) (by omega) (by simpa using hs) (fun j hj => ?_) (fun j hj hjl => ?_) h'
     · by_cases e : i = j
       · subst e; simp [hs, hkl]
       · rw [getD_set_ne false e]; exact hin j (by omega)
     · rw [getD_set_ne true (by omega)]; exact hout j (by omega) hjl
variable {W0 : World} {F : Nat → Option (Value → World → Prop)}
theorem wpAnyIn_of_G_seq (hF : Wd Fe) (hT : SeqOkD md l n) (hu : uniqB (l.take n).toArray = true) : ∀ (fuel : Nat) (listed listed' : Array Bool) (a : Act) (w : World), Closed md l listed → Cl W0 w → Told (l.take n).toArray F listed' a w → listed.size = l.length → listed'.size = n →
 (∀ j, j < n → ∀ d, listed.getD j d = listed'.getD j d) → (∀ j, n ≤ j → j < l.length → listed.getD j true = false) →
 wpAnyG P md (l.take n).toArray W0 F (wpTailIn Fe N P Q' (l.drop n)) fuel listed' a w → wpAnyIn Fe N P md l.toArray Q' (fuel + (l.length - n)) listed a w := by
 have hpre : ∀ j, j < n → (l.take n).toArray[j]? = l.toArray[j]? := fun j hj => by
  rw [List.getElem?_toArray, List.getElem?_toArray, List.getElem?_take_of_lt hj]
 have hprel : ∀ (j : Nat) o, (l.take n).toArray[j]? = some o → j < n := fun j o h => by
  have := (Array.getElem?_eq_some_iff.1 h).1
  simp at this; omega
 have hready : ∀ (listed listed' : Array Bool), (∀ j, j < n → ∀ d, listed.getD j d = listed'.getD j d) → ∀ j, j < n → (j ∈ Region.ready md l.toArray listed ↔ j ∈ Region.ready md (l.take n).toArray listed') := by
  intro listed listed' hag j hj
  rw [mem_ready, mem_ready, hag j hj, hpre j hj]
  constructor
  · rintro ⟨h1, o, h2, h3⟩
    exact ⟨h1, o, h2, fun e he hb => by rw [← hag _ (Nat.lt_trans (hT.s.fw j o (by simpa using h2) e he hb) hj)]; exact h3 e he hb⟩
  · rintro ⟨h1, o, h2, h3⟩
    exact ⟨h1, o, h2, fun e he hb => by rw [hag _ (Nat.lt_trans (hT.s.fw j o (by simpa using h2) e he hb) hj)]; exact h3 e he hb⟩
 have hall : ∀ (listed' : Array Bool), listed'.size = n → Region.ready md (l.take n).toArray listed' = [] → ∀ j, j < n → listed'.getD j false = true := by
  intro listed' hs he j
  induction j using Nat.strongRecOn with
  | _ j ih =>
    intro hj
    cases hq : listed'.getD j true with
    | true =>
      have : j < listed'.size := by omega
      simp [this] at hq ⊢; exact hq
    | false =>
      exfalso
      have hjl : j < l.length := by have := hT.s.le; omega
      have hm : j ∈ Region.ready md (l.take n).toArray listed' := by
        rw [mem_ready]
        refine ⟨hq, l[j], by rw [hpre j hj]; simp [hjl], fun e he hb => ?_⟩
        have := hT.s.fw j _ (by simp [hjl]) e he hb
        exact ih _ this (by omega)
      rw [he] at hm; cases hm
 have htail : ∀ (fuel : Nat) (listed listed' : Array Bool) (a : Act) (w : World), Closed md l listed → listed.size = l.length → listed'.size = n → (∀ j, j < n → ∀ d, listed.getD j d = listed'.getD j d) → (∀ j, n ≤ j → j < l.length → listed.getD j true = false) →
  Region.ready md (l.take n).toArray listed' = [] → l.length - n ≤ fuel → wpTailIn Fe N P Q' (l.drop n) a w → wpAnyIn Fe N P md l.toArray Q' fuel listed a w := by
  intro fuel listed listed' a w hcl hs hs' hag hout he hf h
  exact wpAnyIn_tail hT (l.length - n) n fuel listed a w hcl (by have := hT.s.le; omega) (Nat.le_refl _) hf hs (fun j hj => by rw [hag j hj]; exact hall listed' hs' he j hj) hout h
 intro fuel
 induction fuel with
 | zero =>
   intro listed listed' a w hcl _ _ hs hs' hag hout h
   exact htail _ listed listed' a w hcl hs hs' hag hout h.1 (by omega) h.2
 | succ fuel ih =>
   intro listed listed' a w hcl hC hTold hs hs' hag hout h
   by_cases he : Region.ready md (l.take n).toArray listed' = []
   · exact htail _ listed listed' a w hcl hs hs' hag hout he (by omega) (h.1 he)
   · obtain ⟨i0, hi0⟩ := List.exists_mem_of_ne_nil _ he
     have hi0n : i0 < n := by obtain ⟨_, o, ho, _⟩ := mem_ready.1 hi0; exact hprel i0 o ho
     rw [Nat.succ_add]
     refine ⟨fun h0 => ?_, fun i hi => ?_⟩
     · have := (hready listed listed' hag i0 hi0n).2 hi0
       rw [h0] at this; cases this
     · obtain ⟨h1, o, h2, h3⟩ := mem_ready.1 hi
       have hin : i < n := by
        rcases Nat.lt_or_ge i n with h' | h'
        · exact h'
        · exfalso
          have hi0f : listed.getD i0 false = false := by
             rw [hag i0 hi0n]; exact getD_ff (mem_ready.1 hi0).1
          exact hT.s.not_ready hcl h' (by simpa using h2) (by omega) hi0f hi
       have hi' := (hready listed listed' hag i hin).1 hi
       refine wpOpIn_of_gOp2 hF N (hpre i hin).symm (fun o' ho' => hT.dc i o' (by rw [hpre i hin] at ho'; simpa using ho')) (fun o' ho' => ?_) hu hC hTold hi' (fun a' w' hC' hT' hk => ih _ _ a' w' (hcl.put hi) hC' hT' (by simpa using hs) (by simpa using hs') (fun j hj d => ?_) (fun j hj hjl => ?_) hk) (h.2 i hi')
       · unfold Region.wanted
         cases hq : o'.guard with
         | none => rfl
         | some q =>
           obtain ⟨g, b⟩ := q
           have := hT.s.gd i o' g b (by rw [hpre i hin] at ho'; simpa using ho') hq
           simp only
           have hy : yielded l.toArray a.tmps g = yielded (l.take n).toArray a.tmps g := by
             unfold yielded
             rw [hpre g this.1]
           rw [hy]
       · by_cases e : i = j
         · subst e
           have h4 : i < listed.size := by have := hT.s.le; omega
           have h5 : i < listed'.size := by omega
           simp [h4, h5]
         · rw [getD_set_ne d e, getD_set_ne d e]; exact hag j hj d
       · rw [getD_set_ne true (by omega)]; exact hout j hj hjl
end
theorem wpIn_region_seq (n : Nat) {Fe : Fence} (hF : Wd Fe) {N : Nat} {P : Program} {id : Nat} {Q : Exit → Act → World → Prop} {a : Act} {w : World} {l : List Oper} (F : Nat → Option (Value → World → Prop)) (hm : P.follows .mixedOrders = true) (hB : Region.lexB .any (l.take n).toArray = true) (hu : uniqB (l.take n).toArray = true) (ht : seqB2 .any l n = true) (hd : noDefer l = true)
 (h : wpG P .any (l.take n).toArray w F (fun a' w' => wpTailIn Fe N P Q (l.drop n) a' w') (l.take n) 0 (fun _ => True) a) : (Code.region id l.toArray true).wpIn Fe N P Q a w := by
 have hT : SeqOkD .any l n := ⟨seqB2_spec ht, noDefer_spec hd⟩
 simp only [Region.lexB, Bool.and_eq_true] at hB
 have hw : Cl w w.drew := Cl.of (Below.refl _ _).drew
 have hany := wpAnyG_lex hu hB.1 (l.take n) 0 (Array.replicate (l.take n).toArray.size false) a w.drew (fun _ => True) (by simp) (by simpa using hB.2) hw (told_none _) trivial (fun _ _ _ h => h) h
 refine wpIn_region_any hm ?_
 have hln : (l.take n).length = n := by simp [hT.s.le]
 have := wpAnyIn_of_G_seq (N := N) (Q' := Q) hF hT hu (l.take n).length (Array.replicate l.length false) (Array.replicate (l.take n).toArray.size false) a w.drew (Closed.none _) hw (told_none _) (by simp) (by simp [hT.s.le]) (fun j hj d => ?_) (fun j hj hjl => by simp [hjl]) hany
 · rw [hln] at this
   have e : n + (l.length - n) = l.length := by have := hT.s.le; omega
   rw [e] at this
   simpa using this
 · have h1 : j < l.length := by have := hT.s.le; omega
   have h2 : j < min n l.length := by omega
   simp [h1, h2]
theorem wpTailIn_cons {F : Fence} (hF : Wd F) {N : Nat} {P : Program} {Q : Exit → Act → World → Prop} {o : Oper} {r : List Oper} {a : Act} {w : World} (hd : ∀ c, o.op ≠ .defer c) (h : o.wp P a w (wpTailIn F N P Q r) Q) : wpTailIn F N P Q (o :: r) a w := wpIn_of_wp hF N hd h
theorem wpTailIn_nil {F : Fence} {N : Nat} {P : Program} {Q : Exit → Act → World → Prop} {a : Act} {w : World} (h : Q .normal a w) : wpTailIn F N P Q [] a w := h
theorem wp_region_seq2 (n : Nat) {P : Program} {id : Nat} {Q : Exit → Act → World → Prop} {a : Act} {w : World} {l : List Oper} (F : Nat → Option (Value → World → Prop)) (hm : P.follows .mixedOrders = true) (hB : Region.lexB .any (l.take n).toArray = true) (hu : uniqB (l.take n).toArray = true) (ht : seqB2 .any l n = true) (hd : noDefer l = true)
 (h : wpG P .any (l.take n).toArray w F (fun a' w' => wpTailIn Fence.wide 0 P Q (l.drop n) a' w') (l.take n) 0 (fun _ => True) a) : (Code.region id l.toArray true).wp P Q a w :=
 wpIn_wide.1 (wpIn_region_seq n Wd.wide F hm hB hu ht hd h)
end Go.Proofs.YtnkaoplgmglijaaDoor
