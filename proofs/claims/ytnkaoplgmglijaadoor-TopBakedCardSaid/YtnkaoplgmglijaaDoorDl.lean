/- As Dk.wp_region_seq2, where operations of a list L, that make nothing, may come up behind those of the tail. -/
import Derived.Test.YtnkaoplgmglijaaDoorSqf
namespace Go.Proofs.YtnkaoplgmglijaaDoor.Dk
open Go.RowKit Classical
def allocsB (ops : Array Oper) (E : TypeId) (Sl : List Nat) : Bool := Sl.all fun j => match ops[j]? with | some o => o.guard.isNone && (match o.op with | .alloc e => e == E | _ => false) | none => false
theorem allocsB_spec {ops : Array Oper} {E : TypeId} {Sl : List Nat} (h : allocsB ops E Sl = true) {j : Nat} {o : Oper} (hj : j ∈ Sl) (ho : ops[j]? = some o) : o.guard = none ∧ o.op = .alloc E := by
 unfold allocsB at h
 rw [List.all_eq_true] at h
 have := h j hj
 rw [ho] at this
 simp only [Bool.and_eq_true, Option.isNone_iff_eq_none] at this
 refine ⟨this.1, ?_⟩
 have h2 := this.2
 split at h2
 · rename_i e he
   rw [he, beq_iff_eq.1 h2]
 · cases h2
section
variable {P : Program} {ops : Array Oper} {md : Region.Mode} {W0 : World} {F : Nat → Option (Value → World → Prop)} {Sl : List Nat} {Q : Act → World → Prop}
def InSz (ops : Array Oper) (j : Nat) (a : Act) : Prop := ∃ o d, ops[j]? = some o ∧ o.dst = some d ∧ d < a.tmps.size
def New (ops : Array Oper) (Sl : List Nat) (listed : Array Bool) (j : Nat) (a : Act) (u : Value) : Prop := j ∈ Sl → InSz ops j a → ∀ i oi d, ops[i]? = some oi → listed.getD i false = true → i ∈ Sl → oi.dst = some d → d < a.tmps.size → a.tmps.getD d undef ≠ u
structure Ok (P : Program) (ops : Array Oper) (F : Nat → Option (Value → World → Prop)) (Sl : List Nat) (E : TypeId) : Prop where
 ops : allocsB ops E Sl = true
 run : ∀ w, ∃ w', (Instr.alloc E true (.tuple #[])).run P w = .ok (.pointer (some ⟨w.heap.size, 0, none⟩)) w'
 fact : ∀ j ∈ Sl, ∃ W cs t, F j = some (NewAt W cs t)
theorem Ok.exec {E : TypeId} (hS : Ok P ops F Sl E) {j : Nat} {o : Oper} (hj : j ∈ Sl) (ho : ops[j]? = some o) (a : Act) (w : World) : ∃ w', (execOp a.eval o).run P w = .ok (.value (.pointer (some ⟨w.heap.size, 0, none⟩))) w' := by
 obtain ⟨_, hop⟩ := allocsB_spec hS.ops hj ho
 obtain ⟨w', hr⟩ := hS.run w
 refine ⟨w', ?_⟩
 unfold execOp
 rw [hop]
 show (do pure (Next.value (← Instr.alloc E true (.tuple #[]))) : Sem Next).run P w = _
 rw [Sem.run_bind, hr]
 rfl
theorem new_fresh {E : TypeId} (hS : Ok P ops F Sl E) {listed : Array Bool} {a : Act} {w : World} (ht : Told ops F listed a w) (j : Nat) : New ops Sl listed j a (.pointer (some ⟨w.heap.size, 0, none⟩)) := fun hj _ i oi d hi hli hSi hd hs heq => by
 obtain ⟨hgi, _⟩ := allocsB_spec hS.ops hSi hi
 obtain ⟨W, cs, t, hf⟩ := hS.fact i hSi
 obtain ⟨b, hb, hrow, _⟩ := (ht i oi d _ hi hli hgi hd hs hf).now
 rw [heq] at hb
 have : w.heap.size = b := by injection hb with e1; injection e1 with e2; injection e2
 have := (Array.getElem?_eq_some_iff.1 hrow).1
 omega
def gOp (P : Program) (md : Region.Mode) (ops : Array Oper) (W0 : World) (F : Nat → Option (Value → World → Prop)) (Sl : List Nat) (listed : Array Bool) (j : Nat) (K : Act → World → Prop) (a : Act) (w : World) : Prop :=
 match ops[j]? with
 | none => K a w
 | some o => ∃ kd : Kd, kd.ok P md ops W0 F j o a ∧ ∀ u w', Le w w' → kd.out u w' → New ops Sl listed j a u → K (a.put o.dst u) w'
def wpAnyG (P : Program) (md : Region.Mode) (ops : Array Oper) (W0 : World) (F : Nat → Option (Value → World → Prop)) (Sl : List Nat) (Q : Act → World → Prop) : Nat → Array Bool → Act → World → Prop
 | 0, listed, a, w => Region.ready md ops listed = [] ∧ Q a w
 | fuel + 1, listed, a, w =>
   (Region.ready md ops listed = [] → Q a w) ∧
   ∀ i ∈ Region.ready md ops listed, gOp P md ops W0 F Sl listed i (wpAnyG P md ops W0 F Sl Q fuel (listed.setIfInBounds i true)) a w
theorem some_out {E : TypeId} (hS : Ok P ops F Sl E) {listed : Array Bool} {a : Act} {w : World} {j : Nat} {o : Oper} {kd : Kd} (hw : Cl W0 w) (h : Told ops F listed a w) (hj : j ∈ Region.ready md ops listed) (ho : ops[j]? = some o) (hk : kd.ok P md ops W0 F j o a) : ∃ u w', Le w w' ∧ kd.out u w' ∧ New ops Sl listed j a u := by
 by_cases hm : j ∈ Sl
 · obtain ⟨W, cs, t, hf⟩ := hS.fact j hm
   cases kd with
   | skip => simp only [Kd.ok, Region.wanted, (allocsB_spec hS.ops hm ho).1] at hk; cases hk
   | one v => rw [hk.2.1] at hf; cases hf
   | make f =>
     have hg := hk.2.2 w hw (h.knows hj ho)
     obtain ⟨w', hr⟩ := hS.exec hm ho a w
     unfold Oper.grows at hg
     rw [hr] at hg
     exact ⟨_, w', hg.1, hg.2, new_fresh hS h j⟩
 · obtain ⟨u, w', h1, h2⟩ := Kd.some_out hw h hj ho hk
   exact ⟨u, w', h1, h2, fun hm' => absurd hm' hm⟩
theorem wpAnyG_first {E : TypeId} (hS : Ok P ops F Sl E) (hu : uniqB ops = true) {i : Nat} {oi : Oper} (hi : ops[i]? = some oi) (hsel : ∀ (j : Nat) (o : Oper) cs b, ops[j]? = some o → o.op ≠ .select cs b) :
 ∀ (fuel : Nat) (listed : Array Bool) (a : Act) (w : World), Cl W0 w → Told ops F listed a w →
   (∀ j oj, ops[j]? = some oj → j ≠ i → listed.getD j true = false → (∀ e ∈ oj.after, Region.binds md e = true → e.on ≠ i) → oi.apart ops oj = true) →
   i ∈ Region.ready md ops listed → ∀ kd : Kd, kd.ok P md ops W0 F i oi a →
   (∀ u w', Le w w' → kd.out u w' → New ops Sl listed i a u → wpAnyG P md ops W0 F Sl Q fuel (listed.setIfInBounds i true) (a.put oi.dst u) w') → wpAnyG P md ops W0 F Sl Q (fuel + 1) listed a w := by
 intro fuel
 induction fuel with
 | zero =>
   intro listed a w hw ht _ hr kd hk H
   obtain ⟨u0, w0, hl0, ho0, hn0⟩ := some_out hS hw ht hr hi hk
   refine ⟨fun h => (by rw [h] at hr; cases hr), fun j hj => ?_⟩
   by_cases hji : j = i
   · subst hji; unfold gOp; rw [hi]; exact ⟨kd, hk, H⟩
   · have := ready_mono hj hji
     rw [(H u0 w0 hl0 ho0 hn0).1] at this
     cases this
 | succ fuel ih =>
   intro listed a w hw ht hfree hr kd hk H
   obtain ⟨u0, w0, hl0, ho0, hn0⟩ := some_out hS hw ht hr hi hk
   refine ⟨fun h => (by rw [h] at hr; cases hr), fun j hj => ?_⟩
   by_cases hji : j = i
   · subst hji; unfold gOp; rw [hi]; exact ⟨kd, hk, H⟩
   · obtain ⟨hjun, oj, hoj, hall⟩ := mem_ready.1 hj
     have hjf : listed.getD j false = false := getD_ff hjun
     have hif : listed.getD i false = false := getD_ff (mem_ready.1 hr).1
     have hnot : ∀ e ∈ oj.after, Region.binds md e = true → e.on ≠ i := fun e he hb heq => by
        have h1 := hall e he hb
        have h0 := (mem_ready.1 hr).1
        rw [heq] at h1
        rcases Nat.lt_or_ge i listed.size with h' | h'
        · simp [h'] at h0 h1; rw [h0] at h1; cases h1
        · simp [Array.getElem?_eq_none h'] at h1
     have hnot2 : ∀ e ∈ oi.after, Region.binds md e = true → e.on ≠ j := fun e he hb heq => by
        obtain ⟨_, oi', hoi', hall'⟩ := mem_ready.1 hr
        have : oi' = oi := Option.some.inj (hoi'.symm.trans hi)
        subst this
        have h1 := hall' e he hb
        rw [heq] at h1
        rcases Nat.lt_or_ge j listed.size with h' | h'
        · simp [h'] at hjun h1; rw [hjun] at h1; cases h1
        · simp [Array.getElem?_eq_none h'] at h1
     obtain ⟨ha1, ha2, ha3⟩ := Oper.apart_spec (hfree j oj hoj hji hjun hnot)
     have h1 := (H u0 w0 hl0 ho0 hn0).2 j (ready_mono hj hji)
     unfold gOp at h1 ⊢
     rw [hoj] at h1 ⊢
     obtain ⟨kj, hkj, _⟩ := h1
     have hkj' := (Kd.ok_put hu hi ha1 (fun cs b => hsel j oj cs b hoj) hnot).1 hkj
     refine ⟨kj, hkj', fun uj w1 hl1 ho1 hn1 => ?_⟩
     refine ih (listed.setIfInBounds j true) (a.put oj.dst uj) w1 (hw.next hl1) (ht.put hu hoj hkj' hl1 ho1) (fun k ok hk' hki hun hno => ?_) (ready_mono hr (Ne.symm hji)) kd ((Kd.ok_put hu hoj ha3 (fun cs b => hsel i oi cs b hi) hnot2).2 hk) (fun u w' hl ho hn => ?_)
     · refine hfree k ok hk' hki ?_ hno
       by_cases hjk : j = k
       · subst hjk; exact hjun
       · rw [getD_set_ne true hjk] at hun; exact hun
     · have hni : New ops Sl listed i a u := fun hmi ⟨oz, dz, hz1, hz2, hz3⟩ k ok d hok hlk hmk hd hs => by
        have hjk : j ≠ k := fun e => by subst e; rw [hjf] at hlk; cases hlk
        have h5 := hn hmi ⟨oz, dz, hz1, hz2, by rw [put_size]; exact hz3⟩ k ok d hok (by rw [getD_set_ne false hjk]; exact hlk) hmk hd (by rw [put_size]; exact hs)
        rwa [put_getD_ne a uj (uniqB_spec hu hok hoj (Ne.symm hjk) hd)] at h5
       have h2 := (H u w' (hl1.trans hl) ho hni).2 j (ready_mono hj hji)
       unfold gOp at h2
       rw [hoj] at h2
       obtain ⟨kj2, hkj2, hK2⟩ := h2
       have hkj2' := (Kd.ok_put hu hi ha1 (fun cs b => hsel j oj cs b hoj) hnot).1 hkj2
       have he := Kd.uniq hw hkj2' hkj'
       have hnj : New ops Sl (listed.setIfInBounds i true) j (a.put oi.dst u) uj := fun hmj ⟨oz, dz, hz1, hz2, hz3⟩ k ok d hok hlk hmk hd hs => by
        rw [put_size] at hs hz3
        obtain rfl : oz = oj := Option.some.inj (hz1.symm.trans hoj)
        by_cases hki : i = k
        · subst hki
          have : ok = oi := Option.some.inj (hok.symm.trans hi)
          subst this
          rw [hd, put_getD_same a u hs]
          have hjl : j < listed.size := by
             rcases Nat.lt_or_ge j listed.size with h' | h'
             · exact h'
             · simp [Array.getElem?_eq_none h'] at hjun
          have h5 := hn hmk ⟨ok, d, hok, hd, by rw [put_size]; exact hs⟩ j oz dz hz1 (by simp [hjl]) hmj hz2 (by rw [put_size]; exact hz3)
          rw [hz2, put_getD_same a uj hz3] at h5
          exact fun e => h5 e.symm
        · rw [getD_set_ne false hki] at hlk
          rw [put_getD_ne a u (uniqB_spec hu hok hi (Ne.symm hki) hd)]
          exact hn1 hmj ⟨oz, dz, hz1, hz2, hz3⟩ k ok d hok hlk hmk hd hs
       have h3 := hK2 uj w' (Le.refl _) (by rw [he]; exact Kd.out_later ho1 hl) hnj
       rw [Array.setIfInBounds_comm _ _ hji, ← Act.put_comm a u uj ha2]
       exact h3
def wpG (P : Program) (md : Region.Mode) (ops : Array Oper) (W0 : World) (F : Nat → Option (Value → World → Prop)) (Sl : List Nat) (Q : Act → World → Prop) : List Oper → Nat → (World → Prop) → Act → Prop
 | [], _, G, a => ∀ w, Cl W0 w → G w → Q a w
 | o :: rest, k, G, a => ∃ kd : Kd, kd.ok P md ops W0 F k o a ∧ ∀ u, (∃ w, Cl W0 w ∧ G w ∧ kd.out u w) → (k ∈ Sl → InSz ops k a → ∀ i oi d, i < k → ops[i]? = some oi → i ∈ Sl → oi.dst = some d → d < a.tmps.size → a.tmps.getD d undef ≠ u) → wpG P md ops W0 F Sl Q rest (k + 1) (fun w => G w ∧ kd.out u w) (a.put o.dst u)
theorem wpAnyG_lex {E : TypeId} (hS : Ok P ops F Sl E) (hu : uniqB ops = true) (hs : Region.noSelect ops = true) : ∀ (l : List Oper) (k : Nat) (listed : Array Bool) (a : Act) (w : World) (G : World → Prop), (∀ j, l[j]? = ops[k + j]?) → listed.size = ops.size → (∀ j, j < k → listed.getD j false = true) →
 Region.lexFrom md ops l.length k listed = true → Cl W0 w → Told ops F listed a w → G w → (∀ w w', Le w w' → G w → G w') → wpG P md ops W0 F Sl Q l k G a → wpAnyG P md ops W0 F Sl Q l.length listed a w
 | [], _, _, _, w, _, _, _, _, hB, hw, _, hG, _, h => ⟨by simpa [Region.lexFrom] using hB, h w hw hG⟩
 | o :: l, k, listed, a, w, G, hl, hsz, hlt, hB, hw, ht, hG, hp, h => by
   have h0 : ops[k]? = some o := by simpa using (hl 0).symm
   have hk0 : k < ops.size := (Array.getElem?_eq_some_iff.1 h0).1
   simp only [List.length_cons, Region.lexFrom, Bool.and_eq_true] at hB
   obtain ⟨⟨hr, hf⟩, hB'⟩ := hB
   obtain ⟨kd, hk, hK⟩ := h
   exact wpAnyG_first hS hu h0 (Region.noSelect_spec hs) l.length listed a w hw ht (Region.free_spec h0 hf) (by simpa using hr) kd hk fun u w' hl1 ho hn =>
     wpAnyG_lex hS hu hs l (k + 1) _ _ w' _ (fun j => by have := hl (j + 1); simpa [Nat.add_assoc, Nat.add_comm 1 j] using this) (by simpa using hsz)
        (fun j hj => by
         by_cases e : k = j
         · subst e; simp [hsz, hk0]
         · rw [getD_set_ne false e]; exact hlt j (by omega)) hB' (hw.next hl1) (ht.put hu h0 hk hl1 ho) ⟨hp _ _ hl1 hG, ho⟩
        (fun w1 w2 h12 hg => ⟨hp _ _ h12 hg.1, Kd.out_later hg.2 h12⟩) (hK u ⟨w', hw.next hl1, hp _ _ hl1 hG, ho⟩ (fun hm hz i oi d hik hi hmi hd hds => hn hm hz i oi d hi (hlt i hik) hmi hd hds))
theorem wpOpIn_of_gOp {Fe : Fence} (hF : Wd Fe) (N : Nat) {E : TypeId} (hS : Ok P ops F Sl E) {ops' : Array Oper} {i : Nat} {listed : Array Bool} {a : Act} {w : World} {K K' : Act → World → Prop} {Q' : Exit → Act → World → Prop} (hop : ops'[i]? = ops[i]?) (hdc : ∀ o, ops[i]? = some o → ∀ c, o.op ≠ .defer c)
 (hy : ∀ o, ops[i]? = some o → Region.wanted o (yielded ops' a.tmps) = Region.wanted o (yielded ops a.tmps))
 (hu : uniqB ops = true) (hw : Cl W0 w) (ht : Told ops F listed a w) (hr : i ∈ Region.ready md ops listed)
 (h : ∀ a' w', Cl W0 w' → Told ops F (listed.setIfInBounds i true) a' w' → K a' w' → K' a' w') (hh : gOp P md ops W0 F Sl listed i K a w) : wpOpIn Fe N P ops' Q' i K' a w := by
 obtain ⟨_, o, ho, _⟩ := mem_ready.1 hr
 by_cases hm : i ∈ Sl
 · unfold gOp at hh
   rw [ho] at hh
   obtain ⟨kd, hk, hK⟩ := hh
   obtain ⟨W, cs, t, hf⟩ := hS.fact i hm
   cases kd with
   | skip => simp only [Kd.ok, Region.wanted, (allocsB_spec hS.ops hm ho).1] at hk; cases hk
   | one v => rw [hk.2.1] at hf; cases hf
   | make f =>
     obtain ⟨hwant, hf2, hg⟩ := hk
     have hg' := hg w hw (ht.knows hr ho)
     obtain ⟨w', hrun⟩ := hS.exec hm ho a w
     unfold Oper.grows at hg'
     rw [hrun] at hg'
     unfold wpOpIn
     rw [hop, ho]
     simp only
     rw [if_pos (by rw [hy o ho]; exact hwant)]
     refine wpIn_of_wp hF N (hdc o ho) ?_
     unfold Oper.wp
     rw [hrun]
     exact h _ _ (hw.next hg'.1) (ht.put (P := P) (md := md) (W0 := W0) (kd := Kd.make f) hu ho ⟨hwant, hf2, hg⟩ hg'.1 hg'.2) (hK _ w' hg'.1 hg'.2 (new_fresh hS ht i))
 · refine wpOpIn_of_gOp2 hF N hop hdc hy hu hw ht hr h ?_
   unfold gOp at hh
   unfold _root_.Go.Proofs.YtnkaoplgmglijaaDoor.gOp
   rw [ho] at hh ⊢
   obtain ⟨kd, hk, hK⟩ := hh
   exact ⟨kd, hk, fun u w' h1 h2 => hK u w' h1 h2 (fun hm' => absurd hm' hm)⟩
end
section
variable {P : Program} {md : Region.Mode} {l : List Oper} {n : Nat} {Q' : Exit → Act → World → Prop} {Fe : Fence} {N : Nat} {W0 : World} {F : Nat → Option (Value → World → Prop)} {Sl : List Nat}
theorem wpAnyIn_of_G_seq {E : TypeId} (hS : Ok P (l.take n).toArray F Sl E) (hF : Wd Fe) (hT : SeqOkD md l n) (hu : uniqB (l.take n).toArray = true) : ∀ (fuel : Nat) (listed listed' : Array Bool) (a : Act) (w : World), Closed md l listed → Cl W0 w → Told (l.take n).toArray F listed' a w → listed.size = l.length → listed'.size = n →
 (∀ j, j < n → ∀ d, listed.getD j d = listed'.getD j d) → (∀ j, n ≤ j → j < l.length → listed.getD j true = false) →
 wpAnyG P md (l.take n).toArray W0 F Sl (wpTailIn Fe N P Q' (l.drop n)) fuel listed' a w → wpAnyIn Fe N P md l.toArray Q' (fuel + (l.length - n)) listed a w := by
 have hpre : ∀ j, j < n → (l.take n).toArray[j]? = l.toArray[j]? := fun j hj => by
  rw [List.getElem?_toArray, List.getElem?_toArray, List.getElem?_take_of_lt hj]
 have hprel : ∀ (j : Nat) o, (l.take n).toArray[j]? = some o → j < n := fun j o h => by
  have := (Array.getElem?_eq_some_iff.1 h).1
  simp at this; omega
 have hready : ∀ (listed listed' : Array Bool), (∀ j, j < n → ∀ d, listed.getD j d = listed'.getD j d) → ∀ j, j < n → (j ∈ Region.ready md l.toArray listed ↔ j ∈ Region.ready md (l.take n).toArray listed') := by
  intro listed listed' hag j hj
  rw [mem_ready, mem_ready, hag j hj, hpre j hj]
  constructor
  · rintro ⟨h1, o, h2, h3⟩
    exact ⟨h1, o, h2, fun e he hb => by rw [← hag _ (Nat.lt_trans (hT.s.fw j o (by simpa using h2) e he hb) hj)]; exact h3 e he hb⟩
  · rintro ⟨h1, o, h2, h3⟩
    exact ⟨h1, o, h2, fun e he hb => by rw [hag _ (Nat.lt_trans (hT.s.fw j o (by simpa using h2) e he hb) hj)]; exact h3 e he hb⟩
 have hall : ∀ (listed' : Array Bool), listed'.size = n → Region.ready md (l.take n).toArray listed' = [] → ∀ j, j < n → listed'.getD j false = true := by
  intro listed' hs he j
  induction j using Nat.strongRecOn with
  | _ j ih =>
    intro hj
    cases hq : listed'.getD j true with
    | true =>
      have : j < listed'.size := by omega
      simp [this] at hq ⊢; exact hq
    | false =>
      exfalso
      have hjl : j < l.length := by have := hT.s.le; omega
      have hm : j ∈ Region.ready md (l.take n).toArray listed' := by
        rw [mem_ready]
        refine ⟨hq, l[j], by rw [hpre j hj]; simp [hjl], fun e he hb => ?_⟩
        have := hT.s.fw j _ (by simp [hjl]) e he hb
        exact ih _ this (by omega)
      rw [he] at hm; cases hm
 have htail : ∀ (fuel : Nat) (listed listed' : Array Bool) (a : Act) (w : World), Closed md l listed → listed.size = l.length → listed'.size = n → (∀ j, j < n → ∀ d, listed.getD j d = listed'.getD j d) → (∀ j, n ≤ j → j < l.length → listed.getD j true = false) →
  Region.ready md (l.take n).toArray listed' = [] → l.length - n ≤ fuel → wpTailIn Fe N P Q' (l.drop n) a w → wpAnyIn Fe N P md l.toArray Q' fuel listed a w := by
  intro fuel listed listed' a w hcl hs hs' hag hout he hf h
  exact wpAnyIn_tail hT (l.length - n) n fuel listed a w hcl (by have := hT.s.le; omega) (Nat.le_refl _) hf hs (fun j hj => by rw [hag j hj]; exact hall listed' hs' he j hj) hout h
 intro fuel
 induction fuel with
 | zero =>
   intro listed listed' a w hcl _ _ hs hs' hag hout h
   exact htail _ listed listed' a w hcl hs hs' hag hout h.1 (by omega) h.2
 | succ fuel ih =>
   intro listed listed' a w hcl hC hTold hs hs' hag hout h
   by_cases he : Region.ready md (l.take n).toArray listed' = []
   · exact htail _ listed listed' a w hcl hs hs' hag hout he (by omega) (h.1 he)
   · obtain ⟨i0, hi0⟩ := List.exists_mem_of_ne_nil _ he
     have hi0n : i0 < n := by obtain ⟨_, o, ho, _⟩ := mem_ready.1 hi0; exact hprel i0 o ho
     rw [Nat.succ_add]
     refine ⟨fun h0 => ?_, fun i hi => ?_⟩
     · have := (hready listed listed' hag i0 hi0n).2 hi0
       rw [h0] at this; cases this
     · obtain ⟨h1, o, h2, h3⟩ := mem_ready.1 hi
       have hin : i < n := by
        rcases Nat.lt_or_ge i n with h' | h'
        · exact h'
        · exfalso
          have hi0f : listed.getD i0 false = false := by
             rw [hag i0 hi0n]; exact getD_ff (mem_ready.1 hi0).1
          exact hT.s.not_ready hcl h' (by simpa using h2) (by omega) hi0f hi
       have hi' := (hready listed listed' hag i hin).1 hi
       refine wpOpIn_of_gOp hF N hS (hpre i hin).symm (fun o' ho' => hT.dc i o' (by rw [hpre i hin] at ho'; simpa using ho')) (fun o' ho' => ?_) hu hC hTold hi' (fun a' w' hC' hT' hk => ih _ _ a' w' (hcl.put hi) hC' hT' (by simpa using hs) (by simpa using hs') (fun j hj d => ?_) (fun j hj hjl => ?_) hk) (h.2 i hi')
       · unfold Region.wanted
         cases hq : o'.guard with
         | none => rfl
         | some q =>
           obtain ⟨g, b⟩ := q
           have := hT.s.gd i o' g b (by rw [hpre i hin] at ho'; simpa using ho') hq
           simp only
           have hy : yielded l.toArray a.tmps g = yielded (l.take n).toArray a.tmps g := by
             unfold yielded
             rw [hpre g this.1]
           rw [hy]
       · by_cases e : i = j
         · subst e
           have h4 : i < listed.size := by have := hT.s.le; omega
           have h5 : i < listed'.size := by omega
           simp [h4, h5]
         · rw [getD_set_ne d e, getD_set_ne d e]; exact hag j hj d
       · rw [getD_set_ne true (by omega)]; exact hout j hj hjl
end
theorem wpIn_region_seq (n : Nat) {Fe : Fence} (hF : Wd Fe) {N : Nat} {P : Program} {id : Nat} {Q : Exit → Act → World → Prop} {a : Act} {w : World} {l : List Oper} (F : Nat → Option (Value → World → Prop)) (hm : P.follows .mixedOrders = true) (hB : Region.lexB .any (l.take n).toArray = true) (hu : uniqB (l.take n).toArray = true) (Sl : List Nat) {E : TypeId} (hS : Ok P (l.take n).toArray F Sl E) (ht : seqB2 .any l n = true) (hd : noDefer l = true)
 (h : wpG P .any (l.take n).toArray w F Sl (fun a' w' => wpTailIn Fe N P Q (l.drop n) a' w') (l.take n) 0 (fun _ => True) a) : (Code.region id l.toArray true).wpIn Fe N P Q a w := by
 have hT : SeqOkD .any l n := ⟨seqB2_spec ht, noDefer_spec hd⟩
 simp only [Region.lexB, Bool.and_eq_true] at hB
 have hw : Cl w w.drew := Cl.of (Below.refl _ _).drew
 have hany := wpAnyG_lex hS hu hB.1 (l.take n) 0 (Array.replicate (l.take n).toArray.size false) a w.drew (fun _ => True) (by simp) (by simp) (fun j hj => absurd hj (by omega)) (by simpa using hB.2) hw (told_none _) trivial (fun _ _ _ h => h) h
 refine wpIn_region_any hm ?_
 have hln : (l.take n).length = n := by simp [hT.s.le]
 have := wpAnyIn_of_G_seq (N := N) (Q' := Q) hS hF hT hu (l.take n).length (Array.replicate l.length false) (Array.replicate (l.take n).toArray.size false) a w.drew (Closed.none _) hw (told_none _) (by simp) (by simp [hT.s.le]) (fun j hj d => ?_) (fun j hj hjl => by simp [hjl]) hany
 · rw [hln] at this
   have e : n + (l.length - n) = l.length := by have := hT.s.le; omega
   rw [e] at this
   simpa using this
 · have h1 : j < l.length := by have := hT.s.le; omega
   have h2 : j < min n l.length := by omega
   simp [h1, h2]
theorem wp_region_seq2 (n : Nat) {P : Program} {id : Nat} {Q : Exit → Act → World → Prop} {a : Act} {w : World} {l : List Oper} (F : Nat → Option (Value → World → Prop)) (hm : P.follows .mixedOrders = true) (hB : Region.lexB .any (l.take n).toArray = true) (hu : uniqB (l.take n).toArray = true) (Sl : List Nat) {E : TypeId} (hS : Ok P (l.take n).toArray F Sl E) (ht : seqB2 .any l n = true) (hd : noDefer l = true)
 (h : wpG P .any (l.take n).toArray w F Sl (fun a' w' => wpTailIn Fence.wide 0 P Q (l.drop n) a' w') (l.take n) 0 (fun _ => True) a) : (Code.region id l.toArray true).wp P Q a w :=
 wpIn_wide.1 (wpIn_region_seq n Wd.wide F hm hB hu Sl hS ht hd h)
section
variable {P : Program} {ops : Array Oper} {W0 : World} {F : Nat → Option (Value → World → Prop)} {Sl : List Nat} {Q : Act → World → Prop} {o : Oper} {rest : List Oper} {k : Nat} {G : World → Prop} {a : Act}
theorem wpG_one (hw : Region.wanted o (yielded ops a.tmps) = true) (hF : F k = none) (hn : noGo o.op = true) (h : ∀ K : Act → Prop, (∀ a', wpG P .any ops W0 F Sl Q rest (k + 1) G a' → K a') → o.quiet P a (fun w' => ∃ u, w' = ovr W0 u) K) : wpG P .any ops W0 F Sl Q (o :: rest) k G a := by
 obtain ⟨v, hv, hK⟩ := h _ (fun _ h => h)
 refine ⟨.one v, ⟨hw, hF, hn, hv⟩, fun u hu _ => ?_⟩
 obtain ⟨w, _, _, he⟩ := hu
 have he' : u = v := he
 subst he'
 have e : (fun w => G w ∧ Kd.out (.one u) u w) = G := by funext w; exact propext ⟨fun h => h.1, fun h => ⟨h, rfl⟩⟩
 rw [e]; exact hK
theorem wpG_skip (hw : Region.wanted o (yielded ops a.tmps) = false) (h : wpG P .any ops W0 F Sl Q rest (k + 1) G (a.put o.dst undef)) : wpG P .any ops W0 F Sl Q (o :: rest) k G a := by
 refine ⟨.skip, hw, fun u hu _ => ?_⟩
 obtain ⟨w, _, _, he⟩ := hu
 have he' : u = undef := he
 subst he'
 have e : (fun w => G w ∧ Kd.out .skip undef w) = G := by funext w; exact propext ⟨fun h => h.1, fun h => ⟨h, rfl⟩⟩
 rw [e]; exact h
theorem wpG_make (f : Value → World → Prop) (hw : Region.wanted o (yielded ops a.tmps) = true) (hF : F k = some f) (hg : ∀ w, Cl W0 w → Knows .any ops F o a w → Oper.grows P o a w f)
 (h : ∀ u, (∃ w, Cl W0 w ∧ f u w) → wpG P .any ops W0 F Sl Q rest (k + 1) (fun w => G w ∧ Box f u w) (a.put o.dst u)) : wpG P .any ops W0 F Sl Q (o :: rest) k G a :=
 ⟨.make f, ⟨hw, hF, hg⟩, fun u ⟨w, hc, _, hb⟩ _ => h u ⟨w, hc, Box.now hb⟩⟩
theorem wpG_nil (h : ∀ w, Cl W0 w → G w → Q a w) : wpG P .any ops W0 F Sl Q [] k G a := h
theorem wpG_new (f : Value → World → Prop) (hw : Region.wanted o (yielded ops a.tmps) = true) (hF : F k = some f) (hm : k ∈ Sl) (hz : InSz ops k a) (hg : ∀ w, Cl W0 w → Knows .any ops F o a w → Oper.grows P o a w f)
 (h : ∀ u, (∃ w, Cl W0 w ∧ f u w) → (∀ i oi d, i < k → ops[i]? = some oi → i ∈ Sl → oi.dst = some d → d < a.tmps.size → a.tmps.getD d undef ≠ u) → wpG P .any ops W0 F Sl Q rest (k + 1) (fun w => G w ∧ Box f u w) (a.put o.dst u)) : wpG P .any ops W0 F Sl Q (o :: rest) k G a :=
 ⟨.make f, ⟨hw, hF, hg⟩, fun u ⟨w, hc, _, hb⟩ hn => h u ⟨w, hc, Box.now hb⟩ (hn hm hz)⟩
theorem ptr_ne {p q : Nat} (h : (.pointer (some ⟨p, 0, none⟩) : Value) ≠ .pointer (some ⟨q, 0, none⟩)) : p ≠ q := fun e => h (by rw [e])
end
end Go.Proofs.YtnkaoplgmglijaaDoor.Dk
namespace Go.Proofs.YtnkaoplgmglijaaDoor.Dl
open Go.RowKit Classical
structure LateOk (md : Region.Mode) (l : List Oper) (L : List Nat) (n : Nat) : Prop where
 le : n ≤ l.length
 fw : ∀ (k : Nat) o, l[k]? = some o → ∀ e ∈ o.after, Region.binds md e = true → e.on < k
 gd : ∀ (k : Nat) o g b, l[k]? = some o → o.guard = some (g, b) → g < n ∧ k < n
 tw : ∀ (k : Nat) o, n ≤ k → l[k]? = some o → ∀ i, i < k → i ∈ L ∨ waitsOn md o i = true
 lt : ∀ i ∈ L, i < n
 fr : ∀ i ∈ L, ∀ oi, l[i]? = some oi → ∀ (j : Nat) oj, l[j]? = some oj → j ≠ i → waitsOn md oj i = true ∨ oi.apart l.toArray oj = true ∨ waitsOn md oi j = true
def lateB (md : Region.Mode) (l : List Oper) (L : List Nat) (n : Nat) : Bool := decide (n ≤ l.length) && ((List.range l.length).all fun k => match l[k]? with
 | some o => (o.after.all fun e => !Region.binds md e || decide (e.on < k)) && (match o.guard with | none => true | some (g, _) => decide (g < n) && decide (k < n)) && (decide (k < n) || (List.range k).all fun i => L.contains i || waitsOn md o i)
 | none => true) && (L.all fun i => decide (i < n) && (List.range l.length).all fun j => j == i || (match l[i]?, l[j]? with | some oi, some oj => waitsOn md oj i || (oi.apart l.toArray oj || waitsOn md oi j) | _, _ => true))
theorem lateB_spec {md : Region.Mode} {l : List Oper} {L : List Nat} {n : Nat} (h : lateB md l L n = true) : LateOk md l L n := by
 unfold lateB at h
 simp only [Bool.and_eq_true, List.all_eq_true, List.mem_range, decide_eq_true_eq] at h
 obtain ⟨⟨h0, h1⟩, h8⟩ := h
 have h2 : ∀ (k : Nat) o, l[k]? = some o → (o.after.all fun e => !Region.binds md e || decide (e.on < k)) = true ∧ (match o.guard with | none => true | some (g, _) => decide (g < n) && decide (k < n)) = true ∧ (decide (k < n) || (List.range k).all fun i => L.contains i || waitsOn md o i) = true := fun k o hk => by
  have := h1 k (List.getElem?_eq_some_iff.1 hk).1
  rw [hk] at this
  simp only [Bool.and_eq_true] at this
  exact ⟨this.1.1, this.1.2, this.2⟩
 refine ⟨h0, fun k o hk e he hb => ?_, fun k o g b hk hg => ?_, fun k o hn hk i hi => ?_, fun i hi => (h8 i hi).1, fun i hi oi hoi j oj hoj hji => ?_⟩
 · have := Array.all_eq_true'.1 (h2 k o hk).1 e he
   simp [hb] at this
   exact this
 · have := (h2 k o hk).2.1
   rw [hg] at this
   simpa using this
 · have := (h2 k o hk).2.2
   rw [Bool.or_eq_true] at this
   rcases this with h | h
   · rw [decide_eq_true_eq] at h; omega
   · have h5 := List.all_eq_true.1 h i (List.mem_range.2 hi)
     simpa using h5
 · have hj := (List.getElem?_eq_some_iff.1 hoj).1
   have := (h8 i hi).2 j hj
   simp only [hoi, hoj, Bool.or_eq_true, beq_iff_eq, hji, false_or] at this
   exact this
def wpTailH (P : Program) (S : World → Prop) (Q : Exit → Act → World → Prop) : List Oper → Act → World → Prop
 | [], a, w => Q .normal a w
 | o :: r, a, w => o.wp P a w (fun a1 w1 => S w1 ∧ wpTailH P S Q r a1 w1) Q
section
variable {P : Program} {md : Region.Mode} {l : List Oper} {L : List Nat} {n : Nat} {Q' : Exit → Act → World → Prop} {S : World → Prop}
theorem wpAnyH_tail (hT : LateOk md l L n) : ∀ (m k : Nat) (fuel : Nat) (listed : Array Bool) (a : Act) (w : World), k + m = l.length → n ≤ k → m ≤ fuel → listed.size = l.length → (∀ j, j < k → listed.getD j false = true) →
 (∀ j, k ≤ j → j < l.length → listed.getD j true = false) → wpTailH P S Q' (l.drop k) a w → wpAnyH P md l.toArray Q' S fuel listed a w
 | 0, k, fuel, listed, a, w, hk, _, _, _, hin, _, h => by
   have he : Region.ready md l.toArray listed = [] := by
    rw [List.eq_nil_iff_forall_not_mem]
    intro j hj
    obtain ⟨h1, o, h2, _⟩ := mem_ready.1 hj
    have hjl : j < l.length := by simpa using (Array.getElem?_eq_some_iff.1 h2).1
    rw [getD_tf (hin j (by omega))] at h1; cases h1
   rw [List.drop_of_length_le (by omega)] at h
   cases fuel with
   | zero => exact ⟨he, h⟩
   | succ f => exact ⟨fun _ => h, fun i hi => by rw [he] at hi; cases hi⟩
 | m + 1, k, fuel, listed, a, w, hk, hn, hf, hs, hin, hout, h => by
   have hkl : k < l.length := by omega
   obtain ⟨ok, ho⟩ : ∃ o, l[k]? = some o := ⟨l[k], List.getElem?_eq_getElem hkl⟩
   have hg : ok.guard = none := by
     cases hq : ok.guard with
     | none => rfl
     | some q => have := (hT.gd k _ q.1 q.2 ho hq).2; omega
   have hkr : k ∈ Region.ready md l.toArray listed := by
     rw [mem_ready]
     exact ⟨hout k (Nat.le_refl _) hkl, ok, by simpa using ho, fun e he hb => hin _ (hT.fw k _ ho e he hb)⟩
   cases fuel with
   | zero => omega
   | succ f =>
     refine ⟨fun he => (by rw [he] at hkr; cases hkr), fun i hi => ?_⟩
     obtain ⟨h1, o, h2, h3⟩ := mem_ready.1 hi
     have hil : i < l.length := by simpa using (Array.getElem?_eq_some_iff.1 h2).1
     have hik : i = k := by
       rcases Nat.lt_trichotomy i k with h' | h' | h'
       · rw [getD_tf (hin i h')] at h1; cases h1
       · exact h'
       · rcases hT.tw i o (by omega) (by simpa using h2) k h' with hL | hW
         · have := hT.lt k hL; omega
         · exact absurd hi (not_ready_of h2 hW (getD_ff (hout k (Nat.le_refl _) hkl)))
     subst hik
     unfold wpOp
     rw [show l.toArray[i]? = some ok by simpa using ho]
     simp only
     rw [if_pos (by simp [Region.wanted, hg])]
     left
     rw [List.drop_eq_getElem_cons hkl, show l[i] = ok from Option.some.inj ((List.getElem?_eq_getElem hkl).symm.trans ho)] at h
     refine Oper.wp_mono (fun a' w' h' => ⟨h'.1, ?_⟩) h
     refine wpAnyH_tail hT m (i + 1) f _ a' w' (by omega) (by omega) (by omega) (by simpa using hs) (fun j hj => ?_) (fun j hj hjl => ?_) h'.2
     · by_cases e : i = j
       · subst e; simp [hs, hkl]
       · rw [getD_set_ne false e]; exact hin j (by omega)
     · rw [getD_set_ne true (by omega)]; exact hout j (by omega) hjl
end
section
variable {P : Program} {md : Region.Mode} {W0 : World} {F : Nat → Option (Value → World → Prop)} {Sl : List Nat} {Q' : Exit → Act → World → Prop}
theorem wpOp_of_gOp {ops : Array Oper} {E : TypeId} (hS : Dk.Ok P ops F Sl E) {ops' : Array Oper} {i : Nat} {listed : Array Bool} {a : Act} {w : World} {K K' : Act → World → Prop} (hop : ops'[i]? = ops[i]?)
 (hy : ∀ o, ops[i]? = some o → Region.wanted o (yielded ops' a.tmps) = Region.wanted o (yielded ops a.tmps))
 (hu : uniqB ops = true) (hw : Cl W0 w) (ht : Told ops F listed a w) (hr : i ∈ Region.ready md ops listed)
 (h : ∀ a' w', Cl W0 w' → Told ops F (listed.setIfInBounds i true) a' w' → K a' w' → K' a' w') (hh : Dk.gOp P md ops W0 F Sl listed i K a w) : wpOp P ops' Q' i K' a w := by
 obtain ⟨_, o, ho, _⟩ := mem_ready.1 hr
 by_cases hm : i ∈ Sl
 · unfold Dk.gOp at hh
   rw [ho] at hh
   obtain ⟨kd, hk, hK⟩ := hh
   obtain ⟨W, cs, t, hf⟩ := hS.fact i hm
   cases kd with
   | skip => simp only [Kd.ok, Region.wanted, (Dk.allocsB_spec hS.ops hm ho).1] at hk; cases hk
   | one v => rw [hk.2.1] at hf; cases hf
   | make f =>
     obtain ⟨hwant, hf2, hg⟩ := hk
     have hg' := hg w hw (ht.knows hr ho)
     obtain ⟨w', hrun⟩ := hS.exec hm ho a w
     unfold Oper.grows at hg'
     rw [hrun] at hg'
     unfold wpOp
     rw [hop, ho]
     simp only
     rw [if_pos (by rw [hy o ho]; exact hwant)]
     left
     unfold Oper.wp
     rw [hrun]
     exact h _ _ (hw.next hg'.1) (ht.put (P := P) (md := md) (W0 := W0) (kd := Kd.make f) hu ho ⟨hwant, hf2, hg⟩ hg'.1 hg'.2) (hK _ w' hg'.1 hg'.2 (Dk.new_fresh hS ht i))
 · refine wpOp_of_gOp2 hop hy hu hw ht hr h ?_
   unfold Dk.gOp at hh
   unfold _root_.Go.Proofs.YtnkaoplgmglijaaDoor.gOp
   rw [ho] at hh ⊢
   obtain ⟨kd, hk, hK⟩ := hh
   exact ⟨kd, hk, fun u w' h1 h2 => hK u w' h1 h2 (fun hm' => absurd hm' hm)⟩
variable {l : List Oper} {L : List Nat} {n : Nat}
theorem wpAnyH_of_late {E : TypeId} (hS : Dk.Ok P (l.take n).toArray F Sl E) (hT : LateOk md l L n) (hLF : ∀ i ∈ L, F i = none) (hu : uniqB (l.take n).toArray = true) (hsel : Region.noSelect l.toArray = true)
 (hQ : ∀ (c : List PanicEntry) a d v w, Q' (.panic c) (Act.put a d v) w → Q' (.panic c) a w) : ∀ (fuel : Nat) (listed listed' : Array Bool) (a : Act) (w : World), Cl W0 w → Told (l.take n).toArray F listed' a w → listed.size = l.length → listed'.size = n →
 (∀ j, j < n → ∀ d, listed.getD j d = listed'.getD j d) → (∀ j, n ≤ j → j < l.length → listed.getD j true = false) →
 Dk.wpAnyG P md (l.take n).toArray W0 F Sl (wpTailH P (Cl W0) Q' (l.drop n)) fuel listed' a w → wpAnyH P md l.toArray Q' (Cl W0) (fuel + (l.length - n)) listed a w := by
 have hpre : ∀ j, j < n → (l.take n).toArray[j]? = l.toArray[j]? := fun j hj => by
  rw [List.getElem?_toArray, List.getElem?_toArray, List.getElem?_take_of_lt hj]
 have hprel : ∀ (j : Nat) o, (l.take n).toArray[j]? = some o → j < n := fun j o h => by
  have := (Array.getElem?_eq_some_iff.1 h).1
  simp at this; omega
 have hready : ∀ (listed listed' : Array Bool), (∀ j, j < n → ∀ d, listed.getD j d = listed'.getD j d) → ∀ j, j < n → (j ∈ Region.ready md l.toArray listed ↔ j ∈ Region.ready md (l.take n).toArray listed') := by
  intro listed listed' hag j hj
  rw [mem_ready, mem_ready, hag j hj, hpre j hj]
  constructor
  · rintro ⟨h1, o, h2, h3⟩
    exact ⟨h1, o, h2, fun e he hb => by rw [← hag _ (Nat.lt_trans (hT.fw j o (by simpa using h2) e he hb) hj)]; exact h3 e he hb⟩
  · rintro ⟨h1, o, h2, h3⟩
    exact ⟨h1, o, h2, fun e he hb => by rw [hag _ (Nat.lt_trans (hT.fw j o (by simpa using h2) e he hb) hj)]; exact h3 e he hb⟩
 have hall : ∀ (listed' : Array Bool), listed'.size = n → Region.ready md (l.take n).toArray listed' = [] → ∀ j, j < n → listed'.getD j false = true := by
  intro listed' hs he j
  induction j using Nat.strongRecOn with
  | _ j ih =>
    intro hj
    cases hq : listed'.getD j true with
    | true =>
      have : j < listed'.size := by omega
      simp [this] at hq ⊢; exact hq
    | false =>
      exfalso
      have hjl : j < l.length := by have := hT.le; omega
      have hm : j ∈ Region.ready md (l.take n).toArray listed' := by
        rw [mem_ready]
        refine ⟨hq, l[j], by rw [hpre j hj]; simp [hjl], fun e he hb => ?_⟩
        have := hT.fw j _ (by simp [hjl]) e he hb
        exact ih _ this (by omega)
      rw [he] at hm; cases hm
 have htail : ∀ (fuel : Nat) (listed listed' : Array Bool) (a : Act) (w : World), listed.size = l.length → listed'.size = n → (∀ j, j < n → ∀ d, listed.getD j d = listed'.getD j d) → (∀ j, n ≤ j → j < l.length → listed.getD j true = false) →
  Region.ready md (l.take n).toArray listed' = [] → l.length - n ≤ fuel → wpTailH P (Cl W0) Q' (l.drop n) a w → wpAnyH P md l.toArray Q' (Cl W0) fuel listed a w := by
  intro fuel listed listed' a w hs hs' hag hout he hf h
  exact wpAnyH_tail hT (l.length - n) n fuel listed a w (by have := hT.le; omega) (Nat.le_refl _) hf hs (fun j hj => by rw [hag j hj]; exact hall listed' hs' he j hj) hout h
 have hwanted : ∀ (i : Nat) (o : Oper) (t : Array Value), l.toArray[i]? = some o → Region.wanted o (yielded l.toArray t) = Region.wanted o (yielded (l.take n).toArray t) := by
  intro i o t ho
  unfold Region.wanted
  cases hq : o.guard with
  | none => rfl
  | some q =>
    obtain ⟨g, b⟩ := q
    have := hT.gd i o g b (by simpa using ho) hq
    simp only
    have hy : yielded l.toArray t g = yielded (l.take n).toArray t g := by
        unfold yielded
        rw [hpre g this.1]
    rw [hy]
 have hset : ∀ (listed listed' : Array Bool) (i : Nat), i < n → listed.size = l.length → listed'.size = n → (∀ j, j < n → ∀ d, listed.getD j d = listed'.getD j d) → ∀ j, j < n → ∀ d, (listed.setIfInBounds i true).getD j d = (listed'.setIfInBounds i true).getD j d := by
  intro listed listed' i hin hs hs' hag j hj d
  by_cases e : i = j
  · subst e
    have h4 : i < listed.size := by have := hT.le; omega
    have h5 : i < listed'.size := by omega
    simp [h4, h5]
  · rw [getD_set_ne d e, getD_set_ne d e]; exact hag j hj d
 intro fuel
 induction fuel with
 | zero =>
   intro listed listed' a w _ _ hs hs' hag hout h
   exact htail _ listed listed' a w hs hs' hag hout h.1 (by omega) h.2
 | succ fuel ih =>
   intro listed listed' a w hC hTold hs hs' hag hout h
   by_cases he : Region.ready md (l.take n).toArray listed' = []
   · exact htail _ listed listed' a w hs hs' hag hout he (by omega) (h.1 he)
   · rw [Nat.succ_add]
     by_cases hlate : ∃ i ∈ L, i ∈ Region.ready md l.toArray listed
     · obtain ⟨i, hiL, hir⟩ := hlate
       have hin := hT.lt i hiL
       have hi' := (hready listed listed' hag i hin).1 hir
       obtain ⟨_, oi, hoi, _⟩ := mem_ready.1 hir
       have hoi2 : (l.take n).toArray[i]? = some oi := by rw [hpre i hin]; exact hoi
       have hq := h.2 i hi'
       unfold Dk.gOp at hq
       rw [hoi2] at hq
       obtain ⟨kd, hk, hK⟩ := hq
       have hnS : i ∉ Sl := fun hm => by
         obtain ⟨_, _, _, hf⟩ := hS.fact i hm
         rw [hLF i hiL] at hf
         cases hf
       have hap := fun (j : Nat) (oj : Oper) (hj : l.toArray[j]? = some oj) (hji : j ≠ i) (hun : listed.getD j true = false) (hno : ∀ e ∈ oj.after, Region.binds md e = true → e.on ≠ i) => show oi.apart l.toArray oj = true by
         rcases hT.fr i hiL oi (by simpa using hoi) j oj (by simpa using hj) hji with hw | hw | hw
         · obtain ⟨e, he, hb, hon⟩ := waitsOn_spec hw
           exact absurd hon (hno e he hb)
         · exact hw
         · exact absurd hir (not_ready_of hoi hw (getD_ff hun))
       have hrest : ∀ v, kd.out v w → wpAnyH P md l.toArray Q' (Cl W0) (fuel + (l.length - n)) (listed.setIfInBounds i true) (a.put oi.dst v) w := fun v ho =>
         ih (listed.setIfInBounds i true) (listed'.setIfInBounds i true) (a.put oi.dst v) w hC (hTold.put hu hoi2 hk (Le.refl w) ho) (by simpa using hs) (by simpa using hs') (hset _ _ i hin hs hs' hag) (fun j hj hjl => by rw [getD_set_ne true (by omega)]; exact hout j hj hjl) (hK v w (Le.refl w) ho (fun hm => absurd hm hnS))
       cases kd with
       | skip =>
         have hk' : Region.wanted oi (yielded (l.take n).toArray a.tmps) = false := hk
         rw [← hwanted i oi _ hoi] at hk'
         exact wpAnyH_first hoi (Region.noSelect_spec hsel) (fun c a w => hQ c a _ _ w) _ listed a w hap hir (.inr ⟨hk', rfl⟩) hC (hrest undef rfl)
       | one v =>
         obtain ⟨hk1, _, hk3, hk4⟩ := hk
         rw [← hwanted i oi _ hoi] at hk1
         refine wpAnyH_first hoi (Region.noSelect_spec hsel) (fun c a w => hQ c a _ _ w) _ listed a w hap hir (.inl ⟨hk1, fun w2 hw2 => ?_⟩) hC (hrest v rfl)
         rcases quiet_value hk3 (hk4 w2 hw2) with h1 | ⟨h1, _⟩
         · exact h1
         · exact absurd h1 (noGo_value hk3)
       | make f =>
         have := hk.2.1
         rw [hLF i hiL] at this; cases this
     · obtain ⟨i0, hi0⟩ := List.exists_mem_of_ne_nil _ he
       have hi0n : i0 < n := by obtain ⟨_, o, ho, _⟩ := mem_ready.1 hi0; exact hprel i0 o ho
       refine ⟨fun h0 => ?_, fun i hi => ?_⟩
       · have := (hready listed listed' hag i0 hi0n).2 hi0
         rw [h0] at this; cases this
       · obtain ⟨h1, o, h2, h3⟩ := mem_ready.1 hi
         have hin : i < n := by
          rcases Nat.lt_or_ge i n with h' | h'
          · exact h'
          · exfalso
            have hi0f : listed.getD i0 false = false := by
               rw [hag i0 hi0n]; exact getD_ff (mem_ready.1 hi0).1
            rcases hT.tw i o h' (by simpa using h2) i0 (by omega) with hL | hW
            · exact hlate ⟨i0, hL, (hready listed listed' hag i0 hi0n).2 hi0⟩
            · exact not_ready_of h2 hW hi0f hi
         have hi' := (hready listed listed' hag i hin).1 hi
         refine wpOp_of_gOp hS (hpre i hin).symm (fun o' ho' => hwanted i o' _ (by rw [hpre i hin] at ho'; exact ho')) hu hC hTold hi' (fun a' w' hC' hT' hk => ⟨hC', ih _ _ a' w' hC' hT' (by simpa using hs) (by simpa using hs') (hset _ _ i hin hs hs' hag) (fun j hj hjl => ?_) hk⟩) (h.2 i hi')
         rw [getD_set_ne true (by omega)]; exact hout j hj hjl
end
theorem wp_region_late (n : Nat) (L : List Nat) {P : Program} {id : Nat} {Q : Exit → Act → World → Prop} {a : Act} {w : World} {l : List Oper} (F : Nat → Option (Value → World → Prop)) (hm : P.follows .mixedOrders = true) (hB : Region.lexB .any (l.take n).toArray = true) (hs : Region.noSelect l.toArray = true) (hu : uniqB (l.take n).toArray = true) (Sl : List Nat) {E : TypeId} (hS : Dk.Ok P (l.take n).toArray F Sl E) (ht : lateB .any l L n = true) (hLF : ∀ i ∈ L, F i = none)
 (hQ : ∀ (c : List PanicEntry) a d v w, Q (.panic c) (Act.put a d v) w → Q (.panic c) a w)
 (h : Dk.wpG P .any (l.take n).toArray w F Sl (fun a' w' => wpTailH P (Cl w) Q (l.drop n) a' w') (l.take n) 0 (fun _ => True) a) : (Code.region id l.toArray true).wp P Q a w := by
 have hT := lateB_spec ht
 simp only [Region.lexB, Bool.and_eq_true] at hB
 have hw : Cl w w.drew := Cl.of (Below.refl _ _).drew
 have hany := Dk.wpAnyG_lex hS hu hB.1 (l.take n) 0 (Array.replicate (l.take n).toArray.size false) a w.drew (fun _ => True) (by simp) (by simp) (fun j hj => absurd hj (by omega)) (by simpa using hB.2) hw (told_none _) trivial (fun _ _ _ h => h) h
 refine wp_region_held (S := Cl w) hm ?_
 have hln : (l.take n).length = n := by simp [hT.le]
 have := wpAnyH_of_late (Q' := Q) hS hT hLF hu hs hQ (l.take n).length (Array.replicate l.length false) (Array.replicate (l.take n).toArray.size false) a w.drew hw (told_none _) (by simp) (by simp [hT.le]) (fun j hj d => ?_) (fun j hj hjl => by simp [hjl]) hany
 · rw [hln] at this
   have e : n + (l.length - n) = l.length := by have := hT.le; omega
   rw [e] at this
   simpa using this
 · have h1 : j < l.length := by have := hT.le; omega
   have h2 : j < min n l.length := by omega
   simp [h1, h2]
theorem wpTailH_cons {P : Program} {S : World → Prop} {Q : Exit → Act → World → Prop} {o : Oper} {r : List Oper} {a : Act} {w : World} (h : o.wp P a w (fun a1 w1 => S w1 ∧ wpTailH P S Q r a1 w1) Q) : wpTailH P S Q (o :: r) a w := h
theorem wpTailH_nil {P : Program} {S : World → Prop} {Q : Exit → Act → World → Prop} {a : Act} {w : World} (h : Q .normal a w) : wpTailH P S Q [] a w := h
end Go.Proofs.YtnkaoplgmglijaaDoor.Dl
