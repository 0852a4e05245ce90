/- As the law of regions that draw and make memory (Mk, Sqf), where the blocks made by several allocs are known to differ from one another. -/
import Derived.Test.YtliolnfcgaflcaaGreatSqf
namespace Go.Proofs.YtliolnfcgaflcaaGreat.Dk
open Go.RowKit Classical
def allocsB (ops : Array Oper) (E : TypeId) (Sl : List Nat) : Bool := Sl.all fun j => match ops[j]? with | some o => o.guard.isNone && (match o.op with | .alloc e => e == E | _ => false) | none => false
theorem allocsB_spec {ops : Array Oper} {E : TypeId} {Sl : List Nat} (h : allocsB ops E Sl = true) {j : Nat} {o : Oper} (hj : j ∈ Sl) (ho : ops[j]? = some o) : o.guard = none ∧ o.op = .alloc E := by
 unfold allocsB at h
 rw [List.all_eq_true] at h
 have := h j hj
 rw [ho] at this
 simp only [Bool.and_eq_true, Option.isNone_iff_eq_none] at this
 refine ⟨this.1, ?_⟩
 have h2 := this.2
 split at h2
 · rename_i e he
   rw [he, beq_iff_eq.1 h2]
 · cases h2
section
variable {P : Program} {ops : Array Oper} {md : Region.Mode} {W0 : World} {F : Nat → Option (Value → World → Prop)} {Sl : List Nat} {Q : Act → World → Prop}
def InSz (ops : Array Oper) (j : Nat) (a : Act) : Prop := ∃ o d, ops[j]? = some o ∧ o.dst = some d ∧ d < a.tmps.size
def New (ops : Array Oper) (Sl : List Nat) (listed : Array Bool) (j : Nat) (a : Act) (u : Value) : Prop := j ∈ Sl → InSz ops j a → ∀ i oi d, ops[i]? = some oi → listed.getD i false = true → i ∈ Sl → oi.dst = some d → d < a.tmps.size → a.tmps.getD d undef ≠ u
structure Ok (P : Program) (ops : Array Oper) (F : Nat → Option (Value → World → Prop)) (Sl : List Nat) (E : TypeId) : Prop where
 ops : allocsB ops E Sl = true
 run : ∀ w, ∃ w', (Instr.alloc E true (.tuple #[])).run P w = .ok (.pointer (some ⟨w.heap.size, 0, none⟩)) w'
 fact : ∀ j ∈ Sl, ∃ W cs t, F j = some (NewAt W cs t)
theorem Ok.exec {E : TypeId} (hS : Ok P ops F Sl E) {j : Nat} {o : Oper} (hj : j ∈ Sl) (ho : ops[j]? = some o) (a : Act) (w : World) : ∃ w', (execOp a.eval o).run P w = .ok (.value (.pointer (some ⟨w.heap.size, 0, none⟩))) w' := by
 obtain ⟨_, hop⟩ := allocsB_spec hS.ops hj ho
 obtain ⟨w', hr⟩ := hS.run w
 refine ⟨w', ?_⟩
 unfold execOp
 rw [hop]
 show (do pure (Next.value (← Instr.alloc E true (.tuple #[]))) : Sem Next).run P w = _
 rw [Sem.run_bind, hr]
 rfl
theorem new_fresh {E : TypeId} (hS : Ok P ops F Sl E) {listed : Array Bool} {a : Act} {w : World} (ht : Told ops F listed a w) (j : Nat) : New ops Sl listed j a (.pointer (some ⟨w.heap.size, 0, none⟩)) := fun hj _ i oi d hi hli hSi hd hs heq => by
 obtain ⟨hgi, _⟩ := allocsB_spec hS.ops hSi hi
 obtain ⟨W, cs, t, hf⟩ := hS.fact i hSi
 obtain ⟨b, hb, hrow, _⟩ := (ht i oi d _ hi hli hgi hd hs hf).now
 rw [heq] at hb
 have : w.heap.size = b := by injection hb with e1; injection e1 with e2; injection e2
 have := (Array.getElem?_eq_some_iff.1 hrow).1
 omega
def gOp (P : Program) (md : Region.Mode) (ops : Array Oper) (W0 : World) (F : Nat → Option (Value → World → Prop)) (Sl : List Nat) (listed : Array Bool) (j : Nat) (K : Act → World → Prop) (a : Act) (w : World) : Prop :=
 match ops[j]? with
 | none => K a w
 | some o => ∃ kd : Kd, kd.ok P md ops W0 F j o a ∧ ∀ u w', Le w w' → kd.out u w' → New ops Sl listed j a u → K (a.put o.dst u) w'
def wpAnyG (P : Program) (md : Region.Mode) (ops : Array Oper) (W0 : World) (F : Nat → Option (Value → World → Prop)) (Sl : List Nat) (Q : Act → World → Prop) : Nat → Array Bool → Act → World → Prop
 | 0, listed, a, w => Region.ready md ops listed = [] ∧ Q a w
 | fuel + 1, listed, a, w =>
   (Region.ready md ops listed = [] → Q a w) ∧
   ∀ i ∈ Region.ready md ops listed, gOp P md ops W0 F Sl listed i (wpAnyG P md ops W0 F Sl Q fuel (listed.setIfInBounds i true)) a w
theorem some_out {E : TypeId} (hS : Ok P ops F Sl E) {listed : Array Bool} {a : Act} {w : World} {j : Nat} {o : Oper} {kd : Kd} (hw : Cl W0 w) (h : Told ops F listed a w) (hj : j ∈ Region.ready md ops listed) (ho : ops[j]? = some o) (hk : kd.ok P md ops W0 F j o a) : ∃ u w', Le w w' ∧ kd.out u w' ∧ New ops Sl listed j a u := by
 by_cases hm : j ∈ Sl
 · obtain ⟨W, cs, t, hf⟩ := hS.fact j hm
   cases kd with
   | skip => simp only [Kd.ok, Region.wanted, (allocsB_spec hS.ops hm ho).1] at hk; cases hk
   | one v => rw [hk.2.1] at hf; cases hf
   | make f =>
     have hg := hk.2.2 w hw (h.knows hj ho)
     obtain ⟨w', hr⟩ := hS.exec hm ho a w
     unfold Oper.grows at hg
     rw [hr] at hg
     exact ⟨_, w', hg.1, hg.2, new_fresh hS h j⟩
 · obtain ⟨u, w', h1, h2⟩ := Kd.some_out hw h hj ho hk
   exact ⟨u, w', h1, h2, fun hm' => absurd hm' hm⟩
theorem wpAnyG_first {E : TypeId} (hS : Ok P ops F Sl E) (hu : uniqB ops = true) {i : Nat} {oi : Oper} (hi : ops[i]? = some oi) (hsel : ∀ (j : Nat) (o : Oper) cs b, ops[j]? = some o → o.op ≠ .select cs b) :
 ∀ (fuel : Nat) (listed : Array Bool) (a : Act) (w : World), Cl W0 w → Told ops F listed a w →
   (∀ j oj, ops[j]? = some oj → j ≠ i → listed.getD j true = false → (∀ e ∈ oj.after, Region.binds md e = true → e.on ≠ i) → oi.apart ops oj = true) →
   i ∈ Region.ready md ops listed → ∀ kd : Kd, kd.ok P md ops W0 F i oi a →
   (∀ u w', Le w w' → kd.out u w' → New ops Sl listed i a u → wpAnyG P md ops W0 F Sl Q fuel (listed.setIfInBounds i true) (a.put oi.dst u) w') → wpAnyG P md ops W0 F Sl Q (fuel + 1) listed a w := by
 intro fuel
 induction fuel with
 | zero =>
   intro listed a w hw ht _ hr kd hk H
   obtain ⟨u0, w0, hl0, ho0, hn0⟩ := some_out hS hw ht hr hi hk
   refine ⟨fun h => (by rw [h] at hr; cases hr), fun j hj => ?_⟩
   by_cases hji : j = i
   · subst hji; unfold gOp; rw [hi]; exact ⟨kd, hk, H⟩
   · have := ready_mono hj hji
     rw [(H u0 w0 hl0 ho0 hn0).1] at this
     cases this
 | succ fuel ih =>
   intro listed a w hw ht hfree hr kd hk H
   obtain ⟨u0, w0, hl0, ho0, hn0⟩ := some_out hS hw ht hr hi hk
   refine ⟨fun h => (by rw [h] at hr; cases hr), fun j hj => ?_⟩
   by_cases hji : j = i
   · subst hji; unfold gOp; rw [hi]; exact ⟨kd, hk, H⟩
   · obtain ⟨hjun, oj, hoj, hall⟩ := mem_ready.1 hj
     have hjf : listed.getD j false = false := getD_ff hjun
     have hif : listed.getD i false = false := getD_ff (mem_ready.1 hr).1
     have hnot : ∀ e ∈ oj.after, Region.binds md e = true → e.on ≠ i := fun e he hb heq => by
        have h1 := hall e he hb
        have h0 := (mem_ready.1 hr).1
        rw [heq] at h1
        rcases Nat.lt_or_ge i listed.size with h' | h'
        · simp [h'] at h0 h1; rw [h0] at h1; cases h1
        · simp [Array.getElem?_eq_none h'] at h1
     have hnot2 : ∀ e ∈ oi.after, Region.binds md e = true → e.on ≠ j := fun e he hb heq => by
        obtain ⟨_, oi', hoi', hall'⟩ := mem_ready.1 hr
        have : oi' = oi := Option.some.inj (hoi'.symm.trans hi)
        subst this
        have h1 := hall' e he hb
        rw [heq] at h1
        rcases Nat.lt_or_ge j listed.size with h' | h'
        · simp [h'] at hjun h1; rw [hjun] at h1; cases h1
        · simp [Array.getElem?_eq_none h'] at h1
     obtain ⟨ha1, ha2, ha3⟩ := Oper.apart_spec (hfree j oj hoj hji hjun hnot)
     have h1 := (H u0 w0 hl0 ho0 hn0).2 j (ready_mono hj hji)
     unfold gOp at h1 ⊢
     rw [hoj] at h1 ⊢
     obtain ⟨kj, hkj, _⟩ := h1
     have hkj' := (Kd.ok_put hu hi ha1 (fun cs b => hsel j oj cs b hoj) hnot).1 hkj
     refine ⟨kj, hkj', fun uj w1 hl1 ho1 hn1 => ?_⟩
     refine ih (listed.setIfInBounds j true) (a.put oj.dst uj) w1 (hw.next hl1) (ht.put hu hoj hkj' hl1 ho1) (fun k ok hk' hki hun hno => ?_) (ready_mono hr (Ne.symm hji)) kd ((Kd.ok_put hu hoj ha3 (fun cs b => hsel i oi cs b hi) hnot2).2 hk) (fun u w' hl ho hn => ?_)
     · refine hfree k ok hk' hki ?_ hno
       by_cases hjk : j = k
       · subst hjk; exact hjun
       · rw [getD_set_ne true hjk] at hun; exact hun
     · have hni : New ops Sl listed i a u := fun hmi ⟨oz, dz, hz1, hz2, hz3⟩ k ok d hok hlk hmk hd hs => by
        have hjk : j ≠ k := fun e => by subst e; rw [hjf] at hlk; cases hlk
        have h5 := hn hmi ⟨oz, dz, hz1, hz2, by rw [put_size]; exact hz3⟩ k ok d hok (by rw [getD_set_ne false hjk]; exact hlk) hmk hd (by rw [put_size]; exact hs)
        rwa [put_getD_ne a uj (uniqB_spec hu hok hoj (Ne.symm hjk) hd)] at h5
       have h2 := (H u w' (hl1.trans hl) ho hni).2 j (ready_mono hj hji)
       unfold gOp at h2
       rw [hoj] at h2
       obtain ⟨kj2, hkj2, hK2⟩ := h2
       have hkj2' := (Kd.ok_put hu hi ha1 (fun cs b => hsel j oj cs b hoj) hnot).1 hkj2
       have he := Kd.uniq hw hkj2' hkj'
       have hnj : New ops Sl (listed.setIfInBounds i true) j (a.put oi.dst u) uj := fun hmj ⟨oz, dz, hz1, hz2, hz3⟩ k ok d hok hlk hmk hd hs => by
        rw [put_size] at hs hz3
        obtain rfl : oz = oj := Option.some.inj (hz1.symm.trans hoj)
        by_cases hki : i = k
        · subst hki
          have : ok = oi := Option.some.inj (hok.symm.trans hi)
          subst this
          rw [hd, put_getD_same a u hs]
          have hjl : j < listed.size := by
             rcases Nat.lt_or_ge j listed.size with h' | h'
             · exact h'
             · simp [Array.getElem?_eq_none h'] at hjun
          have h5 := hn hmk ⟨ok, d, hok, hd, by rw [put_size]; exact hs⟩ j oz dz hz1 (by simp [hjl]) hmj hz2 (by rw [put_size]; exact hz3)
          rw [hz2, put_getD_same a uj hz3] at h5
          exact fun e => h5 e.symm
        · rw [getD_set_ne false hki] at hlk
          rw [put_getD_ne a u (uniqB_spec hu hok hi (Ne.symm hki) hd)]
          exact hn1 hmj ⟨oz, dz, hz1, hz2, hz3⟩ k ok d hok hlk hmk hd hs
       have h3 := hK2 uj w' (Le.refl _) (by rw [he]; exact Kd.out_later ho1 hl) hnj
       rw [Array.setIfInBounds_comm _ _ hji, ← Act.put_comm a u uj ha2]
       exact h3
def wpG (P : Program) (md : Region.Mode) (ops : Array Oper) (W0 : World) (F : Nat → Option (Value → World → Prop)) (Sl : List Nat) (Q : Act → World → Prop) : List Oper → Nat → (World → Prop) → Act → Prop
 | [], _, G, a => ∀ w, Cl W0 w → G w → Q a w
 | o :: rest, k, G, a => ∃ kd : Kd, kd.ok P md ops W0 F k o a ∧ ∀ u, (∃ w, Cl W0 w ∧ G w ∧ kd.out u w) → (k ∈ Sl → InSz ops k a → ∀ i oi d, i < k → ops[i]? = some oi → i ∈ Sl → oi.dst = some d → d < a.tmps.size → a.tmps.getD d undef ≠ u) → wpG P md ops W0 F Sl Q rest (k + 1) (fun w => G w ∧ kd.out u w) (a.put o.dst u)
theorem wpAnyG_lex {E : TypeId} (hS : Ok P ops F Sl E) (hu : uniqB ops = true) (hs : Region.noSelect ops = true) : ∀ (l : List Oper) (k : Nat) (listed : Array Bool) (a : Act) (w : World) (G : World → Prop), (∀ j, l[j]? = ops[k + j]?) → listed.size = ops.size → (∀ j, j < k → listed.getD j false = true) →
 Region.lexFrom md ops l.length k listed = true → Cl W0 w → Told ops F listed a w → G w → (∀ w w', Le w w' → G w → G w') → wpG P md ops W0 F Sl Q l k G a → wpAnyG P md ops W0 F Sl Q l.length listed a w
 | [], _, _, _, w, _, _, _, _, hB, hw, _, hG, _, h => ⟨by simpa [Region.lexFrom] using hB, h w hw hG⟩
 | o :: l, k, listed, a, w, G, hl, hsz, hlt, hB, hw, ht, hG, hp, h => by
   have h0 : ops[k]? = some o := by simpa using (hl 0).symm
   have hk0 : k < ops.size := (Array.getElem?_eq_some_iff.1 h0).1
   simp only [List.length_cons, Region.lexFrom, Bool.and_eq_true] at hB
   obtain ⟨⟨hr, hf⟩, hB'⟩ := hB
   obtain ⟨kd, hk, hK⟩ := h
   exact wpAnyG_first hS hu h0 (Region.noSelect_spec hs) l.length listed a w hw ht (Region.free_spec h0 hf) (by simpa using hr) kd hk fun u w' hl1 ho hn =>
     wpAnyG_lex hS hu hs l (k + 1) _ _ w' _ (fun j => by have := hl (j + 1); simpa [Nat.add_assoc, Nat.add_comm 1 j] using this) (by simpa using hsz)
        (fun j hj => by
         by_cases e : k = j
         · subst e; simp [hsz, hk0]
         · rw [getD_set_ne false e]; exact hlt j (by omega)) hB' (hw.next hl1) (ht.put hu h0 hk hl1 ho) ⟨hp _ _ hl1 hG, ho⟩
        (fun w1 w2 h12 hg => ⟨hp _ _ h12 hg.1, Kd.out_later hg.2 h12⟩) (hK u ⟨w', hw.next hl1, hp _ _ hl1 hG, ho⟩ (fun hm hz i oi d hik hi hmi hd hds => hn hm hz i oi d hi (hlt i hik) hmi hd hds))
theorem wpOpIn_of_gOp {Fe : Fence} (hF : Wd Fe) (N : Nat) {E : TypeId} (hS : Ok P ops F Sl E) {ops' : Array Oper} {i : Nat} {listed : Array Bool} {a : Act} {w : World} {K K' : Act → World → Prop} {Q' : Exit → Act → World → Prop} (hop : ops'[i]? = ops[i]?) (hdc : ∀ o, ops[i]? = some o → ∀ c, o.op ≠ .defer c)
 (hy : ∀ o, ops[i]? = some o → Region.wanted o (yielded ops' a.tmps) = Region.wanted o (yielded ops a.tmps))
 (hu : uniqB ops = true) (hw : Cl W0 w) (ht : Told ops F listed a w) (hr : i ∈ Region.ready md ops listed)
 (h : ∀ a' w', Cl W0 w' → Told ops F (listed.setIfInBounds i true) a' w' → K a' w' → K' a' w') (hh : gOp P md ops W0 F Sl listed i K a w) : wpOpIn Fe N P ops' Q' i K' a w := by
 obtain ⟨_, o, ho, _⟩ := mem_ready.1 hr
 by_cases hm : i ∈ Sl
 · unfold gOp at hh
   rw [ho] at hh
   obtain ⟨kd, hk, hK⟩ := hh
   obtain ⟨W, cs, t, hf⟩ := hS.fact i hm
   cases kd with
   | skip => simp only [Kd.ok, Region.wanted, (allocsB_spec hS.ops hm ho).1] at hk; cases hk
   | one v => rw [hk.2.1] at hf; cases hf
   | make f =>
     obtain ⟨hwant, hf2, hg⟩ := hk
     have hg' := hg w hw (ht.knows hr ho)
     obtain ⟨w', hrun⟩ := hS.exec hm ho a w
     unfold Oper.grows at hg'
     rw [hrun] at hg'
     unfold wpOpIn
     rw [hop, ho]
     simp only
     rw [if_pos (by rw [hy o ho]; exact hwant)]
     refine wpIn_of_wp hF N (hdc o ho) ?_
     unfold Oper.wp
     rw [hrun]
     exact h _ _ (hw.next hg'.1) (ht.put (P := P) (md := md) (W0 := W0) (kd := Kd.make f) hu ho ⟨hwant, hf2, hg⟩ hg'.1 hg'.2) (hK _ w' hg'.1 hg'.2 (new_fresh hS ht i))
 · refine wpOpIn_of_gOp2 hF N hop hdc hy hu hw ht hr h ?_
   unfold gOp at hh
   unfold _root_.Go.Proofs.YtliolnfcgaflcaaGreat.gOp
   rw [ho] at hh ⊢
   obtain ⟨kd, hk, hK⟩ := hh
   exact ⟨kd, hk, fun u w' h1 h2 => hK u w' h1 h2 (fun hm' => absurd hm' hm)⟩
end
section
variable {P : Program} {md : Region.Mode} {l : List Oper} {n : Nat} {Q' : Exit → Act → World → Prop} {Fe : Fence} {N : Nat} {W0 : World} {F : Nat → Option (Value → World → Prop)} {Sl : List Nat}
theorem wpAnyIn_of_G_seq {E : TypeId} (hS : Ok P (l.take n).toArray F Sl E) (hF : Wd Fe) (hT : SeqOkD md l n) (hu : uniqB (l.take n).toArray = true) : ∀ (fuel : Nat) (listed listed' : Array Bool) (a : Act) (w : World), Closed md l listed → Cl W0 w → Told (l.take n).toArray F listed' a w → listed.size = l.length → listed'.size = n →
 (∀ j, j < n → ∀ d, listed.getD j d = listed'.getD j d) → (∀ j, n ≤ j → j < l.length → listed.getD j true = false) →
 wpAnyG P md (l.take n).toArray W0 F Sl (wpTailIn Fe N P Q' (l.drop n)) fuel listed' a w → wpAnyIn Fe N P md l.toArray Q' (fuel + (l.length - n)) listed a w := by
 have hpre : ∀ j, j < n → (l.take n).toArray[j]? = l.toArray[j]? := fun j hj => by
  rw [List.getElem?_toArray, List.getElem?_toArray, List.getElem?_take_of_lt hj]
 have hprel : ∀ (j : Nat) o, (l.take n).toArray[j]? = some o → j < n := fun j o h => by
  have := (Array.getElem?_eq_some_iff.1 h).1
  simp at this; omega
 have hready : ∀ (listed listed' : Array Bool), (∀ j, j < n → ∀ d, listed.getD j d = listed'.getD j d) → ∀ j, j < n → (j ∈ Region.ready md l.toArray listed ↔ j ∈ Region.ready md (l.take n).toArray listed') := by
  intro listed listed' hag j hj
  rw [mem_ready, mem_ready, hag j hj, hpre j hj]
  constructor
  · rintro ⟨h1, o, h2, h3⟩
    exact ⟨h1, o, h2, fun e he hb => by rw [← hag _ (Nat.lt_trans (hT.s.fw j o (by simpa using h2) e he hb) hj)]; exact h3 e he hb⟩
  · rintro ⟨h1, o, h2, h3⟩
    exact ⟨h1, o, h2, fun e he hb => by rw [hag _ (Nat.lt_trans (hT.s.fw j o (by simpa using h2) e he hb) hj)]; exact h3 e he hb⟩
 have hall : ∀ (listed' : Array Bool), listed'.size = n → Region.ready md (l.take n).toArray listed' = [] → ∀ j, j < n → listed'.getD j false = true := by
  intro listed' hs he j
  induction j using Nat.strongRecOn with
  | _ j ih =>
    intro hj
    cases hq : listed'.getD j true with
    | true =>
      have : j < listed'.size := by omega
      simp [this] at hq ⊢; exact hq
    | false =>
      exfalso
      have hjl : j < l.length := by have := hT.s.le; omega
      have hm : j ∈ Region.ready md (l.take n).toArray listed' := by
        rw [mem_ready]
        refine ⟨hq, l[j], by rw [hpre j hj]; simp [hjl], fun e he hb => ?_⟩
        have := hT.s.fw j _ (by simp [hjl]) e he hb
        exact ih _ this (by omega)
      rw [he] at hm; cases hm
 have htail : ∀ (fuel : Nat) (listed listed' : Array Bool) (a : Act) (w : World), Closed md l listed → listed.size = l.length → listed'.size = n → (∀ j, j < n → ∀ d, listed.getD j d = listed'.getD j d) → (∀ j, n ≤ j → j < l.length → listed.getD j true = false) →
  Region.ready md (l.take n).toArray listed' = [] → l.length - n ≤ fuel → wpTailIn Fe N P Q' (l.drop n) a w → wpAnyIn Fe N P md l.toArray Q' fuel listed a w := by
  intro fuel listed listed' a w hcl hs hs' hag hout he hf h
  exact wpAnyIn_tail hT (l.length - n) n fuel listed a w hcl (by have := hT.s.le; omega) (Nat.le_refl _) hf hs (fun j hj => by rw [hag j hj]; exact hall listed' hs' he j hj) hout h
 intro fuel
 induction fuel with
 | zero =>
   intro listed listed' a w hcl _ _ hs hs' hag hout h
   exact htail _ listed listed' a w hcl hs hs' hag hout h.1 (by omega) h.2
 | succ fuel ih =>
   intro listed listed' a w hcl hC hTold hs hs' hag hout h
   by_cases he : Region.ready md (l.take n).toArray listed' = []
   · exact htail _ listed listed' a w hcl hs hs' hag hout he (by omega) (h.1 he)
   · obtain ⟨i0, hi0⟩ := List.exists_mem_of_ne_nil _ he
     have hi0n : i0 < n := by obtain ⟨_, o, ho, _⟩ := mem_ready.1 hi0; exact hprel i0 o ho
     rw [Nat.succ_add]
     refine ⟨fun h0 => ?_, fun i hi => ?_⟩
     · have := (hready listed listed' hag i0 hi0n).2 hi0
       rw [h0] at this; cases this
     · obtain ⟨h1, o, h2, h3⟩ := mem_ready.1 hi
       have hin : i < n := by
        rcases Nat.lt_or_ge i n with h' | h'
        · exact h'
        · exfalso
          have hi0f : listed.getD i0 false = false := by
             rw [hag i0 hi0n]; exact getD_ff (mem_ready.1 hi0).1
          exact hT.s.not_ready hcl h' (by simpa using h2) (by omega) hi0f hi
       have hi' := (hready listed listed' hag i hin).1 hi
       refine wpOpIn_of_gOp hF N hS (hpre i hin).symm (fun o' ho' => hT.dc i o' (by rw [hpre i hin] at ho'; simpa using ho')) (fun o' ho' => ?_) hu hC hTold hi' (fun a' w' hC' hT' hk => ih _ _ a' w' (hcl.put hi) hC' hT' (by simpa using hs) (by simpa using hs') (fun j hj d => ?_) (fun j hj hjl => ?_) hk) (h.2 i hi')
       · unfold Region.wanted
         cases hq : o'.guard with
         | none => rfl
         | some q =>
           obtain ⟨g, b⟩ := q
           have := hT.s.gd i o' g b (by rw [hpre i hin] at ho'; simpa using ho') hq
           simp only
           have hy : yielded l.toArray a.tmps g = yielded (l.take n).toArray a.tmps g := by
             unfold yielded
             rw [hpre g this.1]
           rw [hy]
       · by_cases e : i = j
         · subst e
           have h4 : i < listed.size := by have := hT.s.le; omega
           have h5 : i < listed'.size := by omega
           simp [h4, h5]
         · rw [getD_set_ne d e, getD_set_ne d e]; exact hag j hj d
       · rw [getD_set_ne true (by omega)]; exact hout j hj hjl
end
theorem wpIn_region_seq (n : Nat) {Fe : Fence} (hF : Wd Fe) {N : Nat} {P : Program} {id : Nat} {Q : Exit → Act → World → Prop} {a : Act} {w : World} {l : List Oper} (F : Nat → Option (Value → World → Prop)) (hm : P.follows .mixedOrders = true) (hB : Region.lexB .any (l.take n).toArray = true) (hu : uniqB (l.take n).toArray = true) (Sl : List Nat) {E : TypeId} (hS : Ok P (l.take n).toArray F Sl E) (ht : seqB2 .any l n = true) (hd : noDefer l = true)
 (h : wpG P .any (l.take n).toArray w F Sl (fun a' w' => wpTailIn Fe N P Q (l.drop n) a' w') (l.take n) 0 (fun _ => True) a) : (Code.region id l.toArray true).wpIn Fe N P Q a w := by
 have hT : SeqOkD .any l n := ⟨seqB2_spec ht, noDefer_spec hd⟩
 simp only [Region.lexB, Bool.and_eq_true] at hB
 have hw : Cl w w.drew := Cl.of (Below.refl _ _).drew
 have hany := wpAnyG_lex hS hu hB.1 (l.take n) 0 (Array.replicate (l.take n).toArray.size false) a w.drew (fun _ => True) (by simp) (by simp) (fun j hj => absurd hj (by omega)) (by simpa using hB.2) hw (told_none _) trivial (fun _ _ _ h => h) h
 refine wpIn_region_any hm ?_
 have hln : (l.take n).length = n := by simp [hT.s.le]
 have := wpAnyIn_of_G_seq (N := N) (Q' := Q) hS hF hT hu (l.take n).length (Array.replicate l.length false) (Array.replicate (l.take n).toArray.size false) a w.drew (Closed.none _) hw (told_none _) (by simp) (by simp [hT.s.le]) (fun j hj d => ?_) (fun j hj hjl => by simp [hjl]) hany
 · rw [hln] at this
   have e : n + (l.length - n) = l.length := by have := hT.s.le; omega
   rw [e] at this
   simpa using this
 · have h1 : j < l.length := by have := hT.s.le; omega
   have h2 : j < min n l.length := by omega
   simp [h1, h2]
theorem wp_region_seq2 (n : Nat) {P : Program} {id : Nat} {Q : Exit → Act → World → Prop} {a : Act} {w : World} {l : List Oper} (F : Nat → Option (Value → World → Prop)) (hm : P.follows .mixedOrders = true) (hB : Region.lexB .any (l.take n).toArray = true) (hu : uniqB (l.take n).toArray = true) (Sl : List Nat) {E : TypeId} (hS : Ok P (l.take n).toArray F Sl E) (ht : seqB2 .any l n = true) (hd : noDefer l = true)
 (h : wpG P .any (l.take n).toArray w F Sl (fun a' w' => wpTailIn Fence.wide 0 P Q (l.drop n) a' w') (l.take n) 0 (fun _ => True) a) : (Code.region id l.toArray true).wp P Q a w :=
 wpIn_wide.1 (wpIn_region_seq n Wd.wide F hm hB hu Sl hS ht hd h)
section
variable {P : Program} {ops : Array Oper} {W0 : World} {F : Nat → Option (Value → World → Prop)} {Sl : List Nat} {Q : Act → World → Prop} {o : Oper} {rest : List Oper} {k : Nat} {G : World → Prop} {a : Act}
theorem wpG_one (hw : Region.wanted o (yielded ops a.tmps) = true) (hF : F k = none) (hn : noGo o.op = true) (h : ∀ K : Act → Prop, (∀ a', wpG P .any ops W0 F Sl Q rest (k + 1) G a' → K a') → o.quiet P a (fun w' => ∃ u, w' = ovr W0 u) K) : wpG P .any ops W0 F Sl Q (o :: rest) k G a := by
 obtain ⟨v, hv, hK⟩ := h _ (fun _ h => h)
 refine ⟨.one v, ⟨hw, hF, hn, hv⟩, fun u hu _ => ?_⟩
 obtain ⟨w, _, _, he⟩ := hu
 have he' : u = v := he
 subst he'
 have e : (fun w => G w ∧ Kd.out (.one u) u w) = G := by funext w; exact propext ⟨fun h => h.1, fun h => ⟨h, rfl⟩⟩
 rw [e]; exact hK
theorem wpG_skip (hw : Region.wanted o (yielded ops a.tmps) = false) (h : wpG P .any ops W0 F Sl Q rest (k + 1) G (a.put o.dst undef)) : wpG P .any ops W0 F Sl Q (o :: rest) k G a := by
 refine ⟨.skip, hw, fun u hu _ => ?_⟩
 obtain ⟨w, _, _, he⟩ := hu
 have he' : u = undef := he
 subst he'
 have e : (fun w => G w ∧ Kd.out .skip undef w) = G := by funext w; exact propext ⟨fun h => h.1, fun h => ⟨h, rfl⟩⟩
 rw [e]; exact h
theorem wpG_make (f : Value → World → Prop) (hw : Region.wanted o (yielded ops a.tmps) = true) (hF : F k = some f) (hg : ∀ w, Cl W0 w → Knows .any ops F o a w → Oper.grows P o a w f)
 (h : ∀ u, (∃ w, Cl W0 w ∧ f u w) → wpG P .any ops W0 F Sl Q rest (k + 1) (fun w => G w ∧ Box f u w) (a.put o.dst u)) : wpG P .any ops W0 F Sl Q (o :: rest) k G a :=
 ⟨.make f, ⟨hw, hF, hg⟩, fun u ⟨w, hc, _, hb⟩ _ => h u ⟨w, hc, Box.now hb⟩⟩
theorem wpG_nil (h : ∀ w, Cl W0 w → G w → Q a w) : wpG P .any ops W0 F Sl Q [] k G a := h
theorem wpG_new (f : Value → World → Prop) (hw : Region.wanted o (yielded ops a.tmps) = true) (hF : F k = some f) (hm : k ∈ Sl) (hz : InSz ops k a) (hg : ∀ w, Cl W0 w → Knows .any ops F o a w → Oper.grows P o a w f)
 (h : ∀ u, (∃ w, Cl W0 w ∧ f u w) → (∀ i oi d, i < k → ops[i]? = some oi → i ∈ Sl → oi.dst = some d → d < a.tmps.size → a.tmps.getD d undef ≠ u) → wpG P .any ops W0 F Sl Q rest (k + 1) (fun w => G w ∧ Box f u w) (a.put o.dst u)) : wpG P .any ops W0 F Sl Q (o :: rest) k G a :=
 ⟨.make f, ⟨hw, hF, hg⟩, fun u ⟨w, hc, _, hb⟩ hn => h u ⟨w, hc, Box.now hb⟩ (hn hm hz)⟩
theorem ptr_ne {p q : Nat} (h : (.pointer (some ⟨p, 0, none⟩) : Value) ≠ .pointer (some ⟨q, 0, none⟩)) : p ≠ q := fun e => h (by rw [e])
end
end Go.Proofs.YtliolnfcgaflcaaGreat.Dk
