/- The law of regions that draw whose tail comes one after another (Sqf), where the head may change blocks that were there (Rg). -/
import Derived.Test.YtliolnfcgaflcaaGreatSqf
import Derived.Test.YtliolnfcgaflcaaGreatRg
namespace Go.Proofs.YtliolnfcgaflcaaGreat.Pr
open Go.RowKit Classical
theorem wpOpIn_of_gOp2 {L : Pre} {P : Program} {md : Region.Mode} {W0 : World} {F : Nat → Option (Value → World → Prop)} {Q' : Exit → Act → World → Prop} {Fe : Fence} (hF : Wd Fe) (N : Nat) {ops ops' : Array Oper} {i : Nat} {listed : Array Bool} {a : Act} {w : World} {K K' : Act → World → Prop} (hop : ops'[i]? = ops[i]?)
 (hdc : ∀ o, ops[i]? = some o → ∀ c, o.op ≠ .defer c) (hy : ∀ o, ops[i]? = some o → Region.wanted o (yielded ops' a.tmps) = Region.wanted o (yielded ops a.tmps))
 (hu : uniqB ops = true) (hw : Cl L W0 w) (ht : Told L ops F listed a w) (hr : i ∈ Region.ready md ops listed)
 (h : ∀ a' w', Cl L W0 w' → Told L ops F (listed.setIfInBounds i true) a' w' → K a' w' → K' a' w') (hh : gOp L P md ops W0 F i K a w) : wpOpIn Fe N P ops' Q' i K' a w := by
 unfold gOp at hh
 unfold wpOpIn
 obtain ⟨_, o, ho, _⟩ := mem_ready.1 hr
 have hy' := hy o ho
 rw [ho] at hh
 rw [hop, ho]
 simp only [hy']
 obtain ⟨kd, hk, hK⟩ := hh
 have hn : ∀ u w', L.le w w' → kd.out L u w' → K' (a.put o.dst u) w' := fun u w' hl hout => h _ _ (hw.next hl) (ht.put hu ho hk hl hout) (hK u w' hl hout)
 cases kd with
 | skip =>
   have hk' : Region.wanted o (yielded ops a.tmps) = false := hk
   simp only [hk', Bool.false_eq_true, if_false]
   exact ⟨fun _ _ => hF.fn _, hn undef w (L.refl w) rfl⟩
 | one v =>
   obtain ⟨hwant, _, hng, hq⟩ := hk
   simp only [hwant, if_true]
   refine wpIn_of_wp hF N (hdc o ho) ?_
   unfold Oper.wp
   rcases quiet_value hng (hq w hw) with he | ⟨he, rfl⟩ <;> rw [he] <;> exact hn _ w (L.refl w) rfl
 | make f =>
   obtain ⟨hwant, _, hg⟩ := hk
   simp only [hwant, if_true]
   exact wpIn_of_wp hF N (hdc o ho) (grows_wp (hg w hw (ht.knows hr ho)) hn)
section
variable {P : Program} {md : Region.Mode} {l : List Oper} {n : Nat} {Q' : Exit → Act → World → Prop} {Fe : Fence} {N : Nat} {L : Pre} {W0 : World} {F : Nat → Option (Value → World → Prop)}
theorem wpAnyIn_of_G_seq (hF : Wd Fe) (hT : SeqOkD md l n) (hu : uniqB (l.take n).toArray = true) : ∀ (fuel : Nat) (listed listed' : Array Bool) (a : Act) (w : World), Closed md l listed → Cl L W0 w → Told L (l.take n).toArray F listed' a w → listed.size = l.length → listed'.size = n →
 (∀ j, j < n → ∀ d, listed.getD j d = listed'.getD j d) → (∀ j, n ≤ j → j < l.length → listed.getD j true = false) →
 wpAnyG L P md (l.take n).toArray W0 F (wpTailIn Fe N P Q' (l.drop n)) fuel listed' a w → wpAnyIn Fe N P md l.toArray Q' (fuel + (l.length - n)) listed a w := by
 have hpre : ∀ j, j < n → (l.take n).toArray[j]? = l.toArray[j]? := fun j hj => by
  rw [List.getElem?_toArray, List.getElem?_toArray, List.getElem?_take_of_lt hj]
 have hprel : ∀ (j : Nat) o, (l.take n).toArray[j]? = some o → j < n := fun j o h => by
  have := (Array.getElem?_eq_some_iff.1 h).1
  simp at this; omega
 have hready : ∀ (listed listed' : Array Bool), (∀ j, j < n → ∀ d, listed.getD j d = listed'.getD j d) → ∀ j, j < n → (j ∈ Region.ready md l.toArray listed ↔ j ∈ Region.ready md (l.take n).toArray listed') := by
  intro listed listed' hag j hj
  rw [mem_ready, mem_ready, hag j hj, hpre j hj]
  constructor
  · rintro ⟨h1, o, h2, h3⟩
    exact ⟨h1, o, h2, fun e he hb => by rw [← hag _ (Nat.lt_trans (hT.s.fw j o (by simpa using h2) e he hb) hj)]; exact h3 e he hb⟩
  · rintro ⟨h1, o, h2, h3⟩
    exact ⟨h1, o, h2, fun e he hb => by rw [hag _ (Nat.lt_trans (hT.s.fw j o (by simpa using h2) e he hb) hj)]; exact h3 e he hb⟩
 have hall : ∀ (listed' : Array Bool), listed'.size = n → Region.ready md (l.take n).toArray listed' = [] → ∀ j, j < n → listed'.getD j false = true := by
  intro listed' hs he j
  induction j using Nat.strongRecOn with
  | _ j ih =>
    intro hj
    cases hq : listed'.getD j true with
    | true =>
      have : j < listed'.size := by omega
      simp [this] at hq ⊢; exact hq
    | false =>
      exfalso
      have hjl : j < l.length := by have := hT.s.le; omega
      have hm : j ∈ Region.ready md (l.take n).toArray listed' := by
        rw [mem_ready]
        refine ⟨hq, l[j], by rw [hpre j hj]; simp [hjl], fun e he hb => ?_⟩
        have := hT.s.fw j _ (by simp [hjl]) e he hb
        exact ih _ this (by omega)
      rw [he] at hm; cases hm
 have htail : ∀ (fuel : Nat) (listed listed' : Array Bool) (a : Act) (w : World), Closed md l listed → listed.size = l.length → listed'.size = n → (∀ j, j < n → ∀ d, listed.getD j d = listed'.getD j d) → (∀ j, n ≤ j → j < l.length → listed.getD j true = false) →
  Region.ready md (l.take n).toArray listed' = [] → l.length - n ≤ fuel → wpTailIn Fe N P Q' (l.drop n) a w → wpAnyIn Fe N P md l.toArray Q' fuel listed a w := by
  intro fuel listed listed' a w hcl hs hs' hag hout he hf h
  exact wpAnyIn_tail hT (l.length - n) n fuel listed a w hcl (by have := hT.s.le; omega) (Nat.le_refl _) hf hs (fun j hj => by rw [hag j hj]; exact hall listed' hs' he j hj) hout h
 intro fuel
 induction fuel with
 | zero =>
   intro listed listed' a w hcl _ _ hs hs' hag hout h
   exact htail _ listed listed' a w hcl hs hs' hag hout h.1 (by omega) h.2
 | succ fuel ih =>
   intro listed listed' a w hcl hC hTold hs hs' hag hout h
   by_cases he : Region.ready md (l.take n).toArray listed' = []
   · exact htail _ listed listed' a w hcl hs hs' hag hout he (by omega) (h.1 he)
   · obtain ⟨i0, hi0⟩ := List.exists_mem_of_ne_nil _ he
     have hi0n : i0 < n := by obtain ⟨_, o, ho, _⟩ := mem_ready.1 hi0; exact hprel i0 o ho
     rw [Nat.succ_add]
     refine ⟨fun h0 => ?_, fun i hi => ?_⟩
     · have := (hready listed listed' hag i0 hi0n).2 hi0
       rw [h0] at this; cases this
     · obtain ⟨h1, o, h2, h3⟩ := mem_ready.1 hi
       have hin : i < n := by
        rcases Nat.lt_or_ge i n with h' | h'
        · exact h'
        · exfalso
          have hi0f : listed.getD i0 false = false := by
             rw [hag i0 hi0n]; exact getD_ff (mem_ready.1 hi0).1
          exact hT.s.not_ready hcl h' (by simpa using h2) (by omega) hi0f hi
       have hi' := (hready listed listed' hag i hin).1 hi
       refine wpOpIn_of_gOp2 hF N (hpre i hin).symm (fun o' ho' => hT.dc i o' (by rw [hpre i hin] at ho'; simpa using ho')) (fun o' ho' => ?_) hu hC hTold hi' (fun a' w' hC' hT' hk => ih _ _ a' w' (hcl.put hi) hC' hT' (by simpa using hs) (by simpa using hs') (fun j hj d => ?_) (fun j hj hjl => ?_) hk) (h.2 i hi')
       · unfold Region.wanted
         cases hq : o'.guard with
         | none => rfl
         | some q =>
           obtain ⟨g, b⟩ := q
           have := hT.s.gd i o' g b (by rw [hpre i hin] at ho'; simpa using ho') hq
           simp only
           have hy : yielded l.toArray a.tmps g = yielded (l.take n).toArray a.tmps g := by
             unfold yielded
             rw [hpre g this.1]
           rw [hy]
       · by_cases e : i = j
         · subst e
           have h4 : i < listed.size := by have := hT.s.le; omega
           have h5 : i < listed'.size := by omega
           simp [h4, h5]
         · rw [getD_set_ne d e, getD_set_ne d e]; exact hag j hj d
       · rw [getD_set_ne true (by omega)]; exact hout j hj hjl
end
theorem wpIn_region_seq (L : Pre) (n : Nat) {Fe : Fence} (hF : Wd Fe) {N : Nat} {P : Program} {id : Nat} {Q : Exit → Act → World → Prop} {a : Act} {w : World} {l : List Oper} (F : Nat → Option (Value → World → Prop)) (hdr : L.le w w.drew) (hm : P.follows .mixedOrders = true) (hB : Region.lexB .any (l.take n).toArray = true) (hu : uniqB (l.take n).toArray = true) (ht : seqB2 .any l n = true) (hd : noDefer l = true)
 (h : wpG L P .any (l.take n).toArray w F (fun a' w' => wpTailIn Fe N P Q (l.drop n) a' w') (l.take n) 0 (fun _ => True) a) : (Code.region id l.toArray true).wpIn Fe N P Q a w := by
 have hT : SeqOkD .any l n := ⟨seqB2_spec ht, noDefer_spec hd⟩
 simp only [Region.lexB, Bool.and_eq_true] at hB
 have hw : Cl L w w.drew := Cl.of hdr
 have hany := wpAnyG_lex hu hB.1 (l.take n) 0 (Array.replicate (l.take n).toArray.size false) a w.drew (fun _ => True) (by simp) (by simpa using hB.2) hw (told_none _) trivial (fun _ _ _ h => h) h
 refine wpIn_region_any hm ?_
 have hln : (l.take n).length = n := by simp [hT.s.le]
 have := wpAnyIn_of_G_seq (N := N) (Q' := Q) hF hT hu (l.take n).length (Array.replicate l.length false) (Array.replicate (l.take n).toArray.size false) a w.drew (Closed.none _) hw (told_none _) (by simp) (by simp [hT.s.le]) (fun j hj d => ?_) (fun j hj hjl => by simp [hjl]) hany
 · rw [hln] at this
   have e : n + (l.length - n) = l.length := by have := hT.s.le; omega
   rw [e] at this
   simpa using this
 · have h1 : j < l.length := by have := hT.s.le; omega
   have h2 : j < min n l.length := by omega
   simp [h1, h2]
end Go.Proofs.YtliolnfcgaflcaaGreat.Pr
