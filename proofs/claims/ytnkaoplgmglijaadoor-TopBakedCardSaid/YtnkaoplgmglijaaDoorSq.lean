/- A region that draws its order and ends in operations each of which waits for all ahead of it: one walk in the order of the text serves every order. -/
import Derived.Test.YtnkaoplgmglijaaDoorMka
namespace Go.Proofs.YtnkaoplgmglijaaDoor
open Go.RowKit Classical
def seqB (md : Region.Mode) (l : List Oper) (n : Nat) : Bool := decide (n ≤ l.length) && (List.range l.length).all fun k => match l[k]? with
 | some o => (o.after.all fun e => !Region.binds md e || decide (e.on < k)) && (match o.guard with | none => true | some (g, _) => decide (g < n) && decide (k < n)) && (decide (k < n) || (List.range k).all fun i => waitsOn md o i)
 | none => true
structure SeqOk (md : Region.Mode) (l : List Oper) (n : Nat) : Prop where
 le : n ≤ l.length
 fw : ∀ (k : Nat) o, l[k]? = some o → ∀ e ∈ o.after, Region.binds md e = true → e.on < k
 gd : ∀ (k : Nat) o g b, l[k]? = some o → o.guard = some (g, b) → g < n ∧ k < n
 tw : ∀ (k : Nat) o, n ≤ k → l[k]? = some o → ∀ i, i < k → waitsOn md o i = true
theorem seqB_spec {md : Region.Mode} {l : List Oper} {n : Nat} (h : seqB md l n = true) : SeqOk md l n := by
 unfold seqB at h
 simp only [Bool.and_eq_true, List.all_eq_true, List.mem_range, decide_eq_true_eq] at h
 obtain ⟨h0, h1⟩ := h
 have h2 : ∀ (k : Nat) o, l[k]? = some o → (o.after.all fun e => !Region.binds md e || decide (e.on < k)) = true ∧ (match o.guard with | none => true | some (g, _) => decide (g < n) && decide (k < n)) = true ∧ (decide (k < n) || (List.range k).all fun i => waitsOn md o i) = true := fun k o hk => by
  have := h1 k (List.getElem?_eq_some_iff.1 hk).1
  rw [hk] at this
  simp only [Bool.and_eq_true] at this
  exact ⟨this.1.1, this.1.2, this.2⟩
 refine ⟨h0, fun k o hk e he hb => ?_, fun k o g b hk hg => ?_, fun k o hn hk i hi => ?_⟩
 · have := Array.all_eq_true'.1 (h2 k o hk).1 e he
   simp [hb] at this
   exact this
 · have := (h2 k o hk).2.1
   rw [hg] at this
   simpa using this
 · have := (h2 k o hk).2.2
   rw [Bool.or_eq_true] at this
   rcases this with h | h
   · rw [decide_eq_true_eq] at h; omega
   · exact List.all_eq_true.1 h i (List.mem_range.2 hi)
def wpTail (P : Program) (Q : Exit → Act → World → Prop) : List Oper → Act → World → Prop
 | [], a, w => Q .normal a w
 | o :: r, a, w => o.wp P a w (wpTail P Q r) Q
section
variable {P : Program} {md : Region.Mode} {l : List Oper} {n : Nat} {Q' : Exit → Act → World → Prop}
theorem getD_tf {listed : Array Bool} {j : Nat} (h : listed.getD j false = true) : listed.getD j true = true := by
 rcases Nat.lt_or_ge j listed.size with h' | h'
 · simp [h'] at h ⊢; exact h
 · simp [Array.getElem?_eq_none h'] at h
theorem wpAny_tail (hT : SeqOk md l n) : ∀ (m k : Nat) (fuel : Nat) (listed : Array Bool) (a : Act) (w : World), k + m = l.length → n ≤ k → m ≤ fuel → listed.size = l.length → (∀ j, j < k → listed.getD j false = true) →
 (∀ j, k ≤ j → j < l.length → listed.getD j true = false) → wpTail P Q' (l.drop k) a w → wpAny P md l.toArray Q' fuel listed a w
 | 0, k, fuel, listed, a, w, hk, _, _, _, hin, _, h => by
   have he : Region.ready md l.toArray listed = [] := by
    rw [List.eq_nil_iff_forall_not_mem]
    intro j hj
    obtain ⟨h1, o, h2, _⟩ := mem_ready.1 hj
    have hjl : j < l.length := by simpa using (Array.getElem?_eq_some_iff.1 h2).1
    rw [getD_tf (hin j (by omega))] at h1; cases h1
   rw [List.drop_of_length_le (by omega)] at h
   cases fuel with
   | zero => exact ⟨he, h⟩
   | succ f => exact ⟨fun _ => h, fun i hi => by rw [he] at hi; cases hi⟩
 | m + 1, k, fuel, listed, a, w, hk, hn, hf, hs, hin, hout, h => by
   have hkl : k < l.length := by omega
   obtain ⟨ok, ho⟩ : ∃ o, l[k]? = some o := ⟨l[k], List.getElem?_eq_getElem hkl⟩
   have hg : ok.guard = none := by
     cases hq : ok.guard with
     | none => rfl
     | some q => have := (hT.gd k _ q.1 q.2 ho hq).2; omega
   have hkr : k ∈ Region.ready md l.toArray listed := by
     rw [mem_ready]
     exact ⟨hout k (Nat.le_refl _) hkl, ok, by simpa using ho, fun e he hb => hin _ (hT.fw k _ ho e he hb)⟩
   cases fuel with
   | zero => omega
   | succ f =>
     refine ⟨fun he => (by rw [he] at hkr; cases hkr), fun i hi => ?_⟩
     obtain ⟨h1, o, h2, h3⟩ := mem_ready.1 hi
     have hil : i < l.length := by simpa using (Array.getElem?_eq_some_iff.1 h2).1
     have hik : i = k := by
       rcases Nat.lt_trichotomy i k with h' | h' | h'
       · rw [getD_tf (hin i h')] at h1; cases h1
       · exact h'
       · exact absurd hi (not_ready_of h2 (hT.tw i o (by omega) (by simpa using h2) k h') (getD_ff (hout k (Nat.le_refl _) hkl)))
     subst hik
     unfold wpOp
     rw [show l.toArray[i]? = some ok by simpa using ho]
     simp only
     rw [if_pos (by simp [Region.wanted, hg])]
     left
     rw [List.drop_eq_getElem_cons hkl, show l[i] = ok from Option.some.inj ((List.getElem?_eq_getElem hkl).symm.trans ho)] at h
     refine Oper.wp_mono (fun a' w' h' => ?_) h
     refine wpAny_tail hT m (i + 1) f _ a' w' (by omega) (by omega) (by omega) (by simpa using hs) (fun j hj => ?_) (fun j hj hjl => ?_) h'
     · by_cases e : i = j
       · subst e; simp [hs, hkl]
       · rw [getD_set_ne false e]; exact hin j (by omega)
     · rw [getD_set_ne true (by omega)]; exact hout j (by omega) hjl
variable {W0 : World} {F : Nat → Option (Value → World → Prop)}
theorem wpAny_of_G_seq (hT : SeqOk md l n) (hu : uniqB (l.take n).toArray = true) : ∀ (fuel : Nat) (listed listed' : Array Bool) (a : Act) (w : World), Cl W0 w → Told (l.take n).toArray F listed' a w → listed.size = l.length → listed'.size = n →
 (∀ j, j < n → ∀ d, listed.getD j d = listed'.getD j d) → (∀ j, n ≤ j → j < l.length → listed.getD j true = false) →
 wpAnyG P md (l.take n).toArray W0 F (wpTail P Q' (l.drop n)) fuel listed' a w → wpAny P md l.toArray Q' (fuel + (l.length - n)) listed a w := by
 have hpre : ∀ j, j < n → (l.take n).toArray[j]? = l.toArray[j]? := fun j hj => by
  rw [List.getElem?_toArray, List.getElem?_toArray, List.getElem?_take_of_lt hj]
 have hprel : ∀ (j : Nat) o, (l.take n).toArray[j]? = some o → j < n := fun j o h => by
  have := (Array.getElem?_eq_some_iff.1 h).1
  simp at this; omega
 have hready : ∀ (listed listed' : Array Bool), (∀ j, j < n → ∀ d, listed.getD j d = listed'.getD j d) → ∀ j, j < n → (j ∈ Region.ready md l.toArray listed ↔ j ∈ Region.ready md (l.take n).toArray listed') := by
  intro listed listed' hag j hj
  rw [mem_ready, mem_ready, hag j hj, hpre j hj]
  constructor
  · rintro ⟨h1, o, h2, h3⟩
    exact ⟨h1, o, h2, fun e he hb => by rw [← hag _ (Nat.lt_trans (hT.fw j o (by simpa using h2) e he hb) hj)]; exact h3 e he hb⟩
  · rintro ⟨h1, o, h2, h3⟩
    exact ⟨h1, o, h2, fun e he hb => by rw [hag _ (Nat.lt_trans (hT.fw j o (by simpa using h2) e he hb) hj)]; exact h3 e he hb⟩
 have hall : ∀ (listed' : Array Bool), listed'.size = n → Region.ready md (l.take n).toArray listed' = [] → ∀ j, j < n → listed'.getD j false = true := by
  intro listed' hs he j
  induction j using Nat.strongRecOn with
  | _ j ih =>
    intro hj
    cases hq : listed'.getD j true with
    | true =>
      have : j < listed'.size := by omega
      simp [this] at hq ⊢; exact hq
    | false =>
      exfalso
      have hjl : j < l.length := by have := hT.le; omega
      have hm : j ∈ Region.ready md (l.take n).toArray listed' := by
        rw [mem_ready]
        refine ⟨hq, l[j], by rw [hpre j hj]; simp [hjl], fun e he hb => ?_⟩
        have := hT.fw j _ (by simp [hjl]) e he hb
        exact ih _ this (by omega)
      rw [he] at hm; cases hm
 have htail : ∀ (fuel : Nat) (listed listed' : Array Bool) (a : Act) (w : World), listed.size = l.length → listed'.size = n → (∀ j, j < n → ∀ d, listed.getD j d = listed'.getD j d) → (∀ j, n ≤ j → j < l.length → listed.getD j true = false) →
  Region.ready md (l.take n).toArray listed' = [] → l.length - n ≤ fuel → wpTail P Q' (l.drop n) a w → wpAny P md l.toArray Q' fuel listed a w := by
  intro fuel listed listed' a w hs hs' hag hout he hf h
  exact wpAny_tail hT (l.length - n) n fuel listed a w (by have := hT.le; omega) (Nat.le_refl _) hf hs (fun j hj => by rw [hag j hj]; exact hall listed' hs' he j hj) hout h
 intro fuel
 induction fuel with
 | zero =>
   intro listed listed' a w _ _ hs hs' hag hout h
   exact htail _ listed listed' a w hs hs' hag hout h.1 (by omega) h.2
 | succ fuel ih =>
   intro listed listed' a w hC hTold hs hs' hag hout h
   by_cases he : Region.ready md (l.take n).toArray listed' = []
   · exact htail _ listed listed' a w hs hs' hag hout he (by omega) (h.1 he)
   · obtain ⟨i0, hi0⟩ := List.exists_mem_of_ne_nil _ he
     have hi0n : i0 < n := by obtain ⟨_, o, ho, _⟩ := mem_ready.1 hi0; exact hprel i0 o ho
     rw [Nat.succ_add]
     refine ⟨fun h0 => ?_, fun i hi => ?_⟩
     · have := (hready listed listed' hag i0 hi0n).2 hi0
       rw [h0] at this; cases this
     · obtain ⟨h1, o, h2, h3⟩ := mem_ready.1 hi
       have hin : i < n := by
        rcases Nat.lt_or_ge i n with h' | h'
        · exact h'
        · exfalso
          have hi0f : listed.getD i0 false = false := by
             rw [hag i0 hi0n]; exact getD_ff (mem_ready.1 hi0).1
          exact not_ready_of h2 (hT.tw i o h' (by simpa using h2) i0 (by omega)) hi0f hi
       have hi' := (hready listed listed' hag i hin).1 hi
       refine wpOp_of_gOp2 (hpre i hin).symm (fun o' ho' => ?_) hu hC hTold hi' (fun a' w' hC' hT' hk => ih _ _ a' w' hC' hT' (by simpa using hs) (by simpa using hs') (fun j hj d => ?_) (fun j hj hjl => ?_) hk) (h.2 i hi')
       · unfold Region.wanted
         cases hq : o'.guard with
         | none => rfl
         | some q =>
           obtain ⟨g, b⟩ := q
           have := hT.gd i o' g b (by rw [hpre i hin] at ho'; simpa using ho') hq
           simp only
           have hy : yielded l.toArray a.tmps g = yielded (l.take n).toArray a.tmps g := by
             unfold yielded
             rw [hpre g this.1]
           rw [hy]
       · by_cases e : i = j
         · subst e
           have h4 : i < listed.size := by have := hT.le; omega
           have h5 : i < listed'.size := by omega
           simp [h4, h5]
         · rw [getD_set_ne d e, getD_set_ne d e]; exact hag j hj d
       · rw [getD_set_ne true (by omega)]; exact hout j hj hjl
end
theorem wp_region_seq (n : Nat) {P : Program} {id : Nat} {Q : Exit → Act → World → Prop} {a : Act} {w : World} {l : List Oper} (F : Nat → Option (Value → World → Prop)) (hm : P.follows .mixedOrders = true) (hB : Region.lexB .any (l.take n).toArray = true) (hu : uniqB (l.take n).toArray = true) (ht : seqB .any l n = true)
 (h : wpG P .any (l.take n).toArray w F (fun a' w' => wpTail P Q (l.drop n) a' w') (l.take n) 0 (fun _ => True) a) : (Code.region id l.toArray true).wp P Q a w := by
 have hT := seqB_spec ht
 simp only [Region.lexB, Bool.and_eq_true] at hB
 have hw : Cl w w.drew := Cl.of (Below.refl _ _).drew
 have hany := wpAnyG_lex hu hB.1 (l.take n) 0 (Array.replicate (l.take n).toArray.size false) a w.drew (fun _ => True) (by simp) (by simpa using hB.2) hw (told_none _) trivial (fun _ _ _ h => h) h
 refine wp_region_any hm ?_
 have hln : (l.take n).length = n := by simp [hT.le]
 have := wpAny_of_G_seq (Q' := Q) hT hu (l.take n).length (Array.replicate l.length false) (Array.replicate (l.take n).toArray.size false) a w.drew hw (told_none _) (by simp) (by simp [hT.le]) (fun j hj d => ?_) (fun j hj hjl => by simp [hjl]) hany
 · rw [hln] at this
   have e : n + (l.length - n) = l.length := by have := hT.le; omega
   rw [e] at this
   simpa using this
 · have h1 : j < l.length := by have := hT.le; omega
   have h2 : j < min n l.length := by omega
   simp [h1, h2]
theorem wpTail_cons {P : Program} {Q : Exit → Act → World → Prop} {o : Oper} {r : List Oper} {a : Act} {w : World} (h : o.wp P a w (wpTail P Q r) Q) : wpTail P Q (o :: r) a w := h
theorem wpTail_nil {P : Program} {Q : Exit → Act → World → Prop} {a : Act} {w : World} (h : Q .normal a w) : wpTail P Q [] a w := h
end Go.Proofs.YtnkaoplgmglijaaDoor
