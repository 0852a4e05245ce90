/- As Dk.wp_region_seq2, where operations of a list L, that make nothing, may come up behind those of the tail. -/
import Derived.Test.YtliolnfcgaflcaaGreatDk
namespace Go.Proofs.YtliolnfcgaflcaaGreat.Dl
open Go.RowKit Classical
structure LateOk (md : Region.Mode) (l : List Oper) (L : List Nat) (n : Nat) : Prop where
 le : n ≤ l.length
 fw : ∀ (k : Nat) o, l[k]? = some o → ∀ e ∈ o.after, Region.binds md e = true → e.on < k
 gd : ∀ (k : Nat) o g b, l[k]? = some o → o.guard = some (g, b) → g < n ∧ k < n
 tw : ∀ (k : Nat) o, n ≤ k → l[k]? = some o → ∀ i, i < k → i ∈ L ∨ waitsOn md o i = true
 lt : ∀ i ∈ L, i < n
 fr : ∀ i ∈ L, ∀ oi, l[i]? = some oi → ∀ (j : Nat) oj, l[j]? = some oj → j ≠ i → waitsOn md oj i = true ∨ oi.apart l.toArray oj = true ∨ waitsOn md oi j = true
def lateB (md : Region.Mode) (l : List Oper) (L : List Nat) (n : Nat) : Bool := decide (n ≤ l.length) && ((List.range l.length).all fun k => match l[k]? with
 | some o => (o.after.all fun e => !Region.binds md e || decide (e.on < k)) && (match o.guard with | none => true | some (g, _) => decide (g < n) && decide (k < n)) && (decide (k < n) || (List.range k).all fun i => L.contains i || waitsOn md o i)
 | none => true) && (L.all fun i => decide (i < n) && (List.range l.length).all fun j => j == i || (match l[i]?, l[j]? with | some oi, some oj => waitsOn md oj i || (oi.apart l.toArray oj || waitsOn md oi j) | _, _ => true))
theorem lateB_spec {md : Region.Mode} {l : List Oper} {L : List Nat} {n : Nat} (h : lateB md l L n = true) : LateOk md l L n := by
 unfold lateB at h
 simp only [Bool.and_eq_true, List.all_eq_true, List.mem_range, decide_eq_true_eq] at h
 obtain ⟨⟨h0, h1⟩, h8⟩ := h
 have h2 : ∀ (k : Nat) o, l[k]? = some o → (o.after.all fun e => !Region.binds md e || decide (e.on < k)) = true ∧ (match o.guard with | none => true | some (g, _) => decide (g < n) && decide (k < n)) = true ∧ (decide (k < n) || (List.range k).all fun i => L.contains i || waitsOn md o i) = true := fun k o hk => by
  have := h1 k (List.getElem?_eq_some_iff.1 hk).1
  rw [hk] at this
  simp only [Bool.and_eq_true] at this
  exact ⟨this.1.1, this.1.2, this.2⟩
 refine ⟨h0, fun k o hk e he hb => ?_, fun k o g b hk hg => ?_, fun k o hn hk i hi => ?_, fun i hi => (h8 i hi).1, fun i hi oi hoi j oj hoj hji => ?_⟩
 · have := Array.all_eq_true'.1 (h2 k o hk).1 e he
   simp [hb] at this
   exact this
 · have := (h2 k o hk).2.1
   rw [hg] at this
   simpa using this
 · have := (h2 k o hk).2.2
   rw [Bool.or_eq_true] at this
   rcases this with h | h
   · rw [decide_eq_true_eq] at h; omega
   · have h5 := List.all_eq_true.1 h i (List.mem_range.2 hi)
     simpa using h5
 · have hj := (List.getElem?_eq_some_iff.1 hoj).1
   have := (h8 i hi).2 j hj
   simp only [hoi, hoj, Bool.or_eq_true, beq_iff_eq, hji, false_or] at this
   exact this
def wpTailH (P : Program) (S : World → Prop) (Q : Exit → Act → World → Prop) : List Oper → Act → World → Prop
 | [], a, w => Q .normal a w
 | o :: r, a, w => o.wp P a w (fun a1 w1 => S w1 ∧ wpTailH P S Q r a1 w1) Q
section
variable {P : Program} {md : Region.Mode} {l : List Oper} {L : List Nat} {n : Nat} {Q' : Exit → Act → World → Prop} {S : World → Prop}
theorem wpAnyH_tail (hT : LateOk md l L n) : ∀ (m k : Nat) (fuel : Nat) (listed : Array Bool) (a : Act) (w : World), k + m = l.length → n ≤ k → m ≤ fuel → listed.size = l.length → (∀ j, j < k → listed.getD j false = true) →
 (∀ j, k ≤ j → j < l.length → listed.getD j true = false) → wpTailH P S Q' (l.drop k) a w → wpAnyH P md l.toArray Q' S fuel listed a w
 | 0, k, fuel, listed, a, w, hk, _, _, _, hin, _, h => by
   have he : Region.ready md l.toArray listed = [] := by
    rw [List.eq_nil_iff_forall_not_mem]
    intro j hj
    obtain ⟨h1, o, h2, _⟩ := mem_ready.1 hj
    have hjl : j < l.length := by simpa using (Array.getElem?_eq_some_iff.1 h2).1
    rw [getD_tf (hin j (by omega))] at h1; cases h1
   rw [List.drop_of_length_le (by omega)] at h
   cases fuel with
   | zero => exact ⟨he, h⟩
   | succ f => exact ⟨fun _ => h, fun i hi => by rw [he] at hi; cases hi⟩
 | m + 1, k, fuel, listed, a, w, hk, hn, hf, hs, hin, hout, h => by
   have hkl : k < l.length := by omega
   obtain ⟨ok, ho⟩ : ∃ o, l[k]? = some o := ⟨l[k], List.getElem?_eq_getElem hkl⟩
   have hg : ok.guard = none := by
     cases hq : ok.guard with
     | none => rfl
     | some q => have := (hT.gd k _ q.1 q.2 ho hq).2; omega
   have hkr : k ∈ Region.ready md l.toArray listed := by
     rw [mem_ready]
     exact ⟨hout k (Nat.le_refl _) hkl, ok, by simpa using ho, fun e he hb => hin _ (hT.fw k _ ho e he hb)⟩
   cases fuel with
   | zero => omega
   | succ f =>
     refine ⟨fun he => (by rw [he] at hkr; cases hkr), fun i hi => ?_⟩
     obtain ⟨h1, o, h2, h3⟩ := mem_ready.1 hi
     have hil : i < l.length := by simpa using (Array.getElem?_eq_some_iff.1 h2).1
     have hik : i = k := by
       rcases Nat.lt_trichotomy i k with h' | h' | h'
       · rw [getD_tf (hin i h')] at h1; cases h1
       · exact h'
       · rcases hT.tw i o (by omega) (by simpa using h2) k h' with hL | hW
         · have := hT.lt k hL; omega
         · exact absurd hi (not_ready_of h2 hW (getD_ff (hout k (Nat.le_refl _) hkl)))
     subst hik
     unfold wpOp
     rw [show l.toArray[i]? = some ok by simpa using ho]
     simp only
     rw [if_pos (by simp [Region.wanted, hg])]
     left
     rw [List.drop_eq_getElem_cons hkl, show l[i] = ok from Option.some.inj ((List.getElem?_eq_getElem hkl).symm.trans ho)] at h
     refine Oper.wp_mono (fun a' w' h' => ⟨h'.1, ?_⟩) h
     refine wpAnyH_tail hT m (i + 1) f _ a' w' (by omega) (by omega) (by omega) (by simpa using hs) (fun j hj => ?_) (fun j hj hjl => ?_) h'.2
     · by_cases e : i = j
       · subst e; simp [hs, hkl]
       · rw [getD_set_ne false e]; exact hin j (by omega)
     · rw [getD_set_ne true (by omega)]; exact hout j (by omega) hjl
end
section
variable {P : Program} {md : Region.Mode} {W0 : World} {F : Nat → Option (Value → World → Prop)} {Sl : List Nat} {Q' : Exit → Act → World → Prop}
theorem wpOp_of_gOp {ops : Array Oper} {E : TypeId} (hS : Dk.Ok P ops F Sl E) {ops' : Array Oper} {i : Nat} {listed : Array Bool} {a : Act} {w : World} {K K' : Act → World → Prop} (hop : ops'[i]? = ops[i]?)
 (hy : ∀ o, ops[i]? = some o → Region.wanted o (yielded ops' a.tmps) = Region.wanted o (yielded ops a.tmps))
 (hu : uniqB ops = true) (hw : Cl W0 w) (ht : Told ops F listed a w) (hr : i ∈ Region.ready md ops listed)
 (h : ∀ a' w', Cl W0 w' → Told ops F (listed.setIfInBounds i true) a' w' → K a' w' → K' a' w') (hh : Dk.gOp P md ops W0 F Sl listed i K a w) : wpOp P ops' Q' i K' a w := by
 obtain ⟨_, o, ho, _⟩ := mem_ready.1 hr
 by_cases hm : i ∈ Sl
 · unfold Dk.gOp at hh
   rw [ho] at hh
   obtain ⟨kd, hk, hK⟩ := hh
   obtain ⟨W, cs, t, hf⟩ := hS.fact i hm
   cases kd with
   | skip => simp only [Kd.ok, Region.wanted, (Dk.allocsB_spec hS.ops hm ho).1] at hk; cases hk
   | one v => rw [hk.2.1] at hf; cases hf
   | make f =>
     obtain ⟨hwant, hf2, hg⟩ := hk
     have hg' := hg w hw (ht.knows hr ho)
     obtain ⟨w', hrun⟩ := hS.exec hm ho a w
     unfold Oper.grows at hg'
     rw [hrun] at hg'
     unfold wpOp
     rw [hop, ho]
     simp only
     rw [if_pos (by rw [hy o ho]; exact hwant)]
     left
     unfold Oper.wp
     rw [hrun]
     exact h _ _ (hw.next hg'.1) (ht.put (P := P) (md := md) (W0 := W0) (kd := Kd.make f) hu ho ⟨hwant, hf2, hg⟩ hg'.1 hg'.2) (hK _ w' hg'.1 hg'.2 (Dk.new_fresh hS ht i))
 · refine wpOp_of_gOp2 hop hy hu hw ht hr h ?_
   unfold Dk.gOp at hh
   unfold _root_.Go.Proofs.YtliolnfcgaflcaaGreat.gOp
   rw [ho] at hh ⊢
   obtain ⟨kd, hk, hK⟩ := hh
   exact ⟨kd, hk, fun u w' h1 h2 => hK u w' h1 h2 (fun hm' => absurd hm' hm)⟩
variable {l : List Oper} {L : List Nat} {n : Nat}
theorem wpAnyH_of_late {E : TypeId} (hS : Dk.Ok P (l.take n).toArray F Sl E) (hT : LateOk md l L n) (hLF : ∀ i ∈ L, F i = none) (hu : uniqB (l.take n).toArray = true) (hsel : Region.noSelect l.toArray = true)
 (hQ : ∀ (c : List PanicEntry) a d v w, Q' (.panic c) (Act.put a d v) w → Q' (.panic c) a w) : ∀ (fuel : Nat) (listed listed' : Array Bool) (a : Act) (w : World), Cl W0 w → Told (l.take n).toArray F listed' a w → listed.size = l.length → listed'.size = n →
 (∀ j, j < n → ∀ d, listed.getD j d = listed'.getD j d) → (∀ j, n ≤ j → j < l.length → listed.getD j true = false) →
 Dk.wpAnyG P md (l.take n).toArray W0 F Sl (wpTailH P (Cl W0) Q' (l.drop n)) fuel listed' a w → wpAnyH P md l.toArray Q' (Cl W0) (fuel + (l.length - n)) listed a w := by
 have hpre : ∀ j, j < n → (l.take n).toArray[j]? = l.toArray[j]? := fun j hj => by
  rw [List.getElem?_toArray, List.getElem?_toArray, List.getElem?_take_of_lt hj]
 have hprel : ∀ (j : Nat) o, (l.take n).toArray[j]? = some o → j < n := fun j o h => by
  have := (Array.getElem?_eq_some_iff.1 h).1
  simp at this; omega
 have hready : ∀ (listed listed' : Array Bool), (∀ j, j < n → ∀ d, listed.getD j d = listed'.getD j d) → ∀ j, j < n → (j ∈ Region.ready md l.toArray listed ↔ j ∈ Region.ready md (l.take n).toArray listed') := by
  intro listed listed' hag j hj
  rw [mem_ready, mem_ready, hag j hj, hpre j hj]
  constructor
  · rintro ⟨h1, o, h2, h3⟩
    exact ⟨h1, o, h2, fun e he hb => by rw [← hag _ (Nat.lt_trans (hT.fw j o (by simpa using h2) e he hb) hj)]; exact h3 e he hb⟩
  · rintro ⟨h1, o, h2, h3⟩
    exact ⟨h1, o, h2, fun e he hb => by rw [hag _ (Nat.lt_trans (hT.fw j o (by simpa using h2) e he hb) hj)]; exact h3 e he hb⟩
 have hall : ∀ (listed' : Array Bool), listed'.size = n → Region.ready md (l.take n).toArray listed' = [] → ∀ j, j < n → listed'.getD j false = true := by
  intro listed' hs he j
  induction j using Nat.strongRecOn with
  | _ j ih =>
    intro hj
    cases hq : listed'.getD j true with
    | true =>
      have : j < listed'.size := by omega
      simp [this] at hq ⊢; exact hq
    | false =>
      exfalso
      have hjl : j < l.length := by have := hT.le; omega
      have hm : j ∈ Region.ready md (l.take n).toArray listed' := by
        rw [mem_ready]
        refine ⟨hq, l[j], by rw [hpre j hj]; simp [hjl], fun e he hb => ?_⟩
        have := hT.fw j _ (by simp [hjl]) e he hb
        exact ih _ this (by omega)
      rw [he] at hm; cases hm
 have htail : ∀ (fuel : Nat) (listed listed' : Array Bool) (a : Act) (w : World), listed.size = l.length → listed'.size = n → (∀ j, j < n → ∀ d, listed.getD j d = listed'.getD j d) → (∀ j, n ≤ j → j < l.length → listed.getD j true = false) →
  Region.ready md (l.take n).toArray listed' = [] → l.length - n ≤ fuel → wpTailH P (Cl W0) Q' (l.drop n) a w → wpAnyH P md l.toArray Q' (Cl W0) fuel listed a w := by
  intro fuel listed listed' a w hs hs' hag hout he hf h
  exact wpAnyH_tail hT (l.length - n) n fuel listed a w (by have := hT.le; omega) (Nat.le_refl _) hf hs (fun j hj => by rw [hag j hj]; exact hall listed' hs' he j hj) hout h
 have hwanted : ∀ (i : Nat) (o : Oper) (t : Array Value), l.toArray[i]? = some o → Region.wanted o (yielded l.toArray t) = Region.wanted o (yielded (l.take n).toArray t) := by
  intro i o t ho
  unfold Region.wanted
  cases hq : o.guard with
  | none => rfl
  | some q =>
    obtain ⟨g, b⟩ := q
    have := hT.gd i o g b (by simpa using ho) hq
    simp only
    have hy : yielded l.toArray t g = yielded (l.take n).toArray t g := by
        unfold yielded
        rw [hpre g this.1]
    rw [hy]
 have hset : ∀ (listed listed' : Array Bool) (i : Nat), i < n → listed.size = l.length → listed'.size = n → (∀ j, j < n → ∀ d, listed.getD j d = listed'.getD j d) → ∀ j, j < n → ∀ d, (listed.setIfInBounds i true).getD j d = (listed'.setIfInBounds i true).getD j d := by
  intro listed listed' i hin hs hs' hag j hj d
  by_cases e : i = j
  · subst e
    have h4 : i < listed.size := by have := hT.le; omega
    have h5 : i < listed'.size := by omega
    simp [h4, h5]
  · rw [getD_set_ne d e, getD_set_ne d e]; exact hag j hj d
 intro fuel
 induction fuel with
 | zero =>
   intro listed listed' a w _ _ hs hs' hag hout h
   exact htail _ listed listed' a w hs hs' hag hout h.1 (by omega) h.2
 | succ fuel ih =>
   intro listed listed' a w hC hTold hs hs' hag hout h
   by_cases he : Region.ready md (l.take n).toArray listed' = []
   · exact htail _ listed listed' a w hs hs' hag hout he (by omega) (h.1 he)
   · rw [Nat.succ_add]
     by_cases hlate : ∃ i ∈ L, i ∈ Region.ready md l.toArray listed
     · obtain ⟨i, hiL, hir⟩ := hlate
       have hin := hT.lt i hiL
       have hi' := (hready listed listed' hag i hin).1 hir
       obtain ⟨_, oi, hoi, _⟩ := mem_ready.1 hir
       have hoi2 : (l.take n).toArray[i]? = some oi := by rw [hpre i hin]; exact hoi
       have hq := h.2 i hi'
       unfold Dk.gOp at hq
       rw [hoi2] at hq
       obtain ⟨kd, hk, hK⟩ := hq
       have hnS : i ∉ Sl := fun hm => by
         obtain ⟨_, _, _, hf⟩ := hS.fact i hm
         rw [hLF i hiL] at hf
         cases hf
       have hap := fun (j : Nat) (oj : Oper) (hj : l.toArray[j]? = some oj) (hji : j ≠ i) (hun : listed.getD j true = false) (hno : ∀ e ∈ oj.after, Region.binds md e = true → e.on ≠ i) => show oi.apart l.toArray oj = true by
         rcases hT.fr i hiL oi (by simpa using hoi) j oj (by simpa using hj) hji with hw | hw | hw
         · obtain ⟨e, he, hb, hon⟩ := waitsOn_spec hw
           exact absurd hon (hno e he hb)
         · exact hw
         · exact absurd hir (not_ready_of hoi hw (getD_ff hun))
       have hrest : ∀ v, kd.out v w → wpAnyH P md l.toArray Q' (Cl W0) (fuel + (l.length - n)) (listed.setIfInBounds i true) (a.put oi.dst v) w := fun v ho =>
         ih (listed.setIfInBounds i true) (listed'.setIfInBounds i true) (a.put oi.dst v) w hC (hTold.put hu hoi2 hk (Le.refl w) ho) (by simpa using hs) (by simpa using hs') (hset _ _ i hin hs hs' hag) (fun j hj hjl => by rw [getD_set_ne true (by omega)]; exact hout j hj hjl) (hK v w (Le.refl w) ho (fun hm => absurd hm hnS))
       cases kd with
       | skip =>
         have hk' : Region.wanted oi (yielded (l.take n).toArray a.tmps) = false := hk
         rw [← hwanted i oi _ hoi] at hk'
         exact wpAnyH_first hoi (Region.noSelect_spec hsel) (fun c a w => hQ c a _ _ w) _ listed a w hap hir (.inr ⟨hk', rfl⟩) hC (hrest undef rfl)
       | one v =>
         obtain ⟨hk1, _, hk3, hk4⟩ := hk
         rw [← hwanted i oi _ hoi] at hk1
         refine wpAnyH_first hoi (Region.noSelect_spec hsel) (fun c a w => hQ c a _ _ w) _ listed a w hap hir (.inl ⟨hk1, fun w2 hw2 => ?_⟩) hC (hrest v rfl)
         rcases quiet_value hk3 (hk4 w2 hw2) with h1 | ⟨h1, _⟩
         · exact h1
         · exact absurd h1 (noGo_value hk3)
       | make f =>
         have := hk.2.1
         rw [hLF i hiL] at this; cases this
     · obtain ⟨i0, hi0⟩ := List.exists_mem_of_ne_nil _ he
       have hi0n : i0 < n := by obtain ⟨_, o, ho, _⟩ := mem_ready.1 hi0; exact hprel i0 o ho
       refine ⟨fun h0 => ?_, fun i hi => ?_⟩
       · have := (hready listed listed' hag i0 hi0n).2 hi0
         rw [h0] at this; cases this
       · obtain ⟨h1, o, h2, h3⟩ := mem_ready.1 hi
         have hin : i < n := by
          rcases Nat.lt_or_ge i n with h' | h'
          · exact h'
          · exfalso
            have hi0f : listed.getD i0 false = false := by
               rw [hag i0 hi0n]; exact getD_ff (mem_ready.1 hi0).1
            rcases hT.tw i o h' (by simpa using h2) i0 (by omega) with hL | hW
            · exact hlate ⟨i0, hL, (hready listed listed' hag i0 hi0n).2 hi0⟩
            · exact not_ready_of h2 hW hi0f hi
         have hi' := (hready listed listed' hag i hin).1 hi
         refine wpOp_of_gOp hS (hpre i hin).symm (fun o' ho' => hwanted i o' _ (by rw [hpre i hin] at ho'; exact ho')) hu hC hTold hi' (fun a' w' hC' hT' hk => ⟨hC', ih _ _ a' w' hC' hT' (by simpa using hs) (by simpa using hs') (hset _ _ i hin hs hs' hag) (fun j hj hjl => ?_) hk⟩) (h.2 i hi')
         rw [getD_set_ne true (by omega)]; exact hout j hj hjl
end
theorem wp_region_late (n : Nat) (L : List Nat) {P : Program} {id : Nat} {Q : Exit → Act → World → Prop} {a : Act} {w : World} {l : List Oper} (F : Nat → Option (Value → World → Prop)) (hm : P.follows .mixedOrders = true) (hB : Region.lexB .any (l.take n).toArray = true) (hs : Region.noSelect l.toArray = true) (hu : uniqB (l.take n).toArray = true) (Sl : List Nat) {E : TypeId} (hS : Dk.Ok P (l.take n).toArray F Sl E) (ht : lateB .any l L n = true) (hLF : ∀ i ∈ L, F i = none)
 (hQ : ∀ (c : List PanicEntry) a d v w, Q (.panic c) (Act.put a d v) w → Q (.panic c) a w)
 (h : Dk.wpG P .any (l.take n).toArray w F Sl (fun a' w' => wpTailH P (Cl w) Q (l.drop n) a' w') (l.take n) 0 (fun _ => True) a) : (Code.region id l.toArray true).wp P Q a w := by
 have hT := lateB_spec ht
 simp only [Region.lexB, Bool.and_eq_true] at hB
 have hw : Cl w w.drew := Cl.of (Below.refl _ _).drew
 have hany := Dk.wpAnyG_lex hS hu hB.1 (l.take n) 0 (Array.replicate (l.take n).toArray.size false) a w.drew (fun _ => True) (by simp) (by simp) (fun j hj => absurd hj (by omega)) (by simpa using hB.2) hw (told_none _) trivial (fun _ _ _ h => h) h
 refine wp_region_held (S := Cl w) hm ?_
 have hln : (l.take n).length = n := by simp [hT.le]
 have := wpAnyH_of_late (Q' := Q) hS hT hLF hu hs hQ (l.take n).length (Array.replicate l.length false) (Array.replicate (l.take n).toArray.size false) a w.drew hw (told_none _) (by simp) (by simp [hT.le]) (fun j hj d => ?_) (fun j hj hjl => by simp [hjl]) hany
 · rw [hln] at this
   have e : n + (l.length - n) = l.length := by have := hT.le; omega
   rw [e] at this
   simpa using this
 · have h1 : j < l.length := by have := hT.le; omega
   have h2 : j < min n l.length := by omega
   simp [h1, h2]
theorem wpTailH_cons {P : Program} {S : World → Prop} {Q : Exit → Act → World → Prop} {o : Oper} {r : List Oper} {a : Act} {w : World} (h : o.wp P a w (fun a1 w1 => S w1 ∧ wpTailH P S Q r a1 w1) Q) : wpTailH P S Q (o :: r) a w := h
theorem wpTailH_nil {P : Program} {S : World → Prop} {Q : Exit → Act → World → Prop} {a : Act} {w : World} (h : Q .normal a w) : wpTailH P S Q [] a w := h
end Go.Proofs.YtliolnfcgaflcaaGreat.Dl
