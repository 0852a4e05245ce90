/- The law of Rsp, where the operations of a list (pure ones) may come up behind those of the tail. -/
import Derived.Test.YtliolnfcgaflcaaGreatRsp
import Derived.Test.YtliolnfcgaflcaaGreatDm
namespace Go.Proofs.YtliolnfcgaflcaaGreat.Pr
open Go.RowKit Classical Dl
def covX (md : Region.Mode) (l : List Oper) (T : List Nat) (o : Oper) : Nat → List Nat → Bool
 | 0, _ => true
 | m + 1, C => if waitsOn md o m || C.any (fun j => match l[j]? with | some q => waitsOn md q m | none => false) then covX md l T o m (m :: C) else T.contains m && covX md l T o m C
theorem covX_all {md : Region.Mode} {l : List Oper} {T : List Nat} {listed : Array Bool} {o : Oper} (hc : Closed md l listed) (ho : ∀ e ∈ o.after, Region.binds md e = true → listed.getD e.on false = true) : ∀ (m : Nat) (C : List Nat), (∀ j ∈ C, listed.getD j false = true) → covX md l T o m C = true → ∀ i, i < m → i ∈ T ∨ listed.getD i false = true
 | 0, _, _, _, i, hi => absurd hi (by omega)
 | m + 1, C, hC, h, i, hi => by
   unfold covX at h
   split at h
   · rename_i h0
     rw [Bool.or_eq_true] at h0
     have hm : listed.getD m false = true := by
       rcases h0 with h1 | h1
       · obtain ⟨e, he, hb, hon⟩ := waitsOn_spec h1
         rw [← hon]; exact ho e he hb
       · obtain ⟨j, hj, h2⟩ := List.any_eq_true.1 h1
         cases hq : l[j]? with
         | none => rw [hq] at h2; cases h2
         | some q =>
           rw [hq] at h2
           obtain ⟨e, he, hb, hon⟩ := waitsOn_spec h2
           rw [← hon]; exact hc j q hq (hC j hj) e he hb
     rcases Nat.lt_succ_iff_lt_or_eq.1 hi with h1 | rfl
     · exact covX_all hc ho m (m :: C) (fun j hj => by
        rcases List.mem_cons.1 hj with rfl | hj
        · exact hm
        · exact hC j hj) h i h1
     · exact .inr hm
   · rw [Bool.and_eq_true] at h
     rcases Nat.lt_succ_iff_lt_or_eq.1 hi with h1 | rfl
     · exact covX_all hc ho m C hC h.2 i h1
     · exact .inl (by simpa using h.1)
structure LateP (md : Region.Mode) (l : List Oper) (T : List Nat) (n : Nat) : Prop where
 le : n ≤ l.length
 fw : ∀ (k : Nat) o, l[k]? = some o → ∀ e ∈ o.after, Region.binds md e = true → e.on < k
 gd : ∀ (k : Nat) o g b, l[k]? = some o → o.guard = some (g, b) → g < n ∧ k < n
 tw : ∀ (k : Nat) o, n ≤ k → l[k]? = some o → covX md l T o k [] = true
 lt : ∀ i ∈ T, i < n
 fr : ∀ i ∈ T, ∀ oi, l[i]? = some oi → ∀ (j : Nat) oj, l[j]? = some oj → j ≠ i → waitsOn md oj i = true ∨ oi.apart l.toArray oj = true ∨ waitsOn md oi j = true
def latePB (md : Region.Mode) (l : List Oper) (T : List Nat) (n : Nat) : Bool := decide (n ≤ l.length) && ((List.range l.length).all fun k => match l[k]? with
 | some o => (o.after.all fun e => !Region.binds md e || decide (e.on < k)) && (match o.guard with | none => true | some (g, _) => decide (g < n) && decide (k < n)) && (decide (k < n) || covX md l T o k [])
 | none => true) && (T.all fun i => decide (i < n) && (List.range l.length).all fun j => j == i || (match l[i]?, l[j]? with | some oi, some oj => waitsOn md oj i || (oi.apart l.toArray oj || waitsOn md oi j) | _, _ => true))
theorem latePB_spec {md : Region.Mode} {l : List Oper} {T : List Nat} {n : Nat} (h : latePB md l T n = true) : LateP md l T n := by
 unfold latePB at h
 simp only [Bool.and_eq_true, List.all_eq_true, List.mem_range, decide_eq_true_eq] at h
 obtain ⟨⟨h0, h1⟩, h8⟩ := h
 have h2 : ∀ (k : Nat) o, l[k]? = some o → (o.after.all fun e => !Region.binds md e || decide (e.on < k)) = true ∧ (match o.guard with | none => true | some (g, _) => decide (g < n) && decide (k < n)) = true ∧ (decide (k < n) || covX md l T o k []) = true := fun k o hk => by
  have := h1 k (List.getElem?_eq_some_iff.1 hk).1
  rw [hk] at this
  simp only [Bool.and_eq_true] at this
  exact ⟨this.1.1, this.1.2, this.2⟩
 refine ⟨h0, fun k o hk e he hb => ?_, fun k o g b hk hg => ?_, fun k o hn hk => ?_, fun i hi => (h8 i hi).1, fun i hi oi hoi j oj hoj hji => ?_⟩
 · have := Array.all_eq_true'.1 (h2 k o hk).1 e he
   simp [hb] at this
   exact this
 · have := (h2 k o hk).2.1
   rw [hg] at this
   simpa using this
 · have := (h2 k o hk).2.2
   rw [Bool.or_eq_true] at this
   rcases this with h | h
   · rw [decide_eq_true_eq] at h; omega
   · exact h
 · have hj := (List.getElem?_eq_some_iff.1 hoj).1
   have := (h8 i hi).2 j hj
   simp only [hoi, hoj, Bool.or_eq_true, beq_iff_eq, hji, false_or] at this
   exact this
section
variable {P : Program} {md : Region.Mode} {l : List Oper} {T : List Nat} {n : Nat} {Q' : Exit → Act → World → Prop} {S : World → Prop}
theorem wpAnyH_tail (hT : LateP md l T n) : ∀ (m k : Nat) (fuel : Nat) (listed : Array Bool) (a : Act) (w : World), Closed md l listed → k + m = l.length → n ≤ k → m ≤ fuel → listed.size = l.length → (∀ j, j < k → listed.getD j false = true) →
 (∀ j, k ≤ j → j < l.length → listed.getD j true = false) → wpTailH P S Q' (l.drop k) a w → wpAnyH P md l.toArray Q' S fuel listed a w
 | 0, k, fuel, listed, a, w, _, hk, _, _, _, hin, _, h => by
   have he : Region.ready md l.toArray listed = [] := by
    rw [List.eq_nil_iff_forall_not_mem]
    intro j hj
    obtain ⟨h1, o, h2, _⟩ := mem_ready.1 hj
    have hjl : j < l.length := by simpa using (Array.getElem?_eq_some_iff.1 h2).1
    rw [getD_tf (hin j (by omega))] at h1; cases h1
   rw [List.drop_of_length_le (by omega)] at h
   cases fuel with
   | zero => exact ⟨he, h⟩
   | succ f => exact ⟨fun _ => h, fun i hi => by rw [he] at hi; cases hi⟩
 | m + 1, k, fuel, listed, a, w, hcl, hk, hn, hf, hs, hin, hout, h => by
   have hkl : k < l.length := by omega
   obtain ⟨ok, ho⟩ : ∃ o, l[k]? = some o := ⟨l[k], List.getElem?_eq_getElem hkl⟩
   have hg : ok.guard = none := by
     cases hq : ok.guard with
     | none => rfl
     | some q => have := (hT.gd k _ q.1 q.2 ho hq).2; omega
   have hkr : k ∈ Region.ready md l.toArray listed := by
     rw [mem_ready]
     exact ⟨hout k (Nat.le_refl _) hkl, ok, by simpa using ho, fun e he hb => hin _ (hT.fw k _ ho e he hb)⟩
   cases fuel with
   | zero => omega
   | succ f =>
     refine ⟨fun he => (by rw [he] at hkr; cases hkr), fun i hi => ?_⟩
     obtain ⟨h1, o, h2, h3⟩ := mem_ready.1 hi
     have hil : i < l.length := by simpa using (Array.getElem?_eq_some_iff.1 h2).1
     have hik : i = k := by
       rcases Nat.lt_trichotomy i k with h' | h' | h'
       · rw [getD_tf (hin i h')] at h1; cases h1
       · exact h'
       · rcases covX_all hcl h3 i [] (fun _ h => by cases h) (hT.tw i o (by omega) (by simpa using h2)) k h' with hL | hW
         · have := hT.lt k hL; omega
         · rw [getD_ff (hout k (Nat.le_refl _) hkl)] at hW; cases hW
     subst hik
     unfold wpOp
     rw [show l.toArray[i]? = some ok by simpa using ho]
     simp only
     rw [if_pos (by simp [Region.wanted, hg])]
     left
     rw [List.drop_eq_getElem_cons hkl, show l[i] = ok from Option.some.inj ((List.getElem?_eq_getElem hkl).symm.trans ho)] at h
     refine Oper.wp_mono (fun a' w' h' => ⟨h'.1, ?_⟩) h
     refine wpAnyH_tail hT m (i + 1) f _ a' w' (hcl.put hi) (by omega) (by omega) (by omega) (by simpa using hs) (fun j hj => ?_) (fun j hj hjl => ?_) h'.2
     · by_cases e : i = j
       · subst e; simp [hs, hkl]
       · rw [getD_set_ne false e]; exact hin j (by omega)
     · rw [getD_set_ne true (by omega)]; exact hout j (by omega) hjl
end
section
variable {P : Program} {md : Region.Mode} {R : Pre} {W0 : World} {F : Nat → Option (Value → World → Prop)} {Q' : Exit → Act → World → Prop} {l : List Oper} {T : List Nat} {n : Nat} {ops : Array Oper}
theorem wpOp_of_gOp3 {ops' : Array Oper} {i : Nat} {listed : Array Bool} {a : Act} {w : World} {K K' : Act → World → Prop} {Q' : Exit → Act → World → Prop} (hop : ops'[i]? = ops[i]?) (hy : ∀ o, ops[i]? = some o → Region.wanted o (yielded ops' a.tmps) = Region.wanted o (yielded ops a.tmps))
 (hu : uniqB ops = true) (hw : Cl R W0 w) (ht : Told R ops F listed a w) (hr : i ∈ Region.ready md ops listed)
 (h : ∀ a' w', Cl R W0 w' → Told R ops F (listed.setIfInBounds i true) a' w' → K a' w' → K' a' w') (hh : gOp R P md ops W0 F i K a w) : wpOp P ops' Q' i K' a w := by
 unfold gOp at hh
 unfold wpOp
 obtain ⟨_, o, ho, _⟩ := mem_ready.1 hr
 have hy' := hy o ho
 rw [ho] at hh
 rw [hop, ho]
 simp only [hy']
 obtain ⟨kd, hk, hK⟩ := hh
 have hn : ∀ u w', R.le w w' → kd.out R u w' → K' (a.put o.dst u) w' := fun u w' hl hout => h _ _ (hw.next hl) (ht.put hu ho hk hl hout) (hK u w' hl hout)
 cases kd with
 | skip =>
   have hk' : Region.wanted o (yielded ops a.tmps) = false := hk
   simp only [hk', Bool.false_eq_true, if_false]
   exact hn undef w (R.refl w) rfl
 | one v =>
   obtain ⟨hwant, _, hng, hq⟩ := hk
   simp only [hwant, if_true]
   left
   unfold Oper.wp
   rcases quiet_value hng (hq w hw) with he | ⟨he, rfl⟩ <;> rw [he] <;> exact hn _ w (R.refl w) rfl
 | make f =>
   obtain ⟨hwant, _, hg⟩ := hk
   simp only [hwant, if_true]
   exact .inl (grows_wp (hg w hw (ht.knows hr ho)) hn)
theorem wpAnyH_of_late (hT : LateP md l T n) (hLX : ∀ i ∈ T, ∀ oi, l[i]? = some oi → ∀ (ρ : Operand → Value) v (w w2 : World), (execOp ρ oi).run P w = .ok (.value v) w → (execOp ρ oi).run P w2 = .ok (.value v) w2) (hLF : ∀ i ∈ T, F i = none) (hu : uniqB (l.take n).toArray = true) (hsel : Region.noSelect l.toArray = true)
 (hQ : ∀ (c : List PanicEntry) a d v w, Q' (.panic c) (Act.put a d v) w → Q' (.panic c) a w) : ∀ (fuel : Nat) (listed listed' : Array Bool) (a : Act) (w : World), Closed md l listed → Cl R W0 w → Told R (l.take n).toArray F listed' a w → listed.size = l.length → listed'.size = n →
 (∀ j, j < n → ∀ d, listed.getD j d = listed'.getD j d) → (∀ j, n ≤ j → j < l.length → listed.getD j true = false) →
 wpAnyG R P md (l.take n).toArray W0 F (wpTailH P (fun _ => True) Q' (l.drop n)) fuel listed' a w → wpAnyH P md l.toArray Q' (fun _ => True) (fuel + (l.length - n)) listed a w := by
 have hpre : ∀ j, j < n → (l.take n).toArray[j]? = l.toArray[j]? := fun j hj => by
  rw [List.getElem?_toArray, List.getElem?_toArray, List.getElem?_take_of_lt hj]
 have hprel : ∀ (j : Nat) o, (l.take n).toArray[j]? = some o → j < n := fun j o h => by
  have := (Array.getElem?_eq_some_iff.1 h).1
  simp at this; omega
 have hready : ∀ (listed listed' : Array Bool), (∀ j, j < n → ∀ d, listed.getD j d = listed'.getD j d) → ∀ j, j < n → (j ∈ Region.ready md l.toArray listed ↔ j ∈ Region.ready md (l.take n).toArray listed') := by
  intro listed listed' hag j hj
  rw [mem_ready, mem_ready, hag j hj, hpre j hj]
  constructor
  · rintro ⟨h1, o, h2, h3⟩
    exact ⟨h1, o, h2, fun e he hb => by rw [← hag _ (Nat.lt_trans (hT.fw j o (by simpa using h2) e he hb) hj)]; exact h3 e he hb⟩
  · rintro ⟨h1, o, h2, h3⟩
    exact ⟨h1, o, h2, fun e he hb => by rw [hag _ (Nat.lt_trans (hT.fw j o (by simpa using h2) e he hb) hj)]; exact h3 e he hb⟩
 have hall : ∀ (listed' : Array Bool), listed'.size = n → Region.ready md (l.take n).toArray listed' = [] → ∀ j, j < n → listed'.getD j false = true := by
  intro listed' hs he j
  induction j using Nat.strongRecOn with
  | _ j ih =>
    intro hj
    cases hq : listed'.getD j true with
    | true =>
      have : j < listed'.size := by omega
      simp [this] at hq ⊢; exact hq
    | false =>
      exfalso
      have hjl : j < l.length := by have := hT.le; omega
      have hm : j ∈ Region.ready md (l.take n).toArray listed' := by
        rw [mem_ready]
        refine ⟨hq, l[j], by rw [hpre j hj]; simp [hjl], fun e he hb => ?_⟩
        have := hT.fw j _ (by simp [hjl]) e he hb
        exact ih _ this (by omega)
      rw [he] at hm; cases hm
 have htail : ∀ (fuel : Nat) (listed listed' : Array Bool) (a : Act) (w : World), Closed md l listed → listed.size = l.length → listed'.size = n → (∀ j, j < n → ∀ d, listed.getD j d = listed'.getD j d) → (∀ j, n ≤ j → j < l.length → listed.getD j true = false) →
  Region.ready md (l.take n).toArray listed' = [] → l.length - n ≤ fuel → wpTailH P (fun _ => True) Q' (l.drop n) a w → wpAnyH P md l.toArray Q' (fun _ => True) fuel listed a w := by
  intro fuel listed listed' a w hcl hs hs' hag hout he hf h
  exact wpAnyH_tail hT (l.length - n) n fuel listed a w hcl (by have := hT.le; omega) (Nat.le_refl _) hf hs (fun j hj => by rw [hag j hj]; exact hall listed' hs' he j hj) hout h
 have hwanted : ∀ (i : Nat) (o : Oper) (t : Array Value), l.toArray[i]? = some o → Region.wanted o (yielded l.toArray t) = Region.wanted o (yielded (l.take n).toArray t) := by
  intro i o t ho
  unfold Region.wanted
  cases hq : o.guard with
  | none => rfl
  | some q =>
    obtain ⟨g, b⟩ := q
    have := hT.gd i o g b (by simpa using ho) hq
    simp only
    have hy : yielded l.toArray t g = yielded (l.take n).toArray t g := by
        unfold yielded
        rw [hpre g this.1]
    rw [hy]
 have hset : ∀ (listed listed' : Array Bool) (i : Nat), i < n → listed.size = l.length → listed'.size = n → (∀ j, j < n → ∀ d, listed.getD j d = listed'.getD j d) → ∀ j, j < n → ∀ d, (listed.setIfInBounds i true).getD j d = (listed'.setIfInBounds i true).getD j d := by
  intro listed listed' i hin hs hs' hag j hj d
  by_cases e : i = j
  · subst e
    have h4 : i < listed.size := by have := hT.le; omega
    have h5 : i < listed'.size := by omega
    simp [h4, h5]
  · rw [getD_set_ne d e, getD_set_ne d e]; exact hag j hj d
 intro fuel
 induction fuel with
 | zero =>
   intro listed listed' a w hcl _ _ hs hs' hag hout h
   exact htail _ listed listed' a w hcl hs hs' hag hout h.1 (by omega) h.2
 | succ fuel ih =>
   intro listed listed' a w hcl hC hTold hs hs' hag hout h
   by_cases he : Region.ready md (l.take n).toArray listed' = []
   · exact htail _ listed listed' a w hcl hs hs' hag hout he (by omega) (h.1 he)
   · rw [Nat.succ_add]
     by_cases hlate : ∃ i ∈ T, i ∈ Region.ready md l.toArray listed
     · obtain ⟨i, hiL, hir⟩ := hlate
       have hin := hT.lt i hiL
       have hi' := (hready listed listed' hag i hin).1 hir
       obtain ⟨_, oi, hoi, _⟩ := mem_ready.1 hir
       have hoi2 : (l.take n).toArray[i]? = some oi := by rw [hpre i hin]; exact hoi
       have hq := h.2 i hi'
       unfold gOp at hq
       rw [hoi2] at hq
       obtain ⟨kd, hk, hK⟩ := hq
       have hap := fun (j : Nat) (oj : Oper) (hj : l.toArray[j]? = some oj) (hji : j ≠ i) (hun : listed.getD j true = false) (hno : ∀ e ∈ oj.after, Region.binds md e = true → e.on ≠ i) => show oi.apart l.toArray oj = true by
         rcases hT.fr i hiL oi (by simpa using hoi) j oj (by simpa using hj) hji with hw | hw | hw
         · obtain ⟨e, he, hb, hon⟩ := waitsOn_spec hw
           exact absurd hon (hno e he hb)
         · exact hw
         · exact absurd hir (not_ready_of hoi hw (getD_ff hun))
       have hrest : ∀ v, kd.out R v w → wpAnyH P md l.toArray Q' (fun _ => True) (fuel + (l.length - n)) (listed.setIfInBounds i true) (a.put oi.dst v) w := fun v ho =>
         ih (listed.setIfInBounds i true) (listed'.setIfInBounds i true) (a.put oi.dst v) w (hcl.put hir) hC (hTold.put hu hoi2 hk (R.refl w) ho) (by simpa using hs) (by simpa using hs') (hset _ _ i hin hs hs' hag) (fun j hj hjl => by rw [getD_set_ne true (by omega)]; exact hout j hj hjl) (hK v w (R.refl w) ho)
       cases kd with
       | skip =>
         have hk' : Region.wanted oi (yielded (l.take n).toArray a.tmps) = false := hk
         rw [← hwanted i oi _ hoi] at hk'
         exact wpAnyH_first hoi (Region.noSelect_spec hsel) (fun c a w => hQ c a _ _ w) _ listed a w hap hir (.inr ⟨hk', rfl⟩) trivial (hrest undef rfl)
       | one v =>
         obtain ⟨hk1, _, hk3, hk4⟩ := hk
         rw [← hwanted i oi _ hoi] at hk1
         refine wpAnyH_first hoi (Region.noSelect_spec hsel) (fun c a w => hQ c a _ _ w) _ listed a w hap hir (.inl ⟨hk1, fun w2 _ => ?_⟩) trivial (hrest v rfl)
         rcases quiet_value hk3 (hk4 w hC) with h1 | ⟨h1, _⟩
         · exact hLX i hiL oi (by simpa using hoi) _ _ _ _ h1
         · exact absurd h1 (noGo_value hk3)
       | make f =>
         have := hk.2.1
         rw [hLF i hiL] at this; cases this
     · obtain ⟨i0, hi0⟩ := List.exists_mem_of_ne_nil _ he
       have hi0n : i0 < n := by obtain ⟨_, o, ho, _⟩ := mem_ready.1 hi0; exact hprel i0 o ho
       refine ⟨fun h0 => ?_, fun i hi => ?_⟩
       · have := (hready listed listed' hag i0 hi0n).2 hi0
         rw [h0] at this; cases this
       · obtain ⟨h1, o, h2, h3⟩ := mem_ready.1 hi
         have hin : i < n := by
          rcases Nat.lt_or_ge i n with h' | h'
          · exact h'
          · exfalso
            have hi0f : listed.getD i0 false = false := by
               rw [hag i0 hi0n]; exact getD_ff (mem_ready.1 hi0).1
            rcases covX_all hcl h3 i [] (fun _ h => by cases h) (hT.tw i o h' (by simpa using h2)) i0 (by omega) with hL | hW
            · exact hlate ⟨i0, hL, (hready listed listed' hag i0 hi0n).2 hi0⟩
            · rw [hi0f] at hW; cases hW
         have hi' := (hready listed listed' hag i hin).1 hi
         refine wpOp_of_gOp3 (hpre i hin).symm (fun o' ho' => hwanted i o' _ (by rw [hpre i hin] at ho'; exact ho')) hu hC hTold hi' (fun a' w' hC' hT' hk => ⟨trivial, ih _ _ a' w' (hcl.put hi) hC' hT' (by simpa using hs) (by simpa using hs') (hset _ _ i hin hs hs' hag) (fun j hj hjl => ?_) hk⟩) (h.2 i hi')
         rw [getD_set_ne true (by omega)]; exact hout j hj hjl
end
theorem wpAnyH_perm {S : World → Prop} {P : Program} {md : Region.Mode} {Q : Exit → Act → World → Prop} {i : Nat} {l : List Oper} (h : i + 1 < l.length) (hgd : ∀ (k : Nat) o, l[k]? = some o → o.guard = none) :
 ∀ (fuel : Nat) (listed listed' : Array Bool) (a : Act) (w : World), (∀ k d, listed'.getD (sw i k) d = listed.getD k d) → listed.size = l.length → listed'.size = l.length → wpAnyH P md (permL i l).toArray Q S fuel listed' a w → wpAnyH P md l.toArray Q S fuel listed a w := by
 intro fuel
 induction fuel with
 | zero =>
   intro listed listed' a w hag _ _ hh
   refine ⟨?_, hh.2⟩
   rw [List.eq_nil_iff_forall_not_mem]
   intro k hk
   have := (ready_perm h hag k).1 hk
   rw [hh.1] at this
   cases this
 | succ fuel ih =>
   intro listed listed' a w hag hs hs' hh
   refine ⟨fun he => hh.1 ?_, fun k hk => ?_⟩
   · rw [List.eq_nil_iff_forall_not_mem]
     intro k hk
     have := (ready_perm h hag (sw i k)).2 (by rw [sw_sw]; exact hk)
     rw [he] at this
     cases this
   · have h1 := hh.2 _ ((ready_perm h hag k).1 hk)
     obtain ⟨_, o, ho, _⟩ := mem_ready.1 hk
     have hkl : k < l.length := by simpa using (Array.getElem?_eq_some_iff.1 ho).1
     have ho' : l[k]? = some o := by simpa using ho
     have hg := hgd k o ho'
     unfold wpOp at h1 ⊢
     rw [List.getElem?_toArray, permL_get h, ho'] at h1
     rw [ho]
     simp only [Option.map_some] at h1 ⊢
     have hg' : (ren i o).guard = none := hg
     rw [if_pos (by simp [Region.wanted, hg'])] at h1
     rw [if_pos (by simp [Region.wanted, hg])]
     have hset : ∀ (j : Nat) (d : Bool), (listed'.setIfInBounds (sw i k) true).getD (sw i j) d = (listed.setIfInBounds k true).getD j d := fun j d => by
        by_cases e : k = j
        · subst e
          have h4 : k < listed.size := by omega
          have h5 : sw i k < listed'.size := by rw [hs']; exact sw_lt h hkl
          simp [h4, h5]
        · have hne : sw i k ≠ sw i j := fun e2 => e (by rw [← sw_sw i k, e2, sw_sw])
          rw [getD_set_ne d e, getD_set_ne d hne]
          exact hag j d
     have hstep : ∀ a' w', (S w' ∧ wpAnyH P md (permL i l).toArray Q S fuel (listed'.setIfInBounds (sw i k) true) a' w') → S w' ∧ wpAnyH P md l.toArray Q S fuel (listed.setIfInBounds k true) a' w' := fun a' w' hw => ⟨hw.1, ih _ _ a' w' hset (by simpa using hs) (by simpa using hs') hw.2⟩
     rcases h1 with h1 | h1
     · exact .inl (Oper.wp_mono hstep (show o.wp P a w _ Q from h1))
     · right
       exact h1
theorem wp_region_plate (p : Nat) (R : Pre) (n : Nat) (T : List Nat) {P : Program} {id : Nat} {Q : Exit → Act → World → Prop} {a : Act} {w : World} {l : List Oper} (F : Nat → Option (Value → World → Prop)) (hdr : R.le w w.drew) (hm : P.follows .mixedOrders = true) (hp : decide (p + 1 < l.length) = true) (hg : noGuard l = true) (hB : Region.lexB .any ((permL p l).take n).toArray = true) (hs : Region.noSelect (permL p l).toArray = true) (hu : uniqB ((permL p l).take n).toArray = true) (ht : latePB .any (permL p l) T n = true) (hLF : ∀ i ∈ T, F i = none)
 (hQ : ∀ (c : List PanicEntry) a d v w, Q (.panic c) (Act.put a d v) w → Q (.panic c) a w)
 (hLX : ∀ i ∈ T, ∀ oi, (permL p l)[i]? = some oi → ∀ (ρ : Operand → Value) v (w w2 : World), (execOp ρ oi).run P w = .ok (.value v) w → (execOp ρ oi).run P w2 = .ok (.value v) w2) (h : wpG R P .any ((permL p l).take n).toArray w F (fun a' w' => wpTailH P (fun _ => True) Q ((permL p l).drop n) a' w') ((permL p l).take n) 0 (fun _ => True) a) : (Code.region id l.toArray true).wp P Q a w := by
 have hT := latePB_spec ht
 simp only [Region.lexB, Bool.and_eq_true] at hB
 have hw : Cl R w w.drew := Cl.of hdr
 have hany := wpAnyG_lex hu hB.1 ((permL p l).take n) 0 (Array.replicate ((permL p l).take n).toArray.size false) a w.drew (fun _ => True) (by simp) (by simpa using hB.2) hw (told_none _) trivial (fun _ _ _ h => h) h
 have hp' := of_decide_eq_true hp
 have hlen := permL_len p l hp'
 refine wp_region_held (S := fun _ => True) hm ?_
 have hln : ((permL p l).take n).length = n := by simp [hT.le]
 have := wpAnyH_of_late (Q' := Q) hT hLX hLF hu hs hQ ((permL p l).take n).length (Array.replicate (permL p l).length false) (Array.replicate ((permL p l).take n).toArray.size false) a w.drew (Closed.none _) hw (told_none _) (by simp) (by simp [hT.le]) (fun j hj d => ?_) (fun j hj hjl => by simp [hjl]) hany
 · rw [hln] at this
   have e : n + ((permL p l).length - n) = (permL p l).length := by have := hT.le; omega
   rw [e] at this
   refine wpAnyH_perm hp' (fun k o hk => ?_) _ _ (Array.replicate (permL p l).length false) _ _ (fun k d => ?_) (by simp) (by simp [hlen]) (by simpa [hlen] using this)
   · have := List.all_eq_true.1 hg o (List.mem_of_getElem? hk)
     simpa using this
   · rw [hlen]
     by_cases hk : k < l.length
     · have := sw_lt hp' hk
       simp [hk, this]
     · have : ¬ sw p k < l.length := fun h9 => hk (by have := sw_lt hp' h9; rwa [sw_sw] at this)
       simp [hk, this]
 · have h1 : j < (permL p l).length := by have := hT.le; omega
   have h2 : j < min n (permL p l).length := by omega
   simp [h1, h2]
end Go.Proofs.YtliolnfcgaflcaaGreat.Pr
