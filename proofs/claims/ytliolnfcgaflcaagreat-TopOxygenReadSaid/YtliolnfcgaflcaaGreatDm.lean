/- As Dl.wp_region_late, for late operations that look at no world: the others, that come one after another, may store anywhere. -/
import Derived.Test.YtliolnfcgaflcaaGreatDl
namespace Go.Proofs.YtliolnfcgaflcaaGreat.Dm
open Go.RowKit Classical Dl
def stillB : Op → Bool
 | .extract _ _ => true | .move _ => true | _ => false
def lateX (l : List Oper) (L : List Nat) : Bool := L.all fun i => match l[i]? with | some o => stillB o.op | none => true
theorem lateX_at {l : List Oper} {L : List Nat} {i : Nat} {o : Oper} (h : lateX l L = true) (hi : i ∈ L) (ho : l[i]? = some o) : stillB o.op = true := by
 unfold lateX at h
 have := List.all_eq_true.1 h i hi
 rw [ho] at this
 exact this
theorem still_op {P : Program} {o : Oper} (h : stillB o.op = true) {ρ : Operand → Value} {v : Value} {w w2 : World} (he : (execOp ρ o).run P w = .ok (.value v) w) : (execOp ρ o).run P w2 = .ok (.value v) w2 := by
 unfold execOp at *
 cases hop : o.op <;> rw [hop] at h he <;> simp only [stillB] at h <;> try exact absurd h (by decide)
 case move x =>
  simp only [Sem.run_pure] at he ⊢
  injection he with h1 _
  rw [h1]
 case extract t ix =>
  simp only [Sem.run_bind] at he ⊢
  unfold Instr.extract at *
  cases hq : ρ t <;> rw [hq] at he <;> simp only [stuck] at he <;> try (simp [Result.andThen] at he; done)
  case tuple vs =>
   simp only at he ⊢
   cases hv : vs[ix]? <;> rw [hv] at he
   · simp [Result.andThen] at he
   · simp only [Sem.run_pure, Result.andThen_ok] at he ⊢
     injection he with h1 _
     rw [h1]
section
variable {P : Program} {md : Region.Mode} {W0 : World} {F : Nat → Option (Value → World → Prop)} {Sl : List Nat} {Q' : Exit → Act → World → Prop}
variable {l : List Oper} {L : List Nat} {n : Nat}
theorem wpAnyH_of_late {E : TypeId} (hS : Dk.Ok P (l.take n).toArray F Sl E) (hT : LateOk md l L n) (hLX : lateX l L = true) (hLF : ∀ i ∈ L, F i = none) (hu : uniqB (l.take n).toArray = true) (hsel : Region.noSelect l.toArray = true)
 (hQ : ∀ (c : List PanicEntry) a d v w, Q' (.panic c) (Act.put a d v) w → Q' (.panic c) a w) : ∀ (fuel : Nat) (listed listed' : Array Bool) (a : Act) (w : World), Cl W0 w → Told (l.take n).toArray F listed' a w → listed.size = l.length → listed'.size = n →
 (∀ j, j < n → ∀ d, listed.getD j d = listed'.getD j d) → (∀ j, n ≤ j → j < l.length → listed.getD j true = false) →
 Dk.wpAnyG P md (l.take n).toArray W0 F Sl (wpTailH P (fun _ => True) Q' (l.drop n)) fuel listed' a w → wpAnyH P md l.toArray Q' (fun _ => True) (fuel + (l.length - n)) listed a w := by
 have hpre : ∀ j, j < n → (l.take n).toArray[j]? = l.toArray[j]? := fun j hj => by
  rw [List.getElem?_toArray, List.getElem?_toArray, List.getElem?_take_of_lt hj]
 have hprel : ∀ (j : Nat) o, (l.take n).toArray[j]? = some o → j < n := fun j o h => by
  have := (Array.getElem?_eq_some_iff.1 h).1
  simp at this; omega
 have hready : ∀ (listed listed' : Array Bool), (∀ j, j < n → ∀ d, listed.getD j d = listed'.getD j d) → ∀ j, j < n → (j ∈ Region.ready md l.toArray listed ↔ j ∈ Region.ready md (l.take n).toArray listed') := by
  intro listed listed' hag j hj
  rw [mem_ready, mem_ready, hag j hj, hpre j hj]
  constructor
  · rintro ⟨h1, o, h2, h3⟩
    exact ⟨h1, o, h2, fun e he hb => by rw [← hag _ (Nat.lt_trans (hT.fw j o (by simpa using h2) e he hb) hj)]; exact h3 e he hb⟩
  · rintro ⟨h1, o, h2, h3⟩
    exact ⟨h1, o, h2, fun e he hb => by rw [hag _ (Nat.lt_trans (hT.fw j o (by simpa using h2) e he hb) hj)]; exact h3 e he hb⟩
 have hall : ∀ (listed' : Array Bool), listed'.size = n → Region.ready md (l.take n).toArray listed' = [] → ∀ j, j < n → listed'.getD j false = true := by
  intro listed' hs he j
  induction j using Nat.strongRecOn with
  | _ j ih =>
    intro hj
    cases hq : listed'.getD j true with
    | true =>
      have : j < listed'.size := by omega
      simp [this] at hq ⊢; exact hq
    | false =>
      exfalso
      have hjl : j < l.length := by have := hT.le; omega
      have hm : j ∈ Region.ready md (l.take n).toArray listed' := by
        rw [mem_ready]
        refine ⟨hq, l[j], by rw [hpre j hj]; simp [hjl], fun e he hb => ?_⟩
        have := hT.fw j _ (by simp [hjl]) e he hb
        exact ih _ this (by omega)
      rw [he] at hm; cases hm
 have htail : ∀ (fuel : Nat) (listed listed' : Array Bool) (a : Act) (w : World), listed.size = l.length → listed'.size = n → (∀ j, j < n → ∀ d, listed.getD j d = listed'.getD j d) → (∀ j, n ≤ j → j < l.length → listed.getD j true = false) →
  Region.ready md (l.take n).toArray listed' = [] → l.length - n ≤ fuel → wpTailH P (fun _ => True) Q' (l.drop n) a w → wpAnyH P md l.toArray Q' (fun _ => True) fuel listed a w := by
  intro fuel listed listed' a w hs hs' hag hout he hf h
  exact wpAnyH_tail hT (l.length - n) n fuel listed a w (by have := hT.le; omega) (Nat.le_refl _) hf hs (fun j hj => by rw [hag j hj]; exact hall listed' hs' he j hj) hout h
 have hwanted : ∀ (i : Nat) (o : Oper) (t : Array Value), l.toArray[i]? = some o → Region.wanted o (yielded l.toArray t) = Region.wanted o (yielded (l.take n).toArray t) := by
  intro i o t ho
  unfold Region.wanted
  cases hq : o.guard with
  | none => rfl
  | some q =>
    obtain ⟨g, b⟩ := q
    have := hT.gd i o g b (by simpa using ho) hq
    simp only
    have hy : yielded l.toArray t g = yielded (l.take n).toArray t g := by
        unfold yielded
        rw [hpre g this.1]
    rw [hy]
 have hset : ∀ (listed listed' : Array Bool) (i : Nat), i < n → listed.size = l.length → listed'.size = n → (∀ j, j < n → ∀ d, listed.getD j d = listed'.getD j d) → ∀ j, j < n → ∀ d, (listed.setIfInBounds i true).getD j d = (listed'.setIfInBounds i true).getD j d := by
  intro listed listed' i hin hs hs' hag j hj d
  by_cases e : i = j
  · subst e
    have h4 : i < listed.size := by have := hT.le; omega
    have h5 : i < listed'.size := by omega
    simp [h4, h5]
  · rw [getD_set_ne d e, getD_set_ne d e]; exact hag j hj d
 intro fuel
 induction fuel with
 | zero =>
   intro listed listed' a w _ _ hs hs' hag hout h
   exact htail _ listed listed' a w hs hs' hag hout h.1 (by omega) h.2
 | succ fuel ih =>
   intro listed listed' a w hC hTold hs hs' hag hout h
   by_cases he : Region.ready md (l.take n).toArray listed' = []
   · exact htail _ listed listed' a w hs hs' hag hout he (by omega) (h.1 he)
   · rw [Nat.succ_add]
     by_cases hlate : ∃ i ∈ L, i ∈ Region.ready md l.toArray listed
     · obtain ⟨i, hiL, hir⟩ := hlate
       have hin := hT.lt i hiL
       have hi' := (hready listed listed' hag i hin).1 hir
       obtain ⟨_, oi, hoi, _⟩ := mem_ready.1 hir
       have hoi2 : (l.take n).toArray[i]? = some oi := by rw [hpre i hin]; exact hoi
       have hq := h.2 i hi'
       unfold Dk.gOp at hq
       rw [hoi2] at hq
       obtain ⟨kd, hk, hK⟩ := hq
       have hnS : i ∉ Sl := fun hm => by
         obtain ⟨_, _, _, hf⟩ := hS.fact i hm
         rw [hLF i hiL] at hf
         cases hf
       have hap := fun (j : Nat) (oj : Oper) (hj : l.toArray[j]? = some oj) (hji : j ≠ i) (hun : listed.getD j true = false) (hno : ∀ e ∈ oj.after, Region.binds md e = true → e.on ≠ i) => show oi.apart l.toArray oj = true by
         rcases hT.fr i hiL oi (by simpa using hoi) j oj (by simpa using hj) hji with hw | hw | hw
         · obtain ⟨e, he, hb, hon⟩ := waitsOn_spec hw
           exact absurd hon (hno e he hb)
         · exact hw
         · exact absurd hir (not_ready_of hoi hw (getD_ff hun))
       have hrest : ∀ v, kd.out v w → wpAnyH P md l.toArray Q' (fun _ => True) (fuel + (l.length - n)) (listed.setIfInBounds i true) (a.put oi.dst v) w := fun v ho =>
         ih (listed.setIfInBounds i true) (listed'.setIfInBounds i true) (a.put oi.dst v) w hC (hTold.put hu hoi2 hk (Le.refl w) ho) (by simpa using hs) (by simpa using hs') (hset _ _ i hin hs hs' hag) (fun j hj hjl => by rw [getD_set_ne true (by omega)]; exact hout j hj hjl) (hK v w (Le.refl w) ho (fun hm => absurd hm hnS))
       cases kd with
       | skip =>
         have hk' : Region.wanted oi (yielded (l.take n).toArray a.tmps) = false := hk
         rw [← hwanted i oi _ hoi] at hk'
         exact wpAnyH_first hoi (Region.noSelect_spec hsel) (fun c a w => hQ c a _ _ w) _ listed a w hap hir (.inr ⟨hk', rfl⟩) trivial (hrest undef rfl)
       | one v =>
         obtain ⟨hk1, _, hk3, hk4⟩ := hk
         rw [← hwanted i oi _ hoi] at hk1
         refine wpAnyH_first hoi (Region.noSelect_spec hsel) (fun c a w => hQ c a _ _ w) _ listed a w hap hir (.inl ⟨hk1, fun w2 _ => ?_⟩) trivial (hrest v rfl)
         rcases quiet_value hk3 (hk4 w hC) with h1 | ⟨h1, _⟩
         · exact still_op (lateX_at hLX hiL (by simpa using hoi)) h1
         · exact absurd h1 (noGo_value hk3)
       | make f =>
         have := hk.2.1
         rw [hLF i hiL] at this; cases this
     · obtain ⟨i0, hi0⟩ := List.exists_mem_of_ne_nil _ he
       have hi0n : i0 < n := by obtain ⟨_, o, ho, _⟩ := mem_ready.1 hi0; exact hprel i0 o ho
       refine ⟨fun h0 => ?_, fun i hi => ?_⟩
       · have := (hready listed listed' hag i0 hi0n).2 hi0
         rw [h0] at this; cases this
       · obtain ⟨h1, o, h2, h3⟩ := mem_ready.1 hi
         have hin : i < n := by
          rcases Nat.lt_or_ge i n with h' | h'
          · exact h'
          · exfalso
            have hi0f : listed.getD i0 false = false := by
               rw [hag i0 hi0n]; exact getD_ff (mem_ready.1 hi0).1
            rcases hT.tw i o h' (by simpa using h2) i0 (by omega) with hL | hW
            · exact hlate ⟨i0, hL, (hready listed listed' hag i0 hi0n).2 hi0⟩
            · exact not_ready_of h2 hW hi0f hi
         have hi' := (hready listed listed' hag i hin).1 hi
         refine Dl.wpOp_of_gOp hS (hpre i hin).symm (fun o' ho' => hwanted i o' _ (by rw [hpre i hin] at ho'; exact ho')) hu hC hTold hi' (fun a' w' hC' hT' hk => ⟨trivial, ih _ _ a' w' hC' hT' (by simpa using hs) (by simpa using hs') (hset _ _ i hin hs hs' hag) (fun j hj hjl => ?_) hk⟩) (h.2 i hi')
         rw [getD_set_ne true (by omega)]; exact hout j hj hjl
end
theorem wp_region_late (n : Nat) (L : List Nat) {P : Program} {id : Nat} {Q : Exit → Act → World → Prop} {a : Act} {w : World} {l : List Oper} (F : Nat → Option (Value → World → Prop)) (hm : P.follows .mixedOrders = true) (hB : Region.lexB .any (l.take n).toArray = true) (hs : Region.noSelect l.toArray = true) (hu : uniqB (l.take n).toArray = true) (Sl : List Nat) {E : TypeId} (hS : Dk.Ok P (l.take n).toArray F Sl E) (ht : lateB .any l L n = true) (hLF : ∀ i ∈ L, F i = none)
 (hQ : ∀ (c : List PanicEntry) a d v w, Q (.panic c) (Act.put a d v) w → Q (.panic c) a w)
 (hLX : lateX l L = true) (h : Dk.wpG P .any (l.take n).toArray w F Sl (fun a' w' => wpTailH P (fun _ => True) Q (l.drop n) a' w') (l.take n) 0 (fun _ => True) a) : (Code.region id l.toArray true).wp P Q a w := by
 have hT := lateB_spec ht
 simp only [Region.lexB, Bool.and_eq_true] at hB
 have hw : Cl w w.drew := Cl.of (Below.refl _ _).drew
 have hany := Dk.wpAnyG_lex hS hu hB.1 (l.take n) 0 (Array.replicate (l.take n).toArray.size false) a w.drew (fun _ => True) (by simp) (by simp) (fun j hj => absurd hj (by omega)) (by simpa using hB.2) hw (told_none _) trivial (fun _ _ _ h => h) h
 refine wp_region_held (S := fun _ => True) hm ?_
 have hln : (l.take n).length = n := by simp [hT.le]
 have := wpAnyH_of_late (Q' := Q) hS hT hLX hLF hu hs hQ (l.take n).length (Array.replicate l.length false) (Array.replicate (l.take n).toArray.size false) a w.drew hw (told_none _) (by simp) (by simp [hT.le]) (fun j hj d => ?_) (fun j hj hjl => by simp [hjl]) hany
 · rw [hln] at this
   have e : n + (l.length - n) = l.length := by have := hT.le; omega
   rw [e] at this
   simpa using this
 · have h1 : j < l.length := by have := hT.le; omega
   have h2 : j < min n l.length := by omega
   simp [h1, h2]
end Go.Proofs.YtliolnfcgaflcaaGreat.Dm
