/- The law of Rsq for a region of which two operations that stand side by side are read the other way round. -/
import Derived.Test.YtliolnfcgaflcaaGreatRsq
namespace Go.Proofs.YtliolnfcgaflcaaGreat.Pr
open Go.RowKit
def sw (i k : Nat) : Nat := if k = i then i + 1 else if k = i + 1 then i else k
theorem sw_sw (i k : Nat) : sw i (sw i k) = k := by
 unfold sw
 by_cases h1 : k = i
 · rw [if_pos h1, if_neg (by omega), if_pos rfl, h1]
 · rw [if_neg h1]
   by_cases h2 : k = i + 1
   · rw [if_pos h2, if_pos rfl, h2]
   · rw [if_neg h2, if_neg h1, if_neg h2]
theorem sw_lt {i k n : Nat} (hi : i + 1 < n) (hk : k < n) : sw i k < n := by
 unfold sw
 split
 · omega
 · split <;> omega
def ren (i : Nat) (o : Oper) : Oper := { dst := o.dst, op := o.op, type := o.type, pos := o.pos, after := o.after.map fun e => { on := sw i e.on, ground := e.ground }, guard := o.guard }
def permL (i : Nat) (l : List Oper) : List Oper := (l.map (ren i)).take i ++ (((l.map (ren i)).drop (i + 1)).take 1 ++ (((l.map (ren i)).drop i).take 1 ++ (l.map (ren i)).drop (i + 2)))
theorem split2 {α : Type} {i : Nat} {l : List α} (h : i + 1 < l.length) : ∃ A x y B, l = A ++ x :: y :: B ∧ A.length = i := by
 refine ⟨l.take i, l[i], l[i + 1], l.drop (i + 2), ?_, by rw [List.length_take]; omega⟩
 rw [← List.drop_eq_getElem_cons (h := h), ← List.drop_eq_getElem_cons (h := by omega), List.take_append_drop]
theorem permL_eq {i : Nat} {A B : List Oper} {x y : Oper} (hA : A.length = i) : permL i (A ++ x :: y :: B) = A.map (ren i) ++ ren i y :: ren i x :: B.map (ren i) := by
 have hl : (A.map (ren i)).length = i := by rw [List.length_map, hA]
 unfold permL
 rw [List.map_append, List.map_cons, List.map_cons]
 have h1 : (A.map (ren i) ++ ren i x :: ren i y :: B.map (ren i)).take i = A.map (ren i) := List.take_left' hl
 have h2 : (A.map (ren i) ++ ren i x :: ren i y :: B.map (ren i)).drop i = ren i x :: ren i y :: B.map (ren i) := List.drop_left' hl
 have h3 : (A.map (ren i) ++ ren i x :: ren i y :: B.map (ren i)).drop (i + 1) = ren i y :: B.map (ren i) := by rw [← List.drop_drop, h2]; rfl
 have h4 : (A.map (ren i) ++ ren i x :: ren i y :: B.map (ren i)).drop (i + 2) = B.map (ren i) := by rw [← List.drop_drop, h2]; rfl
 rw [h1, h2, h3, h4]
 rfl
theorem permL_get {i : Nat} {l : List Oper} (h : i + 1 < l.length) (k : Nat) : (permL i l)[sw i k]? = (l[k]?).map (ren i) := by
 obtain ⟨A, x, y, B, rfl, hA⟩ := split2 h
 rw [permL_eq hA]
 have hl : (A.map (ren i)).length = i := by rw [List.length_map, hA]
 unfold sw
 by_cases h1 : k = i
 · rw [if_pos h1, List.getElem?_append_right (by omega), hl, List.getElem?_append_right (by omega), h1, hA]
   simp
 · rw [if_neg h1]
   by_cases h2 : k = i + 1
   · rw [if_pos h2, List.getElem?_append_right (by omega), hl, List.getElem?_append_right (by omega), h2, hA]
     simp
   · rw [if_neg h2]
     rcases Nat.lt_or_ge k i with h3 | h3
     · rw [List.getElem?_append_left (by omega), List.getElem?_append_left (by omega), List.getElem?_map]
     · rw [List.getElem?_append_right (by omega), hl, List.getElem?_append_right (by omega), hA]
       obtain ⟨m, hm⟩ : ∃ m, k - i = m + 2 := ⟨k - i - 2, by omega⟩
       rw [hm, List.getElem?_cons_succ, List.getElem?_cons_succ, List.getElem?_cons_succ, List.getElem?_cons_succ, List.getElem?_map]
theorem permL_len (i : Nat) (l : List Oper) (h : i + 1 < l.length) : (permL i l).length = l.length := by
 obtain ⟨A, x, y, B, rfl, hA⟩ := split2 h
 rw [permL_eq hA]
 simp
theorem ready_perm {md : Region.Mode} {i : Nat} {l : List Oper} (h : i + 1 < l.length) {listed listed' : Array Bool} (hag : ∀ k d, listed'.getD (sw i k) d = listed.getD k d) (k : Nat) : k ∈ Region.ready md l.toArray listed ↔ sw i k ∈ Region.ready md (permL i l).toArray listed' := by
 rw [mem_ready, mem_ready, hag, List.getElem?_toArray, List.getElem?_toArray, permL_get h]
 refine and_congr_right fun _ => ?_
 constructor
 · rintro ⟨o, ho, hall⟩
   refine ⟨ren i o, by rw [ho]; rfl, fun e he hb => ?_⟩
   obtain ⟨e0, he0, rfl⟩ := Array.mem_map.1 he
   rw [hag]
   exact hall e0 he0 hb
 · rintro ⟨o', ho, hall⟩
   cases hq : l[k]? with
   | none => rw [hq] at ho; cases ho
   | some o =>
     rw [hq] at ho
     injection ho with ho
     subst ho
     refine ⟨o, rfl, fun e he hb => ?_⟩
     have := hall { on := sw i e.on, ground := e.ground } (Array.mem_map.2 ⟨e, he, rfl⟩) hb
     rw [hag] at this
     exact this
theorem wpAnyIn_perm {F : Fence} {n : Nat} {P : Program} {md : Region.Mode} {Q : Exit → Act → World → Prop} {i : Nat} {l : List Oper} (h : i + 1 < l.length) (hgd : ∀ (k : Nat) o, l[k]? = some o → o.guard = none) :
 ∀ (fuel : Nat) (listed listed' : Array Bool) (a : Act) (w : World), (∀ k d, listed'.getD (sw i k) d = listed.getD k d) → listed.size = l.length → listed'.size = l.length → wpAnyIn F n P md (permL i l).toArray Q fuel listed' a w → wpAnyIn F n P md l.toArray Q fuel listed a w := by
 intro fuel
 induction fuel with
 | zero =>
   intro listed listed' a w hag _ _ hh
   refine ⟨?_, hh.2⟩
   rw [List.eq_nil_iff_forall_not_mem]
   intro k hk
   have := (ready_perm h hag k).1 hk
   rw [hh.1] at this
   cases this
 | succ fuel ih =>
   intro listed listed' a w hag hs hs' hh
   refine ⟨fun he => hh.1 ?_, fun k hk => ?_⟩
   · rw [List.eq_nil_iff_forall_not_mem]
     intro k hk
     have := (ready_perm h hag (sw i k)).2 (by rw [sw_sw]; exact hk)
     rw [he] at this
     cases this
   · have h1 := hh.2 _ ((ready_perm h hag k).1 hk)
     obtain ⟨_, o, ho, _⟩ := mem_ready.1 hk
     have hkl : k < l.length := by simpa using (Array.getElem?_eq_some_iff.1 ho).1
     have ho' : l[k]? = some o := by simpa using ho
     have hg := hgd k o ho'
     unfold wpOpIn at h1 ⊢
     rw [List.getElem?_toArray, permL_get h, ho'] at h1
     rw [ho]
     simp only [Option.map_some] at h1 ⊢
     have hg' : (ren i o).guard = none := hg
     rw [if_pos (by simp [Region.wanted, hg'])] at h1
     rw [if_pos (by simp [Region.wanted, hg])]
     refine Oper.wpIn_mono (fun a' w' hw => ih _ _ a' w' (fun j d => ?_) (by simpa using hs) (by simpa using hs') hw) (show o.wpIn F n P a w _ Q from h1)
     by_cases e : k = j
     · subst e
       have h4 : k < listed.size := by omega
       have h5 : sw i k < listed'.size := by rw [hs']; exact sw_lt h hkl
       simp [h4, h5]
     · have hne : sw i k ≠ sw i j := fun e2 => e (by rw [← sw_sw i k, e2, sw_sw])
       rw [getD_set_ne d e, getD_set_ne d hne]
       exact hag j d
def noGuard (l : List Oper) : Bool := l.all fun o => o.guard.isNone
theorem wpIn_region_perm (i : Nat) (L : Pre) (n : Nat) {Fe : Fence} (hF : Wd Fe) {N : Nat} {P : Program} {id : Nat} {Q : Exit → Act → World → Prop} {a : Act} {w : World} {l : List Oper} (F : Nat → Option (Value → World → Prop)) (hdr : L.le w w.drew) (hm : P.follows .mixedOrders = true)
 (hi : decide (i + 1 < l.length) = true) (hg : noGuard l = true) (hB : Region.lexB .any ((permL i l).take n).toArray = true) (hu : uniqB ((permL i l).take n).toArray = true) (ht : seqB2 .any (permL i l) n = true) (hd : noDefer (permL i l) = true)
 (h : wpG L P .any ((permL i l).take n).toArray w F (fun a' w' => wpTailIn Fe N P Q ((permL i l).drop n) a' w') ((permL i l).take n) 0 (fun _ => True) a) : (Code.region id l.toArray true).wpIn Fe N P Q a w := by
 have hi' := of_decide_eq_true hi
 have hlen := permL_len i l hi'
 have hT : SeqOkD .any (permL i l) n := ⟨seqB2_spec ht, noDefer_spec hd⟩
 simp only [Region.lexB, Bool.and_eq_true] at hB
 have hw : Cl L w w.drew := Cl.of hdr
 have hany := wpAnyG_lex hu hB.1 ((permL i l).take n) 0 (Array.replicate ((permL i l).take n).toArray.size false) a w.drew (fun _ => True) (by simp) (by simpa using hB.2) hw (told_none _) trivial (fun _ _ _ h => h) h
 refine wpIn_region_any hm ?_
 have hln : ((permL i l).take n).length = n := by simp [hT.s.le]
 have := wpAnyIn_of_G_seq (N := N) (Q' := Q) hF hT hu ((permL i l).take n).length (Array.replicate (permL i l).length false) (Array.replicate ((permL i l).take n).toArray.size false) a w.drew (Closed.none _) hw (told_none _) (by simp) (by simp [hT.s.le]) (fun j hj d => ?_) (fun j hj hjl => by simp [hjl]) hany
 · rw [hln] at this
   have e : n + ((permL i l).length - n) = (permL i l).length := by have := hT.s.le; omega
   rw [e] at this
   refine wpAnyIn_perm hi' (fun k o hk => ?_) _ _ (Array.replicate (permL i l).length false) _ _ (fun k d => ?_) (by simp) (by simp [hlen]) (by simpa [hlen] using this)
   · have := List.all_eq_true.1 hg o (List.mem_of_getElem? hk)
     simpa using this
   · rw [hlen]
     by_cases hk : k < l.length
     · have := sw_lt hi' hk
       simp [hk, this]
     · have : ¬ sw i k < l.length := fun h9 => hk (by have := sw_lt hi' h9; rwa [sw_sw] at this)
       simp [hk, this]
 · have h1 : j < (permL i l).length := by have := hT.s.le; omega
   have h2 : j < min n (permL i l).length := by omega
   simp [h1, h2]
end Go.Proofs.YtliolnfcgaflcaaGreat.Pr
