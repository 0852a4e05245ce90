/- The law of Rsq for a region of which two operations that stand side by side are read the other way round. -/
import Derived.Test.YtljjpidigckheaaRsq
namespace Go.Proofs.Ytljjpidigckheaa.Pr
open Go.RowKit
def sw (i k : Nat) : Nat := if k = i then i + 1 else if k = i + 1 then i else k
theorem sw_sw (i k : Nat) : sw i (sw i k) = k := by
 unfold sw
 by_cases h1 : k = i
 · rw [if_pos h1, if_neg (by omega), if_pos rfl, h1]
 · rw [if_neg h1]
   by_cases h2 : k = i + 1
   · rw [if_pos h2, if_pos rfl, h2]
   · rw [if_neg h2, if_neg h1, if_neg h2]
theorem sw_lt {i k n : Nat} (hi : i + 1 < n) (hk : k < n) : sw i k < n := by
 unfold sw
 split
 · omega
 · split <;> omega
def ren (i : Nat) (o : Oper) : Oper := { dst := o.dst, op := o.op, type := o.type, pos := o.pos, after := o.after.map fun e => { on := sw i e.on, ground := e.ground }, guard := o.guard }
def permL (i : Nat) (l : List Oper) : List Oper := (l.map (ren i)).take i ++ (((l.map (ren i)).drop (i + 1)).take 1 ++ (((l.map (ren i)).drop i).take 1 ++ (l.map (ren i)).drop (i + 2)))
theorem split2 {α : Type} {i : Nat} {l : List α} (h : i + 1 < l.length) : ∃ A x y B, l = A ++ x :: y :: B ∧ A.length = i := by
 refine ⟨l.take i, l[i], l[i + 1], l.drop (i + 2), ?_, by rw [List.length_take]; omega⟩
 rw [← List.drop_eq_getElem_cons (h := h), ← List.drop_eq_getElem_cons (h := by omega), List.take_append_drop]
theorem permL_eq {i : Nat} {A B : List Oper} {x y : Oper} (hA : A.length = i) : permL i (A ++ x :: y :: B) = A.map (ren i) ++ ren i y :: ren i x :: B.map (ren i) := by
 have hl : (A.map (ren i)).length = i := by rw [List.length_map, hA]
 unfold permL
 rw [List.map_append, List.map_cons, List.map_cons]
 have h1 : (A.map (ren i) ++ ren i x :: ren i y :: B.map (ren i)).take i = A.map (ren i) := List.take_left' hl
 have h2 : (A.map (ren i) ++ ren i x :: ren i y :: B.map (ren i)).drop i = ren i x :: ren i y :: B.map (ren i) := List.drop_left' hl
 have h3 : (A.map (ren i) ++ ren i x :: ren i y :: B.map (ren i)).drop (i + 1) = ren i y :: B.map (ren i) := by rw [← List.drop_drop, h2]; rfl
 have h4 : (A.map (ren i) ++ ren i x :: ren i y :: B.map (ren i)).drop (i + 2) = B.map (ren i) := by rw [← List.drop_drop, h2]; rfl
 rw [h1, h2, h3, h4]
 rfl
theorem permL_get {i : Nat} {l : List Oper} (h : i + 1 < l.length) (k : Nat) : (permL i l)[sw i k]? = (l[k]?).map (ren i) := by
 obtain ⟨A, x, y, B, rfl, hA⟩ := split2 h
 rw [permL_eq hA]
 have hl : (A.map (ren i)).length = i := by rw [List.length_map, hA]
 unfold sw
 by_cases h1 : k = i
 · rw [if_pos h1, List.getElem?_append_right (by omega), hl, List.getElem?_append_right (by omega), h1, hA]
   simp
 · rw [if_neg h1]
   by_cases h2 : k = i + 1
   · rw [if_pos h2, List.getElem?_append_right (by omega), hl, List.getElem?_append_right (by omega), h2, hA]
     simp
   · rw [if_neg h2]
     rcases Nat.lt_or_ge k i with h3 | h3
     · rw [List.getElem?_append_left (by omega), List.getElem?_append_left (by omega), List.getElem?_map]
     · rw [List.getElem?_append_right (by omega), hl, List.getElem?_append_right (by omega), hA]
       obtain ⟨m, hm⟩ : ∃ m, k - i = m + 2 := ⟨k - i - 2, by omega⟩
       rw [hm, List.getElem?_cons_succ, List.getElem?_cons_succ, List.getElem?_cons_succ, List.getElem?_cons_succ, List.getElem?_map]
theorem permL_len (i : Nat) (l : List Oper) (h : i + 1 < l.length) : (permL i l).length = l.length := by
 obtain ⟨A, x, y, B, rfl, hA⟩ := split2 h
 rw [permL_eq hA]
 simp
theorem ready_perm {md : Region.Mode} {i : Nat} {l : List Oper} (h : i + 1 < l.length) {listed listed' : Array Bool} (hag : ∀ k d, listed'.getD (sw i k) d = listed.getD k d) (k : Nat) : k ∈ Region.ready md l.toArray listed ↔ sw i k ∈ Region.ready md (permL i l).toArray listed' := by
 rw [mem_ready, mem_ready, hag, List.getElem?_toArray, List.getElem?_toArray, permL_get h]
 refine and_congr_right fun _ => ?_
 constructor
 · rintro ⟨o, ho, hall⟩
   refine ⟨ren i o, by rw [ho]; rfl, fun e he hb => ?_⟩
   obtain ⟨e0, he0, rfl⟩ := Array.mem_map.1 he
   rw [hag]
   exact hall e0 he0 hb
 · rintro ⟨o', ho, hall⟩
   cases hq : l[k]? with
   | none => rw [hq] at ho; cases ho
   | some o =>
     rw [hq] at ho
     injection ho with ho
     subst ho
     refine ⟨o, rfl, fun e he hb => ?_⟩
     have := hall { on := sw i e.on, ground := e.ground } (Array.mem_map.2 ⟨e, he, rfl⟩) hb
     rw [hag] at this
     exact this
def noGuard (l : List Oper) : Bool := l.all fun o => o.guard.isNone
end Go.Proofs.Ytljjpidigckheaa.Pr
