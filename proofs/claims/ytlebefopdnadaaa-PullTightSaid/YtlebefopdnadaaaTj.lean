/- Plain laws of the lesser speeds: those of the greatest steps that the crystal took. -/
import Derived.Test.YtlebefopdnadaaaWt
namespace Go.Proofs.Ytlebefopdnadaaa
open Go.RowKit
def qv (p : Vec) (g s : Int) : Vec := fun i => if i = 110 then g else if i = 111 then s else p i
theorem ia_set {n : Nat} {f : Vec} {k : Nat} (v : Int) : (ia n f).setIfInBounds k (I v) = ia n (fun i => if i = k then v else f i) := by
  apply Array.ext_getElem?
  intro i
  by_cases hi : i < n
  · rw [ia_get hi, Array.getElem?_setIfInBounds]
    by_cases hk : k = i
    · subst hk
      rw [if_pos rfl, if_pos rfl, if_pos (by rw [ia_size]; exact hi)]
    · rw [if_neg hk, ia_get hi, if_neg (by omega)]
  · rw [Array.getElem?_eq_none (by rw [Array.size_setIfInBounds, ia_size]; omega), Array.getElem?_eq_none (by rw [ia_size]; omega)]
theorem ia_tk {n : Nat} {f : Vec} {k : Nat} (hk : k < n) (v : Int) : ((ia n f).toList.take k ++ [I v] ++ (ia n f).toList.drop (k + 1)).toArray = ia n (fun i => if i = k then v else f i) := by
  rw [← ia_set v]
  apply Array.ext'
  rw [Array.toList_setIfInBounds, List.set_eq_take_append_cons_drop, if_pos (by simpa using (show k < (ia n f).size by rw [ia_size]; exact hk))]
  simp
theorem qv_lo {p : Vec} {g s : Int} {i : Nat} (h : i < 110) : qv p g s i = p i := by unfold qv; rw [if_neg (by omega), if_neg (by omega)]
theorem qv_hi {p : Vec} {g s : Int} {i : Nat} (h : 112 ≤ i) : qv p g s i = p i := by unfold qv; rw [if_neg (by omega), if_neg (by omega)]
theorem qv_g {p : Vec} {g s : Int} : qv p g s 110 = g := rfl
theorem qv_s {p : Vec} {g s : Int} : qv p g s 111 = s := rfl
theorem ok_qv {p : Vec} {g s : Int} (h : okPuller p = true) (hg : 0 ≤ g ∧ g ≤ 1000000) (hs : 0 ≤ s ∧ s ≤ 1000000) : okPuller (qv p g s) = true := by
  unfold okPuller restB at h ⊢
  simp only [Bool.and_eq_true, List.all_eq_true, List.mem_range] at h ⊢
  obtain ⟨hr, ⟨⟨⟨_, h2⟩, h3⟩, h4⟩⟩ := h
  refine ⟨fun k hk => ?_, ⟨⟨⟨?_, h2⟩, h3⟩, h4⟩⟩
  · have := hr k hk
    unfold ruleB bnds rmps at this ⊢
    simp only [qv_lo (show k * 22 < 110 by omega), qv_lo (show k * 22 + 1 < 110 by omega), qv_lo (show k * 22 + 2 < 110 by omega), qv_lo (show k * 22 + 3 < 110 by omega), qv_lo (show k * 22 + 4 < 110 by omega), qv_lo (show k * 22 + 5 < 110 by omega), qv_lo (show k * 22 + 6 < 110 by omega), qv_lo (show k * 22 + 7 < 110 by omega), qv_lo (show k * 22 + 8 < 110 by omega), qv_lo (show k * 22 + 9 < 110 by omega), qv_lo (show k * 22 + 10 < 110 by omega), qv_lo (show k * 22 + 11 < 110 by omega), qv_lo (show k * 22 + 12 < 110 by omega), qv_lo (show k * 22 + 13 < 110 by omega), qv_lo (show k * 22 + 14 < 110 by omega), qv_lo (show k * 22 + 15 < 110 by omega), qv_lo (show k * 22 + 16 < 110 by omega), qv_lo (show k * 22 + 17 < 110 by omega), qv_lo (show k * 22 + 18 < 110 by omega), qv_lo (show k * 22 + 19 < 110 by omega), qv_lo (show k * 22 + 20 < 110 by omega), qv_lo (show k * 22 + 21 < 110 by omega)]
    exact this
  · rw [inB_iff]
    intro x hx
    simp only [List.mem_cons, List.not_mem_nil, or_false] at hx
    rcases hx with rfl | rfl
    · exact hg
    · exact hs
/-- The greatest of the first steps, none below 0. -/
def stK (d : Nat → Int) : Nat → Int
  | 0 => 0
  | 1 => 0
  | k + 2 => max (stK d (k + 1)) (d k)
theorem stK_ge (d : Nat → Int) : ∀ k, 0 ≤ stK d k
  | 0 => Int.le_refl _
  | 1 => Int.le_refl _
  | k + 2 => by have := stK_ge d (k + 1); rw [stK]; omega
theorem stK_le {d : Nat → Int} {m : Int} (h0 : 0 ≤ m) (h : ∀ j, d j ≤ m) : ∀ k, stK d k ≤ m
  | 0 => h0
  | 1 => h0
  | k + 2 => by have := stK_le h0 h (k + 1); have := h k; rw [stK]; omega
theorem stK_at {d : Nat → Int} : ∀ {k j : Nat}, j + 1 < k → d j ≤ stK d k
  | 0, j, h => absurd h (by omega)
  | 1, j, h => absurd h (by omega)
  | k + 2, j, h => by
    rw [stK]
    rcases Nat.lt_or_ge j k with hj | hj
    · have := stK_at (d := d) (k := k + 1) (j := j) (by omega); omega
    · obtain rfl : j = k := by omega
      omega
def upS (c : Nat → Int) (k : Nat) : Int := c (k + 1) - c k
def dnS (c : Nat → Int) (k : Nat) : Int := c k - c (k + 1)
theorem slow_true {p : Vec} {R : Run} {c : Nat → Int} (hv : VRun R) (h : TrueC p R c) {N : Nat} (hN : R.e = N) : TrueC (qv p (stK (upS c) (N + 1)) (stK (dnS c) (N + 1))) R (fun t => c (min t N)) where
  up := fun t => by
    rw [qv_g]
    have h0 := stK_ge (upS c) (N + 1)
    rcases Nat.lt_or_ge t N with ht | ht
    · have := stK_at (d := upS c) (k := N + 1) (j := t) (by omega)
      unfold upS at this h0 ⊢
      rw [Nat.min_eq_left (by omega), Nat.min_eq_left (by omega)]
      omega
    · rw [Nat.min_eq_right (by omega), Nat.min_eq_right (by omega)]
      omega
  dn := fun t => by
    rw [qv_s]
    have h0 := stK_ge (dnS c) (N + 1)
    rcases Nat.lt_or_ge t N with ht | ht
    · have := stK_at (d := dnS c) (k := N + 1) (j := t) (by omega)
      unfold dnS at this h0 ⊢
      rw [Nat.min_eq_left (by omega), Nat.min_eq_left (by omega)]
      omega
    · rw [Nat.min_eq_right (by omega), Nat.min_eq_right (by omega)]
      omega
  sm := fun k hk => by
    have := hv.mt k hk
    rw [Nat.min_eq_left (by omega)]
    exact h.sm k hk
/-- A call of with, as a fact of a drawn region. -/
def WithF (A1 A3 : Option Addr) (c1 c3 : Nat) (R : Run) (x : Smp) (u : Value) (w : World) : Prop := ∃ A2 c2 l ok, u = .tuple #[.agg #[.slice A1 R.ss.length c1, I R.e, .slice A2 (List.length l) c2, .slice A3 R.es.length c3], .bool ok] ∧ (ok = true → noT R x.t ∧ l = insM R.ms x ∧ RdS w A2 l)
theorem with_grow {P : Program} {f : FuncId} {args : Array Value} {w : World} {A1 A3 : Option Addr} {c1 c3 : Nat} {R : Run} {x : Smp} (h : Calls P f args w (RetWith w A1 A3 c1 c3 R x)) : Calls P f args w fun e w' => ∃ u, e = .returned u ∧ Le w w' ∧ Box (WithF A1 A3 c1 c3 R x) u w' :=
  h.mono fun _ _ ⟨A2, c2, l, ok, he, hr, hb⟩ => ⟨_, he, hb, fun _ hl => ⟨A2, c2, l, ok, rfl, fun ho => ⟨(hr ho).1, (hr ho).2.1, (hr ho).2.2.below hl⟩⟩⟩
theorem WithF.at {A1 A3 A2 : Option Addr} {c1 c3 c2 : Nat} {R : Run} {x : Smp} {l : List Smp} {ok : Bool} {w : World} (h : WithF A1 A3 c1 c3 R x (.tuple #[.agg #[.slice A1 R.ss.length c1, I R.e, .slice A2 (List.length l) c2, .slice A3 R.es.length c3], .bool ok]) w) (hl : ok = true → l = insM R.ms x) (ho : ok = true) : noT R x.t ∧ RdS w A2 l := by
  obtain ⟨B2, d2, l', ok', he, hc⟩ := h
  simp at he
  obtain ⟨⟨rfl, _, _⟩, rfl⟩ := he
  obtain ⟨h1, h2, h3⟩ := hc ho
  rw [hl ho, ← h2]
  exact ⟨h1, h3⟩
theorem wp_store_cl {P : Program} {o : Oper} {a : Act} {w : World} {K : Act → World → Prop} {Q : Exit → Act → World → Prop} (ty : TypeId) (x y : Operand) (ho : o.op = .store ty x y)
    (g i : Nat) (hx : a.eval x = .pointer (some ⟨g, i, none⟩)) (cs : Array Value) (t : TypeId) (hg : w.heap[g]? = some (.cells cs t (0, 0))) (v : Value) (hy : a.eval y = v) (hv : v.cells = #[v]) (h1 : v.oneCell' = true) (hs : i + 1 ≤ cs.size) (hi : (P.info? ty).map (·.size) = some 1)
    (cs' : Array Value) (hcs : (cs.toList.take i ++ [v] ++ cs.toList.drop (i + 1)).toArray = cs') (h : K (a.put o.dst undef) (w.setRow g cs')) : o.wp P a w K Q := by
  subst hcs
  have hst := run_storeCells_at P g i t [v] 0 cs w hg (by simpa using hs) (by intro u hu; rw [List.mem_singleton.1 hu]; exact h1)
  simp only [Nat.add_zero] at hst
  have hrun : (storeVar ty ⟨g, i, none⟩ v).run P w = .ok () (w.setRow g (cs.toList.take i ++ [v] ++ cs.toList.drop (i + 1)).toArray) := by
    cases hq : P.info? ty with
    | none => simp [hq] at hi
    | some q =>
      have hs' : q.size = 1 := by simpa [hq] using hi
      simp [storeVar, Sem.run_bind, sizeOf, typeInfo, hq, hs', hv, hst]
  unfold Oper.wp execOp
  simp only [ho, hx, hy, Instr.storeAt, Instr.sureAddr, Sem.run_bind, Sem.run_pure, Result.andThen_ok, hrun]
  exact h
theorem runV_in {B1 B2 B3 Q1 Q2 Q3 : Option Addr} {b1 b2 b3 q1 q2 q3 : Nat} {R : Run} {w : World} (he : runV B1 B2 B3 b1 b2 b3 R = runV Q1 Q2 Q3 q1 q2 q3 R) (hr : RunIn w Q1 Q2 Q3 R) (hc : R.ms.length ≤ q2) : RunIn w B1 B2 B3 R ∧ R.ms.length ≤ b2 := by
  simp at he
  obtain ⟨⟨rfl, _⟩, ⟨rfl, rfl⟩, rfl, _⟩ := he
  exact ⟨hr, hc⟩
theorem qv_00 (p : Vec) : ia 117 (fun i => if i = 111 then 0 else if i = 110 then 0 else p i) = ia 117 (qv p 0 0) := by
  refine ia_congr fun i _ => ?_
  unfold qv
  repeat' split
  all_goals first | rfl | omega
theorem qv_step (p : Vec) (g s g' s' : Int) : ia 117 (fun i => if i = 111 then s' else if i = 110 then g' else qv p g s i) = ia 117 (qv p g' s') := by
  refine ia_congr fun i _ => ?_
  unfold qv
  repeat' split
  all_goals first | rfl | omega
end Go.Proofs.Ytlebefopdnadaaa
