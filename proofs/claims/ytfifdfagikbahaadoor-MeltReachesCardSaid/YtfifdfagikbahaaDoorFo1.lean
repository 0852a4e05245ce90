/- A range over an iterator whose choices write cells that lay ahead of the loop: the law of the kit (wpIn_rangeFunc_ownH), turned: the caller's invariant must last through what the choices write. -/
import Derived.Test.YtfifdfagikbahaaDoorMf
namespace Go.Proofs.YtfifdfagikbahaaDoor
open Go.RowKit
/-- As SeqStopsK, by places; between two yields the iterator may step by T, which the invariant must outlast; in the end E holds. -/
def SeqAllT (F : Fence) (n : Nat) (P : Program) (g : Nat) (lb : Array Value) (encs : Nat → Array Value) (Kp : World → World → Prop) (T : Nat → World → World → Prop) (E : World → Prop) (N : Nat) (w : World) : Prop :=
  ∀ (l : Nat) (J : Nat → World → Prop) (W : World), Below w.heap.size w W → AbidesFrom W.heap.size J → (∀ k A B, J k A → T k A B → J k B) →
    (∀ k W1, k < N → J k W1 → YieldAt F (n - 1) P l (encs k) W1 fun e W' => e = .returned (.bool true) ∧ J (k + 1) W' ∧ Kp W1 W') →
    J 0 W →
    CallsIn F n P g (#[.func (.yield l) #[] #[]] ++ lb) W fun e W' => (∃ v, e = .returned v) ∧ J N W' ∧ E W'
variable {F : Fence} {n : Nat} {P : Program}
/-- The loop, for a body that is never left by a jump. -/
theorem rangeFunc_told {g : Operand} {ps : Array Tmp} {assign body : Code} {Q : Exit → Act → World → Prop} {a : Act} {w : World}
    (hro : F.round = none) (h1 : 1 ≤ n) {gf : Nat} {lb : Array Value} (hg : a.eval g = .func (.func gf) #[] lb) (hFg : F.fn gf) (eg : ∀ args w, (callFunc gf args).run P w = .ok (.enter gf args) w)
    {encs : Nat → Array Value} {Kp : World → World → Prop} {T : Nat → World → World → Prop} {E : World → Prop} {N : Nat} (hseq : SeqAllT F (n - 1) P gf lb encs Kp T E N w) (hE : OwnFrom w.heap.size (fun (_ : Unit) W => E W))
    (hKt : ∀ {A B C : World}, Kp A B → Kp B C → Kp A C) (hKb : ∀ (W : World) (l : Nat) (o o' : Obj), w.heap.size ≤ l → W.heap[l]? = some o → o.isCells = false → o.isWalk = false → Kp W (W.putObj l o')) (hps : ∀ x, (encs x).size = ps.size)
    (I : Nat → World → Prop) (hI : OwnFrom w.heap.size I) (hT : ∀ k A B, I k A → T k A B → I k B) (hTo : ∀ k A B, T k A B → KeepsFrom w.heap.size A B) (h0 : I 0 w) (Ax : Nat → Act → World → Prop) (hAx : ∀ x a', OwnFrom w.heap.size (fun (_ : Unit) W => Ax x a' W))
    (hassign : ∀ (l k : Nat) (W : World) (K : Act → World → Prop), k < N → I k W → (∀ a' W', KeepsFrom w.heap.size W W' → Kp W W' → I k W' → Ax k a' W' → K a' W') →
      assign.wpIn (F.inRound l) (n - 1 - 1) P (Exit.then K (fun _ _ _ => False)) { tmps := (ps.zip (encs k)).foldl (fun t (p, v) => t.setIfInBounds p v) a.tmps, defers := [] } W)
    (hbody : ∀ (l k : Nat) (a' : Act) (W : World), w.heap.size ≤ l → k < N → I k W → Ax k a' W → body.wpIn (F.inRound l) (n - 1 - 1) P (ownPostG w.heap.size Kp (fun (_ : List Unit) W => I (k + 1) W) (fun _ _ _ => False) [] W) a' W)
    (hdone : ∀ (D : Nat) (W : World), w.heap.size ≤ D → I N W → E W → W.heap[D]? = some (.deferred (some [])) → Q .normal { a with defers := { target := .collected D, args := #[] } :: a.defers } W) :
    (Code.rangeFunc g ps assign body).wpIn F n P Q a w := by
  refine wpIn_rangeFunc fun fn hfn => ?_
  rw [hro]
  obtain ⟨rec, hrec⟩ : ∃ rec : LoopState → Loop, rec = fun st => { state := st, pending := none, fn, tmps := a.tmps, params := ps, assign, body, defers := w.heap.size } := ⟨_, rfl⟩
  obtain ⟨q, hq⟩ : ∃ q, w.heap.size = q := ⟨_, rfl⟩
  obtain ⟨V, hV⟩ : ∃ V, (w.alloc (.deferred (some []))).alloc (.loop (rec .ready)) = V := ⟨_, rfl⟩
  have vL : V.heap[q + 1]? = some (.loop (rec .ready)) := by
    have := World.alloc_heap_new (w.alloc (.deferred (some []))) (.loop (rec .ready))
    rwa [World.size_alloc, hq, hV] at this
  have vK : V.heap[q]? = some (.deferred (some [])) := by
    rw [← hV, ← hq]; exact (Below.heap_alloc _ _ _ (by simp)).trans (World.alloc_heap_new w _)
  have vI : I 0 V := by rw [← hV]; exact hI.alloc _ (hI.alloc _ h0)
  have vS : V.heap.size = q + 2 := by rw [← hV, ← hq]; simp
  have vB : Below w.heap.size w V := by rw [← hV]; exact ((Below.refl _ w).alloc (Nat.le_refl _) _).alloc (by simp) _
  rw [hq] at hKb hI hTo hAx hassign hbody hdone vB hE
  refine ⟨q + 1, [{ target := .collected q, args := #[] }], V, { target := .fn (.func gf) lb, args := #[.func (.yield (q + 1)) #[] #[]] }, V, gf, #[.func (.yield (q + 1)) #[] #[]] ++ lb, V, ?_, ?_, ?_, ?_, fun _ => h1, ?_⟩
  · have := run_enterLoop_outer (P := P) (w := w) fn a.tmps ps assign body
    rw [← hV, hrec]
    subst hq
    exact this
  · simp only [resolve, hg]
    simp [go_sem]
  · intro f' hf'
    simp [Target.leads] at hf'
    subst hf'
    exact hFg
  · simp [invoke, go_sem, eg]
  · refine (hseq (q + 1) (fun k W => I k W ∧ W.heap[q + 1]? = some (.loop (rec .ready)) ∧ W.heap[q]? = some (.deferred (some []))) V (hq ▸ vB) ?_ ?_ ?_ ⟨vI, vL, vK⟩).mono ?_
    · rintro s A B row ⟨k1, k2, k3⟩ hgr hr
      have hr' : ∀ r, row = some r → q ≤ r ∧ ∃ o : Obj, A.heap[r]? = some o ∧ o.isCells = false := fun r e => by
        obtain ⟨u1, o, u2, u3⟩ := hr r e
        exact ⟨by omega, o, u2, Obj.not_cells_of_walk u3⟩
      exact ⟨hI s A B row k1 hgr hr', (grownBy_keeps hgr (fun r e => (hr r e).2) k2 rfl).trans k2, (grownBy_keeps hgr (fun r e => (hr r e).2) k3 rfl).trans k3⟩
    · rintro s A B ⟨k1, k2, k3⟩ ht
      have hk := hTo _ _ _ ht
      exact ⟨hT s A B k1 ht, hk.same _ _ (by omega) k2 rfl, hk.same _ _ (Nat.le_refl _) k3 rfl⟩
    · rintro k W hlen ⟨k1, k2, k3⟩
      have hy := run_yield (P := P) (args := encs k) k2 (by rw [hrec]; exact hps k)
      rw [hrec] at hy
      refine ⟨fn, _, assign, body, hy, roundIn_of_wpIn hfn (hassign _ k W _ hlen k1 fun a' Wa hkf hkp hia hax => ?_)⟩
      have m2 := hkf.same _ _ (by omega) k2 rfl
      have m3 := hkf.same _ _ (Nat.le_refl _) k3 rfl
      obtain ⟨Wb, hWb⟩ : ∃ Wb, Wa.putObj (q + 1) (.loop { rec .ready with state := .busy }) = Wb := ⟨_, rfl⟩
      have b2 : Wb.heap[q + 1]? = some (.loop { rec .ready with state := .busy }) := by rw [← hWb]; exact World.putObj_heap_same (Array.getElem?_eq_some_iff.1 m2).1
      have b3 : Wb.heap[q]? = some (.deferred (some [])) := by rw [← hWb]; exact (World.putObj_heap_other (by omega)).trans m3
      have bK : Kp Wa Wb := by rw [← hWb]; exact hKb _ _ _ _ (by omega) m2 rfl rfl
      have bI : I k Wb := by rw [← hWb]; exact hI.putObj _ hia (by omega) m2 rfl
      have bA : Ax k a' Wb := by rw [← hWb]; exact (hAx k a').putObj (s := ()) _ hax (by omega) m2 rfl
      have hbr := run_beginRound (P := P) m2 (by rw [hrec])
      rw [hWb] at hbr
      refine ⟨_, hbr, wpIn_mono (hbody _ k a' _ (by omega) hlen bI bA) ?_⟩
      rintro e a3 Wc hp
      cases e with
      | normal =>
        obtain ⟨p1, p2, p3⟩ := hp
        have c2 := p1.same _ _ (by omega) b2 rfl
        have c3 := p1.same _ _ (Nat.le_refl _) b3 rfl
        have her := run_endRound (P := P) (none : Option Code) c2
        rw [hrec] at her c2 ⊢
        exact ⟨_, _, her, rfl, ⟨hI.putObj _ p3 (by omega) c2 rfl, World.putObj_heap_same (Array.getElem?_eq_some_iff.1 c2).1, (World.putObj_heap_other (by omega)).trans c3⟩, hKt hkp (hKt (hKt bK p2) (hKb _ _ _ _ (by omega) c2 rfl rfl))⟩
      | ret => exact hp.2.elim
      | exit id => exact hp.2.elim
      | goto t => exact hp.2.elim
      | panic ch => exact hp.elim
      | outgrown => exact hp.elim
    · rintro e W ⟨⟨v, rfl⟩, ⟨k1, k2, k3⟩, kE⟩
      · have hel := run_endLoop (P := P) k2 (by rw [hrec]; simp)
        rw [hrec] at hel
        exact ⟨none, _, hel, hdone _ _ (Nat.le_refl _) (hI.putObj _ k1 (by omega) k2 rfl) (hE.putObj (s := ()) _ kE (by omega) k2 rfl) ((World.putObj_heap_other (by omega)).trans k3)⟩
end Go.Proofs.YtfifdfagikbahaaDoor
