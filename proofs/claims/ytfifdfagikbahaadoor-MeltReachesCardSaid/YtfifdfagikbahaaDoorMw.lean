/- A range over an iterator that yields a known row of things, where the body is told at which place it stands. -/
import Derived.Test.YtfifdfagikbahaaDoorMx
namespace Go.Proofs.YtfifdfagikbahaaDoor
open Go.RowKit
/-- The iterator yields the first N of encs, one after another, and comes back. -/
def SeqAll (F : Fence) (n : Nat) (P : Program) (g : Nat) (lb : Array Value) (encs : Nat → Array Value) (Kp : World → World → Prop) (N : Nat) (w0 : World) : Prop :=
  ∀ (l : Nat) (J : Nat → World → Prop) (W : World), Below w0.heap.size w0 W → AbidesFrom W.heap.size J →
    (∀ k W1, k < N → J k W1 → YieldAt F (n - 1) P l (encs k) W1 fun e W' => e = .returned (.bool true) ∧ J (k + 1) W' ∧ Kp W1 W') →
    J 0 W → CallsIn F n P g (#[.func (.yield l) #[] #[]] ++ lb) W fun e W' => (∃ v, e = .returned v) ∧ J N W'
theorem wpIn_rangeFunc_all {F : Fence} {n : Nat} {P : Program} {w : World} {g : Operand} {ps : Array Tmp} {assign body : Code} {Q : Exit → Act → World → Prop} {a : Act}
    (hro : F.round = none) (h1 : 1 ≤ n) {gf : Nat} {lb : Array Value} (hg : a.eval g = .func (.func gf) #[] lb) (hFg : F.fn gf) (eg : ∀ args w, (callFunc gf args).run P w = .ok (.enter gf args) w)
    {encs : Nat → Array Value} {Kp : World → World → Prop} {N : Nat} {w0 : World} (hseq : SeqAll F (n - 1) P gf lb encs Kp N w0)
    (hKt : ∀ {A B C : World}, Kp A B → Kp B C → Kp A C) (hKb : ∀ (W : World) (l : Nat) (o o' : Obj), w.heap.size ≤ l → W.heap[l]? = some o → o.isCells = false → o.isWalk = false → Kp W (W.putObj l o')) (hb0 : Below w0.heap.size w0 w) (hps : ∀ k, (encs k).size = ps.size)
    (I : Nat → World → Prop) (hI : OwnFrom w.heap.size I) (h0 : I 0 w) (Ax : Nat → Act → World → Prop) (hAx : ∀ k a', OwnFrom w.heap.size (fun (_ : Unit) W => Ax k a' W))
    (hassign : ∀ (l k : Nat) (W : World) (K : Act → World → Prop), k < N → I k W → (∀ a' W', KeepsFrom w.heap.size W W' → Kp W W' → I k W' → Ax k a' W' → K a' W') →
      assign.wpIn (F.inRound l) (n - 1 - 1) P (Exit.then K (fun _ _ _ => False)) { tmps := (ps.zip (encs k)).foldl (fun t (p, v) => t.setIfInBounds p v) a.tmps, defers := [] } W)
    (hbody : ∀ (l k : Nat) (a' : Act) (W : World), w.heap.size ≤ l → k < N → I k W → Ax k a' W → body.wpIn (F.inRound l) (n - 1 - 1) P (ownPostG w.heap.size Kp (fun (_ : List Unit) W' => I (k + 1) W') (fun _ _ _ => False) [] W) a' W)
    (hdone : ∀ (D : Nat) (W : World), w.heap.size ≤ D → I N W → W.heap[D]? = some (.deferred (some [])) → Q .normal { a with defers := { target := .collected D, args := #[] } :: a.defers } W) :
    (Code.rangeFunc g ps assign body).wpIn F n P Q a w := by
  obtain ⟨L, hL⟩ : ∃ L, w.heap.size + 1 = L := ⟨_, rfl⟩
  refine wpIn_rangeFunc fun fn hfn => ?_
  rw [hro]
  obtain ⟨R, hR⟩ : ∃ R : LoopState → Loop, R = fun st => { state := st, pending := none, fn, tmps := a.tmps, params := ps, assign, body, defers := w.heap.size } := ⟨_, rfl⟩
  have hRb : ∀ st st', { R st with state := st' } = R st' := fun st st' => by rw [hR]
  obtain ⟨X, hX⟩ : ∃ X, (w.alloc (.deferred (some []))).alloc (.loop (R .ready)) = X := ⟨_, rfl⟩
  have xL : X.heap[L]? = some (.loop (R .ready)) := by rw [← hX, ← hL]; exact heap_last _ _ _ (by simp)
  have xD : X.heap[w.heap.size]? = some (.deferred (some [])) := by rw [← hX]; exact heap_before (heap_last _ _ _ rfl)
  have xI : I 0 X := by rw [← hX]; exact hI.alloc _ (hI.alloc _ h0)
  have xB : Below w0.heap.size w0 X := by rw [← hX]; exact (hb0.alloc hb0.size _).alloc (Nat.le_trans hb0.size (by simp)) _
  have xS : w.heap.size ≤ X.heap.size := by rw [← hX]; simp; omega
  refine ⟨L, [{ target := .collected w.heap.size, args := #[] }], X, { target := .fn (.func gf) lb, args := #[.func (.yield L) #[] #[]] }, X, gf, #[.func (.yield L) #[] #[]] ++ lb, X, ?_, ?_, ?_, ?_, fun _ => h1, ?_⟩
  · rw [← hX, ← hL, hR]; exact run_enterLoop_outer _ _ _ _ _
  · simp only [resolve, hg]
    simp [go_sem]
  · intro f' hf'; simp [Target.leads] at hf'; subst hf'; exact hFg
  · simp [invoke, go_sem, eg]
  have keepD : ∀ {A B : World} {row : Option Nat} {k : Nat} {o : Obj}, A.grownBy B row → (∀ r, row = some r → ∃ o : Obj, A.heap[r]? = some o ∧ o.isWalk = true) → A.heap[k]? = some o → o.isWalk = false → B.heap[k]? = some o := by
    intro A B row k o hgr hr hk ho
    refine (hgr.block k (Array.getElem?_eq_some_iff.1 hk).1 (fun e => ?_)).trans hk
    obtain ⟨o', h1, h2⟩ := hr k e.symm
    rw [hk] at h1; cases h1; rw [ho] at h2; cases h2
  refine (hseq L (fun k W => I k W ∧ W.heap[L]? = some (.loop (R .ready)) ∧ W.heap[w.heap.size]? = some (.deferred (some []))) X xB ?_ ?_ ⟨xI, xL, xD⟩).mono ?_
  · intro k A B row hs hgr hr
    exact ⟨hI k A B row hs.1 hgr (fun r e => by obtain ⟨h1, o, h2, h3⟩ := hr r e; exact ⟨Nat.le_trans xS h1, o, h2, Obj.not_cells_of_walk h3⟩), keepD hgr (fun r e => (hr r e).2) hs.2.1 rfl, keepD hgr (fun r e => (hr r e).2) hs.2.2 rfl⟩
  · rintro k W hk ⟨hi, hl, hd⟩
    have hy := run_yield (P := P) (args := encs k) hl (by rw [hR]; exact hps k)
    rw [hR] at hy
    refine ⟨fn, _, assign, body, hy, roundIn_of_wpIn hfn (hassign L k W _ hk hi ?_)⟩
    intro a' V hkf hkp hiV hax
    have vL := hkf.same _ _ (by omega) hl rfl
    have vD := hkf.same _ _ (Nat.le_refl _) hd rfl
    refine ⟨_, run_beginRound vL (by rw [hR]), ?_⟩
    rw [hRb]
    have vlt := (Array.getElem?_eq_some_iff.1 vL).1
    have uL : (V.putObj L (.loop (R .busy))).heap[L]? = some (.loop (R .busy)) := World.putObj_heap_same vlt
    have uD : (V.putObj L (.loop (R .busy))).heap[w.heap.size]? = some (.deferred (some [])) := (World.putObj_heap_other (by omega)).trans vD
    refine wpIn_mono (hbody L k a' _ (by omega) hk (hI.putObj _ hiV (by omega) vL rfl) ((hAx k a').putObj (s := ()) _ hax (by omega) vL rfl)) ?_
    intro e a3 Y hp
    cases e with
    | normal =>
      obtain ⟨hk3, hkp3, hi3⟩ := hp
      have yL := hk3.same _ _ (by omega) uL rfl
      have hr := run_endRound (P := P) none yL
      refine ⟨_, _, hr, rfl, ⟨hI.putObj _ hi3 (by omega) yL rfl, ?_, (World.putObj_heap_other (by omega)).trans (hk3.same _ _ (Nat.le_refl _) uD rfl)⟩, hKt hkp (hKt (hKt (hKb _ _ _ _ (by omega) vL rfl rfl) hkp3) (hKb _ _ _ _ (by omega) yL rfl rfl))⟩
      rw [World.putObj_heap_same (Array.getElem?_eq_some_iff.1 yL).1, hR]
      rfl
    | ret => exact hp.2.elim
    | exit id => exact hp.2.elim
    | goto t => exact hp.2.elim
    | panic ch => exact hp.elim
    | outgrown => exact hp.elim
  · rintro e W2 ⟨⟨v, rfl⟩, hi, hl, hd⟩
    have hr := run_endLoop (P := P) hl (by rw [hR]; simp)
    exact ⟨none, _, by rw [hR] at hr; exact hr, hdone _ _ (Nat.le_refl _) (hI.putObj _ hi (by omega) hl rfl) ((World.putObj_heap_other (by omega)).trans hd)⟩
/-- A lane's levels, one after another. -/
theorem walk_all (m : Mlt) (c : Crs) (s : Nat) (st : Int) (ls : List Stp) (A : Option Addr) (d e B Bs Bl Bf qc qs n₀ N : Nat) (X : Nat → Prop) (w : World) (hN : 2 ≤ N) (hs : s < 3) (hst : 0 ≤ st ∧ st ≤ 1000000000000) (hl : ls.length ≤ 200) (hM : isM m = true) (hE : ∀ j, j < ls.length → stE m ls j = 0)
    (ha : WkAt n₀ X B Bs Bl Bf qc qs) (hn₀ : n₀ ≤ w.heap.size) (hw : WkIn w m c s st ls A d e B Bs Bl Bf qc qs) :
    SeqAll Fence.wide N Tryd.prog 82 #[.pointer (some ⟨Bs, 0, none⟩), .pointer (some ⟨Bl, 0, none⟩), .pointer (some ⟨Bf, 0, none⟩)] (fun k => #[I (k : Int), .agg (lvA m c s st ls k)]) (KpS n₀ X) ls.length w := by
  intro l J W hW hJ hY h0
  have hle : ∀ b o, b < n₀ → W.cell? ⟨b, o, none⟩ = w.cell? ⟨b, o, none⟩ := fun b o hb => hW.cell (p := ⟨b, o, none⟩) (Nat.lt_of_lt_of_le hb hn₀)
  refine (walk1_in m c s st ls A d e B Bs Bl Bf qc qs l n₀ N X hN hs hst hl hM hE ha (fun pre W => J pre.length W) (fun _ _ => False) W (fun pre A B row hs hg hr => hJ pre.length A B row hs hg hr) (Nat.le_trans hn₀ hW.size) ?_ ?_ h0).mono ?_
  · intro k h W1 hj
    have hk : (fwd ls.length k).length = k := fwd_len (Nat.le_of_lt h)
    rw [hk] at hj
    refine (hY k W1 h hj).mono ?_
    rintro e W' ⟨rfl, h2, h3⟩
    exact .inl ⟨rfl, by rw [List.length_append, hk]; exact h2, h3⟩
  · exact ⟨(hle _ _ ha.bl.1).trans hw.l0, (hle _ _ ha.bl.1).trans hw.l7, (hle _ _ ha.bl.1).trans hw.l8, (hle _ _ ha.bs.1).trans hw.s0, (hle _ _ ha.bf.1).trans hw.f0,
      ⟨(hle _ _ ha.bc.1).trans hw.pk.c0, (hle _ _ ha.bc.1).trans hw.pk.c1, (hle _ _ ha.bc.1).trans hw.pk.c2, (hle _ _ ha.bq.1).trans hw.pk.s, hw.pk.r.keep fun b o hb => hle b o (Nat.lt_of_lt_of_le hb ha.bB), Nat.le_trans hw.pk.lt hW.size⟩⟩
  · rintro e W' ⟨hv, (⟨ys, rfl, hj⟩ | ⟨pre, _, hx⟩)⟩
    · rw [fwd_len (Nat.le_refl _)] at hj
      exact ⟨hv, hj⟩
    · exact hx.elim
end Go.Proofs.YtfifdfagikbahaaDoor
