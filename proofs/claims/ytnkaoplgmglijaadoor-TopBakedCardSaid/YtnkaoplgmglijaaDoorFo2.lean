/- The iterator over the levels of a lane with choices that write a cell (package melt), of any kind. -/
import Derived.Test.YtnkaoplgmglijaaDoorMf
namespace Go.Proofs.YtnkaoplgmglijaaDoor
open Go.RowKit
def SeqAllT (F : Fence) (n : Nat) (P : Program) (g : Nat) (lb : Array Value) (encs : Nat → Array Value) (Kp : World → World → Prop) (T : Nat → World → World → Prop) (E : World → Prop) (N : Nat) (w : World) : Prop :=
 ∀ (l : Nat) (J : Nat → World → Prop) (W : World), Below w.heap.size w W → AbidesFrom W.heap.size J → (∀ k A B, J k A → T k A B → J k B) →
   (∀ k W1, k < N → J k W1 → YieldAt F (n - 1) P l (encs k) W1 fun e W' => e = .returned (.bool true) ∧ J (k + 1) W' ∧ Kp W1 W') →
   J 0 W →
   CallsIn F n P g (#[.func (.yield l) #[] #[]] ++ lb) W fun e W' => (∃ v, e = .returned v) ∧ J N W' ∧ E W'
variable {F : Fence} {n : Nat} {P : Program}
theorem rangeFunc_told {g : Operand} {ps : Array Tmp} {assign body : Code} {Q : Exit → Act → World → Prop} {a : Act} {w : World}
 (hro : F.round = none) (h1 : 1 ≤ n) {gf : Nat} {lb : Array Value} (hg : a.eval g = .func (.func gf) #[] lb) (hFg : F.fn gf) (eg : ∀ args w, (callFunc gf args).run P w = .ok (.enter gf args) w)
 {encs : Nat → Array Value} {Kp : World → World → Prop} {T : Nat → World → World → Prop} {E : World → Prop} {N : Nat} (hseq : SeqAllT F (n - 1) P gf lb encs Kp T E N w) (hE : OwnFrom w.heap.size (fun (_ : Unit) W => E W))
 (hKt : ∀ {A B C : World}, Kp A B → Kp B C → Kp A C) (hKb : ∀ (W : World) (l : Nat) (o o' : Obj), w.heap.size ≤ l → W.heap[l]? = some o → o.isCells = false → o.isWalk = false → Kp W (W.putObj l o')) (hps : ∀ x, (encs x).size = ps.size)
 (I : Nat → World → Prop) (hI : OwnFrom w.heap.size I) (hT : ∀ k A B, I k A → T k A B → I k B) (hTo : ∀ k A B, T k A B → KeepsFrom w.heap.size A B) (h0 : I 0 w) (Ax : Nat → Act → World → Prop) (hAx : ∀ x a', OwnFrom w.heap.size (fun (_ : Unit) W => Ax x a' W))
 (hassign : ∀ (l k : Nat) (W : World) (K : Act → World → Prop), k < N → I k W → (∀ a' W', KeepsFrom w.heap.size W W' → Kp W W' → I k W' → Ax k a' W' → K a' W') →
  assign.wpIn (F.inRound l) (n - 1 - 1) P (Exit.then K (fun _ _ _ => False)) { tmps := (ps.zip (encs k)).foldl (fun t (p, v) => t.setIfInBounds p v) a.tmps, defers := [] } W)
 (hbody : ∀ (l k : Nat) (a' : Act) (W : World), w.heap.size ≤ l → k < N → I k W → Ax k a' W → body.wpIn (F.inRound l) (n - 1 - 1) P (ownPostG w.heap.size Kp (fun (_ : List Unit) W => I (k + 1) W) (fun _ _ _ => False) [] W) a' W)
 (hdone : ∀ (D : Nat) (W : World), w.heap.size ≤ D → I N W → E W → W.heap[D]? = some (.deferred (some [])) → Q .normal { a with defers := { target := .collected D, args := #[] } :: a.defers } W) :
 (Code.rangeFunc g ps assign body).wpIn F n P Q a w := by
 refine wpIn_rangeFunc fun fn hfn => ?_
 rw [hro]
 obtain ⟨rec, hrec⟩ : ∃ rec : LoopState → Loop, rec = fun st => { state := st, pending := none, fn, tmps := a.tmps, params := ps, assign, body, defers := w.heap.size } := ⟨_, rfl⟩
 obtain ⟨q, hq⟩ : ∃ q, w.heap.size = q := ⟨_, rfl⟩
 obtain ⟨V, hV⟩ : ∃ V, (w.alloc (.deferred (some []))).alloc (.loop (rec .ready)) = V := ⟨_, rfl⟩
 have vL : V.heap[q + 1]? = some (.loop (rec .ready)) := by
  have := World.alloc_heap_new (w.alloc (.deferred (some []))) (.loop (rec .ready))
  rwa [World.size_alloc, hq, hV] at this
 have vK : V.heap[q]? = some (.deferred (some [])) := by
  rw [← hV, ← hq]; exact (Below.heap_alloc _ _ _ (by simp)).trans (World.alloc_heap_new w _)
 have vI : I 0 V := by rw [← hV]; exact hI.alloc _ (hI.alloc _ h0)
 have vS : V.heap.size = q + 2 := by rw [← hV, ← hq]; simp
 have vB : Below w.heap.size w V := by rw [← hV]; exact ((Below.refl _ w).alloc (Nat.le_refl _) _).alloc (by simp) _
 rw [hq] at hKb hI hTo hAx hassign hbody hdone vB hE
 refine ⟨q + 1, [{ target := .collected q, args := #[] }], V, { target := .fn (.func gf) lb, args := #[.func (.yield (q + 1)) #[] #[]] }, V, gf, #[.func (.yield (q + 1)) #[] #[]] ++ lb, V, ?_, ?_, ?_, ?_, fun _ => h1, ?_⟩
 · have := run_enterLoop_outer (P := P) (w := w) fn a.tmps ps assign body
   rw [← hV, hrec]
   subst hq
   exact this
 · simp only [resolve, hg]
   simp [go_sem]
 · intro f' hf'
   simp [Target.leads] at hf'
   subst hf'
   exact hFg
 · simp [invoke, go_sem, eg]
 · refine (hseq (q + 1) (fun k W => I k W ∧ W.heap[q + 1]? = some (.loop (rec .ready)) ∧ W.heap[q]? = some (.deferred (some []))) V (hq ▸ vB) ?_ ?_ ?_ ⟨vI, vL, vK⟩).mono ?_
   · rintro s A B row ⟨k1, k2, k3⟩ hgr hr
     have hr' : ∀ r, row = some r → q ≤ r ∧ ∃ o : Obj, A.heap[r]? = some o ∧ o.isCells = false := fun r e => by
        obtain ⟨u1, o, u2, u3⟩ := hr r e
        exact ⟨by omega, o, u2, Obj.not_cells_of_walk u3⟩
     exact ⟨hI s A B row k1 hgr hr', (grownBy_keeps hgr (fun r e => (hr r e).2) k2 rfl).trans k2, (grownBy_keeps hgr (fun r e => (hr r e).2) k3 rfl).trans k3⟩
   · rintro s A B ⟨k1, k2, k3⟩ ht
     have hk := hTo _ _ _ ht
     exact ⟨hT s A B k1 ht, hk.same _ _ (by omega) k2 rfl, hk.same _ _ (Nat.le_refl _) k3 rfl⟩
   · rintro k W hlen ⟨k1, k2, k3⟩
     have hy := run_yield (P := P) (args := encs k) k2 (by rw [hrec]; exact hps k)
     rw [hrec] at hy
     refine ⟨fn, _, assign, body, hy, roundIn_of_wpIn hfn (hassign _ k W _ hlen k1 fun a' Wa hkf hkp hia hax => ?_)⟩
     have m2 := hkf.same _ _ (by omega) k2 rfl
     have m3 := hkf.same _ _ (Nat.le_refl _) k3 rfl
     obtain ⟨Wb, hWb⟩ : ∃ Wb, Wa.putObj (q + 1) (.loop { rec .ready with state := .busy }) = Wb := ⟨_, rfl⟩
     have b2 : Wb.heap[q + 1]? = some (.loop { rec .ready with state := .busy }) := by rw [← hWb]; exact World.putObj_heap_same (Array.getElem?_eq_some_iff.1 m2).1
     have b3 : Wb.heap[q]? = some (.deferred (some [])) := by rw [← hWb]; exact (World.putObj_heap_other (by omega)).trans m3
     have bK : Kp Wa Wb := by rw [← hWb]; exact hKb _ _ _ _ (by omega) m2 rfl rfl
     have bI : I k Wb := by rw [← hWb]; exact hI.putObj _ hia (by omega) m2 rfl
     have bA : Ax k a' Wb := by rw [← hWb]; exact (hAx k a').putObj (s := ()) _ hax (by omega) m2 rfl
     have hbr := run_beginRound (P := P) m2 (by rw [hrec])
     rw [hWb] at hbr
     refine ⟨_, hbr, wpIn_mono (hbody _ k a' _ (by omega) hlen bI bA) ?_⟩
     rintro e a3 Wc hp
     cases e with
     | normal =>
       obtain ⟨p1, p2, p3⟩ := hp
       have c2 := p1.same _ _ (by omega) b2 rfl
       have c3 := p1.same _ _ (Nat.le_refl _) b3 rfl
       have her := run_endRound (P := P) (none : Option Code) c2
       rw [hrec] at her c2 ⊢
       exact ⟨_, _, her, rfl, ⟨hI.putObj _ p3 (by omega) c2 rfl, World.putObj_heap_same (Array.getElem?_eq_some_iff.1 c2).1, (World.putObj_heap_other (by omega)).trans c3⟩, hKt hkp (hKt (hKt bK p2) (hKb _ _ _ _ (by omega) c2 rfl rfl))⟩
     | ret => exact hp.2.elim
     | exit id => exact hp.2.elim
     | goto t => exact hp.2.elim
     | panic ch => exact hp.elim
     | outgrown => exact hp.elim
   · rintro e W ⟨⟨v, rfl⟩, ⟨k1, k2, k3⟩, kE⟩
     · have hel := run_endLoop (P := P) k2 (by rw [hrec]; simp)
       rw [hrec] at hel
       exact ⟨none, _, hel, hdone _ _ (Nat.le_refl _) (hI.putObj _ k1 (by omega) k2 rfl) (hE.putObj (s := ()) _ kE (by omega) k2 rfl) ((World.putObj_heap_other (by omega)).trans k3)⟩
end Go.Proofs.YtnkaoplgmglijaaDoor
namespace Go.Proofs.YtnkaoplgmglijaaDoor
open Go.RowKit
attribute [local go_sem] Oper.semAt_some
def wkG (m : Mlt) (g : Nat → Int → Int → Int) (s : Nat) (st : Int) (l : List Stp) : Nat → Int
 | 0 => st
 | k + 1 => if (at0 l k).kd = 2 ∨ (at0 l k).kd = 3 then wkG m g s st l k + g k (chF (at0 l k) s (wkG m g s st l k) (msK m l k)).1 (chF (at0 l k) s (wkG m g s st l k) (msK m l k)).2
   else wkG m g s st l k - g k (chF (at0 l k) s (wkG m g s st l k) (msK m l k)).1 (chF (at0 l k) s (wkG m g s st l k) (msK m l k)).2
def Mild (g : Nat → Int → Int → Int) : Prop := ∀ k lo hi, 0 ≤ lo → 0 ≤ hi → 0 ≤ g k lo hi ∧ (g k lo hi ≤ lo ∨ g k lo hi ≤ hi)
theorem wkG_bd {m : Mlt} {g : Nat → Int → Int → Int} {s : Nat} {st : Int} {l : List Stp} (hg : Mild g) (hs : s < 3) (hst : 0 ≤ st ∧ st ≤ 1000000000000) : ∀ k, (∀ j, j < k → stE m l j = 0) → 0 ≤ wkG m g s st l k ∧ wkG m g s st l k ≤ 1000000000000 + k * 1000000000000
 | 0, _ => ⟨hst.1, by show st ≤ _; omega⟩
 | k + 1, h => by
   have ih := wkG_bd (m := m) (l := l) hg hs hst k fun j hj => h j (by omega)
   have hb := ch_bd (mass := msK m l k) (stE_isS (h k (by omega))) hs ih.1
   have ho := hg k _ _ hb.1.1 hb.1.2
   rw [wkG]
   generalize g k (chF (at0 l k) s (wkG m g s st l k) (msK m l k)).1 (chF (at0 l k) s (wkG m g s st l k) (msK m l k)).2 = q at *
   split
   · rename_i h'
     have := hb.2.2 h'
     omega
   · rename_i h'
     have := hb.2.1 h'
     omega
abbrev lvG (m : Mlt) (g : Nat → Int → Int → Int) (s : Nat) (st : Int) (l : List Stp) (k : Nat) : Array Value := #[I (chF (at0 l k) s (wkG m g s st l k) (msK m l k)).1, I (chF (at0 l k) s (wkG m g s st l k) (msK m l k)).2, I (wkG m g s st l (k + 1))]
structure WgIn (W : World) (m : Mlt) (s : Nat) (st : Int) (l : List Stp) (A : Option Addr) (d B Bs Bl Bf : Nat) (fv : Value) : Prop where
 l0 : W.cell? ⟨Bl, 0, none⟩ = some (I m.ms)
 l7 : W.cell? ⟨Bl, 7, none⟩ = some (.slice A l.length d)
 l8 : W.cell? ⟨Bl, 8, none⟩ = some (I s)
 s0 : W.cell? ⟨Bs, 0, none⟩ = some (I st)
 f0 : W.cell? ⟨Bf, 0, none⟩ = some fv
 r : Rd W B 8 A l.length (rT l)
 lt : B ≤ W.heap.size
structure WgAt (n : Nat) (X : Nat → Prop) (B Bs Bl Bf : Nat) : Prop where
 bB : B ≤ n
 xB : ∀ k, k < B → ¬ X k
 bs : Bs < n ∧ ¬ X Bs
 bl : Bl < n ∧ ¬ X Bl
 bf : Bf < n ∧ ¬ X Bf
theorem WgIn.keep {W W' : World} {m : Mlt} {s : Nat} {st : Int} {l : List Stp} {A : Option Addr} {d B Bs Bl Bf n : Nat} {fv : Value} {X : Nat → Prop} (h : WgIn W m s st l A d B Bs Bl Bf fv) (ha : WgAt n X B Bs Bl Bf) (hk : KpS n X W W') : WgIn W' m s st l A d B Bs Bl Bf fv :=
 ⟨(hk.cell ha.bl.1 ha.bl.2).trans h.l0, (hk.cell ha.bl.1 ha.bl.2).trans h.l7, (hk.cell ha.bl.1 ha.bl.2).trans h.l8, (hk.cell ha.bs.1 ha.bs.2).trans h.s0, (hk.cell ha.bf.1 ha.bf.2).trans h.f0, h.r.keep fun b _ hb => hk.cell (Nat.lt_of_lt_of_le hb ha.bB) (ha.xB b hb), Nat.le_trans h.lt hk.2⟩
theorem KpS.wide {n : Nat} {X Y : Nat → Prop} {A B : World} (h : KpS n X A B) (hx : ∀ k, X k → Y k) : KpS n Y A B := ⟨fun k hk hy => h.1 k hk fun hx' => hy (hx k hx'), h.2⟩
theorem KpS.of_grown {n b : Nat} {A B : World} (h : A.grownBy B (some b)) (hn : n ≤ A.heap.size) : KpS n (fun k => k = b) A B := ⟨fun k hk hb => h.block k (by omega) (fun e => hb (Option.some.inj e)), h.size⟩
set_option maxRecDepth 100000 in
set_option maxHeartbeats 4000000 in
theorem walkF_in (m : Mlt) (g : Nat → Int → Int → Int) (s : Nat) (st : Int) (ls : List Stp) (A : Option Addr) (d B Bs Bl Bf xb l n₀ N : Nat) (qc qs : Nat) (X : Nat → Prop) (C : Nat → World → Prop) (T : Nat → World → World → Prop) (hN : 2 ≤ N) (hg : Mild g) (hs : s < 3) (hst : 0 ≤ st ∧ st ≤ 1000000000000) (hl : ls.length ≤ 200) (hM : isM m = true) (hE : ∀ j, j < ls.length → stE m ls j = 0)
 (ha : WgAt n₀ (fun k => X k ∨ k = xb) B Bs Bl Bf) (hCk : ∀ k U V, C k U → KpS n₀ X U V → C k V) (hCT : ∀ k U V, C k U → T k U V → C (k + 1) V) (hTg : ∀ k U V, T k U V → U.grownBy V (some xb)) (hxb : xb < n₀)
 (hC : ∀ (k : Nat) (W' : World), k < ls.length → C k W' → Calls Tryd.prog 32 #[I (k : Int), I (chF (at0 ls k) s (wkG m g s st ls k) (msK m ls k)).1, I (chF (at0 ls k) s (wkG m g s st ls k) (msK m ls k)).2, .pointer (some ⟨xb, 0, none⟩), .pointer (some ⟨qc, 0, none⟩), .pointer (some ⟨qs, 0, none⟩)] W' fun e w' => e = .returned (I (g k (chF (at0 ls k) s (wkG m g s st ls k) (msK m ls k)).1 (chF (at0 ls k) s (wkG m g s st ls k) (msK m ls k)).2)) ∧ T k W' w')
 (J Jx : List (Pl ls.length) → World → Prop) (W : World) (hJ : AbidesFrom W.heap.size J) (hJT : ∀ s U V, J s U → T s.length U V → J s V) (hn₀ : n₀ ≤ W.heap.size)
 (hY : ∀ (k : Nat) (h : k < ls.length) W1, J (fwd ls.length k) W1 → YieldAt Fence.wide (N - 1) Tryd.prog l #[I (k : Int), .agg (lvG m g s st ls k)] W1 fun e W' =>
  (e = .returned (.bool true) ∧ J (fwd ls.length k ++ [⟨k, h⟩]) W' ∧ KpS n₀ X W1 W') ∨ (e = .returned (.bool false) ∧ Jx (fwd ls.length k ++ [⟨k, h⟩]) W'))
 (hw : WgIn W m s st ls A d B Bs Bl Bf (.func (.func 32) #[] #[.pointer (some ⟨xb, 0, none⟩), .pointer (some ⟨qc, 0, none⟩), .pointer (some ⟨qs, 0, none⟩)])) (hC0 : C 0 W) (h0 : J [] W) :
 CallsIn Fence.wide N Tryd.prog 58 #[.func (.yield l) #[] #[], .pointer (some ⟨Bs, 0, none⟩), .pointer (some ⟨Bl, 0, none⟩), .pointer (some ⟨Bf, 0, none⟩)] W fun e W' => (∃ v, e = .returned v) ∧
  ((∃ ys, ys = fwd ls.length ls.length ∧ J ys W' ∧ C ls.length W') ∨ (∃ pre, Jx pre W')) := by
 have HX : Hid (∀ k U V, KpS n₀ X U V → WgIn U m s st ls A d B Bs Bl Bf (.func (.func 32) #[] #[.pointer (some ⟨xb, 0, none⟩), .pointer (some ⟨qc, 0, none⟩), .pointer (some ⟨qs, 0, none⟩)]) ∧ C k U ∧ W.heap.size ≤ U.heap.size → WgIn V m s st ls A d B Bs Bl Bf (.func (.func 32) #[] #[.pointer (some ⟨xb, 0, none⟩), .pointer (some ⟨qc, 0, none⟩), .pointer (some ⟨qs, 0, none⟩)]) ∧ C k V ∧ W.heap.size ≤ V.heap.size) := fun k U V h hU => ⟨hU.1.keep ha (h.wide fun _ => .inl), hCk k U V hU.2.1 h, Nat.le_trans hU.2.2 h.2⟩
 have HT : Hid (∀ k U V, T k U V → WgIn U m s st ls A d B Bs Bl Bf (.func (.func 32) #[] #[.pointer (some ⟨xb, 0, none⟩), .pointer (some ⟨qc, 0, none⟩), .pointer (some ⟨qs, 0, none⟩)]) ∧ C k U ∧ W.heap.size ≤ U.heap.size → WgIn V m s st ls A d B Bs Bl Bf (.func (.func 32) #[] #[.pointer (some ⟨xb, 0, none⟩), .pointer (some ⟨qc, 0, none⟩), .pointer (some ⟨qs, 0, none⟩)]) ∧ C (k + 1) V ∧ W.heap.size ≤ V.heap.size) := fun k U V h hU => ⟨hU.1.keep ha ((KpS.of_grown (hTg k U V h) (Nat.le_trans hn₀ hU.2.2)).wide fun _ => .inr), hCT k U V hU.2.1 h, Nat.le_trans hU.2.2 (hTg k U V h).size⟩
 have HI0 : Hid (WgIn W m s st ls A d B Bs Bl Bf (.func (.func 32) #[] #[.pointer (some ⟨xb, 0, none⟩), .pointer (some ⟨qc, 0, none⟩), .pointer (some ⟨qs, 0, none⟩)]) ∧ C 0 W ∧ W.heap.size ≤ W.heap.size) := ⟨hw, hC0, Nat.le_refl _⟩
 have HJT := Lib.hid hJT
 have HTg := Lib.hid hTg
 have HC := Lib.hid hC
 have HJ := Lib.hid hJ
 have HY := Lib.hid hY
 have H0 := Lib.hid h0
 have HE := Lib.hid hE
 have HM := Lib.hid hM
 have HA := Lib.hid ha
 have HS := Lib.hid hst
 have y0 := ovr_cell hw.l0
 have y3 := ovr_cell hw.s0
 clear hw hJ hY h0 hE hM ha hst hCk hCT hTg hC hC0 hJT
 refine callsIn_of_wp Tryd.func58 rfl trivial ?_ rfl
 simp only [Tryd.ntmps58, List.size_toArray, List.length_cons, List.length_nil, Nat.reduceAdd, Nat.reduceSub, Array.replicate_succ, Array.replicate_zero, List.push_toArray, List.append_toArray, List.nil_append, List.cons_append]
 have hF := Wd.wide
 gi_wp2
 refine wpIn_wide.2 ?_
 refine wp_region_below_lit (by kernel_rfl) (by kernel_rfl) ?_
 repeat (go_big_quiet_step (fail))
 refine wpQuiet_nil ?_
 intro w5 hb5
 have K5 := Lib.hid (HX.out 0 W w5 (KpS.of_below hb5 hn₀) HI0.out)
 have H5 : Hid (J [] w5) := HJ.out _ W w5 none H0.out ⟨hb5.os, hb5.tape, hb5.output, hb5.size, fun j hj _ => hb5.block j hj⟩ (fun r e => by cases e)
 have y1 := K5.out.1.l7
 clear hb5 y0 y3
 gi_wp2
 clear y1
 gi_loopw [19, 5, 6] (fun i d5 ms wr => ∃ k : Nat, k ≤ ls.length ∧ i = .int .i64 k ∧ d5 = I (wkG m g s st ls k) ∧ ms = I (msK m ls k) ∧ J (fwd ls.length k) wr ∧ WgIn wr m s st ls A d B Bs Bl Bf (.func (.func 32) #[] #[.pointer (some ⟨xb, 0, none⟩), .pointer (some ⟨qc, 0, none⟩), .pointer (some ⟨qs, 0, none⟩)]) ∧ C k wr ∧ W.heap.size ≤ wr.heap.size)
  (fun i _ _ _ => ls.length - (intOf i).toNat)
 case atStart => exact ⟨0, Nat.zero_le _, rfl, rfl, rfl, H5.out, K5.out⟩
 case round =>
  obtain ⟨k, hk, rfl, rfl, rfl, hJs, hnx⟩ := hrel
  rename World => Y
  by_cases hlt : k < ls.length
  · have hw := hnx.1
    have ki : decide ((k : Int) < (ls.length : Int)) = true := decide_eq_true (by omega)
    have kn : decide (k < ls.length) = true := decide_eq_true hlt
    have kb : k < ls.length + 1 := by omega
    obtain ⟨b, o, rfl, _, x0, x1, x2, x3, x4, x5, x6, x7⟩ := hw.r.stp hlt
    have HWk := Lib.hid hnx
    have y0 := hw.l7
    have y1 := hw.l8
    have y2 := hw.f0
    have hn₀Y : n₀ ≤ Y.heap.size := Nat.le_trans hn₀ hnx.2.2
    have HAt := HA.out
    have hEk := HE.out k hlt
    have hxS := stE_isS hEk
    have hD := wkG_bd (m := m) (l := ls) hg hs HS.out k fun j hj => HE.out j (by omega)
    have hD1 : -9223372036854775808 ≤ wkG m g s st ls (k + 1) ∧ wkG m g s st ls (k + 1) ≤ 9223372036854775807 := by
        have := wkG_bd (m := m) (l := ls) hg hs HS.out (k + 1) fun j hj => HE.out j (by omega)
        omega
    have hMs := msK_bd HM.out k fun j hj => HE.out j (by omega)
    have hMs1 := msK_bd HM.out (k + 1) fun j hj => HE.out j (by omega)
    have hlv : Hid (lvG m g s st ls k = #[I (chF (at0 ls k) s (wkG m g s st ls k) (msK m ls k)).1, I (chF (at0 ls k) s (wkG m g s st ls k) (msK m ls k)).2, I (wkG m g s st ls (k + 1))]) := rfl
    have hDs : Hid (wkG m g s st ls (k + 1) = if (at0 ls k).kd = 2 ∨ (at0 ls k).kd = 3 then wkG m g s st ls k + g k (chF (at0 ls k) s (wkG m g s st ls k) (msK m ls k)).1 (chF (at0 ls k) s (wkG m g s st ls k) (msK m ls k)).2
        else wkG m g s st ls k - g k (chF (at0 ls k) s (wkG m g s st ls k) (msK m ls k)).1 (chF (at0 ls k) s (wkG m g s st ls k) (msK m ls k)).2) := rfl
    have hMsS : Hid (msK m ls (k + 1) = grF (msK m ls k) (at0 ls k)) := rfl
    have cpk : Hid (∀ W', C k W' → Calls Tryd.prog 32 #[I (k : Int), I (chF (at0 ls k) s (wkG m g s st ls k) (msK m ls k)).1, I (chF (at0 ls k) s (wkG m g s st ls k) (msK m ls k)).2, .pointer (some ⟨xb, 0, none⟩), .pointer (some ⟨qc, 0, none⟩), .pointer (some ⟨qs, 0, none⟩)] W' fun e w' => e = .returned (I (g k (chF (at0 ls k) s (wkG m g s st ls k) (msK m ls k)).1 (chF (at0 ls k) s (wkG m g s st ls k) (msK m ls k)).2)) ∧ T k W' w') := fun W' h => HC.out k W' hlt h
    have cch : Hid (∀ W', Calls Tryd.prog 59 #[.agg (stpArr (at0 ls k)), I s, I (wkG m g s st ls k), I (msK m ls k)] W' fun e w' => e = .returned (.tuple #[I (chF (at0 ls k) s (wkG m g s st ls k) (msK m ls k)).1, I (chF (at0 ls k) s (wkG m g s st ls k) (msK m ls k)).2]) ∧ Below W'.heap.size W' w') := fun W' => choices_any (at0 ls k) s _ _ W' hxS hs (by omega) hMs
    have hxm := isS_ms hxS
    have cgr : Hid (∀ W', Calls Tryd.prog 18 #[I (msK m ls k), .agg (stpArr (at0 ls k))] W' fun e w' => e = .returned (I (grF (msK m ls k) (at0 ls k))) ∧ Below W'.heap.size W' w') := fun W' => grown_any (msK m ls k) (at0 ls k) W' (by omega) (fun h => by have := hxm h; omega)
    have hkd := isS_kd hxS
    have HJs := Lib.hid hJs
    have Hnx := Lib.hid hnx
    clear hw hJs hnx hEk hxS hMs hMs1 hxm
    obtain ⟨x, hx⟩ : ∃ x, at0 ls k = x := ⟨_, rfl⟩
    obtain ⟨dk, hdk⟩ : ∃ q, wkG m g s st ls k = q := ⟨_, rfl⟩
    obtain ⟨mk, hmk⟩ : ∃ q, msK m ls k = q := ⟨_, rfl⟩
    obtain ⟨dn, hdn⟩ : ∃ q, wkG m g s st ls (k + 1) = q := ⟨_, rfl⟩
    rw [hx] at x0 x1 x2 x3 x4 x5 x6 x7 hkd
    rw [hdn] at hD1
    rw [hdk] at hD ⊢
    rw [hmk] at ⊢
    simp only [hx, hdk, hmk, hdn] at hlv hDs hMsS cpk cch cgr
    obtain ⟨lo, hlo⟩ : ∃ q, (chF x s dk mk).1 = q := ⟨_, rfl⟩
    obtain ⟨hi, hhi⟩ : ∃ q, (chF x s dk mk).2 = q := ⟨_, rfl⟩
    simp only [hlo, hhi] at hlv hDs cch cpk
    obtain ⟨gv, hgv⟩ : ∃ q, g k lo hi = q := ⟨_, rfl⟩
    rw [hgv] at hDs cpk
    have HDN := Lib.hid hdn
    clear hx hdk hmk hdn hlo hhi hgv
    gi_upto_region 4 with (fail)
    obtain ⟨V, hV⟩ : ∃ V, V = Y.alloc (.cells (stpArr x) 33) := ⟨_, rfl⟩
    have hYV : Below Y.heap.size Y V := by rw [hV]; exact (Below.refl _ _).alloc (Nat.le_refl _) _
    have rV : V.heap[Y.heap.size]? = some (.cells (stpArr x) 33 (0, 0)) := by rw [hV]; exact heap_last _ _ _ rfl
    have HRV : Hid (∀ W', Below V.heap.size V W' → W'.heap[Y.heap.size]? = some (.cells (stpArr x) 33 (0, 0))) := fun W' h => (h.block _ (Array.getElem?_eq_some_iff.1 rV).1).trans rV
    have HVW : Hid (∀ W', Below V.heap.size V W' → (WgIn W' m s st ls (some ⟨b, o, none⟩) d B Bs Bl Bf (.func (.func 32) #[] #[.pointer (some ⟨xb, 0, none⟩), .pointer (some ⟨qc, 0, none⟩), .pointer (some ⟨qs, 0, none⟩)]) ∧ C k W' ∧ W.heap.size ≤ W'.heap.size) ∧ Below Y.heap.size Y W') := fun W' h => ⟨HX.out k Y W' (KpS.of_below (hYV.trans (h.mono hYV.size)) hn₀Y) HWk.out, hYV.trans (h.mono hYV.size)⟩
    rw [← hV]
    obtain ⟨z0, z1, z2, z3, z4, z5, z6, z7⟩ := stp_cells rV
    have y1 := (HVW.out V (Below.refl _ _)).1.1.l8
    have HbV : Hid (Below V.heap.size V V) := Below.refl _ _
    clear hV hYV rV x0 x1 x2 x3 x4 x5 x6 x7 y0 y2
    gi_wp2
    refine ⟨trivial, fun _ => by omega, (hF.calls (cch.out V)).mono ?_⟩
    rintro e w3 ⟨rfl, hb3⟩
    have HB3 := Lib.hid hb3
    have HWK3 := Lib.hid (HVW.out w3 hb3).1
    have y2 := HWK3.out.1.f0
    have h3Y := (HVW.out w3 hb3).2
    have HJ3 : Hid (J (fwd ls.length k) w3) := HJ.out _ Y w3 none HJs.out ⟨h3Y.os, h3Y.tape, h3Y.output, h3Y.size, fun j hj _ => h3Y.block j hj⟩ (fun r e => by cases e)
    have r3 := Lib.hid (HRV.out w3 hb3)
    have hY3 : Y.heap.size < w3.heap.size := (Array.getElem?_eq_some_iff.1 r3.out).1
    clear hb3 h3Y y1 z0 z1 z2 z3 z4 z5 z6 z7
    gi_wp2
    refine ⟨trivial, fun _ => by omega, (hF.calls (cpk.out w3 HWK3.out.2.1)).mono ?_⟩
    rintro e w4 ⟨rfl, ht4⟩
    have hg4 := HTg.out k _ _ ht4
    have r4 : w4.heap[Y.heap.size]? = some (.cells (stpArr x) 33 (0, 0)) := (hg4.block _ hY3 (by intro e; have := Option.some.inj e; omega)).trans r3.out
    have HWK4 := Lib.hid (HT.out k _ _ ht4 HWK3.out)
    have hln : (fwd ls.length k).length = k := fwd_len (Nat.le_of_lt hlt)
    have HJ4 : Hid (J (fwd ls.length k) w4) := HJT.out _ w3 w4 HJ3.out (by rw [hln]; exact ht4)
    have hn4 : n₀ ≤ w4.heap.size := by have := hg4.size; omega
    obtain ⟨z0, z1, z2, z3, z4, z5, z6, z7⟩ := stp_cells r4
    clear ht4 hg4 r4 y2 hlt hln hY3
    have hdn := hDs.out
    have HF : Hid (∀ w5, Below w4.heap.size w4 w5 → J (fwd ls.length k) w5 ∧ (WgIn w5 m s st ls (some ⟨b, o, none⟩) d B Bs Bl Bf (.func (.func 32) #[] #[.pointer (some ⟨xb, 0, none⟩), .pointer (some ⟨qc, 0, none⟩), .pointer (some ⟨qs, 0, none⟩)]) ∧ C (k + 1) w5 ∧ W.heap.size ≤ w5.heap.size)) := fun w5 h => ⟨HJ.out _ w4 w5 none HJ4.out ⟨h.os, h.tape, h.output, h.size, fun j hj _ => h.block j hj⟩ (fun r e => by cases e), HX.out (k + 1) w4 w5 (KpS.of_below h hn4) HWK4.out⟩
    have HKN : Hid (k < ls.length) := by show _ < _; simpa using kn
    have key : ∃ b2 b3 : Bool, (x.kd == 2) = b2 ∧ (x.kd == 3) = b3 ∧ dn = (if (b2 || b3) = true then dk + gv else dk - gv) ∧ (b2 && b3) = false := by
        refine ⟨_, _, rfl, rfl, ?_, ?_⟩
        · rw [hdn]
          by_cases h2 : x.kd = 2 ∨ x.kd = 3
          · rw [if_pos h2, if_pos (by simpa using h2)]
          · rw [if_neg h2, if_neg (by simpa using h2)]
        · by_cases h2 : x.kd = 2
          · rw [h2]; rfl
          · have : (x.kd == 2) = false := by simpa using h2
            rw [this]; rfl
    clear hdn hkd hDs
    obtain ⟨b2, b3, e2, e3, hdn, hbb⟩ := key
    have wr : IntKind.i64.wrap dn = dn := IntWalk.i64_in _ hD1
    clear hD hD1
    rcases b2 with _ | _ <;> rcases b3 with _ | _
    case true.true => exact absurd hbb (by decide)
    all_goals
        simp only [Bool.or_true, Bool.or_false, if_true, Bool.false_eq_true, if_false] at hdn
        rw [hdn] at wr
        gi_wp2
        refine ⟨trivial, fun _ => by omega, (hF.calls (cgr.out w4)).mono ?_⟩
        rintro e w5 ⟨rfl, hb5⟩
        have HB5 := Lib.hid hb5
        obtain ⟨fn, tmps, assign, body, hy, hR⟩ := HY.out k HKN.out w5 (HF.out w5 HB5.out).1
        rw [hlv.out, hdn] at hy
        clear hb5 z0 z1 z2 z3 z4 z5 z6 z7 e2 e3
        gi_wp2
        refine ⟨fun _ => by omega, hR.mono ?_⟩
        have HD : Hid (dn = wkG m g s st ls (k + 1)) := HDN.out.symm
        have HFx := Lib.hid (HF.out w5 HB5.out).2
        clear hR wr hy hlv
        rintro e W3 (⟨rfl, hJ3, hk3⟩ | ⟨rfl, hJx3⟩)
        · have HJ3 : Hid (J (fwd ls.length (k + 1)) W3) := by show J _ _; rw [fwd_succ HKN.out]; exact hJ3
          have HK3 := Lib.hid (HX.out (k + 1) w5 W3 hk3 HFx.out)
          clear hJ3 hk3
          gi_wp2
          go_roundw
          case rel => exact ⟨k + 1, HKN.out, by go_num, by rw [← HD.out, hdn], by rw [hMsS.out], HJ3.out, HK3.out⟩
          case measure => simp [intOf]; have := HKN.out; omega
        · gi_wp2
          (try simp only [Exit.inBlock, Exit.then])
          refine bodyPost_ret (results_none rfl _ _ _) rfl ?_
          exact ⟨⟨_, rfl⟩, .inr ⟨_, hJx3⟩⟩
  · obtain rfl : k = ls.length := by omega
    have ki : decide ((ls.length : Int) < (ls.length : Int)) = false := decide_eq_false (by omega)
    have HJs := Lib.hid hJs
    have HCs := Lib.hid hnx.2.1
    clear hJs hnx
    gi_wp2
    go_end0
    exact ⟨⟨_, rfl⟩, .inl ⟨_, rfl, HJs.out, HCs.out⟩⟩
theorem walkF_all (m : Mlt) (g : Nat → Int → Int → Int) (s : Nat) (st : Int) (ls : List Stp) (A : Option Addr) (d B Bs Bl Bf xb n₀ N : Nat) (qc qs : Nat) (X : Nat → Prop) (C : Nat → World → Prop) (T : Nat → World → World → Prop) (w : World) (hN : 2 ≤ N) (hg : Mild g) (hs : s < 3) (hst : 0 ≤ st ∧ st ≤ 1000000000000) (hl : ls.length ≤ 200) (hM : isM m = true) (hE : ∀ j, j < ls.length → stE m ls j = 0)
 (ha : WgAt n₀ (fun k => X k ∨ k = xb) B Bs Bl Bf) (hCk : ∀ k U V, C k U → KpS n₀ X U V → C k V) (hCT : ∀ k U V, C k U → T k U V → C (k + 1) V) (hTg : ∀ k U V, T k U V → U.grownBy V (some xb)) (hxb : xb < n₀)
 (hC : ∀ (k : Nat) (W' : World), k < ls.length → C k W' → Calls Tryd.prog 32 #[I (k : Int), I (chF (at0 ls k) s (wkG m g s st ls k) (msK m ls k)).1, I (chF (at0 ls k) s (wkG m g s st ls k) (msK m ls k)).2, .pointer (some ⟨xb, 0, none⟩), .pointer (some ⟨qc, 0, none⟩), .pointer (some ⟨qs, 0, none⟩)] W' fun e w' => e = .returned (I (g k (chF (at0 ls k) s (wkG m g s st ls k) (msK m ls k)).1 (chF (at0 ls k) s (wkG m g s st ls k) (msK m ls k)).2)) ∧ T k W' w')
 (hn₀ : n₀ ≤ w.heap.size) (hw : WgIn w m s st ls A d B Bs Bl Bf (.func (.func 32) #[] #[.pointer (some ⟨xb, 0, none⟩), .pointer (some ⟨qc, 0, none⟩), .pointer (some ⟨qs, 0, none⟩)])) (hC0 : C 0 w) :
 SeqAllT Fence.wide N Tryd.prog 58 #[.pointer (some ⟨Bs, 0, none⟩), .pointer (some ⟨Bl, 0, none⟩), .pointer (some ⟨Bf, 0, none⟩)] (fun k => #[I (k : Int), .agg (lvG m g s st ls k)]) (KpS n₀ X) T (C ls.length) ls.length w := fun l J W hW hJ hJT hY h0 => by
 have hK : KpS n₀ X w W := KpS.of_below hW hn₀
 refine (walkF_in m g s st ls A d B Bs Bl Bf xb l n₀ N qc qs X C T hN hg hs hst hl hM hE ha hCk hCT hTg hxb hC (fun pre => J pre.length) (fun _ _ => False) W (fun q A B row h => hJ q.length A B row h) (fun q => hJT q.length) (Nat.le_trans hn₀ hW.size) (fun k h W1 hj => ?_) (hw.keep ha (hK.wide fun _ => .inl)) (hCk _ _ _ hC0 hK) h0).mono ?_
 · rw [fwd_len (Nat.le_of_lt h)] at hj
   refine (hY k W1 h hj).mono fun e w' hr => .inl ⟨hr.1, ?_, hr.2.2⟩
   rw [List.length_append, fwd_len (Nat.le_of_lt h)]
   exact hr.2.1
 · rintro e W' ⟨hv, ⟨ys, rfl, h1, h2⟩ | ⟨_, h⟩⟩
   · rw [fwd_len (Nat.le_refl _)] at h1
     exact ⟨hv, h1, h2⟩
   · exact h.elim
end Go.Proofs.YtnkaoplgmglijaaDoor
