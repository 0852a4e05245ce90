/- The contract of flatness of package finish. Contracts of lowest and near of package finish. An append onto a row of one's own within the head of a region that draws: an order of worlds that tells what it may change. -/
import Derived.Test.YtliolnfcgaflcaaGreatFn
import Derived.Test.YtliolnfcgaflcaaGreatRsq
import Derived.Maps.AppendAt
namespace Go.Proofs.YtliolnfcgaflcaaGreat.Un
open Go.RowKit
attribute [local go_sem] Oper.semAt_some
theorem wpListIn_store_row9 {F : Fence} {n : Nat} {P : Program} {ops : Array Oper} {rest : List Oper} {o : Oper} {a : Act} {w : World} {Q : Exit → Act → World → Prop} (hgd : Region.wanted o (yielded ops a.tmps) = true) (ty : TypeId) (x y : Operand) (ho : o.op = .store ty x y)
 (g : Nat) (hx : a.eval x = .pointer (some ⟨g, 0, none⟩)) (cs : Array Value) (t : TypeId) (hg : w.heap[g]? = some (.cells cs t (0, 0))) (cs' : Array Value) (hy : a.eval y = .agg cs') (h1 : ∀ v ∈ cs'.toList, v.oneCell' = true) (hs : cs'.size = cs.size) (hi : (P.info? ty).map (·.size) = some cs.size)
 (h : wpListIn F n P ops Q rest (a.put o.dst undef) (w.setRow g cs')) : wpListIn F n P ops Q (o :: rest) a w := by
 refine wpListIn_step fun K hK => ?_
 rw [if_pos hgd]
 have hst := run_storeCells_from (P := P) g t cs'.toList 0 cs w hg (by simpa using hs) h1
 simp only [List.take_zero, List.nil_append, Array.toArray_toList] at hst
 have hrun : (storeVar ty ⟨g, 0, none⟩ (.agg cs')).run P w = .ok () (w.setRow g cs') := by
  cases hq : P.info? ty with
  | none => simp [hq] at hi
  | some q =>
    have hs' : q.size = cs.size := by simpa [hq] using hi
    simp [storeVar, Sem.run_bind, sizeOf, typeInfo, hq, hs', hs, Value.cells, hst]
 unfold Oper.wpIn
 refine ⟨by simp [Oper.about, ho], ?_⟩
 rw [Oper.semAt_plain F _ _ (by rw [ho]; intro c hc'; cases hc')]
 simp only [execOp, ho, hx, hy, Instr.storeAt, Instr.sureAddr, Sem.run_bind, Sem.run_pure, Result.andThen_ok, hrun]
 exact hK _ _ h
theorem results_two_rows {P : Program} {fn : Func} {p q : Tmp} {ty ty' : TypeId} (h : fn.results = #[.cell p ty, .cell q ty']) (tmps : Array Value) (w : World) (g g' : Nat) (t t' : TypeId) (cs cs' : Array Value) (fr fr' : Nat × Nat) (d d' : TypeDesc)
 (hp : tmps.getD p undef = .pointer (some ⟨g, 0, none⟩)) (hg : w.heap[g]? = some (.cells cs t fr)) (hq : tmps.getD q undef = .pointer (some ⟨g', 0, none⟩)) (hg' : w.heap[g']? = some (.cells cs' t' fr'))
 (hu : P.underlying ty = some d) (hd : (match d with | .struct _ | .array _ _ => true | _ => false) = true) (hi : (P.info? ty).map (·.size) = some cs.size)
 (hu' : P.underlying ty' = some d') (hd' : (match d' with | .struct _ | .array _ _ => true | _ => false) = true) (hi' : (P.info? ty').map (·.size) = some cs'.size) :
 (results fn tmps).run P w = .ok (.tuple #[.agg cs, .agg cs']) w := by
 have hp' : tmps[p]?.getD undef = .pointer (some ⟨g, 0, none⟩) := by simpa using hp
 have hq' : tmps[q]?.getD undef = .pointer (some ⟨g', 0, none⟩) := by simpa using hq
 simp [results, h, hp', hq', asAddr, run_loadVar_row w g t ty cs fr d hg hu hd hi, run_loadVar_row w g' t' ty' cs' fr' d' hg' hu' hd' hi']
/-! What the rounds have taken. -/
def flP (l : List Pt) (z : Nat → Rng) (g : Bool) (pre : List (Pl9 (bals l).length)) : Prf := pre.foldl (fun p x => step9 z g p (bals l)[x.1]) pf0
theorem flP_snoc (l : List Pt) (z : Nat → Rng) (g : Bool) (pre : List (Pl9 (bals l).length)) (x : Pl9 (bals l).length) : flP l z g (pre ++ [x]) = step9 z g (flP l z g pre) (bals l)[x.1] := by
 unfold flP
 rw [List.foldl_append]
 rfl
theorem flP_take (l : List Pt) (z : Nat → Rng) (g : Bool) : ∀ k, k ≤ (bals l).length → flP l z g (fwd9 (bals l).length k) = ((bals l).take k).foldl (step9 z g) pf0
 | 0, _ => rfl
 | k + 1, h => by
   rw [fwd9_succ (by omega), flP_snoc, flP_take l z g k (by omega), List.take_succ_eq_append_getElem (by omega), List.foldl_append]
   rfl
theorem flP_all (l : List Pt) (z : Nat → Rng) (g : Bool) : flP l z g (fwd9 (bals l).length (bals l).length) = fl9 l z g := by
 rw [flP_take l z g _ (Nat.le_refl _), List.take_length]
 rfl
theorem pf0_in (n : Nat) : InF pf0 n := ⟨⟨⟨by decide, by decide, by decide⟩, ⟨by decide, by decide, by decide⟩, ⟨by decide, by decide, by decide⟩, ⟨by decide, by decide, by decide⟩, by decide, by decide, by decide, by decide, by decide⟩, (fun h => by cases h), by decide⟩
theorem bals_in {l : List Pt} {n : Nat} (hl : ∀ q ∈ l, InG q) (hn : ∀ q ∈ l, q.at_ < n) {b : Bal} (hb : b ∈ bals l) : InB b ∧ InN b n := by
 obtain ⟨a1, a2, a3, a4, hs, _, rfl⟩ := mem_bals.1 hb
 have m1 := hs.subset (a := a1) (by simp)
 have m2 := hs.subset (a := a2) (by simp)
 have m3 := hs.subset (a := a3) (by simp)
 have m4 := hs.subset (a := a4) (by simp)
 exact ⟨mkB_in (hl _ m1) (hl _ m2) (hl _ m3) (hl _ m4), ⟨hn _ m1, hn _ m2, hn _ m3, hn _ m4⟩⟩
theorem InN.turn {b : Bal} {n : Nat} (h : InN b n) : InN b.turn n := ⟨h.a, h.b, h.c, h.d⟩
theorem step_in {zs : List Rng} {g : Bool} {p : Prf} {b : Bal} (hp : InF p zs.length) (hb : InB b) (hn : InN b zs.length) (hz : InZ zs) : InF (step9 (at0 zs) g p b) zs.length :=
 (hp.take hb hn (val9_bd hb hn hz)).take hb.turn hn.turn (val9_bd hb.turn hn.turn hz)
theorem flP_in {l : List Pt} {zs : List Rng} {g : Bool} (hl : ∀ q ∈ l, InG q) (hn : ∀ q ∈ l, q.at_ < zs.length) (hz : InZ zs) (pre : List (Pl9 (bals l).length)) : InF (flP l (at0 zs) g pre) zs.length := by
 suffices h : ∀ (pre : List (Pl9 (bals l).length)) (p : Prf), InF p zs.length → InF (pre.foldl (fun p x => step9 (at0 zs) g p (bals l)[x.1]) p) zs.length from h pre _ (pf0_in _)
 intro pre
 induction pre with
 | nil => exact fun p h => h
 | cons x t ih =>
   intro p h
   have hb := bals_in (b := (bals l)[x.1]) hl hn (List.getElem_mem x.2)
   exact ih _ (step_in h hb.1 hb.2 hz)
/-! What a round keeps. -/
theorem row_keptF {W W' : World} {row : Option Nat} {b : Nat} {cs : Array Value} {t : TypeId} {B : Nat} (h : W.heap[b]? = some (.cells cs t (0, 0))) (hg : W.grownBy W' row) (hr : ∀ r, row = some r → B ≤ r ∧ ∃ o : Obj, W.heap[r]? = some o ∧ o.isCells = false) : W'.heap[b]? = some (.cells cs t (0, 0)) :=
 (hg.block b (Array.getElem?_eq_some_iff.1 h).1 (fun e => by
  obtain ⟨_, o, ho, hc⟩ := hr b e.symm
  rw [h] at ho; cases ho; cases hc)).trans h
theorem keeps_below {n : Nat} {A B : World} (h : Below A.heap.size A B) : KeepsFrom n A B := ⟨h.size, fun k _ _ hk _ => (h.block k (Array.getElem?_eq_some_iff.1 hk).1).trans hk⟩
theorem keeps_row {n : Nat} {A : World} {b : Nat} {cs ds : Array Value} {t : TypeId} {fr : Nat × Nat} (h : A.heap[b]? = some (.cells cs t fr)) : KeepsFrom n A (A.setRow b ds) := ⟨by rw [setRow_size]; exact Nat.le_refl _, fun k o _ hk hc => by
 have hkb : k ≠ b := by rintro rfl; rw [h] at hk; injection hk with hk; subst hk; cases hc
 rw [setRow_other hkb]
 exact hk⟩
theorem kp_row {n₀ : Nat} {X : Nat → Prop} {A : World} {b : Nat} {cs ds : Array Value} {t : TypeId} {fr : Nat × Nat} (h : A.heap[b]? = some (.cells cs t fr)) (hb : X b ∨ (n₀ ≤ b ∧ (t == 100) = true)) : KpW n₀ X A (A.setRow b ds) := ⟨fun k o hk _ hX hq => by
 have hkb : k ≠ b := by
  rintro rfl
  rcases hb with hb | ⟨h1, h2⟩
  · exact hX hb
  · rcases hq with hq | hq
    · omega
    · rw [h] at hk; injection hk with hk; subst hk; rw [show isBal9 (.cells cs t fr) = (t == 100) from rfl, h2] at hq; cases hq
 rw [setRow_other hkb]
 exact hk, by rw [setRow_size]; exact Nat.le_refl _⟩
structure FS (w S : World) (b0 Bx n₀ : Nat) (zv : Value) (p1 p2 : Prf) (b : Bal) (Z : World) : Prop where
 r0 : Z.heap[b0]? = some (.cells #[zv] 52 (0, 0))
 r1 : Z.heap[b0 + 1]? = some (.cells (pfA p1) 102 (0, 0))
 r2 : Z.heap[b0 + 1 + 1]? = some (.cells (pfA p2) 102 (0, 0))
 rx : Z.heap[Bx]? = some (.cells (balA b) 100 (0, 0))
 bw : Below b0 w Z
 kf : KeepsFrom n₀ S Z
 kp : KpW n₀ (fun k => k = b0 + 1 ∨ k = b0 + 1 + 1) S Z
 lt : b0 + 3 ≤ n₀ ∧ n₀ ≤ Bx ∧ n₀ ≤ Z.heap.size
theorem lt_of_row {Z : World} {k : Nat} {o : Obj} (h : Z.heap[k]? = some o) : k < Z.heap.size := (Array.getElem?_eq_some_iff.1 h).1
theorem FS.below {w S : World} {b0 Bx n₀ : Nat} {zv : Value} {p1 p2 : Prf} {b : Bal} {Z Y : World} (h : FS w S b0 Bx n₀ zv p1 p2 b Z) (hb : Below Z.heap.size Z Y) : FS w S b0 Bx n₀ zv p1 p2 b Y :=
 ⟨(hb.block _ (lt_of_row h.r0)).trans h.r0, (hb.block _ (lt_of_row h.r1)).trans h.r1, (hb.block _ (lt_of_row h.r2)).trans h.r2, (hb.block _ (lt_of_row h.rx)).trans h.rx, h.bw.trans (hb.mono (Nat.le_of_lt (lt_of_row h.r0))), h.kf.trans (keeps_below hb), h.kp.trans (KpW.of_below hb), h.lt.1, h.lt.2.1, Nat.le_trans h.lt.2.2 hb.size⟩
theorem FS.set1 {w S : World} {b0 Bx n₀ : Nat} {zv : Value} {p1 p2 : Prf} {b : Bal} {Z : World} (h : FS w S b0 Bx n₀ zv p1 p2 b Z) (p : Prf) : FS w S b0 Bx n₀ zv p p2 b (Z.setRow (b0 + 1) (pfA p)) := by
 obtain ⟨l1, l2, l3⟩ := h.lt
 exact ⟨(setRow_other (by omega)).trans h.r0, setRow_same h.r1, (setRow_other (by omega)).trans h.r2, (setRow_other (by omega)).trans h.rx, below_setRow h.bw (by omega) _, h.kf.trans (keeps_row h.r1), h.kp.trans (kp_row h.r1 (.inl (.inl rfl))), l1, l2, by rw [setRow_size]; exact l3⟩
theorem FS.set2 {w S : World} {b0 Bx n₀ : Nat} {zv : Value} {p1 p2 : Prf} {b : Bal} {Z : World} (h : FS w S b0 Bx n₀ zv p1 p2 b Z) (p : Prf) : FS w S b0 Bx n₀ zv p1 p b (Z.setRow (b0 + 1 + 1) (pfA p)) := by
 obtain ⟨l1, l2, l3⟩ := h.lt
 exact ⟨(setRow_other (by omega)).trans h.r0, (setRow_other (by omega)).trans h.r1, setRow_same h.r2, (setRow_other (by omega)).trans h.rx, below_setRow h.bw (by omega) _, h.kf.trans (keeps_row h.r2), h.kp.trans (kp_row h.r2 (.inl (.inr rfl))), l1, l2, by rw [setRow_size]; exact l3⟩
theorem FS.setx {w S : World} {b0 Bx n₀ : Nat} {zv : Value} {p1 p2 : Prf} {b : Bal} {Z : World} (h : FS w S b0 Bx n₀ zv p1 p2 b Z) (c : Bal) : FS w S b0 Bx n₀ zv p1 p2 c (Z.setRow Bx (balA c)) := by
 obtain ⟨l1, l2, l3⟩ := h.lt
 exact ⟨(setRow_other (by omega)).trans h.r0, (setRow_other (by omega)).trans h.r1, (setRow_other (by omega)).trans h.r2, setRow_same h.rx, below_setRow h.bw (by omega) _, h.kf.trans (keeps_row h.rx), h.kp.trans (kp_row h.rx (.inr ⟨l2, rfl⟩)), l1, l2, by rw [setRow_size]; exact l3⟩
set_option maxRecDepth 100000 in
set_option maxHeartbeats 8000000 in
theorem flatness_any (l : List Pt) (C : Option Addr) (d : Nat) (A : Option Addr) (c : Nat) (zs : List Rng) (B : Nat) (w : World) (hl : ∀ q ∈ l, InG q) (hlen : l.length ≤ 36) (hd : l.length ≤ d ∧ d ≤ maxLen) (hn : ∀ q ∈ l, q.at_ < zs.length) (hz : InZ zs) (hB : B ≤ w.heap.size) (hx : Rd w B 3 C l.length (rP l)) (hy : Rd w B 2 A zs.length (rR zs)) :
 Calls Tryz.prog 36 #[.slice C l.length d, .slice A zs.length c] w fun e w' => e = .returned (.tuple #[.agg (pfA (fl9 l (at0 zs) false)), .agg (pfA (fl9 l (at0 zs) true))]) ∧ Below w.heap.size w w' := by
 have HRD : Hid (∀ V, Below w.heap.size w V → Rd V B 2 A zs.length (rR zs)) := fun V hV => hy.below (hV.mono hB)
 have HIZ := Lib.hid hz
 have HSZ := Lib.hid hB
 have HLN := Lib.hid (And.intro hl hn)
 have HL36 := Lib.hid (And.intro hlen hd)
 obtain ⟨W, hW⟩ : ∃ W, W = ((w.alloc (.cells #[.slice A zs.length c] 52)).alloc (.cells #[I 0, I 0, I 0, I 0, I 0, I 0, I 0, I 0, I 0, I 0, I 0, I 0, I 0, I 0, I 0, I 0, I 0, I 0, .bool false] 102)).alloc (.cells #[I 0, I 0, I 0, I 0, I 0, I 0, I 0, I 0, I 0, I 0, I 0, I 0, I 0, I 0, I 0, I 0, I 0, I 0, .bool false] 102) := ⟨_, rfl⟩
 have hb0 : Below w.heap.size w W := by rw [hW]; exact (((Below.refl _ _).alloc (Nat.le_refl _) _).alloc (by simp) _).alloc (by simp; omega) _
 have r0 : W.heap[w.heap.size]? = some (.cells #[.slice A zs.length c] 52 (0, 0)) := by rw [hW]; exact heap_before (heap_before (heap_last _ _ _ rfl))
 have r1 : W.heap[w.heap.size + 1]? = some (.cells (pfA pf0) 102 (0, 0)) := by rw [hW]; exact heap_before (heap_last _ _ _ (by simp))
 have r2 : W.heap[w.heap.size + 1 + 1]? = some (.cells (pfA pf0) 102 (0, 0)) := by rw [hW]; exact heap_last _ _ _ (by simp)
 have sW : W.heap.size = w.heap.size + 3 := by rw [hW]; simp
 have HW := Lib.hid hW
 have HR := Lib.hid (And.intro r0 (And.intro r1 (And.intro r2 (And.intro sW hb0))))
 have HXC := Lib.hid hx
 clear hW r0 r1 r2 sW hb0 hx hy hz hB hl hlen hd hn
 refine (callsIn_wide (n := 5)).1 ?_
 refine callsIn_of_wp_marks Tryz.func36 rfl trivial ?_ rfl
 simp only [Tryz.ntmps36, List.size_toArray, List.length_cons, List.length_nil, Nat.reduceAdd, Nat.reduceSub, Array.replicate_succ, Array.replicate_zero, List.push_toArray, List.append_toArray, List.nil_append, List.cons_append]
 refine wpIn_wide.2 ?_
 go_upto_region 1 with (fail)
 rw [← HW.out]
 go_wp2_with fail
 refine (balances_any C l.length d W).mono ?_
 rintro e V ⟨rfl, hV⟩
 obtain ⟨r0, r1, r2, sW, hb0⟩ := HR.out
 have kV : V.heap.size = w.heap.size + 4 := by rw [hV]; simp [sW]
 have bWV : Below W.heap.size W V := by rw [hV]; exact (Below.refl _ _).alloc (Nat.le_refl _) _
 have rn : V.heap[w.heap.size + 3]? = some (.cells #[.slice C l.length d] 93 (0, 0)) := by rw [hV]; exact heap_last _ _ _ sW.symm
 replace r0 := (bWV.block _ (lt_of_row r0)).trans r0
 replace r1 := (bWV.block _ (lt_of_row r1)).trans r1
 replace r2 := (bWV.block _ (lt_of_row r2)).trans r2
 have hbV : Below w.heap.size w V := hb0.trans (bWV.mono (by omega))
 have cn : V.cell? ⟨w.heap.size + 3, 0, none⟩ = some (.slice C l.length d) := by rw [cell_of_row _ _ _ _ _ _ rn]; rfl
 have hxV : Rd V B 3 C l.length (rP l) := HXC.out.below (hbV.mono HSZ.out)
 have hSZ := HSZ.out
 rw [sW]
 go_wp2_with fail
 rw [← hV]
 clear hV bWV hb0 HR HW HXC sW rn
 refine (wpIn_wide (n := 5)).1 ?_
 refine wpIn_rangeFunc_ownH rfl (by omega) (gf := 83) (lb := #[.pointer (some ⟨w.heap.size + 3, 0, none⟩)]) rfl trivial (enters_of Tryz.func83 (by kernel_rfl) rfl)
  (balances_stops l C d (w.heap.size + 3) B V.heap.size 4 (fun k => k = w.heap.size + 1 ∨ k = w.heap.size + 1 + 1) V (by omega) (fun k hk => by omega) HLN.out.1 HL36.out.1 HL36.out.2 ⟨by omega, by omega⟩ ⟨by omega, fun k hk => by omega⟩ (Nat.le_refl _) cn hxV)
  (fun h h' => KpW.trans h h') (fun W k o o' hk h hc _ => ⟨fun j ob hj hjc _ _ => by
   have hne : j ≠ k := by rintro rfl; rw [h] at hj; injection hj with hj; subst hj; rw [hc] at hjc; cases hjc
   exact (World.putObj_heap_other hne).trans hj, by simp⟩) (Below.refl _ _) (fun _ => rfl)
  (fun pre W => W.heap[w.heap.size]? = some (.cells #[.slice A zs.length c] 52 (0, 0)) ∧ W.heap[w.heap.size + 1]? = some (.cells (pfA (flP l (at0 zs) false pre)) 102 (0, 0)) ∧ W.heap[w.heap.size + 1 + 1]? = some (.cells (pfA (flP l (at0 zs) true pre)) 102 (0, 0)) ∧ Below w.heap.size w W ∧ V.heap.size ≤ W.heap.size)
  (fun _ _ _ => False)
  (fun s W W' row hs hg hr => ⟨row_keptF hs.1 hg hr, row_keptF hs.2.1 hg hr, row_keptF hs.2.2.1 hg hr, hs.2.2.2.1.grown hg hs.2.2.2.1.size (fun k e => by have := (hr k e).1; omega), Nat.le_trans hs.2.2.2.2 hg.size⟩)
  (fun _ _ _ _ _ hs _ _ => hs)
  ⟨r0, r1, r2, hbV, Nat.le_refl _⟩
  (fun x a' W => ∃ Bx, W.heap[Bx]? = some (.cells (balA ((bals l)[x.1]'x.2)) 100 (0, 0)) ∧ V.heap.size ≤ Bx ∧
   a' = { tmps := #[.slice C l.length d, .slice A zs.length c, undef, .pointer (some ⟨w.heap.size, 0, none⟩), .pointer (some ⟨w.heap.size + 1, 0, none⟩), .pointer (some ⟨w.heap.size + 1 + 1, 0, none⟩), .pointer (some ⟨Bx, 0, none⟩), .slice C l.length d, .func (.func 83) #[] #[.pointer (some ⟨w.heap.size + 3, 0, none⟩)], .agg (balA ((bals l)[x.1]'x.2)), undef, undef, undef, undef, undef, undef, undef, undef, undef, undef, undef, undef, undef, undef, undef, undef, undef], defers := [] })
  (fun x a' s W W' row hs hg hr => by
   obtain ⟨Bx, h1, h2, h3⟩ := hs
   exact ⟨Bx, row_keptF h1 hg hr, h2, h3⟩) ?assign ?body ?done ?stop
 case assign =>
  intro L pre x U K hi hK
  obtain ⟨g0, g1, g2, h4, h5⟩ := hi
  have hK' := Lib.hid hK
  clear hK
  obtain ⟨b, hb⟩ : ∃ b, (bals l)[x.1]'x.2 = b := ⟨_, rfl⟩
  have hkf : Hid (∀ Z, Z = (U.alloc (.cells #[I 0, I 0, I 0, I 0, I 0, I 0, I 0, I 0, I 0, I 0, I 0, I 0, I 0, I 0, I 0, I 0, I 0] 100)).setRow U.heap.size (balA b) → Below U.heap.size U Z ∧ Z.heap[U.heap.size]? = some (.cells (balA b) 100 (0, 0))) := by
   rintro Z rfl
   exact ⟨below_setRow ((Below.refl _ _).alloc (Nat.le_refl _) _) (Nat.le_refl _) _, setRow_same (heap_last _ _ _ rfl)⟩
  have HI : Hid (∀ Z, Below U.heap.size U Z → Z.heap[w.heap.size]? = some (.cells #[.slice A zs.length c] 52 (0, 0)) ∧ Z.heap[w.heap.size + 1]? = some (.cells (pfA (flP l (at0 zs) false pre)) 102 (0, 0)) ∧ Z.heap[w.heap.size + 1 + 1]? = some (.cells (pfA (flP l (at0 zs) true pre)) 102 (0, 0)) ∧ Below w.heap.size w Z ∧ V.heap.size ≤ Z.heap.size) := fun Z h =>
   ⟨(h.block _ (lt_of_row g0)).trans g0, (h.block _ (lt_of_row g1)).trans g1, (h.block _ (lt_of_row g2)).trans g2, h4.trans (h.mono (Nat.le_of_lt (lt_of_row g0))), Nat.le_trans h5 h.size⟩
  have HVU := Lib.hid h5
  clear g0 g1 g2 h4 h5
  rw [hb] at hK' ⊢
  gi_wp2_with (with_reducible show wpListIn _ _ _ _ _ _ _ _; refine wpListIn_store_row9 rfl 100 _ _ rfl U.heap.size rfl #[I 0, I 0, I 0, I 0, I 0, I 0, I 0, I 0, I 0, I 0, I 0, I 0, I 0, I 0, I 0, I 0, I 0] 100 (heap_last _ _ _ rfl) (balA b) rfl (by simp [Value.oneCell']) rfl (by kernel_rfl) ?_)
  obtain ⟨h1, h2⟩ := hkf.out _ rfl
  exact hK'.out _ _ (keeps_below h1) (KpW.of_below h1) (HI.out _ h1) ⟨U.heap.size, h2, HVU.out, rfl⟩
 case body =>
  rintro L pre x a' S hlS _ ⟨g0, g1, g2, hbw2, hsX⟩ ⟨Bx, hBx, hBl, rfl⟩ hlt
  have hF := Wd.round L
  have hbl := bals_in (b := (bals l)[x.1]'x.2) HLN.out.1 HLN.out.2 (List.getElem_mem x.2)
  have HPA := Lib.hid (flP_in (g := false) HLN.out.1 HLN.out.2 HIZ.out pre)
  have HPC := Lib.hid (flP_in (g := true) HLN.out.1 HLN.out.2 HIZ.out pre)
  have hs1 := flP_snoc l (at0 zs) false pre x
  have hs2 := flP_snoc l (at0 zs) true pre x
  obtain ⟨b, hb⟩ : ∃ b, (bals l)[x.1]'x.2 = b := ⟨_, rfl⟩
  obtain ⟨p1, hp1⟩ : ∃ p, flP l (at0 zs) false pre = p := ⟨_, rfl⟩
  obtain ⟨p2, hp2⟩ : ∃ p, flP l (at0 zs) true pre = p := ⟨_, rfl⟩
  rw [hb] at hBx hbl hs1 hs2
  rw [hp1] at g1 HPA hs1
  rw [hp2] at g2 HPC hs2
  have HS1 : Hid (flP l (at0 zs) false (pre ++ [x]) = take9 (take9 p1 b (val9 (at0 zs) false b)) b.turn (val9 (at0 zs) false b.turn)) := hs1
  have HS2 : Hid (flP l (at0 zs) true (pre ++ [x]) = take9 (take9 p2 b (val9 (at0 zs) true b)) b.turn (val9 (at0 zs) true b.turn)) := hs2
  have HBA := Lib.hid hbl
  have HBT := Lib.hid (And.intro hbl.1.turn hbl.2.turn)
  have FS0 : Hid (FS w S w.heap.size Bx V.heap.size (.slice A zs.length c) p1 p2 b S) := ⟨g0, g1, g2, hBx, hbw2, KeepsFrom.refl _ _, KpW.refl _, by omega, hBl, hsX⟩
  rw [hb]
  clear g0 g1 g2 hbw2 hsX hBx hBl hs1 hs2 hbl hb hp1 hp2 hlt hlS r0 r1 r2 hbV cn hxV kV
  obtain ⟨Z0, hZ0⟩ : ∃ Z, Z = S := ⟨_, rfl⟩
  rw [← hZ0]
  have FSA : Hid (FS w Z0 w.heap.size Bx V.heap.size (.slice A zs.length c) p1 p2 b Z0) := by rw [hZ0]; exact FS0.out
  clear hZ0 FS0
  gi_wp2
  refine wpIn_loop_rounds 3 ?_
  rw [roundsIn_succ]
  gi_wp2
  obtain ⟨y0, x0⟩ := And.intro (FSA.out.r0) (FSA.out.rx)
  have yz := cell_row9 y0 (j := 0) rfl
  have HZZ : Hid (∀ W', Below Z0.heap.size Z0 W' → W'.heap[Bx]? = some (.cells (balA b) 100 (0, 0)) ∧ Rd W' B 2 A zs.length (rR zs) ∧ B ≤ W'.heap.size) := fun W' h => ⟨((FSA.out.below h).rx), HRD.out W' (FSA.out.below h).bw, Nat.le_trans HSZ.out (FSA.out.below h).bw.size⟩
  clear y0 x0
  refine wpIn_region_seq 4 hF (fun j => if j = 0 then some (fun u _ => u = .agg (balA b)) else if j = 1 then some (fun u _ => u = .agg (balA b)) else if j = 3 then some (fun u _ => u = I (val9 (at0 zs) false b)) else none) (by kernel_rfl) (by kernel_rfl) (by kernel_rfl) (by kernel_rfl) (by kernel_rfl) ?_
  simp only [List.take_succ_cons, List.take_zero, List.drop_succ_cons, List.drop_zero]
  repeat (first | (refine wpG_one rfl rfl rfl ?_; intro K hK; go_big_quiet_op; go_big_quiet_on) | (refine wpG_skip rfl ?_; simp only [Act.put, List.setIfInBounds_toArray, List.set_cons_zero, List.set_cons_succ]))
  refine wpG_make (fun u _ => u = .agg (balA b)) rfl rfl (fun w' hw' hk => ?_) (fun u hu => ?_)
  · exact load_row_grow9 100 _ rfl Bx rfl (balA b) _ _ _ (HZZ.out w' hw'.le).1 Tryz.underlying100 rfl (by kernel_rfl)
  obtain ⟨_, _, rfl⟩ := hu
  simp only [Act.put, List.setIfInBounds_toArray, List.set_cons_zero, List.set_cons_succ]
  repeat (first | (refine wpG_one rfl rfl rfl ?_; intro K hK; go_big_quiet_op; go_big_quiet_on) | (refine wpG_skip rfl ?_; simp only [Act.put, List.setIfInBounds_toArray, List.set_cons_zero, List.set_cons_succ]))
  refine wpG_make (fun u _ => u = .agg (balA b)) rfl rfl (fun w' hw' hk => ?_) (fun u hu => ?_)
  · exact load_row_grow9 100 _ rfl Bx rfl (balA b) _ _ _ (HZZ.out w' hw'.le).1 Tryz.underlying100 rfl (by kernel_rfl)
  obtain ⟨_, _, rfl⟩ := hu
  simp only [Act.put, List.setIfInBounds_toArray, List.set_cons_zero, List.set_cons_succ]
  repeat (first | (refine wpG_one rfl rfl rfl ?_; intro K hK; go_big_quiet_op; go_big_quiet_on) | (refine wpG_skip rfl ?_; simp only [Act.put, List.setIfInBounds_toArray, List.set_cons_zero, List.set_cons_succ]))
  refine wpG_make (fun u _ => u = I (val9 (at0 zs) false b)) rfl rfl (fun w' hw' hk => ?_) (fun u hu => ?_)
  · go_simp
    exact call_grow (sum9_any b A c zs false w' B HBA.out.1 HBA.out.2 HIZ.out (HZZ.out w' hw'.le).2.2 (HZZ.out w' hw'.le).2.1)
  obtain ⟨_, _, rfl⟩ := hu
  simp only [Act.put, List.setIfInBounds_toArray, List.set_cons_zero, List.set_cons_succ]
  repeat (first | (refine wpG_one rfl rfl rfl ?_; intro K hK; go_big_quiet_op; go_big_quiet_on) | (refine wpG_skip rfl ?_; simp only [Act.put, List.setIfInBounds_toArray, List.set_cons_zero, List.set_cons_succ]))
  refine wpG_nil (fun w5 hw5 hG => ?_)
  clear hG
  have FSB := Lib.hid (FSA.out.below hw5.le)
  clear hw5 HZZ FSA yz
  refine wpTailIn_cons hF (by intro c h; cases h) ?_
  unfold Oper.wp
  go_simp
  refine (take_any p1 b (val9 (at0 zs) false b) (w.heap.size + 1) zs.length w5 HPA.out HBA.out.1 (val9_bd HBA.out.1 HBA.out.2 HIZ.out) FSB.out.r1).mono ?_
  rintro e Z1 ⟨rfl, hZ1⟩
  have FSC := Lib.hid ((FSB.out.set1 _).below (by rw [setRow_size]; exact hZ1))
  have HPB := Lib.hid (HPA.out.take HBA.out.1 HBA.out.2 (val9_bd (g := false) HBA.out.1 HBA.out.2 HIZ.out))
  clear hZ1 FSB HPA
  refine wpTailIn_nil ?_
  (try simp only [Act.put, List.setIfInBounds_toArray, List.set_cons_zero, List.set_cons_succ])
  gi_wp2
  obtain ⟨y0, x0⟩ := And.intro (FSC.out.r0) (FSC.out.rx)
  have yz := cell_row9 y0 (j := 0) rfl
  have HZZ : Hid (∀ W', Below Z1.heap.size Z1 W' → W'.heap[Bx]? = some (.cells (balA b) 100 (0, 0)) ∧ Rd W' B 2 A zs.length (rR zs) ∧ B ≤ W'.heap.size) := fun W' h => ⟨((FSC.out.below h).rx), HRD.out W' (FSC.out.below h).bw, Nat.le_trans HSZ.out (FSC.out.below h).bw.size⟩
  clear y0 x0
  refine wpIn_region_seq 4 hF (fun j => if j = 0 then some (fun u _ => u = .agg (balA b)) else if j = 1 then some (fun u _ => u = .agg (balA b)) else if j = 3 then some (fun u _ => u = I (val9 (at0 zs) true b)) else none) (by kernel_rfl) (by kernel_rfl) (by kernel_rfl) (by kernel_rfl) (by kernel_rfl) ?_
  simp only [List.take_succ_cons, List.take_zero, List.drop_succ_cons, List.drop_zero]
  repeat (first | (refine wpG_one rfl rfl rfl ?_; intro K hK; go_big_quiet_op; go_big_quiet_on) | (refine wpG_skip rfl ?_; simp only [Act.put, List.setIfInBounds_toArray, List.set_cons_zero, List.set_cons_succ]))
  refine wpG_make (fun u _ => u = .agg (balA b)) rfl rfl (fun w' hw' hk => ?_) (fun u hu => ?_)
  · exact load_row_grow9 100 _ rfl Bx rfl (balA b) _ _ _ (HZZ.out w' hw'.le).1 Tryz.underlying100 rfl (by kernel_rfl)
  obtain ⟨_, _, rfl⟩ := hu
  simp only [Act.put, List.setIfInBounds_toArray, List.set_cons_zero, List.set_cons_succ]
  repeat (first | (refine wpG_one rfl rfl rfl ?_; intro K hK; go_big_quiet_op; go_big_quiet_on) | (refine wpG_skip rfl ?_; simp only [Act.put, List.setIfInBounds_toArray, List.set_cons_zero, List.set_cons_succ]))
  refine wpG_make (fun u _ => u = .agg (balA b)) rfl rfl (fun w' hw' hk => ?_) (fun u hu => ?_)
  · exact load_row_grow9 100 _ rfl Bx rfl (balA b) _ _ _ (HZZ.out w' hw'.le).1 Tryz.underlying100 rfl (by kernel_rfl)
  obtain ⟨_, _, rfl⟩ := hu
  simp only [Act.put, List.setIfInBounds_toArray, List.set_cons_zero, List.set_cons_succ]
  repeat (first | (refine wpG_one rfl rfl rfl ?_; intro K hK; go_big_quiet_op; go_big_quiet_on) | (refine wpG_skip rfl ?_; simp only [Act.put, List.setIfInBounds_toArray, List.set_cons_zero, List.set_cons_succ]))
  refine wpG_make (fun u _ => u = I (val9 (at0 zs) true b)) rfl rfl (fun w' hw' hk => ?_) (fun u hu => ?_)
  · go_simp
    exact call_grow (sum9_any b A c zs true w' B HBA.out.1 HBA.out.2 HIZ.out (HZZ.out w' hw'.le).2.2 (HZZ.out w' hw'.le).2.1)
  obtain ⟨_, _, rfl⟩ := hu
  simp only [Act.put, List.setIfInBounds_toArray, List.set_cons_zero, List.set_cons_succ]
  repeat (first | (refine wpG_one rfl rfl rfl ?_; intro K hK; go_big_quiet_op; go_big_quiet_on) | (refine wpG_skip rfl ?_; simp only [Act.put, List.setIfInBounds_toArray, List.set_cons_zero, List.set_cons_succ]))
  refine wpG_nil (fun w5 hw5 hG => ?_)
  clear hG
  have FSD := Lib.hid (FSC.out.below hw5.le)
  clear hw5 HZZ FSC yz
  refine wpTailIn_cons hF (by intro c h; cases h) ?_
  unfold Oper.wp
  go_simp
  refine (take_any p2 b (val9 (at0 zs) true b) (w.heap.size + 1 + 1) zs.length w5 HPC.out HBA.out.1 (val9_bd HBA.out.1 HBA.out.2 HIZ.out) FSD.out.r2).mono ?_
  rintro e Z2 ⟨rfl, hZ2⟩
  have FSE := Lib.hid ((FSD.out.set2 _).below (by rw [setRow_size]; exact hZ2))
  have HPD := Lib.hid (HPC.out.take HBA.out.1 HBA.out.2 (val9_bd (g := true) HBA.out.1 HBA.out.2 HIZ.out))
  clear hZ2 FSD HPC
  refine wpTailIn_nil ?_
  (try simp only [Act.put, List.setIfInBounds_toArray, List.set_cons_zero, List.set_cons_succ])
  gi_wp2_with (with_reducible show wpListIn _ _ _ _ _ _ _ _; refine wpListIn_load_row9 rfl 100 _ rfl Bx rfl (balA b) _ _ _ FSE.out.rx Tryz.underlying100 rfl (by kernel_rfl) ?_)
  refine ⟨trivial, (hF.calls (turned_any b _ HBA.out.1)).mono ?_⟩
  rintro e Z3 ⟨rfl, hZ3⟩
  have FSF := Lib.hid (FSE.out.below hZ3)
  clear hZ3 FSE
  gi_wp2_with (with_reducible show wpListIn _ _ _ _ _ _ _ _; refine wpListIn_store_row9 rfl 100 _ _ rfl Bx rfl _ _ FSF.out.rx (balA b.turn) rfl (by simp [Value.oneCell']) rfl (by kernel_rfl) ?_)
  refine name_roundsIn fun Z4 hZ4 => ?_
  have FSG := Lib.hid (FSF.out.setx b.turn)
  rw [← hZ4] at FSG
  clear hZ4 FSF
  rw [roundsIn_succ]
  gi_wp2
  obtain ⟨q1, hq1⟩ : ∃ q, take9 p1 b (val9 (at0 zs) false b) = q := ⟨_, rfl⟩
  obtain ⟨q2, hq2⟩ : ∃ q, take9 p2 b (val9 (at0 zs) true b) = q := ⟨_, rfl⟩
  rw [hq1] at FSG HPB HS1
  rw [hq2] at FSG HPD HS2
  clear hq1 hq2
  have FS4 := FSG
  have HQ1 := HPB
  have HQ2 := HPD
  clear FSG HPB HPD
  obtain ⟨y0, x0⟩ := And.intro (FS4.out.r0) (FS4.out.rx)
  have yz := cell_row9 y0 (j := 0) rfl
  have HZZ : Hid (∀ W', Below Z4.heap.size Z4 W' → W'.heap[Bx]? = some (.cells (balA b.turn) 100 (0, 0)) ∧ Rd W' B 2 A zs.length (rR zs) ∧ B ≤ W'.heap.size) := fun W' h => ⟨((FS4.out.below h).rx), HRD.out W' (FS4.out.below h).bw, Nat.le_trans HSZ.out (FS4.out.below h).bw.size⟩
  clear y0 x0
  refine wpIn_region_seq 4 hF (fun j => if j = 0 then some (fun u _ => u = .agg (balA b.turn)) else if j = 1 then some (fun u _ => u = .agg (balA b.turn)) else if j = 3 then some (fun u _ => u = I (val9 (at0 zs) false b.turn)) else none) (by kernel_rfl) (by kernel_rfl) (by kernel_rfl) (by kernel_rfl) (by kernel_rfl) ?_
  simp only [List.take_succ_cons, List.take_zero, List.drop_succ_cons, List.drop_zero]
  repeat (first | (refine wpG_one rfl rfl rfl ?_; intro K hK; go_big_quiet_op; go_big_quiet_on) | (refine wpG_skip rfl ?_; simp only [Act.put, List.setIfInBounds_toArray, List.set_cons_zero, List.set_cons_succ]))
  refine wpG_make (fun u _ => u = .agg (balA b.turn)) rfl rfl (fun w' hw' hk => ?_) (fun u hu => ?_)
  · exact load_row_grow9 100 _ rfl Bx rfl (balA b.turn) _ _ _ (HZZ.out w' hw'.le).1 Tryz.underlying100 rfl (by kernel_rfl)
  obtain ⟨_, _, rfl⟩ := hu
  simp only [Act.put, List.setIfInBounds_toArray, List.set_cons_zero, List.set_cons_succ]
  repeat (first | (refine wpG_one rfl rfl rfl ?_; intro K hK; go_big_quiet_op; go_big_quiet_on) | (refine wpG_skip rfl ?_; simp only [Act.put, List.setIfInBounds_toArray, List.set_cons_zero, List.set_cons_succ]))
  refine wpG_make (fun u _ => u = .agg (balA b.turn)) rfl rfl (fun w' hw' hk => ?_) (fun u hu => ?_)
  · exact load_row_grow9 100 _ rfl Bx rfl (balA b.turn) _ _ _ (HZZ.out w' hw'.le).1 Tryz.underlying100 rfl (by kernel_rfl)
  obtain ⟨_, _, rfl⟩ := hu
  simp only [Act.put, List.setIfInBounds_toArray, List.set_cons_zero, List.set_cons_succ]
  repeat (first | (refine wpG_one rfl rfl rfl ?_; intro K hK; go_big_quiet_op; go_big_quiet_on) | (refine wpG_skip rfl ?_; simp only [Act.put, List.setIfInBounds_toArray, List.set_cons_zero, List.set_cons_succ]))
  refine wpG_make (fun u _ => u = I (val9 (at0 zs) false b.turn)) rfl rfl (fun w' hw' hk => ?_) (fun u hu => ?_)
  · go_simp
    exact call_grow (sum9_any b.turn A c zs false w' B HBT.out.1 HBT.out.2 HIZ.out (HZZ.out w' hw'.le).2.2 (HZZ.out w' hw'.le).2.1)
  obtain ⟨_, _, rfl⟩ := hu
  simp only [Act.put, List.setIfInBounds_toArray, List.set_cons_zero, List.set_cons_succ]
  repeat (first | (refine wpG_one rfl rfl rfl ?_; intro K hK; go_big_quiet_op; go_big_quiet_on) | (refine wpG_skip rfl ?_; simp only [Act.put, List.setIfInBounds_toArray, List.set_cons_zero, List.set_cons_succ]))
  refine wpG_nil (fun w5 hw5 hG => ?_)
  clear hG
  have FT1 := Lib.hid (FS4.out.below hw5.le)
  clear hw5 HZZ FS4 yz
  refine wpTailIn_cons hF (by intro c h; cases h) ?_
  unfold Oper.wp
  go_simp
  refine (take_any q1 b.turn (val9 (at0 zs) false b.turn) (w.heap.size + 1) zs.length w5 HQ1.out HBT.out.1 (val9_bd HBT.out.1 HBT.out.2 HIZ.out) FT1.out.r1).mono ?_
  rintro e Z5 ⟨rfl, hZ5⟩
  have FT2 := Lib.hid ((FT1.out.set1 _).below (by rw [setRow_size]; exact hZ5))
  have HPE := Lib.hid (HQ1.out.take HBT.out.1 HBT.out.2 (val9_bd (g := false) HBT.out.1 HBT.out.2 HIZ.out))
  clear hZ5 FT1 HQ1
  refine wpTailIn_nil ?_
  (try simp only [Act.put, List.setIfInBounds_toArray, List.set_cons_zero, List.set_cons_succ])
  gi_wp2
  obtain ⟨y0, x0⟩ := And.intro (FT2.out.r0) (FT2.out.rx)
  have yz := cell_row9 y0 (j := 0) rfl
  have HZZ : Hid (∀ W', Below Z5.heap.size Z5 W' → W'.heap[Bx]? = some (.cells (balA b.turn) 100 (0, 0)) ∧ Rd W' B 2 A zs.length (rR zs) ∧ B ≤ W'.heap.size) := fun W' h => ⟨((FT2.out.below h).rx), HRD.out W' (FT2.out.below h).bw, Nat.le_trans HSZ.out (FT2.out.below h).bw.size⟩
  clear y0 x0
  refine wpIn_region_seq 4 hF (fun j => if j = 0 then some (fun u _ => u = .agg (balA b.turn)) else if j = 1 then some (fun u _ => u = .agg (balA b.turn)) else if j = 3 then some (fun u _ => u = I (val9 (at0 zs) true b.turn)) else none) (by kernel_rfl) (by kernel_rfl) (by kernel_rfl) (by kernel_rfl) (by kernel_rfl) ?_
  simp only [List.take_succ_cons, List.take_zero, List.drop_succ_cons, List.drop_zero]
  repeat (first | (refine wpG_one rfl rfl rfl ?_; intro K hK; go_big_quiet_op; go_big_quiet_on) | (refine wpG_skip rfl ?_; simp only [Act.put, List.setIfInBounds_toArray, List.set_cons_zero, List.set_cons_succ]))
  refine wpG_make (fun u _ => u = .agg (balA b.turn)) rfl rfl (fun w' hw' hk => ?_) (fun u hu => ?_)
  · exact load_row_grow9 100 _ rfl Bx rfl (balA b.turn) _ _ _ (HZZ.out w' hw'.le).1 Tryz.underlying100 rfl (by kernel_rfl)
  obtain ⟨_, _, rfl⟩ := hu
  simp only [Act.put, List.setIfInBounds_toArray, List.set_cons_zero, List.set_cons_succ]
  repeat (first | (refine wpG_one rfl rfl rfl ?_; intro K hK; go_big_quiet_op; go_big_quiet_on) | (refine wpG_skip rfl ?_; simp only [Act.put, List.setIfInBounds_toArray, List.set_cons_zero, List.set_cons_succ]))
  refine wpG_make (fun u _ => u = .agg (balA b.turn)) rfl rfl (fun w' hw' hk => ?_) (fun u hu => ?_)
  · exact load_row_grow9 100 _ rfl Bx rfl (balA b.turn) _ _ _ (HZZ.out w' hw'.le).1 Tryz.underlying100 rfl (by kernel_rfl)
  obtain ⟨_, _, rfl⟩ := hu
  simp only [Act.put, List.setIfInBounds_toArray, List.set_cons_zero, List.set_cons_succ]
  repeat (first | (refine wpG_one rfl rfl rfl ?_; intro K hK; go_big_quiet_op; go_big_quiet_on) | (refine wpG_skip rfl ?_; simp only [Act.put, List.setIfInBounds_toArray, List.set_cons_zero, List.set_cons_succ]))
  refine wpG_make (fun u _ => u = I (val9 (at0 zs) true b.turn)) rfl rfl (fun w' hw' hk => ?_) (fun u hu => ?_)
  · go_simp
    exact call_grow (sum9_any b.turn A c zs true w' B HBT.out.1 HBT.out.2 HIZ.out (HZZ.out w' hw'.le).2.2 (HZZ.out w' hw'.le).2.1)
  obtain ⟨_, _, rfl⟩ := hu
  simp only [Act.put, List.setIfInBounds_toArray, List.set_cons_zero, List.set_cons_succ]
  repeat (first | (refine wpG_one rfl rfl rfl ?_; intro K hK; go_big_quiet_op; go_big_quiet_on) | (refine wpG_skip rfl ?_; simp only [Act.put, List.setIfInBounds_toArray, List.set_cons_zero, List.set_cons_succ]))
  refine wpG_nil (fun w5 hw5 hG => ?_)
  clear hG
  have FT3 := Lib.hid (FT2.out.below hw5.le)
  clear hw5 HZZ FT2 yz
  refine wpTailIn_cons hF (by intro c h; cases h) ?_
  unfold Oper.wp
  go_simp
  refine (take_any q2 b.turn (val9 (at0 zs) true b.turn) (w.heap.size + 1 + 1) zs.length w5 HQ2.out HBT.out.1 (val9_bd HBT.out.1 HBT.out.2 HIZ.out) FT3.out.r2).mono ?_
  rintro e Z6 ⟨rfl, hZ6⟩
  have FT4 := Lib.hid ((FT3.out.set2 _).below (by rw [setRow_size]; exact hZ6))
  have HPF := Lib.hid (HQ2.out.take HBT.out.1 HBT.out.2 (val9_bd (g := true) HBT.out.1 HBT.out.2 HIZ.out))
  clear hZ6 FT3 HQ2
  refine wpTailIn_nil ?_
  (try simp only [Act.put, List.setIfInBounds_toArray, List.set_cons_zero, List.set_cons_succ])
  gi_wp2_with (with_reducible show wpListIn _ _ _ _ _ _ _ _; refine wpListIn_load_row9 rfl 100 _ rfl Bx rfl (balA b.turn) _ _ _ FT4.out.rx Tryz.underlying100 rfl (by kernel_rfl) ?_)
  refine ⟨trivial, (hF.calls (turned_any b.turn _ HBT.out.1)).mono ?_⟩
  rintro e Z7 ⟨rfl, hZ7⟩
  have FT5 := Lib.hid (FT4.out.below hZ7)
  clear hZ7 FT4
  gi_wp2_with (with_reducible show wpListIn _ _ _ _ _ _ _ _; refine wpListIn_store_row9 rfl 100 _ _ rfl Bx rfl _ _ FT5.out.rx (balA b.turn.turn) rfl (by simp [Value.oneCell']) rfl (by kernel_rfl) ?_)
  refine name_roundsIn fun Z8 hZ8 => ?_
  have FT6 := Lib.hid (FT5.out.setx b.turn.turn)
  rw [← hZ8] at FT6
  clear hZ8 FT5
  rw [roundsIn_succ]
  gi_wp2
  obtain ⟨e0, e1, e2, _, e4, e5, e6, e7⟩ := FT6.out
  refine ⟨e5, e6, e0, ?_, ?_, e4, e7.2.2⟩
  · rw [HS1.out]; exact e1
  · rw [HS2.out]; exact e2
 case done =>
  have HVS := Lib.hid hbV.size
  rintro D ys X hD rfl ⟨g0, g1, g2, hbw2, hsX⟩ hK
  rw [flP_all] at g1 g2
  obtain ⟨p1, hp1⟩ : ∃ p, fl9 l (at0 zs) false = p := ⟨_, rfl⟩
  obtain ⟨p2, hp2⟩ : ∃ p, fl9 l (at0 zs) true = p := ⟨_, rfl⟩
  rw [hp1] at g1
  rw [hp2] at g2
  have HG := Lib.hid (And.intro g1 (And.intro g2 (And.intro hbw2 (And.intro hK hD))))
  have HP := Lib.hid (And.intro hp1 hp2)
  clear g0 g1 g2 hbw2 hsX hK hp1 hp2 hD r0 r1 r2 hbV cn hxV kV
  go_wp2_with (first | (with_reducible show wpList _ _ _ _ _ _; refine wpList_load_row9 rfl 102 _ rfl (w.heap.size + 1) rfl (pfA p1) _ _ _ HG.out.1 Tryz.underlying102 rfl (by kernel_rfl) ?_) | (with_reducible show wpList _ _ _ _ _ _; refine wpList_load_row9 rfl 102 _ rfl (w.heap.size + 1 + 1) rfl (pfA p2) _ _ _ HG.out.2.1 Tryz.underlying102 rfl (by kernel_rfl) ?_) | (with_reducible show wpList _ _ _ _ _ _; refine wpList_store_row rfl 102 _ _ rfl (w.heap.size + 1) rfl _ _ HG.out.1 (pfA p1) rfl (by simp [Value.oneCell']) rfl (by kernel_rfl) ?_; rw [setRow_id HG.out.1]) | (with_reducible show wpList _ _ _ _ _ _; refine wpList_store_row rfl 102 _ _ rfl (w.heap.size + 1 + 1) rfl _ _ HG.out.2.1 (pfA p2) rfl (by simp [Value.oneCell']) rfl (by kernel_rfl) ?_; rw [setRow_id HG.out.2.1]))
  obtain ⟨g1, g2, hbw, hK, hD⟩ := HG.out
  refine ⟨by simp, .inl ⟨_, _, rfl, run_takeDeferred hK, ?_⟩⟩
  have nD : D ≠ w.heap.size + 1 ∧ D ≠ w.heap.size + 1 + 1 := by
   constructor
   · rintro rfl; rw [hK] at g1; injection g1 with g1; cases g1
   · rintro rfl; rw [hK] at g2; injection g2 with g2; cases g2
  refine ⟨_, results_two_rows rfl _ _ (w.heap.size + 1) (w.heap.size + 1 + 1) 102 102 (pfA p1) (pfA p2) (0, 0) (0, 0) _ _ rfl ((World.putObj_heap_other (Ne.symm nD.1)).trans g1) rfl ((World.putObj_heap_other (Ne.symm nD.2)).trans g2) Tryz.underlying102 rfl (by kernel_rfl) Tryz.underlying102 rfl (by kernel_rfl), by rw [HP.out.1, HP.out.2], hbw.grown (grownBy_putObj' X D _) hbw.size (fun k e => by have := HVS.out; cases e; omega)⟩
 case stop => exact fun _ _ _ _ _ _ h _ => h.elim
end Go.Proofs.YtliolnfcgaflcaaGreat.Un
namespace Go.Proofs.YtliolnfcgaflcaaGreat.Un
open Go.RowKit
set_option maxRecDepth 100000 in
set_option maxHeartbeats 2000000 in
theorem lowest9_any (n d : Int) (w : World) (h : fok ⟨n, d⟩ = true) :
 Calls Tryz.prog 69 #[I n, I d] w fun e w' => e = .returned (low9 n d).val ∧ Below w.heap.size w w' := by
 have cf : Hid (∀ V, Calls Tryz.prog 85 #[.agg #[I n, I d], .agg #[I n, I d]] V fun e w' => e = .returned (.tuple #[.agg #[I (low9 n d).n, I (low9 n d).d], I 0]) ∧ Below V.heap.size V w') := fun V => by
  have h9 := simplest2_any ⟨n, d⟩ ⟨n, d⟩ V
  rw [low9_si h] at h9
  exact h9
 clear h
 obtain ⟨f, hf⟩ : ∃ f, low9 n d = f := ⟨_, rfl⟩
 rw [hf] at cf ⊢
 clear hf
 obtain ⟨W, hW⟩ : ∃ W, W = (w.alloc (.cells #[I 0, I 0] 47)) := ⟨_, rfl⟩
 have rowW0 : W.heap[w.heap.size]? = some (.cells #[I 0, I 0] 47 (0, 0)) := by rw [hW]; exact heap_last _ _ _ rfl
 have yW00 := ovr_cell (W := W) (b := w.heap.size) (o := 0) (v := I 0) (by rw [cell_of_row _ _ _ _ _ _ rowW0]; rfl)
 have yW01 := ovr_cell (W := W) (b := w.heap.size) (o := 1) (v := I 0) (by rw [cell_of_row _ _ _ _ _ _ rowW0]; rfl)
 have RrowW0 := Lib.hid (ovr_row rowW0)
 clear rowW0
 have HUW : Hid (∀ u, Below w.heap.size w (ovr W u)) := U1 hW
 have HW := Lib.hid hW
 clear hW
 go_enter Tryz.func69, Tryz.ntmps69
 go_upto_region 1 with (fail)
 rw [← HW.out]
 obtain ⟨u0, hu0⟩ := ovr_self W
 rw [hu0]
 clear hu0
 go_upto_region 2 with fail
 obtain ⟨X, hX⟩ : ∃ X, X = ((ovr W u0).alloc (.cells #[I n, I d] 47)) := ⟨_, rfl⟩
 have reX : ∀ v, ∃ x, ovr X v = ovr W x := fun v => ovr_re1 hX
 replace yW00 := tr_cell reX yW00
 replace yW01 := tr_cell reX yW01
 replace RrowW0 := Lib.hid (tr_row reX RrowW0.out)
 have rowX0 : X.heap[(ovr W u0).heap.size]? = some (.cells #[I n, I d] 47 (0, 0)) := by rw [hX]; exact heap_last _ _ _ rfl
 have yX00 := ovr_cell (W := X) (b := (ovr W u0).heap.size) (o := 0) (v := I n) (by rw [cell_of_row _ _ _ _ _ _ rowX0]; rfl)
 have yX01 := ovr_cell (W := X) (b := (ovr W u0).heap.size) (o := 1) (v := I d) (by rw [cell_of_row _ _ _ _ _ _ rowX0]; rfl)
 have RrowX0 := Lib.hid (ovr_row rowX0)
 clear rowX0
 have HBX : Hid (∀ u, Below W.heap.size W (ovr X u)) := fun u => by obtain ⟨x, hx⟩ := reX u; rw [hx]; exact ovr_below _ _
 have HUX : Hid (∀ u, Below w.heap.size w (ovr X u)) := fun u => by obtain ⟨x, hx⟩ := reX u; rw [hx]; exact HUW.out x
 clear reX
 have HX := Lib.hid hX
 clear hX
 rw [← HX.out]
 obtain ⟨u1, hu1⟩ := ovr_self X
 rw [hu1]
 clear hu1
 go_wp2_with fail
 refine (cf.out _).mono ?_
 rintro e w1 ⟨rfl, hb1⟩
 obtain ⟨u2, rfl⟩ := ovr_next hb1
 clear hb1
 go_upto_region 3 with fail
 obtain ⟨Y, hY⟩ : ∃ Y, Y = ((ovr X u2).alloc (.cells #[I f.n, I f.d] 47)) := ⟨_, rfl⟩
 have reY : ∀ v, ∃ x, ovr Y v = ovr X x := fun v => ovr_re1 hY
 replace yW00 := tr_cell reY yW00
 replace yW01 := tr_cell reY yW01
 replace RrowW0 := Lib.hid (tr_row reY RrowW0.out)
 replace yX00 := tr_cell reY yX00
 replace yX01 := tr_cell reY yX01
 replace RrowX0 := Lib.hid (tr_row reY RrowX0.out)
 have rowY0 : Y.heap[(ovr X u2).heap.size]? = some (.cells #[I f.n, I f.d] 47 (0, 0)) := by rw [hY]; exact heap_last _ _ _ rfl
 have yY00 := ovr_cell (W := Y) (b := (ovr X u2).heap.size) (o := 0) (v := I f.n) (by rw [cell_of_row _ _ _ _ _ _ rowY0]; rfl)
 have yY01 := ovr_cell (W := Y) (b := (ovr X u2).heap.size) (o := 1) (v := I f.d) (by rw [cell_of_row _ _ _ _ _ _ rowY0]; rfl)
 have RrowY0 := Lib.hid (ovr_row rowY0)
 clear rowY0
 have HBY : Hid (∀ u, Below X.heap.size X (ovr Y u)) := fun u => by obtain ⟨x, hx⟩ := reY u; rw [hx]; exact ovr_below _ _
 clear reY
 have HY := Lib.hid hY
 clear hY
 rw [← HY.out]
 obtain ⟨u3, hu3⟩ := ovr_self Y
 rw [hu3]
 clear hu3
 go_wp2_with (refine wpList_store_row rfl 47 _ _ rfl (w.heap.size) rfl _ _ (RrowW0.out _) _ rfl (one2 rfl rfl) rfl (by kernel_rfl) ?_)
 refine bodyPost_ret (results_cell_only rfl _ _ (w.heap.size) 47 _ (0, 0) _ rfl (setRow_same (RrowW0.out _)) Tryz.underlying47 rfl (by kernel_rfl)) rfl ?_
 exact ⟨rfl, below_setRow (below_chain HUX.out HBY.out _) (by omega) _⟩
def near9 (p : Pln) (l : List Pt) (z : Nat → Int) (d : Frc) : Bool := l.all fun q => decide (max (p.off q (z q.at_)) (-(p.off q (z q.at_))) * d.d ≤ d.n * p.d)
theorem near9_iff {p : Pln} {l : List Pt} {z : Nat → Int} {d : Frc} : near9 p l z d = true ↔ ∀ k, k < l.length → max (p.off (pt9 l k) (z (pt9 l k).at_)) (-(p.off (pt9 l k) (z (pt9 l k).at_))) * d.d ≤ d.n * p.d := by
 unfold near9 pt9
 rw [List.all_eq_true]
 constructor
 · intro h k hk
   have h1 := h _ (List.getElem_mem hk)
   rw [List.getD_eq_getElem?_getD, List.getElem?_eq_getElem hk]
   exact of_decide_eq_true h1
 · intro h q hq
   obtain ⟨k, hk, rfl⟩ := List.getElem_of_mem hq
   have h1 := h k hk
   rw [List.getD_eq_getElem?_getD, List.getElem?_eq_getElem hk] at h1
   exact decide_eq_true h1
theorem near9_no {p : Pln} {l : List Pt} {z : Nat → Int} {d : Frc} {k : Nat} (hk : k < l.length) (h : ¬ max (p.off (pt9 l k) (z (pt9 l k).at_)) (-(p.off (pt9 l k) (z (pt9 l k).at_))) * d.d ≤ d.n * p.d) : near9 p l z d = false := by
 cases hq : near9 p l z d with
 | false => rfl
 | true => exact absurd (near9_iff.1 hq k hk) h
def InH (zs : List Int) : Prop := ∀ j, j < zs.length → -1000000 ≤ at0 zs j ∧ at0 zs j ≤ 1000000
def InD (d : Frc) : Prop := (0 ≤ d.n ∧ d.n ≤ 200000000) ∧ 1 ≤ d.d ∧ d.d ≤ 200
theorem rd_int9 {w : World} {B n k : Nat} {A : Option Addr} {zs : List Int} (h : Rd w B 1 A n (rI zs)) (hk : k < n) : ∃ b o, A = some ⟨b, o, none⟩ ∧ b < B ∧ w.cell? ⟨b, o + k, none⟩ = some (I (at0 zs k)) := by
 obtain ⟨b, o, e, hb, hc⟩ := h (by omega)
 have := hc k hk 0 (by omega)
 rw [Nat.mul_one, Nat.add_zero] at this
 exact ⟨b, o, e, hb, this⟩
set_option maxRecDepth 100000 in
set_option maxHeartbeats 4000000 in
theorem near_any (p : Pln) (l : List Pt) (zs : List Int) (d : Frc) (C : Option Addr) (dc : Nat) (A : Option Addr) (c B : Nat) (w : World) (hp : InP p) (hl : ∀ q ∈ l, InG q) (hn : ∀ q ∈ l, q.at_ < zs.length) (hz : InH zs) (hd : InD d) (hlen : l.length ≤ 36) (hB : B ≤ w.heap.size) (hx : Rd w B 3 C l.length (rP l)) (hy : Rd w B 1 A zs.length (rI zs)) :
 Calls Tryz.prog 39 #[.agg (plA p), .slice C l.length dc, .slice A zs.length c, d.val] w fun e w' => e = .returned (.bool (near9 p l (at0 zs) d)) ∧ Below w.heap.size w w' := by
 have HRD : Hid (∀ V, Below w.heap.size w V → Rd V B 3 C l.length (rP l) ∧ Rd V B 1 A zs.length (rI zs)) := fun V hV => ⟨hx.below (hV.mono hB), hy.below (hV.mono hB)⟩
 have HPT : Hid (∀ k, k < l.length → InG (pt9 l k) ∧ (pt9 l k).at_ < zs.length) := fun k hk => ⟨pt9_in hl hk, by
  have := hn _ (List.getElem_mem hk)
  unfold pt9
  rw [List.getD_eq_getElem?_getD, List.getElem?_eq_getElem hk]
  exact this⟩
 have HIZ := Lib.hid hz
 have HIP := Lib.hid hp
 have HID := Lib.hid hd
 have HLE := Lib.hid hlen
 clear hx hy hB hp hl hn hz hd hlen
 obtain ⟨W, hW⟩ : ∃ W, W = ((w.alloc (.cells #[I p.a, I p.b, I p.c, I p.d] 109)).alloc (.cells #[I d.n, I d.d] 47)) := ⟨_, rfl⟩
 have rowW0 : W.heap[w.heap.size]? = some (.cells #[I p.a, I p.b, I p.c, I p.d] 109 (0, 0)) := by rw [hW]; exact heap_before (heap_last _ _ _ rfl)
 have yW00 := ovr_cell (W := W) (b := w.heap.size) (o := 0) (v := I p.a) (by rw [cell_of_row _ _ _ _ _ _ rowW0]; rfl)
 have yW01 := ovr_cell (W := W) (b := w.heap.size) (o := 1) (v := I p.b) (by rw [cell_of_row _ _ _ _ _ _ rowW0]; rfl)
 have yW02 := ovr_cell (W := W) (b := w.heap.size) (o := 2) (v := I p.c) (by rw [cell_of_row _ _ _ _ _ _ rowW0]; rfl)
 have yW03 := ovr_cell (W := W) (b := w.heap.size) (o := 3) (v := I p.d) (by rw [cell_of_row _ _ _ _ _ _ rowW0]; rfl)
 have RrowW0 := Lib.hid (ovr_row rowW0)
 clear rowW0
 have rowW1 : W.heap[w.heap.size + 1]? = some (.cells #[I d.n, I d.d] 47 (0, 0)) := by rw [hW]; exact heap_last _ _ _ (by simp)
 have yW10 := ovr_cell (W := W) (b := w.heap.size + 1) (o := 0) (v := I d.n) (by rw [cell_of_row _ _ _ _ _ _ rowW1]; rfl)
 have yW11 := ovr_cell (W := W) (b := w.heap.size + 1) (o := 1) (v := I d.d) (by rw [cell_of_row _ _ _ _ _ _ rowW1]; rfl)
 have RrowW1 := Lib.hid (ovr_row rowW1)
 clear rowW1
 have HUW : Hid (∀ u, Below w.heap.size w (ovr W u)) := U2 hW
 have HW := Lib.hid hW
 clear hW
 go_enter Tryz.func39, Tryz.ntmps39
 go_upto_region 1 with (fail)
 rw [← HW.out]
 obtain ⟨u0, hu0⟩ := ovr_self W
 rw [hu0]
 clear hu0
 go_wp2_with fail
 go_loopw [14] (fun i wr => ∃ (k : Nat) (u : World), k ≤ l.length ∧ i = .int .i64 k ∧ wr = ovr W u ∧ ∀ j, j < k → max (p.off (pt9 l j) (at0 zs (pt9 l j).at_)) (-(p.off (pt9 l j) (at0 zs (pt9 l j).at_))) * d.d ≤ d.n * p.d) (fun i _ => l.length - (intOf i).toNat)
 case atStart => exact ⟨0, u0, by omega, rfl, rfl, fun j hj => absurd hj (by omega)⟩
 case round =>
  obtain ⟨k, u, hk, rfl, rfl, hall⟩ := hrel
  have HALL := Lib.hid hall
  clear hall
  by_cases hlt : k < l.length
  case neg =>
   obtain rfl : k = l.length := by omega
   have hf : Hid (near9 p l (at0 zs) d = true) := near9_iff.2 HALL.out
   have ki : decide ((l.length : Int) < (l.length : Int)) = false := decide_eq_false (by omega)
   go_wp2_with fail
   go_ret
   exact ⟨by rw [hf.out]; rfl, HUW.out u⟩
  have HLT := Lib.hid hlt
  have hk36 : k ≤ 36 := by have := HLE.out; omega
  have ki : decide ((k : Int) < (l.length : Int)) = true := decide_eq_true (by omega)
  obtain ⟨HP1, hat⟩ := HPT.out k hlt
  obtain ⟨b, o, rfl, _, e0, e1, e2⟩ := rd_pt (HRD.out _ (HUW.out u)).1 hlt
  change (ovr W u).cell? ⟨b, o + k * 3, none⟩ = some (I ((pt9 l k).at_ : Int)) at e0
  change (ovr W u).cell? ⟨b, o + k * 3 + 1, none⟩ = some (I (pt9 l k).x) at e1
  change (ovr W u).cell? ⟨b, o + k * 3 + 2, none⟩ = some (I (pt9 l k).y) at e2
  have hzz := HIZ.out _ hat
  have HNO := Lib.hid (near9_no (p := p) (l := l) (z := at0 zs) (d := d) hlt)
  have HYES : Hid (max (p.off (pt9 l k) (at0 zs (pt9 l k).at_)) (-(p.off (pt9 l k) (at0 zs (pt9 l k).at_))) * d.d ≤ d.n * p.d → ∀ j, j < k + 1 → max (p.off (pt9 l j) (at0 zs (pt9 l j).at_)) (-(p.off (pt9 l j) (at0 zs (pt9 l j).at_))) * d.d ≤ d.n * p.d) := fun h j hj => by
   rcases Nat.lt_or_ge j k with h1 | h1
   · exact HALL.out j h1
   · obtain rfl : j = k := by omega
     exact h
  obtain ⟨q, hq⟩ : ∃ q, pt9 l k = q := ⟨_, rfl⟩
  rw [hq] at e0 e1 e2 HP1 hat hzz HNO HYES
  obtain ⟨z, hzq⟩ : ∃ z, at0 zs q.at_ = z := ⟨_, rfl⟩
  rw [hzq] at hzz HNO HYES
  have HZQ := Lib.hid hzq
  clear hq hzq
  have CO := Lib.hid fun V => off_any p q z V HIP.out HP1 hzz
  have hob := off_bd HIP.out HP1 hzz
  obtain ⟨f, hf⟩ : ∃ f, p.off q z = f := ⟨_, rfl⟩
  rw [hf] at CO hob HNO HYES
  clear hf hzz
  have m1 := mul_bdF (a := max f (-f)) (b := d.d) (A := 1000000000000000) (B := 200) (by omega) (by have := HID.out.2; omega)
  have m2 := mul_bdF (a := d.n) (b := p.d) (A := 200000000) (B := 100000) (by have := HID.out.1; omega) HIP.out.2.2.2
  have k0 : wrap64 (-f) = -f := by unfold wrap64; omega
  have k1 : IntKind.i64.wrap (max f (-f) * d.d) = max f (-f) * d.d := IntWalk.i64_in _ (by omega)
  have k2 : IntKind.i64.wrap (d.n * p.d) = d.n * p.d := IntWalk.i64_in _ (by omega)
  have k3 : decide ((q.at_ : Int) < (zs.length : Int)) = true := decide_eq_true (by omega)
  have k4 : decide (q.at_ < zs.length) = true := decide_eq_true hat
  clear m1 m2 hob HP1
  go_upto_region 4 with (fail)
  clear e0 e1 e2
  obtain ⟨X, hX⟩ : ∃ X, X = ((ovr W u).alloc (.cells #[I (q.at_ : Int), I q.x, I q.y] 96)) := ⟨_, rfl⟩
  have reX : ∀ v, ∃ x, ovr X v = ovr W x := fun v => ovr_re1 hX
  replace yW00 := tr_cell reX yW00
  replace yW01 := tr_cell reX yW01
  replace yW02 := tr_cell reX yW02
  replace yW03 := tr_cell reX yW03
  replace RrowW0 := Lib.hid (tr_row reX RrowW0.out)
  replace yW10 := tr_cell reX yW10
  replace yW11 := tr_cell reX yW11
  replace RrowW1 := Lib.hid (tr_row reX RrowW1.out)
  have rowX0 : X.heap[(ovr W u).heap.size]? = some (.cells #[I (q.at_ : Int), I q.x, I q.y] 96 (0, 0)) := by rw [hX]; exact heap_last _ _ _ rfl
  have yX00 := ovr_cell (W := X) (b := (ovr W u).heap.size) (o := 0) (v := I (q.at_ : Int)) (by rw [cell_of_row _ _ _ _ _ _ rowX0]; rfl)
  have yX01 := ovr_cell (W := X) (b := (ovr W u).heap.size) (o := 1) (v := I q.x) (by rw [cell_of_row _ _ _ _ _ _ rowX0]; rfl)
  have yX02 := ovr_cell (W := X) (b := (ovr W u).heap.size) (o := 2) (v := I q.y) (by rw [cell_of_row _ _ _ _ _ _ rowX0]; rfl)
  have RrowX0 := Lib.hid (ovr_row rowX0)
  clear rowX0
  have HBX : Hid (∀ u, Below W.heap.size W (ovr X u)) := fun u => by obtain ⟨x, hx⟩ := reX u; rw [hx]; exact ovr_below _ _
  clear reX
  have HX := Lib.hid hX
  clear hX
  rw [← HX.out]
  obtain ⟨b2, o2, rfl, _, f0⟩ := rd_int9 (HRD.out X (below_self (below_chain HUW.out HBX.out))).2 hat
  rw [HZQ.out] at f0
  have f0 := ovr_cell f0
  refine wp_region_make (fun j => if j = 7 then some (fun u _ => u = I f) else none) (by kernel_rfl) (by kernel_rfl) (by kernel_rfl) ?_
  repeat (first | (refine wpG_one rfl rfl rfl ?_; intro K hK; go_big_quiet_op; go_big_quiet_on) | (refine wpG_skip rfl ?_; simp only [Act.put, List.setIfInBounds_toArray, List.set_cons_zero, List.set_cons_succ]))
  refine wpG_make (fun u _ => u = I f) rfl rfl (fun w' hw' hk => ?_) (fun u hu => ?_)
  · go_simp
    exact call_grow (CO.out w')
  obtain ⟨_, _, rfl⟩ := hu
  simp only [Act.put, List.setIfInBounds_toArray, List.set_cons_zero, List.set_cons_succ]
  repeat (first | (refine wpG_one rfl rfl rfl ?_; intro K hK; go_big_quiet_op; go_big_quiet_on) | (refine wpG_skip rfl ?_; simp only [Act.put, List.setIfInBounds_toArray, List.set_cons_zero, List.set_cons_succ]))
  refine wpG_nil (fun w5 hw5 hG => ?_)
  clear hG
  obtain ⟨x5, rfl⟩ : ∃ z, w5 = ovr X z := ⟨w5, ovr_of hw5.le⟩
  clear hw5
  have HWX : Hid (∀ v, Below W.heap.size W (ovr X v)) := HBX.out
  by_cases hnr : max f (-f) * d.d ≤ d.n * p.d
  · have k5 : decide (d.n * p.d < max f (-f) * d.d) = false := decide_eq_false (by omega)
    have HG := Lib.hid (HYES.out hnr)
    clear hnr
    go_wp2_with fail
    go_roundw
    case rel => exact ⟨k + 1, _, HLT.out, by go_num, ovr_of (HWX.out x5), HG.out⟩
    case measure => have := HLT.out; simp [intOf]; omega
  · have k5 : decide (d.n * p.d < max f (-f) * d.d) = true := decide_eq_true (by omega)
    have hf := Lib.hid (HNO.out hnr)
    clear hnr
    go_wp2_with fail
    go_ret
    exact ⟨by rw [hf.out]; rfl, below_chain HUW.out HWX.out x5⟩
end Go.Proofs.YtliolnfcgaflcaaGreat.Un
namespace Go.Proofs.YtliolnfcgaflcaaGreat.Un
open Go.RowKit
def LeP : Pr.Pre := ⟨Le, Le.refl, fun h h' => Le.trans h h'⟩
structure LX (q : Nat) (row : Array Value) (e : TypeId) (w w' : World) : Prop where
 os : w'.os = w.os
 tape : w'.tape = w.tape
 output : w'.output = w.output
 size : w.heap.size ≤ w'.heap.size
 block : ∀ k, k < w.heap.size → k ≠ q → w'.heap[k]? = w.heap[k]?
 at_ : q < w.heap.size → w'.heap[q]? = w.heap[q]? ∨ w'.heap[q]? = some (.cells row e (0, 0))
def LXP (q : Nat) (row : Array Value) (e : TypeId) : Pr.Pre := ⟨LX q row e, fun _ => ⟨rfl, rfl, rfl, Nat.le_refl _, fun _ _ _ => rfl, fun _ => .inl rfl⟩, fun h h' => ⟨h'.os.trans h.os, h'.tape.trans h.tape, h'.output.trans h.output, Nat.le_trans h.size h'.size,
 fun k hk hq => (h'.block k (Nat.lt_of_lt_of_le hk h.size) hq).trans (h.block k hk hq), fun hq => by
    rcases h'.at_ (Nat.lt_of_lt_of_le hq h.size) with h1 | h1
    · rw [h1]; exact h.at_ hq
    · exact .inr h1⟩⟩
theorem le_grown {a b : World} (h : Le a b) (row : Option Nat) : a.grownBy b row := ⟨Below.os h, Below.tape h, Below.output h, Below.size h, fun k hk _ => Below.block h k hk⟩
theorem grown_le {a b : World} (h : a.grownBy b none) : Le a b := ⟨h.os, h.tape, h.output, h.size, fun k hk => h.block k hk (by simp)⟩
def rowIn (cur : Array Value) (news : List Value) (m : Nat) : Array Value := (cur.toList.take m ++ news ++ cur.toList.drop (m + news.length)).toArray
theorem rowIn_again {cur : Array Value} {news : List Value} {m : Nat} (h : m + news.length ≤ cur.size) : rowIn (rowIn cur news m) news m = rowIn cur news m := by
 have hl : (cur.toList.take m).length = m := by rw [List.length_take, Array.length_toList]; omega
 unfold rowIn
 congr 1
 have h1 : (cur.toList.take m ++ news ++ cur.toList.drop (m + news.length)).take m = cur.toList.take m := by rw [List.append_assoc, List.take_left' hl]
 have h2 : (cur.toList.take m ++ news ++ cur.toList.drop (m + news.length)).drop (m + news.length) = cur.toList.drop (m + news.length) := List.drop_left' (by rw [List.length_append, hl])
 rw [List.toList_toArray, h1, h2]
theorem rowIn_size {cur : Array Value} {news : List Value} {m : Nat} (h : m + news.length ≤ cur.size) : (rowIn cur news m).size = cur.size := by
 unfold rowIn
 simp only [List.size_toArray, List.length_append, List.length_take, List.length_drop, Array.length_toList]
 omega
theorem app_pre {P : Program} (t ty e : TypeId) (i : TypeInfo) (z : Value) (size bytes : Nat) (ht : P.underlying t = some (.slice e)) (hi : P.info? e = some i) (hz : i.zero = some z) (hsize : i.size = size) (hby : i.bytes = bytes) (hzs : z.cells.size = size) (hsz : 0 < size)
 (W0 : World) (base : Nat) (v : Value) (n : Nat) (xs : List Value) (hown : W0.ownsRow base e size v n xs) (hbase : base ≤ W0.heap.size) (news : List Value) (hl : news.length = size) (h1 : ∀ u ∈ news, u.oneCell' = true) (hn : n ≤ 1000000) (hb : bytes ≤ 1000) :
 ∃ L : Pr.Pre, (∀ a b, Le a b → L.le a b) ∧ (∀ a b, L.le a b → a.grownBy b v.ownBlock) ∧
   ∀ w, Pr.Cl L W0 w → ∀ ad c, (∀ j u, news[j]? = some u → w.cell? (Addr.add ad j) = some u) → ∃ v' w', (Builtin.append_ #[t, t] ty #[v, .slice (some ad) 1 c]).run P w = .ok v' w' ∧ L.le w w' ∧
     Pr.Box L (fun u w => w.ownsRow base e size u (n + 1) (xs ++ news) ∧ (u.ownBlock = v.ownBlock ∨ ∃ k, u.ownBlock = some k ∧ W0.heap.size ≤ k)) v' w' := by
 have hm : (n + 1) * bytes ≤ 1000001 * 1000 := Nat.mul_le_mul (by omega) hb
 rcases hown.2 with ⟨rfl, rfl⟩ | ⟨g, cap, cur, rfl, hbg, hg, hnc, hcm, hcs, htake⟩
 · refine ⟨LeP, fun _ _ h => h, fun _ _ h => le_grown h _, fun w hw ad c hnews => ?_⟩
   have hle : Le W0 w := hw.le
   obtain ⟨v', w', hr, h2, h3, h4, h5⟩ := run_append_own_at (P := P) w base t ty e i z size bytes ht hi hz hsize hby hzs hsz (.slice none 0 0) 0 xs ⟨hown.1, .inl ⟨rfl, rfl⟩⟩ ad 1 c news (by rw [hl, Nat.one_mul]) hnews h1 (by unfold maxLen; omega) (by omega) (Nat.le_trans hbase (Below.size hle))
   refine ⟨v', w', hr, grown_le h3, fun w2 h22 => ⟨h2.kept (le_grown (show Le w' w2 from h22) none) (by cases hv : v'.ownBlock <;> simp), ?_⟩⟩
   rcases h5 with h5 | h5
   · exact .inl h5
   · exact .inr ⟨_, h5, Below.size hle⟩
 · by_cases hroom : n + 1 ≤ cap
   · have hfit : n * size + news.length ≤ cur.size := by rw [hl, hcs]; have := Nat.mul_le_mul_right size hroom; rw [Nat.add_mul, Nat.one_mul] at this; exact this
     have hglt := (Array.getElem?_eq_some_iff.1 hg).1
     refine ⟨LXP g (rowIn cur news (n * size)) e, fun a b h => ⟨Below.os h, Below.tape h, Below.output h, Below.size h, fun k hk _ => Below.block h k hk, fun hq => .inl (Below.block h g hq)⟩, fun a b h => ⟨LX.os h, LX.tape h, LX.output h, LX.size h, fun k hk hne => LX.block h k hk (fun e => hne (by simp [Value.ownBlock, e]))⟩, fun w hw ad c hnews => ?_⟩
     have hle : LX g (rowIn cur news (n * size)) e W0 w := hw.le
     obtain ⟨cs, hcsw, hcr⟩ : ∃ cs, w.heap[g]? = some (.cells cs e (0, 0)) ∧ (cs = cur ∨ cs = rowIn cur news (n * size)) := by
        rcases hle.at_ hglt with h9 | h9
        · exact ⟨cur, h9.trans hg, .inl rfl⟩
        · exact ⟨_, h9, .inr rfl⟩
     have hcs2 : cs.size = cur.size := by
        rcases hcr with rfl | rfl
        · rfl
        · exact rowIn_size hfit
     have hrow : rowIn cs news (n * size) = rowIn cur news (n * size) := by
        rcases hcr with rfl | rfl
        · rfl
        · exact rowIn_again hfit
     have hr := run_append_room (P := P) w t ty e i ht hi g n cap cs hcsw ad 1 c news (by rw [hl, hsize, Nat.one_mul]) hnews h1 hroom (by rw [hsize, hcs2]; exact hfit)
     rw [hsize] at hr
     refine ⟨.slice (some ⟨g, 0, none⟩) (n + 1) cap, w.setRow g (rowIn cur news (n * size)), (by rw [← hrow]; exact hr), ⟨rfl, rfl, rfl, by rw [setRow_size]; exact Nat.le_refl _, fun k _ hk => Go.Proofs.YtliolnfcgaflcaaGreat.setRow_other hk, fun _ => .inr (setRow_same hcsw)⟩, fun w2 h22 => ⟨?_, .inl rfl⟩⟩
     have h22' : LX g (rowIn cur news (n * size)) e (w.setRow g (rowIn cur news (n * size))) w2 := h22
     have hw2 : w2.heap[g]? = some (.cells (rowIn cur news (n * size)) e (0, 0)) := by
        rcases h22'.at_ (by rw [setRow_size]; exact Nat.lt_of_lt_of_le hglt hle.size) with h9 | h9
        · exact h9.trans (setRow_same hcsw)
        · exact h9
     have hlen : (xs ++ news).length = (n + 1) * size := by rw [List.length_append, hown.1, hl, Nat.add_mul, Nat.one_mul]
     refine ⟨hlen, .inr ⟨g, cap, _, rfl, hbg, hw2, hroom, hcm, by rw [rowIn_size hfit, hcs], ?_⟩⟩
     unfold rowIn
     rw [htake, List.toList_toArray, ← hlen]
     exact List.take_left
   · refine ⟨LeP, fun _ _ h => h, fun _ _ h => le_grown h _, fun w hw ad c hnews => ?_⟩
     have hle : Le W0 w := hw.le
     have hown' : w.ownsRow base e size (.slice (some ⟨g, 0, none⟩) n cap) n xs := ⟨hown.1, .inr ⟨g, cap, cur, rfl, hbg, (Below.block hle g (Array.getElem?_eq_some_iff.1 hg).1).trans hg, hnc, hcm, hcs, htake⟩⟩
     have holds : ∀ j u, xs[j]? = some u → w.cell? ((⟨g, 0, none⟩ : Addr).add j) = some u := hown'.cells (g := g) rfl
     have hr := run_append_grow (P := P) w t ty e i z ht hi hz ⟨g, 0, none⟩ n cap xs (by rw [hsize]; exact hown.1) (by exact holds) ad 1 c news (by rw [hsize, hl, Nat.one_mul]) hnews (by omega) (by unfold maxLen at hcm; omega) (growslice_fits (by omega) (by rw [hby]; omega))
     have hge := grownCap_ge w (n + 1) cap e
     have hcm2 : grownCap w (n + 1) cap e ≤ maxLen := grownCap_le_maxLen w (n + 1) cap e (by unfold maxLen; omega)
     have hlen : (xs ++ news).length = (n + 1) * size := by rw [List.length_append, hown.1, hl, Nat.add_mul, Nat.one_mul]
     refine ⟨_, _, hr, ⟨rfl, rfl, rfl, by simp, fun k hk => heap_alloc_old w.drew _ hk⟩, fun w2 h22 => ⟨⟨hlen, .inr ⟨w.heap.size, _, _, rfl, Nat.le_trans hbase (Below.size hle), (Below.block (show Le _ w2 from h22) _ (by simp)).trans (heap_alloc_new w.drew _), hge, hcm2, ?_, ?_⟩⟩, .inr ⟨_, rfl, Below.size hle⟩⟩⟩
     · simp only [Array.size_append, List.size_toArray, size_zeroCells, hzs, hown.1, hl]
       rw [show n * size + size = (n + 1) * size by rw [Nat.add_mul, Nat.one_mul], ← Nat.add_mul]
       congr 1
       omega
     · simp only [Array.toList_append, List.append_assoc]
       rw [← List.append_assoc, ← hlen]
       exact List.take_left
end Go.Proofs.YtliolnfcgaflcaaGreat.Un
