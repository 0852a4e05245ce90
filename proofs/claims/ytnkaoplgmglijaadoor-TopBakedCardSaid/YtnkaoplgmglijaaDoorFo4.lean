/- Follow of package melt. -/
import Derived.Test.YtnkaoplgmglijaaDoorFo3
import Derived.Test.YtnkaoplgmglijaaDoorNi
namespace Go.Proofs.YtnkaoplgmglijaaDoor
open Go.RowKit
attribute [local go_sem] Oper.semAt_some
theorem results_tmp_cell_tmp {P : Program} {fn : Func} {p t1 t2 : Tmp} {ty : TypeId} (h : fn.results = #[.tmp t1, .cell p ty, .tmp t2]) (tmps : Array Value) (w : World) (g : Nat) (t : TypeId) (cs : Array Value) (fr : Nat × Nat) (d : TypeDesc)
 (hp : tmps.getD p undef = .pointer (some ⟨g, 0, none⟩)) (hg : w.heap[g]? = some (.cells cs t fr))
 (hu : P.underlying ty = some d) (hd : (match d with | .struct _ | .array _ _ => true | _ => false) = true) (hi : (P.info? ty).map (·.size) = some cs.size) :
 (results fn tmps).run P w = .ok (.tuple #[tmps.getD t1 undef, .agg cs, tmps.getD t2 undef]) w := by
 have hp' : tmps[p]?.getD undef = .pointer (some ⟨g, 0, none⟩) := by simpa using hp
 simp [results, h, hp', asAddr, run_loadVar_row w g t ty cs fr d hg hu hd hi]
def tdG (cs : List (Nat → Int)) (s : Nat) : Nat → Int → Int → Int := fun k lo hi => min (max (at0 cs k s) lo) hi
theorem tdG_mild (cs : List (Nat → Int)) (s : Nat) : Mild (tdG cs s) := fun k lo hi h1 h2 => by
 show 0 ≤ min (max (at0 cs k s) lo) hi ∧ (min (max (at0 cs k s) lo) hi ≤ lo ∨ min (max (at0 cs k s) lo) hi ≤ hi)
 omega
def okK (m : Mlt) (l : List Stp) (v : Int) (cs : List (Nat → Int)) (s : Nat) : Nat → Bool
 | 0 => wiB v (m.ct (s * 2)) (m.ct (s * 2 + 1))
 | k + 1 => okK m l v cs s k && wiB (at0 cs k s) (chF (at0 l k) s (wkG m (tdG cs s) s v l k) (msK m l k)).1 (chF (at0 l k) s (wkG m (tdG cs s) s v l k) (msK m l k)).2
def fzL (l : List Stp) (cs : List (Nat → Int)) : Nat → List (Nat → Int)
 | 0 => []
 | k + 1 => if (at0 l k).kd = 1 then fzL l cs k ++ [at0 cs k] else fzL l cs k
theorem fzL_len (l : List Stp) (cs : List (Nat → Int)) : ∀ k, (fzL l cs k).length = fzK l k
 | 0 => rfl
 | k + 1 => by rw [fzL, fzK]; split <;> simp [fzL_len l cs k]
theorem cnt_info : (Tryd.prog.info? 43).map (fun i => (i.zero, i.size, i.bytes)) = some (some (.agg #[I 0, I 0, I 0]), 3, 24) := by kernel_rfl
theorem at0_app {α : Type} [Inhabited α] (xs : List α) (x : α) {k : Nat} (h : k < xs.length) : at0 (xs ++ [x]) k = at0 xs k := by
 rw [at0_get (by simp; omega), at0_get h, List.getElem_append_left h]
theorem at0_new {α : Type} [Inhabited α] (xs : List α) (x : α) : at0 (xs ++ [x]) xs.length = x := by
 rw [at0_get (by simp)]; simp
theorem flat_app (xs : List (Nat → Int)) (x : Nat → Int) : flat 3 (rN3 (xs ++ [x])) (xs.length + 1) = flat 3 (rN3 xs) xs.length ++ [I (x 0), I (x 1), I (x 2)] := by
 rw [flat_succ 3 (by decide)]
 congr 1
 · apply List.ext_getElem?
   intro i
   by_cases hi : i < xs.length * 3
   · have e : i = i / 3 * 3 + i % 3 := by omega
     rw [e, flat_get _ (show i / 3 < xs.length by omega) (show i % 3 < 3 by omega), flat_get _ (show i / 3 < xs.length by omega) (show i % 3 < 3 by omega)]
     unfold rN3
     rw [at0_app xs x (by omega)]
   · rw [List.getElem?_eq_none (by rw [flat_len]; omega), List.getElem?_eq_none (by rw [flat_len]; omega)]
 · show [rN3 (xs ++ [x]) xs.length 0, rN3 (xs ++ [x]) xs.length 1, rN3 (xs ++ [x]) xs.length 2] = _
   unfold rN3
   rw [at0_new]
theorem fz_more {l : List Stp} {cs : List (Nat → Int)} {k : Nat} (h : (at0 l k).kd = 1) : flat 3 (rN3 (fzL l cs (k + 1))) (fzK l (k + 1)) = flat 3 (rN3 (fzL l cs k)) (fzK l k) ++ [I (at0 cs k 0), I (at0 cs k 1), I (at0 cs k 2)] ∧ fzK l (k + 1) = fzK l k + 1 := by
 have e : fzK l (k + 1) = fzK l k + 1 := by rw [fzK, if_pos h]
 refine ⟨?_, e⟩
 rw [e, fzL, if_pos h, ← fzL_len l cs k]
 exact flat_app _ _
def flE (m : Mlt) (l : List Stp) (st : Nat → Int) (cs : List (Nat → Int)) : Int := if ckF m l ≠ 0 then ckF m l else if cs.length ≠ l.length then 2 else if (okK m l (st 0) cs 0 l.length && okK m l (st 1) cs 1 l.length && okK m l (st 2) cs 2 l.length) then 0 else 30
def Mks (lo : Nat) : List Deferred → Nat → World → Prop
 | [], _, _ => True
 | d :: ds, b, W => ∃ D, d = { target := .collected D, args := #[] } ∧ lo ≤ D ∧ D < b ∧ W.heap[D]? = some (.deferred (some [])) ∧ Mks lo ds D W
theorem Mks.keep {lo : Nat} {W W' : World} : ∀ {L : List Deferred} {b : Nat}, Mks lo L b W → (∀ k o, k < b → W.heap[k]? = some o → o.isCells = false → W'.heap[k]? = some o) → Mks lo L b W'
 | [], _, _, _ => trivial
 | _ :: _, _, ⟨D, h1, h0, h2, h3, h4⟩, hk => ⟨D, h1, h0, h2, hk D _ h2 h3 rfl, h4.keep fun k o h => hk k o (by omega)⟩
theorem Mks.more {lo : Nat} {W : World} : ∀ {L : List Deferred} {b b' : Nat}, Mks lo L b W → b ≤ b' → Mks lo L b' W
 | [], _, _, _, _ => trivial
 | _ :: _, _, _, ⟨D, h1, h0, h2, h3, h4⟩, hb => ⟨D, h1, h0, by omega, h3, h4⟩
theorem leaves_marks {F : Fence} {n : Nat} {P : Program} {fn : Func} {tmps : Array Value} {R : Ending → World → Prop} (lo : Nat) : ∀ (L : List Deferred) (b : Nat) (W : World), Mks lo L b W →
 (∀ W', Below lo W W' → (∀ (k : Nat) (cs : Array Value) (t : TypeId) (fr : Nat × Nat), W.heap[k]? = some (Obj.cells cs t fr) → W'.heap[k]? = some (Obj.cells cs t fr)) → ∃ v, (results fn tmps).run P W' = .ok v W' ∧ R (.returned v) W') →
 LeavesInM F n P fn tmps R L .returning W
 | [], _, W, _, h => h W (Below.refl _ _) fun _ _ _ _ h => h
 | d :: ds, b, W, ⟨D, h1, h0, h2, h3, h4⟩, h => by
   refine ⟨by simp, .inl ⟨D, _, by rw [h1], run_takeDeferred h3, ?_⟩⟩
   refine leaves_marks lo ds D _ (h4.keep fun k o hk ho _ => (World.putObj_heap_other (by omega)).trans ho) fun W' hb hk => h W' (Below.trans (b := W.putObj D (.deferred none)) ⟨rfl, rfl, rfl, by simp, fun k hk => World.putObj_heap_other (by omega)⟩ hb) fun k cs t fr hc => hk k cs t fr ?_
   rw [World.putObj_heap_other (by rintro rfl; rw [h3] at hc; cases hc)]
   exact hc
def ClIn (B : Nat) (w : World) (A : Option Addr) (n : Nat) (g : Nat → Nat → Value) : Prop := 0 < n → ∃ b cur, A = some ⟨b, 0, none⟩ ∧ B ≤ b ∧ w.heap[b]? = some (.cells cur 43 (0, 0)) ∧ ∀ k j, k < n → j < 3 → cur[k * 3 + j]? = some (g k j)
theorem ClIn.row {B n : Nat} {w w' : World} {A : Option Addr} {g : Nat → Nat → Value} (h : ClIn B w A n g) (hk : ∀ b o, B ≤ b → w.heap[b]? = some o → o.isCells = true → w'.heap[b]? = some o) : ClIn B w' A n g := fun hn => by
 obtain ⟨b, cur, h1, h2, h3, h4⟩ := h hn
 exact ⟨b, cur, h1, h2, hk b _ h2 h3 rfl, h4⟩
theorem ClIn.row' {B B' n : Nat} {w w' : World} {A : Option Addr} {g : Nat → Nat → Value} (h : ClIn B w A n g) (hB : B' ≤ B) (hk : ∀ b o, B ≤ b → w.heap[b]? = some o → o.isCells = true → w'.heap[b]? = some o) : ClIn B' w' A n g := fun hn => by
 obtain ⟨b, cur, h1, h2, h3, h4⟩ := h hn
 exact ⟨b, cur, h1, by omega, hk b _ h2 h3 rfl, h4⟩
theorem ClIn.rd {B n : Nat} {w : World} {A : Option Addr} {g : Nat → Nat → Value} (h : ClIn B w A n g) : Rd w w.heap.size 3 A n g := fun hn => by
 obtain ⟨b, cur, h1, h2, h3, h4⟩ := h hn
 refine ⟨b, 0, h1, (Array.getElem?_eq_some_iff.1 h3).1, fun k hk j hj => ?_⟩
 rw [cell_of_row _ _ _ _ _ _ h3, Nat.zero_add]
 exact h4 k j hk hj
theorem SoC.cl {B n : Nat} {w : World} {v : Value} {g : Nat → Nat → Value} (h : SoC 43 3 B n (flat 3 g n) v w) : ∃ A c, v = .slice A n c ∧ n ≤ c ∧ c ≤ maxLen ∧ ClIn B w A n g := by
 obtain ⟨A, c, rfl, h1, h2, _⟩ := h.rd
 refine ⟨A, c, rfl, h1, h2, fun hn => ?_⟩
 rcases h with ⟨h0, _⟩ | h
 · omega
 · rcases h.2 with ⟨h0, _⟩ | ⟨q, cap, cur, h0, hq, hh, _, _, _, ht⟩
   · cases h0; omega
   · cases h0
     refine ⟨q, cur, rfl, hq, hh, fun k j hk hj => ?_⟩
     have e := flat_get g hk hj
     rw [← ht, List.getElem?_take, if_pos (idx_lt hk hj)] at e
     simpa using e
def RetFl (m : Mlt) (l : List Stp) (st : Nat → Int) (cs : List (Nat → Int)) (w : World) (e : Ending) (w' : World) : Prop :=
 Below w.heap.size w w' ∧ ((flE m l st cs ≠ 0 ∧ e = .returned (.tuple #[.slice none 0 0, .agg #[I 0, I 0, I 0], I (flE m l st cs)])) ∨
    (flE m l st cs = 0 ∧ ∃ S d, e = .returned (.tuple #[.slice S (fzK l l.length) d, .agg (cnArr fun s => wkG m (tdG cs s) s (st s) l l.length), I 0]) ∧ fzK l l.length ≤ d ∧ d ≤ maxLen ∧ ClIn w.heap.size w' S (fzK l l.length) (rN3 (fzL l cs l.length))))
def foE (m : Mlt) (l : List Stp) (st : Nat → Int) (cs : List (Nat → Int)) (s j : Nat) : Int := if j < s then wkG m (tdG cs j) j (st j) l l.length else 0
theorem foE_set {m : Mlt} {l : List Stp} {st : Nat → Int} {cs : List (Nat → Int)} {s : Nat} {dv : Int} (hs : s < 3) (h : wkG m (tdG cs s) s (st s) l l.length = dv) : (#[I (foE m l st cs s 0), I (foE m l st cs s 1), I (foE m l st cs s 2)] : Array Value).setIfInBounds s (I dv) = #[I (foE m l st cs (s + 1) 0), I (foE m l st cs (s + 1) 1), I (foE m l st cs (s + 1) 2)] := by
 subst h
 match s, hs with
 | 0, _ => simp [foE]
 | 1, _ => simp [foE]
 | 2, _ => simp [foE]
structure FoI (m : Mlt) (l : List Stp) (st : Nat → Int) (cs : List (Nat → Int)) (w V : World) (s : Nat) (X : World) : Prop where
 row : X.heap[w.heap.size + 1 + 1 + 1]? = some (.cells #[I (foE m l st cs s 0), I (foE m l st cs s 1), I (foE m l st cs s 2)] 43 (0, 0))
 kp : KpS V.heap.size (fun k => k = w.heap.size + 1 + 1 + 1) V X
 bl : Below w.heap.size w X
 ok : ∀ j, j < s → okK m l (st j) cs j l.length = true
theorem FoI.keep {m : Mlt} {l : List Stp} {st : Nat → Int} {cs : List (Nat → Int)} {w V W X : World} {s k : Nat} {o : Obj} (h : FoI m l st cs w V s X) (hb : Below W.heap.size W V) (hr : V.heap[k]? = some o) (hk : k < W.heap.size) (hne : k ≠ w.heap.size + 1 + 1 + 1) : X.heap[k]? = some o :=
 (h.kp.1 k (Nat.lt_of_lt_of_le hk hb.size) hne).trans hr
theorem cn_cell {W : World} {q s : Nat} {b : Nat → Int} {t : TypeId} (h : W.heap[q]? = some (.cells (cnArr b) t (0, 0))) (hs : s < 3) : W.cell? ⟨q, s, none⟩ = some (I (b s)) := by
 rw [cell_of_row _ _ _ _ _ _ h]
 match s, hs with | 0, _ => rfl | 1, _ => rfl | 2, _ => rfl
def FoC (m : Mlt) (l : List Stp) (v : Int) (cs : List (Nat → Int)) (s xb qc qs : Nat) (A : Option Addr) (d B k : Nat) (W : World) : Prop := W.heap[xb]? = some (.cells #[.bool (okK m l v cs s k)] 4 (0, 0)) ∧ TdIn W xb qc qs s A d cs B
theorem TdIn.keep {U V : World} {xb qc qs s : Nat} {A : Option Addr} {d B : Nat} {cs : List (Nat → Int)} (h : TdIn U xb qc qs s A d cs B) (hk : ∀ b, b = qc ∨ b = qs ∨ b < B → V.heap[b]? = U.heap[b]?) (hs : U.heap.size ≤ V.heap.size) (ho : ∃ b, V.heap[xb]? = some (.cells #[.bool b] 4 (0, 0))) : TdIn V xb qc qs s A d cs B :=
 ⟨ho, (hk qc (.inl rfl)).trans h.c, (hk qs (.inr (.inl rfl))).trans h.s, h.r.keep fun b _ hb => (by unfold World.cell?; rw [hk b (.inr (.inr hb))]), Nat.le_trans h.lt hs, h.qc, h.qs, h.B⟩
theorem FoC.kp {m : Mlt} {l : List Stp} {v : Int} {cs : List (Nat → Int)} {s xb qc qs : Nat} {A : Option Addr} {d B k n : Nat} {X : Nat → Prop} {U V : World} (h : FoC m l v cs s xb qc qs A d B k U) (hk : KpS n X U V) (h1 : xb < n ∧ ¬ X xb) (h2 : qc < n ∧ ¬ X qc) (h3 : qs < n ∧ ¬ X qs) (h4 : B ≤ n ∧ ∀ b, b < B → ¬ X b) : FoC m l v cs s xb qc qs A d B k V :=
 have hx := (hk.1 xb h1.1 h1.2).trans h.1
 ⟨hx, h.2.keep (fun b hb => by
  rcases hb with rfl | rfl | hb
  · exact hk.1 _ h2.1 h2.2
  · exact hk.1 _ h3.1 h3.2
  · exact hk.1 _ (Nat.lt_of_lt_of_le hb h4.1) (h4.2 b hb)) hk.2 ⟨_, hx⟩⟩
theorem FoC.td {m : Mlt} {l : List Stp} {v : Int} {cs : List (Nat → Int)} {s xb qc qs : Nat} {A : Option Addr} {d B k : Nat} {U V : World} (h : FoC m l v cs s xb qc qs A d B k U) (ht : TdT xb (wiB (at0 cs k s) (chF (at0 l k) s (wkG m (tdG cs s) s v l k) (msK m l k)).1 (chF (at0 l k) s (wkG m (tdG cs s) s v l k) (msK m l k)).2) U V) : FoC m l v cs s xb qc qs A d B (k + 1) V :=
 have hx := ht.2 _ h.1
 ⟨hx, h.2.keep (fun b hb => by
  have hl : ∀ {o : Obj}, U.heap[b]? = some o → b ≠ xb → V.heap[b]? = U.heap[b]? := fun ho hne => ht.1.block b (Array.getElem?_eq_some_iff.1 ho).1 (fun e => hne (Option.some.inj e))
  rcases hb with rfl | rfl | hb
  · exact hl h.2.c h.2.qc
  · exact hl h.2.s h.2.qs
  · have hB := h.2.B
    exact ht.1.block b (by have := h.2.lt; omega) (fun e => by have := Option.some.inj e; omega)) ht.1.size ⟨_, hx⟩⟩
theorem FoC.own {m : Mlt} {l : List Stp} {v : Int} {cs : List (Nat → Int)} {s xb qc qs : Nat} {A : Option Addr} {d B k n : Nat} {row : Option Nat} {U V : World} (h : FoC m l v cs s xb qc qs A d B k U) (hg : U.grownBy V row) (hr : ∀ r, row = some r → n ≤ r) (h1 : xb < n) (h2 : qc < n) (h3 : qs < n) (h4 : B ≤ n) : FoC m l v cs s xb qc qs A d B k V :=
 have hl : ∀ {b : Nat} {o : Obj}, U.heap[b]? = some o → b < n → V.heap[b]? = U.heap[b]? := fun ho hb => hg.block _ (Array.getElem?_eq_some_iff.1 ho).1 (fun e => by have := hr _ e.symm; omega)
 have hx := (hl h.1 h1).trans h.1
 ⟨hx, h.2.keep (fun b hb => by
  rcases hb with rfl | rfl | hb
  · exact hl h.2.c h2
  · exact hl h.2.s h3
  · exact hg.block b (by have := h.2.lt; omega) (fun e => by have := hr _ e.symm; omega)) hg.size ⟨_, hx⟩⟩
theorem KpS.grown {n : Nat} {X : Nat → Prop} {A B C : World} {row : Option Nat} (h : KpS n X A B) (hn : n ≤ B.heap.size) (hg : B.grownBy C row) (hr : ∀ r, row = some r → n ≤ r) : KpS n X A C :=
 ⟨fun k hk hx => (hg.block k (by omega) (fun e => by have := hr k e.symm; omega)).trans (h.1 k hk hx), Nat.le_trans h.2 hg.size⟩
theorem wg_made {m : Mlt} {s : Nat} {st : Int} {ls : List Stp} {A : Option Addr} {d B k6 : Nat} {fv : Value} {w6 V : World} (hV : V = ((w6.alloc (.cells (lnArr m A ls.length d s) 70)).alloc (.cells #[I st] 3)).alloc (.cells #[fv] 98))
 (hk6 : w6.heap.size = k6) (hx : Rd V B 8 A ls.length (rT ls)) (hB : B ≤ V.heap.size) : WgIn V m s st ls A d B (k6 + 1) k6 (k6 + 2) fv ∧ V.heap.size = k6 + 3 := by
 have v0 : V.heap[k6]? = some (.cells (lnArr m A ls.length d s) 70 (0, 0)) := by rw [hV, ← hk6]; exact heap_before (heap_before (heap_last _ _ _ rfl))
 have v1 : V.heap[k6 + 1]? = some (.cells #[I st] 3 (0, 0)) := by rw [hV, ← hk6]; exact heap_before (heap_last _ _ _ (by simp))
 have v2 : V.heap[k6 + 2]? = some (.cells #[fv] 98 (0, 0)) := by rw [hV, ← hk6]; exact heap_last _ _ _ (by simp)
 refine ⟨⟨?_, ?_, ?_, ?_, ?_, hx, hB⟩, by rw [hV, ← hk6]; simp⟩
 · rw [cell_of_row _ _ _ _ _ _ v0]; rfl
 · rw [cell_of_row _ _ _ _ _ _ v0]; rfl
 · rw [cell_of_row _ _ _ _ _ _ v0]; rfl
 · rw [cell_of_row _ _ _ _ _ _ v1]; rfl
 · rw [cell_of_row _ _ _ _ _ _ v2]; rfl
theorem okK_no {m : Mlt} {l : List Stp} {v : Int} {cs : List (Nat → Int)} {s k : Nat} (h : okK m l v cs s k = false) : ∀ d, okK m l v cs s (k + d) = false
 | 0 => h
 | d + 1 => by show (okK m l v cs s (k + d) && _) = false; rw [okK_no h d]; rfl
theorem bad30 {m : Mlt} {l : List Stp} {st : Nat → Int} {cs : List (Nat → Int)} {s : Nat} (hs : s < 3) (hE : flE m l st cs = if (okK m l (st 0) cs 0 l.length && okK m l (st 1) cs 1 l.length && okK m l (st 2) cs 2 l.length) then 0 else 30) (h : okK m l (st s) cs s l.length = false) : flE m l st cs = 30 := by
 rw [hE]
 match s, hs with
 | 0, _ => rw [h]; rfl
 | 1, _ => rw [h, Bool.and_false]; rfl
 | 2, _ => rw [h, Bool.and_false]; rfl
abbrev foA (q : Nat) (A : Option Addr) (n c : Nat) (S : Option Addr) (fz d s : Nat) (f : Nat → Value) (L : List Deferred) : Act := { tmps := #[f 0, .slice A n c, f 2, f 3, .pointer (some ⟨q, 0, none⟩), f 5, .pointer (some ⟨q + 1, 0, none⟩), .pointer (some ⟨q + 1 + 1, 0, none⟩), .slice S fz d, .pointer (some ⟨q + 1 + 1 + 1, 0, none⟩), f 10, f 11, f 12, f 13, f 14, f 15, f 16, f 17, f 18, f 19, f 20, f 21, f 22, f 23, f 24, f 25, f 26, f 27, f 28, f 29, f 30, f 31, f 32, f 33, f 34, f 35, f 36, f 37, f 38, f 39, f 40, f 41, f 42, f 43, f 44, f 45, f 46, f 47, f 48, f 49, f 50, I (s : Int), f 52, f 53, f 54, f 55, f 56, f 57, f 58, f 59, f 60, f 61, f 62, f 63, f 64, f 65, f 66, f 67, f 68, f 69, f 70, f 71, f 72, f 73, f 74, f 75, f 76, f 77, f 78, f 79, f 80, f 81, f 82, f 83, f 84, f 85, f 86, f 87, f 88, f 89, f 90], defers := L }
def FoJ (m : Mlt) (l : List Stp) (st : Nat → Int) (cs : List (Nat → Int)) (w V : World) (A : Option Addr) (n c : Nat) (S : Option Addr) (fz d : Nat) (a : Act) (X : World) : Prop :=
 ∃ (s : Nat) (f : Nat → Value) (L : List Deferred), a = foA w.heap.size A n c S fz d s f L ∧ s ≤ 3 ∧ FoI m l st cs w V s X ∧ Mks w.heap.size L X.heap.size X
theorem foJ_intro {m : Mlt} {l : List Stp} {st : Nat → Int} {cs : List (Nat → Int)} {w V : World} {A : Option Addr} {n c : Nat} {S : Option Addr} {fz d : Nat} {a : Act} {X : World} (s : Nat) (L : List Deferred) (h : a = foA w.heap.size A n c S fz d s (fun i => a.tmps.getD i undef) L) (hs : s ≤ 3) (hI : FoI m l st cs w V s X) (hL : Mks w.heap.size L X.heap.size X) : FoJ m l st cs w V A n c S fz d a X := ⟨s, _, L, h, hs, hI, hL⟩
set_option maxRecDepth 100000 in
set_option maxHeartbeats 8000000 in
theorem follow_any (m : Mlt) (A : Option Addr) (c : Nat) (l : List Stp) (st : Nat → Int) (Ch : Option Addr) (cc : Nat) (cs : List (Nat → Int)) (w : World) (hG : Glob w) (hx : Rd w w.heap.size 8 A l.length (rT l)) (hk : ∀ j, j < l.length → 0 ≤ (at0 l j).kd ∧ (at0 l j).kd ≤ 255) (hn : l.length ≤ maxLen) (hc : Rd w w.heap.size 3 Ch cs.length (rN3 cs)) (hcn : cs.length ≤ maxLen) :
 Calls Tryd.prog 13 #[.agg (mltArr m), .slice A l.length c, .agg (cnArr st), .slice Ch cs.length cc] w (RetFl m l st cs w) := by
 obtain ⟨W, hW⟩ : ∃ W, W = (((w.alloc (.cells (mltArr m) 27)).alloc (.cells (cnArr st) 43)).alloc (.cells #[.slice Ch cs.length cc] 44)).alloc (.cells #[I 0, I 0, I 0] 43) := ⟨_, rfl⟩
 have hb0 : Below w.heap.size w W := by rw [hW]; exact ((((Below.refl _ _).alloc (Nat.le_refl _) _).alloc (by simp) _).alloc (by simp; omega) _).alloc (by simp; omega) _
 have r0 : W.heap[w.heap.size]? = some (.cells (mltArr m) 27 (0, 0)) := by rw [hW]; exact heap_before (heap_before (heap_before (heap_last _ _ _ rfl)))
 have r1 : W.heap[w.heap.size + 1]? = some (.cells (cnArr st) 43 (0, 0)) := by rw [hW]; exact heap_before (heap_before (heap_last _ _ _ (by simp)))
 have r2 : W.heap[w.heap.size + 1 + 1]? = some (.cells #[.slice Ch cs.length cc] 44 (0, 0)) := by rw [hW]; exact heap_before (heap_last _ _ _ (by simp))
 have r3 : W.heap[w.heap.size + 1 + 1 + 1]? = some (.cells #[I 0, I 0, I 0] 43 (0, 0)) := by rw [hW]; exact heap_last _ _ _ (by simp)
 have sW : w.heap.size + 4 = W.heap.size := by rw [hW]; simp
 have HW := Lib.hid hW
 have HY : Hid (∀ W', Below W.heap.size W W' → W'.heap[w.heap.size]? = some (.cells (mltArr m) 27 (0, 0)) ∧ W'.heap[w.heap.size + 1]? = some (.cells (cnArr st) 43 (0, 0)) ∧ W'.heap[w.heap.size + 1 + 1]? = some (.cells #[.slice Ch cs.length cc] 44 (0, 0)) ∧ W'.heap[w.heap.size + 1 + 1 + 1]? = some (.cells #[I 0, I 0, I 0] 43 (0, 0)) ∧ Rd W' w.heap.size 8 A l.length (rT l) ∧ Rd W' w.heap.size 3 Ch cs.length (rN3 cs) ∧ Glob W' ∧ Below w.heap.size w W') := fun W' h => by
  have h' := hb0.trans (h.mono hb0.size)
  exact ⟨(h.block _ (by omega)).trans r0, (h.block _ (by omega)).trans r1, (h.block _ (by omega)).trans r2, (h.block _ (by omega)).trans r3, hx.below h', hc.below h', hG.below h', h'⟩
 have Hk := Lib.hid hk
 have Hn := Lib.hid hn
 have Hcn := Lib.hid hcn
 clear hW hb0 r0 r1 r2 r3 hx hk hn hc hcn hG
 refine (callsIn_wide (n := 5)).1 ?_
 refine callsIn_of_wp_marks Tryd.func13 rfl trivial ?_ rfl
 simp only [Tryd.ntmps13, List.size_toArray, List.length_cons, List.length_nil, Nat.reduceAdd, Nat.reduceSub, Array.replicate_succ, Array.replicate_zero, List.push_toArray, List.append_toArray, List.nil_append, List.cons_append]
 refine wpIn_wide.2 ?_
 go_upto_region 1 with (fail)
 rw [← HW.out]
 have y := fun k (v : Value) (h : (mltArr m)[k]? = some v) => (show W.cell? ⟨w.heap.size, k, none⟩ = some v by rw [cell_of_row _ _ _ _ _ _ (HY.out W (Below.refl _ _)).1]; exact h)
 have y0 := y 0 _ rfl
 have y1 := y 1 _ rfl
 have y2 := y 2 _ rfl
 have y3 := y 3 _ rfl
 have y4 := y 4 _ rfl
 have y5 := y 5 _ rfl
 have y6 := y 6 _ rfl
 clear y
 go_wp2_with fail
 refine (check_any m A c l W w.heap.size (HY.out W (Below.refl _ _)).2.2.2.2.2.2.1 (by omega) (HY.out W (Below.refl _ _)).2.2.2.2.1 Hk.out Hn.out).mono ?_
 rintro e w1 ⟨rfl, hb1⟩
 have H1 : Hid (Below W.heap.size W w1) := hb1
 clear hb1 y0 y1 y2 y3 y4 y5 y6
 obtain ⟨ce, hce⟩ : ∃ q, ckF m l = q := ⟨_, rfl⟩
 rw [hce]
 by_cases h0 : ce = 0
 case neg =>
  have e1 : (ce != 0) = true := by simpa using h0
  have hE : Hid (flE m l st cs = ce) := by show _ = _; unfold flE; rw [hce, if_pos h0]
  have hE0 := Lib.hid h0
  clear h0 hce
  have r3 := (HY.out w1 H1.out).2.2.2.1
  go_upto_region 3 with (fail)
  have z0 : w1.cell? ⟨w.heap.size + 1 + 1 + 1, 0, none⟩ = some (I 0) := by rw [cell_of_row _ _ _ _ _ _ r3]; rfl
  have z1 : w1.cell? ⟨w.heap.size + 1 + 1 + 1, 1, none⟩ = some (I 0) := by rw [cell_of_row _ _ _ _ _ _ r3]; rfl
  have z2 : w1.cell? ⟨w.heap.size + 1 + 1 + 1, 2, none⟩ = some (I 0) := by rw [cell_of_row _ _ _ _ _ _ r3]; rfl
  have f0 := frozen_of_row _ _ 0 _ _ r3
  have f1 := frozen_of_row _ _ 1 _ _ r3
  have f2 := frozen_of_row _ _ 2 _ _ r3
  go_region
  all_goals rw [setCell_id r3 rfl, setCell_id r3 rfl, setCell_id r3 rfl]
  all_goals go_wp2_with fail
  all_goals exact ⟨_, results_tmp_cell_tmp rfl _ _ (w.heap.size + 1 + 1 + 1) 43 #[I 0, I 0, I 0] (0, 0) _ rfl (by rw [heap_drew]; exact r3) Tryd.underlying43 rfl (by kernel_rfl), (HY.out _ (H1.out.trans ((Below.refl _ _).drew.mono (Nat.le_refl _)))).2.2.2.2.2.2.2, .inl ⟨by rw [hE.out]; exact hE0.out, by rw [hE.out]; rfl⟩⟩
 have hE : Hid (flE m l st cs = if cs.length ≠ l.length then 2 else if (okK m l (st 0) cs 0 l.length && okK m l (st 1) cs 1 l.length && okK m l (st 2) cs 2 l.length) then 0 else 30) := by show _ = _; unfold flE; rw [hce, if_neg (by omega)]
 subst h0
 have Hcl := Lib.hid (ckF_ok hce)
 have e1 : ((0 : Int) != 0) = false := rfl
 clear hce
 have z7 : w1.cell? ⟨w.heap.size + 1 + 1, 0, none⟩ = some (.slice Ch cs.length cc) := by rw [cell_of_row _ _ _ _ _ _ (HY.out w1 H1.out).2.2.1]; rfl
 by_cases hlen : cs.length = l.length
 case neg =>
  have e2 : ((cs.length : Int) != (l.length : Int)) = true := by simp; omega
  have e3 : (cs.length != l.length) = true := by simpa using hlen
  have hE1 : Hid (flE m l st cs = 2) := by show _ = _; rw [hE.out, if_pos hlen]
  have hE0 : Hid ((2 : Int) ≠ 0) := (by decide : (2 : Int) ≠ 0)
  clear hlen hE
  have r3 := (HY.out w1 H1.out).2.2.2.1
  go_upto_region 5 with (fail)
  have z0 : w1.cell? ⟨w.heap.size + 1 + 1 + 1, 0, none⟩ = some (I 0) := by rw [cell_of_row _ _ _ _ _ _ r3]; rfl
  have z1 : w1.cell? ⟨w.heap.size + 1 + 1 + 1, 1, none⟩ = some (I 0) := by rw [cell_of_row _ _ _ _ _ _ r3]; rfl
  have z2 : w1.cell? ⟨w.heap.size + 1 + 1 + 1, 2, none⟩ = some (I 0) := by rw [cell_of_row _ _ _ _ _ _ r3]; rfl
  have f0 := frozen_of_row _ _ 0 _ _ r3
  have f1 := frozen_of_row _ _ 1 _ _ r3
  have f2 := frozen_of_row _ _ 2 _ _ r3
  go_region
  all_goals rw [setCell_id r3 rfl, setCell_id r3 rfl, setCell_id r3 rfl]
  all_goals go_wp2_with fail
  all_goals exact ⟨_, results_tmp_cell_tmp rfl _ _ (w.heap.size + 1 + 1 + 1) 43 #[I 0, I 0, I 0] (0, 0) _ rfl (by rw [heap_drew]; exact r3) Tryd.underlying43 rfl (by kernel_rfl), (HY.out _ (H1.out.trans ((Below.refl _ _).drew.mono (Nat.le_refl _)))).2.2.2.2.2.2.2, .inl ⟨by rw [hE1.out]; exact hE0.out, by rw [hE1.out]; rfl⟩⟩
 have hE2 : Hid (flE m l st cs = if (okK m l (st 0) cs 0 l.length && okK m l (st 1) cs 1 l.length && okK m l (st 2) cs 2 l.length) then 0 else 30) := by show _ = _; rw [hE.out, if_neg (by omega)]
 have e2 : ((cs.length : Int) != (l.length : Int)) = false := by simp; omega
 have e3 : (cs.length != l.length) = false := by simpa using hlen
 have Hlen := Lib.hid hlen
 obtain ⟨i0, hi0, iz0, iz1, iz2⟩ := info_parts cnt_info
 have hl200 := Hcl.out.2.1
 clear hE hlen
 go_wp2_with fail
 clear z7 e1 e2 e3
 go_loopw [35, 8] (fun i sl wr => ∃ k : Nat, k ≤ l.length ∧ i = .int .i64 k ∧ SoC 43 3 W.heap.size (fzK l k) (flat 3 (rN3 (fzL l cs k)) (fzK l k)) sl wr ∧ Below W.heap.size W wr) (fun i _ _ => l.length - (intOf i).toNat)
 case atStart => exact ⟨0, Nat.zero_le _, rfl, .inr ⟨rfl, .inl ⟨rfl, rfl⟩⟩, H1.out⟩
 case round =>
  rename World => X0
  obtain ⟨k, hk, rfl, hso, hbw⟩ := hrel
  obtain ⟨sl, hsl⟩ : ∃ s, s = u8 := ⟨_, rfl⟩
  subst hsl
  have Hso := Lib.hid hso
  have Hbw := Lib.hid hbw
  clear hso hbw
  by_cases hlt : k < l.length
  · have hki : decide ((k : Int) < (l.length : Int)) = true := decide_eq_true (by omega)
    have hkn : decide (k < l.length) = true := decide_eq_true hlt
    have hk0 : decide (0 ≤ (k : Int)) = true := decide_eq_true (by omega)
    have hkc : decide ((k : Int) < (cs.length : Int)) = true := decide_eq_true (by have := Hlen.out; omega)
    have hkd : decide (k < cs.length) = true := decide_eq_true (by have := Hlen.out; omega)
    have hkp : k < cs.length := by have := Hlen.out; omega
    obtain ⟨b, o, rfl, _, x0, x1, x2, x3, x4, x5, x6, x7⟩ := (HY.out X0 Hbw.out).2.2.2.2.1.stp hlt
    have hfk := fzK_le l k
    obtain ⟨x, hxx⟩ : ∃ x, at0 l k = x := ⟨_, rfl⟩
    rw [hxx] at x0 x1 x2 x3 x4 x5 x6 x7
    have Hxx := Lib.hid hxx
    clear hxx
    by_cases h1 : x.kd = 1
    · have e1 : (x.kd == 1) = true := by simpa using h1
      have H1 := Lib.hid h1
      clear h1
      go_upto_region 9 with (fail)
      obtain ⟨X1, hX1⟩ : ∃ X1, X1 = X0.alloc (.cells (stpArr x) 33) := ⟨_, rfl⟩
      have b01 : Below X0.heap.size X0 X1 := by rw [hX1]; exact (Below.refl _ _).alloc (Nat.le_refl _) _
      have ts : X1.heap[X0.heap.size]? = some (.cells (stpArr x) 33 (0, 0)) := by rw [hX1]; exact heap_last _ _ _ rfl
      have HL1 : Hid (Below W.heap.size W X1) := Hbw.out.trans (b01.mono Hbw.out.size)
      have hs1 := HL1.out.size
      obtain ⟨tsx, htsx⟩ : ∃ q, X0.heap.size = q := ⟨_, rfl⟩
      rw [htsx] at ts
      rw [← hX1, htsx]
      obtain ⟨p0, p1, p2, p3, p4, p5, p6, p7⟩ := stp_cells ts
      have z7 : X1.cell? ⟨w.heap.size + 1 + 1, 0, none⟩ = some (.slice Ch cs.length cc) := by rw [cell_of_row _ _ _ _ _ _ (HY.out X1 HL1.out).2.2.1]; rfl
      obtain ⟨ab, ao, rfl, _, hc⟩ := (HY.out X1 HL1.out).2.2.2.2.2.1 (by omega)
      have q0 : X1.cell? ⟨ab, ao + k * 3, none⟩ = some (I (at0 cs k 0)) := hc k hkp 0 (by omega)
      have q1 : X1.cell? ⟨ab, ao + k * 3 + 1, none⟩ = some (I (at0 cs k 1)) := hc k hkp 1 (by omega)
      have q2 : X1.cell? ⟨ab, ao + k * 3 + 2, none⟩ = some (I (at0 cs k 2)) := hc k hkp 2 (by omega)
      have so1 := Lib.hid (Hso.out.over b01)
      have HF : Hid (flat 3 (rN3 (fzL l cs (k + 1))) (fzK l (k + 1)) = flat 3 (rN3 (fzL l cs k)) (fzK l k) ++ [I (at0 cs k 0), I (at0 cs k 1), I (at0 cs k 2)] ∧ fzK l (k + 1) = fzK l k + 1) := fz_more (by rw [Hxx.out]; exact H1.out)
      have hfl := hl200
      clear hX1 b01 ts x0 x1 x2 x3 x4 x5 x6 x7 Hso hc htsx
      go_upto_region 10 with (fail)
      go_wp2_with (at_builtin; go_loud (refine wpList_app_soc rfl _ _ 44 rfl 43 i0 _ 3 24 Tryd.underlying44 hi0 iz0 iz1 iz2 rfl (by decide) W.heap.size (fzK l k) (flat 3 (rN3 (fzL l cs k)) (fzK l k)) sl rfl (so1.out.over ((Below.refl _ _).alloc (Nat.le_refl _) _)) ⟨X1.heap.size, 0, none⟩ 1 [I (at0 cs k 0), I (at0 cs k 1), I (at0 cs k 2)] rfl rfl (news_lit (cs := #[I (at0 cs k 0), I (at0 cs k 1), I (at0 cs k 2)]) (heap_last _ _ _ rfl)) (by simp [Value.oneCell']) (by simp; omega) (by omega) (by decide) ?_))
      intro v' w2 hso2 hb2
      have H2 : Hid (Below W.heap.size W w2) := HL1.out.trans (((Below.refl _ _).alloc hs1 _).trans hb2)
      have Hso2 : Hid (SoC 43 3 W.heap.size (fzK l (k + 1)) (flat 3 (rN3 (fzL l cs (k + 1))) (fzK l (k + 1))) v' w2) := by show SoC _ _ _ _ _ _ _; rw [HF.out.1, HF.out.2]; exact hso2
      clear hso2 hb2 p0 p1 p2 p3 p4 p5 p6 p7 z7 q0 q1 q2
      go_wp2_with fail
      go_roundw
      case rel => exact ⟨k + 1, hlt, by go_num, Hso2.out, H2.out⟩
      case measure => simp [intOf]; omega
    · have e1 : (x.kd == 1) = false := by simpa using h1
      have hfz : fzK l (k + 1) = fzK l k ∧ fzL l cs (k + 1) = fzL l cs k := by rw [fzK, fzL, Hxx.out, if_neg h1, if_neg h1]; exact ⟨rfl, rfl⟩
      have Hfz := Lib.hid hfz
      clear h1 hfz
      go_upto_region 9 with (fail)
      obtain ⟨X1, hX1⟩ : ∃ X1, X1 = X0.alloc (.cells (stpArr x) 33) := ⟨_, rfl⟩
      have b01 : Below X0.heap.size X0 X1 := by rw [hX1]; exact (Below.refl _ _).alloc (Nat.le_refl _) _
      have ts : X1.heap[X0.heap.size]? = some (.cells (stpArr x) 33 (0, 0)) := by rw [hX1]; exact heap_last _ _ _ rfl
      have HL1 : Hid (Below W.heap.size W X1) := Hbw.out.trans (b01.mono Hbw.out.size)
      rw [← hX1]
      obtain ⟨p0, p1, p2, p3, p4, p5, p6, p7⟩ := stp_cells ts
      have so1 := Lib.hid (Hso.out.over b01)
      clear hX1 b01 ts x0 x1 x2 x3 x4 x5 x6 x7 Hso
      go_wp2_with fail
      go_roundw
      case rel => exact ⟨k + 1, hlt, by go_num, by rw [Hfz.out.1, Hfz.out.2]; exact so1.out, HL1.out⟩
      case measure => simp [intOf]; omega
  · obtain rfl : k = l.length := by omega
    have hki : decide ((l.length : Int) < (l.length : Int)) = false := decide_eq_false (by omega)
    clear hlt
    go_upto_block 2 with (fail)
    obtain ⟨S, d, rfl, hd1, hd2, hrS⟩ := Hso.out.cl
    have HrS := Lib.hid hrS
    have Hd : Hid (fzK l l.length ≤ d ∧ d ≤ maxLen) := ⟨hd1, hd2⟩
    obtain ⟨fz, hfz⟩ : ∃ q, fzK l l.length = q := ⟨_, rfl⟩
    have Hfz := Lib.hid hfz
    rw [hfz]
    clear Hso hrS hd1 hd2 hfz hki
    have HbV := Hbw
    obtain ⟨V, hV⟩ : ∃ V, V = X0 := ⟨_, rfl⟩
    subst hV
    have rE := (HY.out V HbV.out).2.2.2.1
    have hsV := HbV.out.size
    refine (wpIn_wide (n := 5)).1 ?_
    refine name_act fun a0 ha0 => ?_
    refine wpIn_block ?_
    refine wpIn_loop (FoJ m l st cs w V A l.length c S fz d) (fun a _ => 3 - (intOf (a.tmps.getD 51 undef)).toNat) (foJ_intro 0 [] (by subst ha0; rfl) (by omega) ⟨rE, KpS.refl _, (HY.out V HbV.out).2.2.2.2.2.2.2, fun j hj => by omega⟩ trivial) ?_
    clear ha0 rE
    clear a0
    rintro _ X ⟨s, f, L, rfl, hs, hI, hL⟩
    refine wpIn_wide.2 ?_
    have HI := Lib.hid hI
    have HL := Lib.hid hL
    clear hI hL
    by_cases hs3 : s < 3
    case neg =>
        obtain rfl : s = 3 := by omega
        have hsi : decide (((3 : Nat) : Int) < 3) = false := rfl
        have r3 := HI.out.row
        have z0 : X.cell? ⟨w.heap.size + 1 + 1 + 1, 0, none⟩ = some (I (foE m l st cs 3 0)) := by rw [cell_of_row _ _ _ _ _ _ r3]; rfl
        have z1 : X.cell? ⟨w.heap.size + 1 + 1 + 1, 1, none⟩ = some (I (foE m l st cs 3 1)) := by rw [cell_of_row _ _ _ _ _ _ r3]; rfl
        have z2 : X.cell? ⟨w.heap.size + 1 + 1 + 1, 2, none⟩ = some (I (foE m l st cs 3 2)) := by rw [cell_of_row _ _ _ _ _ _ r3]; rfl
        have f0 := frozen_of_row _ _ 0 _ _ r3
        have f1 := frozen_of_row _ _ 1 _ _ r3
        have f2 := frozen_of_row _ _ 2 _ _ r3
        go_wp2_with fail
        go_region
        all_goals rw [setCell_id r3 rfl, setCell_id r3 rfl, setCell_id r3 rfl]
        all_goals go_wp2_with fail
        all_goals
         have Hz : flE m l st cs = 0 := by rw [hE2.out, if_pos (by rw [HI.out.ok 0 (by omega), HI.out.ok 1 (by omega), HI.out.ok 2 (by omega)]; rfl)]
         refine leaves_marks w.heap.size L _ _ (HL.out.keep fun k o _ ho _ => ho) fun W' hb' hk' => ⟨_, results_tmp_cell_tmp rfl _ W' (w.heap.size + 1 + 1 + 1) 43 _ (0, 0) _ rfl (hk' _ _ _ _ r3) Tryd.underlying43 rfl (by kernel_rfl), HI.out.bl.trans ((Below.refl _ _).drew.trans hb'), .inr ⟨Hz, S, d, ?_, Hd.out.1, Hd.out.2, ?_⟩⟩
         · rw [Hfz.out]; rfl
         · rw [Hfz.out]
           have hcl := HrS.out
           rw [Hfz.out] at hcl
           refine hcl.row' (B' := w.heap.size) (by omega) fun b o hb ho hc => ?_
           match o, hc with
           | .cells cu ty fr, _ => exact hk' _ _ _ _ ((HI.out.kp.1 b (Array.getElem?_eq_some_iff.1 ho).1 (by omega)).trans ho)
    have hsi : decide ((s : Int) < 3) = true := decide_eq_true (by omega)
    have hsn : decide (s < 3) = true := decide_eq_true hs3
    have hs0 : decide (0 ≤ (s : Int)) = true := decide_eq_true (by omega)
    have ws : IntKind.i64.wrap ((s : Int) + 1) = ((s + 1 : Nat) : Int) := by rw [IntWalk.i64_in _ (by omega)]; rfl
    have hI := HI.out
    obtain ⟨m0, m1⟩ := ml_lo hs3 (HI.out.keep HbV.out (HY.out V HbV.out).1 (by omega) (by omega))
    clear hI
    go_upto_region 15 with (fail)
    obtain ⟨qs, hqs⟩ : ∃ q, X.heap.size = q := ⟨_, rfl⟩
    obtain ⟨X1, hX1⟩ : ∃ X1, X1 = X.alloc (.cells #[I (s : Int)] 55) := ⟨_, rfl⟩
    have b1 : Below X.heap.size X X1 := by rw [hX1]; exact (Below.refl _ _).alloc (Nat.le_refl _) _
    have rs1 : X1.heap[qs]? = some (.cells #[I (s : Int)] 55 (0, 0)) := by rw [hX1, ← hqs]; exact heap_last _ _ _ rfl
    have hVX := HI.out.kp.2
    have hXl : qs < X1.heap.size := (Array.getElem?_eq_some_iff.1 rs1).1
    have rb1 := (b1.block (w.heap.size + 1) (by omega)).trans (HI.out.keep HbV.out (HY.out V HbV.out).2.1 (by omega) (by omega))
    have t0 : X1.cell? ⟨w.heap.size + 1, s, none⟩ = some (I (st s)) := cn_cell rb1 hs3
    have t1 : X1.cell? ⟨qs, 0, none⟩ = some (I (s : Int)) := by rw [cell_of_row _ _ _ _ _ _ rs1]; rfl
    rw [← hX1, hqs]
    have HX1 : Hid (∀ k o, k < V.heap.size → k ≠ w.heap.size + 1 + 1 + 1 → V.heap[k]? = some o → X1.heap[k]? = some o) := fun k o hk hne h => (b1.block k (by omega)).trans ((HI.out.kp.1 k hk hne).trans h)
    have Hb1 := Lib.hid b1
    have HL1 : Hid (Mks w.heap.size L X.heap.size X1) := HL.out.keep fun k o hk ho _ => (b1.block k hk).trans ho
    have HRs := Lib.hid rs1
    have HMl : Hid (X1.heap[w.heap.size]? = some (.cells (mltArr m) 27 (0, 0))) := HX1.out _ _ (by omega) (by omega) (HY.out V HbV.out).1
    have hq1 : V.heap.size ≤ qs := by omega
    rw [hqs] at HL1 Hb1
    clear hX1 b1 rb1 m0 m1 rs1 hqs
    go_upto_region 16 with (fail)
    obtain ⟨qd, hqd⟩ : ∃ q, X1.heap.size = q := ⟨_, rfl⟩
    obtain ⟨X2, hX2⟩ : ∃ X2, X2 = X1.alloc (.cells #[I (st s)] 3) := ⟨_, rfl⟩
    have b2 : Below X1.heap.size X1 X2 := by rw [hX2]; exact (Below.refl _ _).alloc (Nat.le_refl _) _
    have rd2 : X2.heap[qd]? = some (.cells #[I (st s)] 3 (0, 0)) := by rw [hX2, ← hqd]; exact heap_last _ _ _ rfl
    have rs2 := (b2.block qs hXl).trans HRs.out
    have rm2 := (b2.block w.heap.size (by omega)).trans HMl.out
    obtain ⟨m0, m1⟩ := ml_lo hs3 rm2
    have y0 := ovr_cell m0
    have y1 := ovr_cell m1
    have y2 := ovr_cell (show X2.cell? ⟨qd, 0, none⟩ = some (I (st s)) by rw [cell_of_row _ _ _ _ _ _ rd2]; rfl)
    have y3 := ovr_cell (show X2.cell? ⟨qs, 0, none⟩ = some (I (s : Int)) by rw [cell_of_row _ _ _ _ _ _ rs2]; rfl)
    rw [← hX2, hqd]
    rw [hqd] at b2 hXl
    have hdl : qd < X2.heap.size := (Array.getElem?_eq_some_iff.1 rd2).1
    have Hb2 := Lib.hid b2
    have Hrd2 := Lib.hid rd2
    have Hrs2 := Lib.hid rs2
    obtain ⟨b0, hb0⟩ : ∃ b, okK m l (st s) cs s 0 = b := ⟨_, rfl⟩
    have Hb0 := Lib.hid hb0
    have cw : Hid (∀ W, Calls Tryd.prog 31 #[I (st s), I (m.ct (s * 2)), I (m.ct (s * 2 + 1))] W fun e w' => e = .returned (.bool b0) ∧ Below W.heap.size W w') := fun W => (within_any (st s) (m.ct (s * 2)) (m.ct (s * 2 + 1)) W).mono fun e w' ⟨he, hw⟩ => ⟨by rw [he, ← hb0]; rfl, hw ▸ Below.refl _ _⟩
    clear hX2 b2 rd2 rs2 rm2 m0 m1 t0 t1 hb0
    refine wp_region_make_last (fun j => if j = 11 then some (fun u _ => u = .bool b0) else if j = 12 then some (NewAt X2 #[.bool false] 4) else none) (by kernel_rfl) (by kernel_rfl) (by kernel_rfl) (by kernel_rfl) rfl ?_
    simp only [skipLast_two, skipLast_one, lastOf_two, lastOf_one]
    repeat (refine wpG_one rfl rfl rfl ?_; intro K hK; go_big_quiet_op; go_big_quiet_on)
    refine wpG_make (fun u _ => u = .bool b0) rfl rfl (fun w' hw' _ => ?_) (fun u hu => ?_)
    · go_simp
      exact call_grow (cw.out w')
    obtain ⟨_, _, rfl⟩ := hu
    simp only [Act.put, List.setIfInBounds_toArray, List.set_cons_zero, List.set_cons_succ]
    refine wpG_make (NewAt X2 #[.bool false] 4) rfl rfl (fun w' hw' _ => ?_) (fun u hu => ?_)
    · go_simp
      exact new_grow hw'
    obtain ⟨_, _, xb, rfl, _, hxb⟩ := hu
    simp only [Act.put, List.setIfInBounds_toArray, List.set_cons_zero, List.set_cons_succ]
    repeat (refine wpG_one rfl rfl rfl ?_; intro K hK; go_big_quiet_op; go_big_quiet_on)
    refine wpG_nil (fun w5 hw5 hG => ?_)
    have hx5 := (Box.now hG.2).at.1
    clear hG
    have z0 : w5.cell? ⟨xb, 0, none⟩ = some (.bool false) := by rw [cell_of_row _ _ _ _ _ _ hx5]; rfl
    have z1 := frozen_of_row _ _ 0 _ _ hx5
    unfold Oper.wp
    go_simp
    obtain ⟨X3, hX3⟩ : ∃ X3, X3 = w5.setCell ⟨xb, 0, none⟩ (.bool b0) := ⟨_, rfl⟩
    have rx3 : X3.heap[xb]? = some (.cells #[.bool b0] 4 (0, 0)) := by rw [hX3]; exact rs hx5 0 _
    have b3 : Below X2.heap.size X2 X3 := by rw [hX3]; exact Below.setCell hw5.le (p := ⟨xb, 0, none⟩) hxb _
    have b03 : Below qs X X3 := (Hb1.out.trans (Hb2.out.mono (by omega))).trans (b3.mono (by omega))
    rw [← hX3]
    have hxl := (Array.getElem?_eq_some_iff.1 rx3).1
    have HI3 : Hid (FoI m l st cs w V s X3) := ⟨(b03.block _ (by omega)).trans HI.out.row, HI.out.kp.trans (KpS.of_below b03 hq1), HI.out.bl.trans (b03.mono (by omega)), HI.out.ok⟩
    have HL3 : Hid (Mks w.heap.size L qs X3) := HL1.out.keep fun k o hk ho _ => ((Hb2.out.trans (b3.mono (by omega))).block k (by omega)).trans ho
    have Hrd3 := Lib.hid ((b3.block qd hdl).trans Hrd2.out)
    have Hrs3 := Lib.hid ((b3.block qs (by omega)).trans Hrs2.out)
    have Hrx3 := Lib.hid rx3
    have zx : X3.cell? ⟨xb, 0, none⟩ = some (.bool b0) := by rw [cell_of_row _ _ _ _ _ _ rx3]; rfl
    have hs3' := b03.size
    clear hX3 rx3 b3 b03 hw5 hx5 z0 z1 y0 y1 y2 y3
    rcases b0 with _ | _
    · have Hf : Hid (flE m l st cs = 30) := bad30 hs3 hE2.out (by have := okK_no Hb0.out l.length; rwa [Nat.zero_add] at this)
      have r3 := HI3.out.row
      have z0 : X3.cell? ⟨w.heap.size + 1 + 1 + 1, 0, none⟩ = some (I (foE m l st cs s 0)) := by rw [cell_of_row _ _ _ _ _ _ r3]; rfl
      have z1 : X3.cell? ⟨w.heap.size + 1 + 1 + 1, 1, none⟩ = some (I (foE m l st cs s 1)) := by rw [cell_of_row _ _ _ _ _ _ r3]; rfl
      have z2 : X3.cell? ⟨w.heap.size + 1 + 1 + 1, 2, none⟩ = some (I (foE m l st cs s 2)) := by rw [cell_of_row _ _ _ _ _ _ r3]; rfl
      have f0 := frozen_of_row _ _ 0 _ _ r3
      have f1 := frozen_of_row _ _ 1 _ _ r3
      have f2 := frozen_of_row _ _ 2 _ _ r3
      go_wp2_with fail
      refine leaves_marks w.heap.size L qs _ (HL3.out.keep fun k o _ ho hc => ?_) fun W' hb' hk' => ⟨_, results_tmp_cell_tmp rfl _ W' (w.heap.size + 1 + 1 + 1) 43 #[I 0, I 0, I 0] (0, 0) _ rfl (hk' _ _ _ _ (rs (rs (rs r3 0 _) 1 _) 2 _)) Tryd.underlying43 rfl (by kernel_rfl), ?_⟩
      · have hne : k ≠ w.heap.size + 1 + 1 + 1 := by rintro rfl; rw [r3] at ho; cases ho; cases hc
        exact ro (ro (ro ho hne) hne) hne
      · refine ⟨Below.trans (Below.setCell (Below.setCell (Below.setCell HI3.out.bl (p := ⟨w.heap.size + 1 + 1 + 1, 0, none⟩) (by show w.heap.size ≤ w.heap.size + 1 + 1 + 1; omega) _) (p := ⟨w.heap.size + 1 + 1 + 1, 1, none⟩) (by show w.heap.size ≤ w.heap.size + 1 + 1 + 1; omega) _) (p := ⟨w.heap.size + 1 + 1 + 1, 2, none⟩) (by show w.heap.size ≤ w.heap.size + 1 + 1 + 1; omega) _) hb', .inl ⟨by rw [Hf.out]; decide, by rw [Hf.out]; rfl⟩⟩
    have rm3 := HI3.out.keep HbV.out (HY.out V HbV.out).1 (by omega) (by omega)
    have y := fun k (v : Value) (h : (mltArr m)[k]? = some v) => (show X3.cell? ⟨w.heap.size, k, none⟩ = some v by rw [cell_of_row _ _ _ _ _ _ rm3]; exact h)
    have y0 := y 0 _ rfl
    have y1 := y 1 _ rfl
    have y2 := y 2 _ rfl
    have y3 := y 3 _ rfl
    have y4 := y 4 _ rfl
    have y5 := y 5 _ rfl
    have y6 := y 6 _ rfl
    have y7 : X3.cell? ⟨qs, 0, none⟩ = some (I (s : Int)) := by rw [cell_of_row _ _ _ _ _ _ Hrs3.out]; rfl
    have y8 : X3.cell? ⟨qd, 0, none⟩ = some (I (st s)) := by rw [cell_of_row _ _ _ _ _ _ Hrd3.out]; rfl
    clear y
    go_wp2_with fail
    refine (walk_any m A l.length c s (st s) _ ⟨_, _, _, rfl⟩ X3).mono ?_
    rintro e V6 ⟨rfl, hV6⟩
    have HV6 := Lib.hid hV6
    clear hV6 y0 y1 y2 y3 y4 y5 y6 y7 y8 zx
    go_wp2_with fail
    obtain ⟨k6, hk6⟩ : ∃ k, X3.heap.size = k := ⟨_, rfl⟩
    rw [hk6]
    have hB6 : Below k6 X3 V6 := by rw [HV6.out, ← hk6]; exact (((Below.refl _ _).alloc (Nat.le_refl _) _).alloc (by simp) _).alloc (by simp; omega) _
    have HI6 : Hid (FoI m l st cs w V s V6) := ⟨(hB6.block _ (by omega)).trans HI3.out.row, HI3.out.kp.trans (KpS.of_below hB6 (by omega)), HI3.out.bl.trans (hB6.mono (by omega)), HI3.out.ok⟩
    have hY6 : ∀ W', (∀ k, k < w.heap.size → W'.heap[k]? = V6.heap[k]?) → Rd W' w.heap.size 8 A l.length (rT l) ∧ Rd W' w.heap.size 3 Ch cs.length (rN3 cs) := fun W' h => by
        have hk : ∀ b o, b < w.heap.size → W'.cell? ⟨b, o, none⟩ = V.cell? ⟨b, o, none⟩ := fun b o hb => by
         unfold World.cell?
         rw [h b hb, HI6.out.kp.1 b (by omega) (by omega)]
        exact ⟨(HY.out V HbV.out).2.2.2.2.1.keep fun b o hb => hk b o hb, (HY.out V HbV.out).2.2.2.2.2.1.keep fun b o hb => hk b o hb⟩
    obtain ⟨hwg, sV6⟩ := wg_made (B := w.heap.size) HV6.out hk6 (hY6 V6 fun _ _ => rfl).1 (by have := HI6.out.bl.size; omega)
    have rc6 := HI6.out.keep HbV.out (HY.out V HbV.out).2.2.1 (by omega) (by omega)
    have rd6 := (hB6.block qd (by omega)).trans Hrd3.out
    have rs6 := (hB6.block qs (by omega)).trans Hrs3.out
    have rx6 := (hB6.block xb (by omega)).trans Hrx3.out
    have hC0 : FoC m l (st s) cs s xb (w.heap.size + 1 + 1) qs Ch cc w.heap.size 0 V6 := ⟨by rw [Hb0.out]; exact rx6, ⟨_, rx6⟩, rc6, rs6, (hY6 V6 fun _ _ => rfl).2, by have := HI6.out.bl.size; omega, by omega, by omega, by omega⟩
    have hwa : WgAt V6.heap.size (fun k => k = qd ∨ k = xb) w.heap.size (k6 + 1) k6 (k6 + 2) := ⟨by omega, fun k hk => by omega, ⟨by omega, by omega⟩, ⟨by omega, by omega⟩, ⟨by omega, by omega⟩⟩
    have hst : 0 ≤ st s ∧ st s ≤ 1000000000000 := by
        have h1 := Hb0.out
        have h2 : wiB (st s) (m.ct (s * 2)) (m.ct (s * 2 + 1)) = true := h1
        unfold wiB at h2
        simp only [Bool.and_eq_true, decide_eq_true_eq] at h2
        have h3 : bdB m.ct 1000000000000 = true := by have h4 := Hcl.out.1; unfold isM at h4; rw [Bool.and_eq_true] at h4; exact h4.2
        have h5 := bdB_at h3 hs3
        omega
    have HL6 : Hid (Mks w.heap.size L qs V6) := HL3.out.keep fun k o hk ho _ => (hB6.block k (by omega)).trans ho
    have HY6 := Lib.hid hY6
    clear hB6 hY6 rc6 rs6 rx6 HV6
    refine (wpIn_wide (n := 5)).1 ?_
    refine name_act fun a0 ha0 => ?_
    refine rangeFunc_told rfl (by omega) (gf := 58) (lb := #[.pointer (some ⟨k6 + 1, 0, none⟩), .pointer (some ⟨k6, 0, none⟩), .pointer (some ⟨k6 + 2, 0, none⟩)]) (by rw [ha0]; rfl) trivial (enters_of Tryd.func58 (by kernel_rfl) rfl)
        (walkF_all m (tdG cs s) s (st s) l A c w.heap.size (k6 + 1) k6 (k6 + 2) xb V6.heap.size 4 (w.heap.size + 1 + 1) qs (fun k => k = qd) (FoC m l (st s) cs s xb (w.heap.size + 1 + 1) qs Ch cc w.heap.size) (fun k => TdT xb (wiB (at0 cs k s) (chF (at0 l k) s (wkG m (tdG cs s) s (st s) l k) (msK m l k)).1 (chF (at0 l k) s (wkG m (tdG cs s) s (st s) l k) (msK m l k)).2)) V6 (by omega) (tdG_mild cs s) hs3 hst hl200 Hcl.out.1 Hcl.out.2.2 hwa
         (fun k U V h hk => h.kp hk ⟨by omega, by omega⟩ ⟨by omega, by omega⟩ ⟨by omega, by omega⟩ ⟨by omega, fun b hb => by omega⟩)
         (fun k U V h ht => h.td ht) (fun k U V h => h.1) (by omega)
         (fun k W' hk h => told_any cs Ch cc w.heap.size xb (w.heap.size + 1 + 1) qs s k _ _ W' h.2 (by rw [Hlen.out]; exact hk) hs3) (Nat.le_refl _) hwg hC0)
        (fun _ W W' row h hg hr => h.own (n := V6.heap.size) hg (fun r e => (hr r e).1) (by omega) (by omega) (by omega) (by omega))
        (fun h h' => KpS.trans h h') (fun W l o o' hl h _ _ => ⟨fun k hk _ => World.putObj_heap_other (by omega), by simp⟩) (fun _ => rfl)
        (fun k W => W.heap[qd]? = some (.cells #[I (wkG m (tdG cs s) s (st s) l k)] 3 (0, 0)) ∧ KpS V6.heap.size (fun k => k = qd ∨ k = xb) V6 W ∧ Below w.heap.size w W)
        (fun k W W' row h hg hr => ⟨row_kept h.1 hg hr, h.2.1.grown h.2.1.2 hg (fun r e => (hr r e).1), h.2.2.grown hg h.2.2.size (fun r e => by have := (hr r e).1; omega)⟩)
        (fun k U V h ht => ⟨(ht.1.block qd (Array.getElem?_eq_some_iff.1 h.1).1 (fun e => by have := Option.some.inj e; omega)).trans h.1, h.2.1.trans ((KpS.of_grown ht.1 h.2.1.2).wide fun _ => .inr), h.2.2.grown ht.1 h.2.2.size (fun r e => by have := Option.some.inj e; omega)⟩)
        (fun k U V h => KeepsFrom.of_grownBy h.1 (fun j e => by have := Option.some.inj e; omega))
        ⟨rd6, KpS.refl _, HI6.out.bl⟩
        (fun k a' W => ∃ Bx, W.heap[Bx]? = some (.cells (lvG m (tdG cs s) s (st s) l k) 42 (0, 0)) ∧ V6.heap.size ≤ Bx ∧
         a' = { tmps := (((a0.tmps.setIfInBounds 78 (I k)).setIfInBounds 79 (.agg (lvG m (tdG cs s) s (st s) l k))).setIfInBounds 19 (.pointer (some ⟨Bx, 0, none⟩))), defers := [] })
        (fun k a' s W W' row hs hg hr => by
         obtain ⟨Bx, h1, h2, h3⟩ := hs
         exact ⟨Bx, row_kept h1 hg hr, h2, h3⟩) ?assign ?body ?done
    case assign =>
        intro l' k W K hk hi' hK
        have hK' := hK
        have hI' := hi'
        clear hK hi'
        subst ha0
        gi_wp2
        exact hK' _ _ ((KeepsOthers.alloc _ _).from _) ⟨fun k hk _ => Below.heap_alloc _ _ _ (by have := hI'.2.1.2; omega), by simp⟩ ⟨heap_before hI'.1, hI'.2.1.trans (KpS.of_below ((Below.refl _ _).alloc (Nat.le_refl _) _) hI'.2.1.2), hI'.2.2.alloc hI'.2.2.size _⟩ ⟨W.heap.size, heap_last _ _ _ rfl, hI'.2.1.2, rfl⟩
    case body =>
        rintro l' k a' X7 hl2 hk hI ⟨Bx, hBx, hBl, rfl⟩
        subst ha0
        have hF := Wd.round l'
        have z0 : X7.cell? ⟨Bx, 2, none⟩ = some (I (wkG m (tdG cs s) s (st s) l (k + 1))) := by rw [cell_of_row _ _ _ _ _ _ hBx]; rfl
        have z1 : X7.cell? ⟨qd, 0, none⟩ = some (I (wkG m (tdG cs s) s (st s) l k)) := by rw [cell_of_row _ _ _ _ _ _ hI.1]; rfl
        have z2 := frozen_of_row _ _ 0 _ _ hI.1
        have HI7 := Lib.hid hI
        clear hI hBx
        gi_wp2
        exact ⟨(KeepsOthers.setCell _ _ _).from _, ⟨fun k hk hne => heap_setCell_other _ _ _ _ hne, by simp⟩, rs HI7.out.1 0 _, HI7.out.2.1.trans ⟨fun k hk hne => heap_setCell_other _ _ _ _ (fun e => hne (.inl e)), by simp⟩, HI7.out.2.2.setCell (p := ⟨qd, 0, none⟩) (by show w.heap.size ≤ qd; omega) _⟩
    case done =>
        rintro D X7 hD hI hE hK
        subst ha0
        obtain ⟨ob, hob⟩ : ∃ b, okK m l (st s) cs s l.length = b := ⟨_, rfl⟩
        have hx7 := hE.1
        rw [hob] at hx7
        obtain ⟨dv, hdv⟩ : ∃ q, wkG m (tdG cs s) s (st s) l l.length = q := ⟨_, rfl⟩
        rw [hdv] at hI
        have HI7 : Hid (FoI m l st cs w V s X7) := ⟨(hI.2.1.1 _ (by omega) (by omega)).trans HI6.out.row, HI6.out.kp.trans ⟨fun k hk hne => hI.2.1.1 k (by omega) (by omega), hI.2.1.2⟩, hI.2.2, HI6.out.ok⟩
        have HL7 : Hid (Mks w.heap.size ({ target := .collected D, args := #[] } :: L) X7.heap.size X7) := ⟨D, rfl, by omega, (Array.getElem?_eq_some_iff.1 hK).1, hK, (HL6.out.keep fun k o hk ho hc => (hI.2.1.1 k (by omega) (by omega)).trans ho).more (by omega)⟩
        obtain ⟨L2, hL2⟩ : ∃ L2, ({ target := .collected D, args := #[] } : Deferred) :: L = L2 := ⟨_, rfl⟩
        rw [hL2] at HL7 ⊢
        clear hL2
        have hsz := hI.2.1.2
        have r7s := (hI.2.1.1 qs (by omega) (by omega)).trans ((HY6.out X7 (fun k hk => hI.2.1.1 k (by omega) (by omega))) |> fun _ => hE.2.s |> fun h => (hI.2.1.1 qs (by omega) (by omega)).symm.trans h)
        have zx : X7.cell? ⟨xb, 0, none⟩ = some (.bool ob) := by rw [cell_of_row _ _ _ _ _ _ hx7]; rfl
        have y7 : X7.cell? ⟨qs, 0, none⟩ = some (I (s : Int)) := by rw [cell_of_row _ _ _ _ _ _ r7s]; rfl
        have y8 : X7.cell? ⟨qd, 0, none⟩ = some (I dv) := by rw [cell_of_row _ _ _ _ _ _ hI.1]; rfl
        have Hob := Lib.hid hob
        have Hdv := Lib.hid hdv
        have r3 := HI7.out.row
        clear hI hE hK hob hdv hx7 r7s hwg hC0 hwa rd6 hst
        rcases ob with _ | _
        · have Hf : Hid (flE m l st cs = 30) := bad30 hs3 hE2.out Hob.out
          have z0 : X7.cell? ⟨w.heap.size + 1 + 1 + 1, 0, none⟩ = some (I (foE m l st cs s 0)) := by rw [cell_of_row _ _ _ _ _ _ r3]; rfl
          have z1 : X7.cell? ⟨w.heap.size + 1 + 1 + 1, 1, none⟩ = some (I (foE m l st cs s 1)) := by rw [cell_of_row _ _ _ _ _ _ r3]; rfl
          have z2 : X7.cell? ⟨w.heap.size + 1 + 1 + 1, 2, none⟩ = some (I (foE m l st cs s 2)) := by rw [cell_of_row _ _ _ _ _ _ r3]; rfl
          have f0 := frozen_of_row _ _ 0 _ _ r3
          have f1 := frozen_of_row _ _ 1 _ _ r3
          have f2 := frozen_of_row _ _ 2 _ _ r3
          go_wp2_with fail
          refine leaves_marks w.heap.size L2 X7.heap.size _ (HL7.out.keep fun k o _ ho hc => ?_) fun W' hb' hk' => ⟨_, results_tmp_cell_tmp rfl _ W' (w.heap.size + 1 + 1 + 1) 43 #[I 0, I 0, I 0] (0, 0) _ rfl (hk' _ _ _ _ (rs (rs (rs r3 0 _) 1 _) 2 _)) Tryd.underlying43 rfl (by kernel_rfl), ?_⟩
          · have hne : k ≠ w.heap.size + 1 + 1 + 1 := by rintro rfl; rw [r3] at ho; cases ho; cases hc
            exact ro (ro (ro ho hne) hne) hne
          · refine ⟨Below.trans (Below.setCell (Below.setCell (Below.setCell HI7.out.bl (p := ⟨w.heap.size + 1 + 1 + 1, 0, none⟩) (by show w.heap.size ≤ w.heap.size + 1 + 1 + 1; omega) _) (p := ⟨w.heap.size + 1 + 1 + 1, 1, none⟩) (by show w.heap.size ≤ w.heap.size + 1 + 1 + 1; omega) _) (p := ⟨w.heap.size + 1 + 1 + 1, 2, none⟩) (by show w.heap.size ≤ w.heap.size + 1 + 1 + 1; omega) _) hb', .inl ⟨by rw [Hf.out]; decide, by rw [Hf.out]; rfl⟩⟩
        · have z0 : X7.cell? ⟨w.heap.size + 1 + 1 + 1, s, none⟩ = some (I 0) := by
           have := cn_cell (b := foE m l st cs s) r3 hs3
           rw [this]
           unfold foE
           rw [if_neg (by omega)]
          have f0 := frozen_of_row _ _ s _ _ r3
          have HF : Hid ((#[I (foE m l st cs s 0), I (foE m l st cs s 1), I (foE m l st cs s 2)] : Array Value).setIfInBounds s (I dv) = #[I (foE m l st cs (s + 1) 0), I (foE m l st cs (s + 1) 1), I (foE m l st cs (s + 1) 2)]) :=
           foE_set hs3 Hdv.out
          go_wp2_with fail
          refine ⟨foJ_intro (s + 1) L2 rfl (by omega) ⟨?_, ?_, HI7.out.bl.setCell (p := ⟨w.heap.size + 1 + 1 + 1, s, none⟩) (by show w.heap.size ≤ w.heap.size + 1 + 1 + 1; omega) _, fun j hj => ?_⟩ ?_, ?_⟩
          · rw [← HF.out]; exact rs r3 s _
          · exact HI7.out.kp.trans ⟨fun k hk hne => heap_setCell_other _ _ _ _ hne, by simp⟩
          · rcases Nat.lt_or_ge j s with h | h
            · exact HI7.out.ok j h
            · obtain rfl : j = s := by omega
              exact Hob.out
          · rw [show (X7.setCell ⟨w.heap.size + 1 + 1 + 1, s, none⟩ (I dv)).heap.size = X7.heap.size by simp]
            exact HL7.out.keep fun k o _ ho hc => ro ho (by rintro rfl; rw [r3] at ho; cases ho; cases hc)
          · show 3 - ((s + 1 : Nat) : Int).toNat < 3 - (s : Int).toNat
            omega
end Go.Proofs.YtnkaoplgmglijaaDoor
