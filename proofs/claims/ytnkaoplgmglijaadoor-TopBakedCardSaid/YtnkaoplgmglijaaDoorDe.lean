/- The contract of Anneal of package defect. -/
import Derived.Test.YtnkaoplgmglijaaDoorDan
import Derived.Test.YtnkaoplgmglijaaDoorJo
import Derived.Test.YtnkaoplgmglijaaDoorSqf
import Derived.Maps.AppendAt
namespace Go.Proofs.YtnkaoplgmglijaaDoor.Un
open Go.RowKit
theorem wp_app_own {P : Program} {o : Oper} {a : Act} {w : World} {K : Act → World → Prop} {Q : Exit → Act → World → Prop} (s x : Operand) (t : TypeId) (ho : o.op = .call { callee := .builtin .append, args := #[s, x], argTypes := #[t, t] })
 (base : Nat) (e : TypeId) (i : TypeInfo) (z : Value) (size bytes : Nat) (ht : P.underlying t = some (.slice e)) (hi : P.info? e = some i) (hz : i.zero = some z) (hsize : i.size = size) (hby : i.bytes = bytes) (hzs : z.cells.size = size) (hsz : 0 < size)
 (v : Value) (n : Nat) (xs : List Value) (hs : a.eval s = v) (hown : w.ownsRow base e size v n xs) (ad : Addr) (c : Nat) (news : List Value) (hx : a.eval x = .slice (some ad) 1 c) (hl : news.length = size) (hnews : ∀ j u, news[j]? = some u → w.cell? (ad.add j) = some u) (h1 : ∀ u ∈ news, u.oneCell' = true)
 (hn : n ≤ 1000000) (hb : bytes ≤ 1000) (hbase : base ≤ w.heap.size)
 (h : ∀ v' w', w'.ownsRow base e size v' (n + 1) (xs ++ news) → w.grownBy w' v.ownBlock → (v'.ownBlock = v.ownBlock ∨ v'.ownBlock = some w.heap.size) → K (a.put o.dst v') w') : o.wp P a w K Q := by
 have hm : (n + 1) * bytes ≤ 1000001 * 1000 := Nat.mul_le_mul (by omega) hb
 obtain ⟨v', w', hr, h2, h3, h4, h5⟩ := run_append_own_at (P := P) w base t o.type e i z size bytes ht hi hz hsize hby hzs hsz v n xs hown ad 1 c news (by rw [hl, Nat.one_mul]) hnews h1 (by unfold maxLen; omega) (by omega) hbase
 unfold Oper.wp execOp
 simp only [ho, resolve, invoke, builtin, Sem.run_bind, Sem.run_pure, Result.andThen_ok, List.map_toArray, List.map_cons, List.map_nil, hs, hx, hr]
 exact h v' w' h2 h3 h5
theorem own_other {w w' : World} {base n sz : Nat} {e : TypeId} {v : Value} {xs : List Value} (h : w.ownsRow base e sz v n xs) {row : Option Nat} (hg : w.grownBy w' row) (hne : ∀ b, v.ownBlock = some b → row ≠ some b) : w'.ownsRow base e sz v n xs := by
 refine ⟨h.1, ?_⟩
 rcases h.2 with h1 | ⟨b, cap, cur, rfl, h1, h2, h3⟩
 · exact .inl h1
 · exact .inr ⟨b, cap, cur, rfl, h1, (hg.block b (Array.getElem?_eq_some_iff.1 h2).1 (fun he => hne b rfl he.symm)).trans h2, h3⟩
theorem own_set {w : World} {base n sz q : Nat} {e : TypeId} {v : Value} {xs : List Value} (h : w.ownsRow base e sz v n xs) (hq : q < base) (cs : Array Value) : (w.setRow q cs).ownsRow base e sz v n xs := by
 refine ⟨h.1, ?_⟩
 rcases h.2 with h1 | ⟨b, cap, cur, rfl, h1, h2, h3⟩
 · exact .inl h1
 · exact .inr ⟨b, cap, cur, rfl, h1, (setRow_other (by omega)).trans h2, h3⟩
theorem own_hull {w : World} {base : Nat} {e : TypeId} {v : Value} {xs : List Rng} (h : w.ownsRow base e 2 v xs.length (rc xs)) : ∃ A c, v = .slice A xs.length c ∧ xs.length ≤ c ∧ c ≤ maxLen ∧ Rd w w.heap.size 2 A xs.length (rR xs) := by
 rw [rc_flat] at h
 exact Rd.of_own_max h
def Apart (x y : Value) : Prop := ∀ b, y.ownBlock = some b → x.ownBlock ≠ some b
theorem Apart.symm {x y : Value} (h : Apart x y) : Apart y x := fun b hb he => h b he hb
def SlNew (w0 : World) (cs : Array Value) (t : TypeId) (u : Value) (w : World) : Prop := ∃ b, u = .slice (some ⟨b, 0, none⟩) 1 1 ∧ w.heap[b]? = some (.cells cs t (0, 0)) ∧ w0.heap.size ≤ b
theorem slnew_grow {w0 w : World} {cs : Array Value} {t : TypeId} (h : Cl w0 w) : Le w (w.alloc (.cells cs t)) ∧ Box (SlNew w0 cs t) (.slice (some ⟨w.heap.size, 0, none⟩) 1 1) (w.alloc (.cells cs t)) :=
 ⟨(Below.refl _ _).alloc (Nat.le_refl _) _, fun _ h2 => ⟨_, rfl, (h2.block _ (by simp)).trans (heap_alloc_new w _), h.le.size⟩⟩
theorem SlNew.at {w0 w : World} {cs : Array Value} {t : TypeId} {b : Nat} (h : SlNew w0 cs t (.slice (some ⟨b, 0, none⟩) 1 1) w) : w.heap[b]? = some (.cells cs t (0, 0)) ∧ w0.heap.size ≤ b := by
 obtain ⟨b', e, h1, h2⟩ := h
 have : b = b' := by injection e with e1; injection e1 with e2; injection e2
 subst this
 exact ⟨h1, h2⟩
theorem below_self0 {w Y : World} (h : ∀ u, Below w.heap.size w (ovr Y u)) : Below w.heap.size w Y := by
 obtain ⟨v, hv⟩ := ovr_self Y
 have := h v
 rwa [← hv] at this
theorem below_chain0 {w Y w' : World} (h : ∀ u, Below w.heap.size w (ovr Y u)) (h2 : Below Y.heap.size Y w') : Below w.heap.size w w' := (below_self0 h).trans (h2.mono (below_self0 h).size)
theorem rng_info5 : (Tryd.prog.info? 23).map (fun i => (i.zero, i.size, i.bytes)) = some (some (.agg #[I 0, I 0]), 2, 16) := by kernel_rfl
theorem results_two_tmp {P : Program} {fn : Func} {p q t1 : Tmp} {ty ty' : TypeId} (h : fn.results = #[.cell p ty, .cell q ty', .tmp t1]) (tmps : Array Value) (w : World) (g g' : Nat) (t t' : TypeId) (cs cs' : Array Value) (fr fr' : Nat × Nat) (d d' : TypeDesc)
 (hp : tmps.getD p undef = .pointer (some ⟨g, 0, none⟩)) (hg : w.heap[g]? = some (.cells cs t fr)) (hq : tmps.getD q undef = .pointer (some ⟨g', 0, none⟩)) (hg' : w.heap[g']? = some (.cells cs' t' fr'))
 (hu : P.underlying ty = some d) (hd : (match d with | .struct _ | .array _ _ => true | _ => false) = true) (hi : (P.info? ty).map (·.size) = some cs.size)
 (hu' : P.underlying ty' = some d') (hd' : (match d' with | .struct _ | .array _ _ => true | _ => false) = true) (hi' : (P.info? ty').map (·.size) = some cs'.size) :
 (results fn tmps).run P w = .ok (.tuple #[.agg cs, .agg cs', tmps.getD t1 undef]) w := by
 have hp' : tmps[p]?.getD undef = .pointer (some ⟨g, 0, none⟩) := by simpa using hp
 have hq' : tmps[q]?.getD undef = .pointer (some ⟨g', 0, none⟩) := by simpa using hq
 simp [results, h, hp', hq', asAddr, run_loadVar_row w g t ty cs fr d hg hu hd hi, run_loadVar_row w g' t' ty' cs' fr' d' hg' hu' hd' hi', Sem.run_bind]
theorem ro2 {w : World} {k b i : Nat} {o : Obj} {v : Value} (h : w.heap[k]? = some o) (hne : k ≠ b) : (w.setCell ⟨b, i, none⟩ v).heap[k]? = some o := (heap_setCell_other w ⟨b, i, none⟩ k v hne).trans h
theorem two_cells {X : World} {b1 b2 : Nat} {t1 t2 : TypeId} {x y x' y' : Value} (h1 : X.heap[b1]? = some (.cells #[x, y] t1 (0, 0))) (h2 : X.heap[b2]? = some (.cells #[x', y'] t2 (0, 0))) (hne : b1 ≠ b2) (p q r s : Value) {base : Nat} {a : World} (hb : Below base a X) (hb1 : base ≤ b1) (hb2 : base ≤ b2) :
 (((((X.setCell ⟨b1, 0, none⟩ p).setCell ⟨b1, 1, none⟩ q).setCell ⟨b2, 0, none⟩ r).setCell ⟨b2, 1, none⟩ s).drew).heap[b1]? = some (.cells #[p, q] t1 (0, 0)) ∧ (((((X.setCell ⟨b1, 0, none⟩ p).setCell ⟨b1, 1, none⟩ q).setCell ⟨b2, 0, none⟩ r).setCell ⟨b2, 1, none⟩ s).drew).heap[b2]? = some (.cells #[r, s] t2 (0, 0)) ∧ Below base a (((((X.setCell ⟨b1, 0, none⟩ p).setCell ⟨b1, 1, none⟩ q).setCell ⟨b2, 0, none⟩ r).setCell ⟨b2, 1, none⟩ s).drew) :=
 ⟨ro2 (ro2 (rs (rs h1 0 p) 1 q) hne) hne, rs (rs (ro2 (ro2 h2 hne.symm) hne.symm) 0 r) 1 s, ((((hb.setCell hb1 p).setCell hb1 q).setCell hb2 r).setCell hb2 s).drew⟩
def anL (v : Int) (X : Nat → Rng) : Nat → List Rng
 | 0 => []
 | k + 1 => if unw v k then anL v X k else anL v X k ++ [X k]
theorem anL_len (v : Int) (X : Nat → Rng) : ∀ k, (anL v X k).length ≤ k
 | 0 => Nat.le_refl _
 | k + 1 => by
   have := anL_len v X k
   unfold anL
   split
   · omega
   · rw [List.length_append]; simp; omega
def anX (l : List Hst) (ox : Rng) (k : Nat) : Rng := ⟨ox.lo - flK moP l ox.lo k l.length, ox.hi - flK leP l ox.hi k l.length⟩
def anY (l : List Hst) (ox : Rng) (k : Nat) : Rng := ⟨flK leP l ox.lo k l.length, flK moP l ox.hi k l.length⟩
def anE (l : List Hst) (ox : Rng) (v : Int) : Int := if 30 < l.length then 5 else if l.any notSt || (!spanB ox 0 1000000 || decide (31 < v)) then 2 else if v = 0 then 7 else 0
def anF (l : List Hst) (ox : Rng) (v : Int) : Rng × Rng × Int := if anE l ox v = 0 then ((foF huF (anL v (anX l ox) 5)).1, (foF huF (anL v (anY l ox) 5)).1, 0) else (⟨0, 0⟩, ⟨0, 0⟩, anE l ox v)
set_option maxRecDepth 100000 in
set_option maxHeartbeats 4000000 in
theorem anneal_any (A : Option Addr) (c : Nat) (l : List Hst) (ox : Rng) (v : Int) (w : World) (B : Nat) (hl : l.length ≤ 1000) (hB : B ≤ w.heap.size) (hx : Rd w B 11 A l.length (rH l)) (hv : 0 ≤ v) :
 Calls Tryd.prog 14 #[.slice A l.length c, ox.val, .int .u8 v] w fun e w' => e = .returned (.tuple #[(anF l ox v).1.val, (anF l ox v).2.1.val, I (anF l ox v).2.2]) ∧ Below w.heap.size w w' := by
 have HX : Hid (∀ V, Below w.heap.size w V → Rd V B 11 A l.length (rH l) ∧ B ≤ V.heap.size) := fun V hV => ⟨hx.below (hV.mono hB), Nat.le_trans hB hV.size⟩
 have hf : Hid (anF l ox v = if anE l ox v = 0 then ((foF huF (anL v (anX l ox) 5)).1, (foF huF (anL v (anY l ox) 5)).1, 0) else (⟨0, 0⟩, ⟨0, 0⟩, anE l ox v)) := rfl
 have he : Hid (anE l ox v = if 30 < l.length then 5 else if l.any notSt || (!spanB ox 0 1000000 || decide (31 < v)) then 2 else if v = 0 then 7 else 0) := rfl
 have HL := Lib.hid hl
 obtain ⟨xl, xh⟩ := ox
 clear hx hB hl
 obtain ⟨W, hW⟩ : ∃ W, W = (((w.alloc (.cells #[I xl, I xh] 23)).alloc (.cells #[I 0, I 0] 23)).alloc (.cells #[I 0, I 0] 23)) := ⟨_, rfl⟩
 have rowW0 : W.heap[w.heap.size]? = some (.cells #[I xl, I xh] 23 (0, 0)) := by rw [hW]; exact heap_before (heap_before (heap_last _ _ _ rfl))
 have yW00 := ovr_cell (W := W) (b := w.heap.size) (o := 0) (v := I xl) (by rw [cell_of_row _ _ _ _ _ _ rowW0]; rfl)
 have yW01 := ovr_cell (W := W) (b := w.heap.size) (o := 1) (v := I xh) (by rw [cell_of_row _ _ _ _ _ _ rowW0]; rfl)
 have RrowW0 := Lib.hid (ovr_row rowW0)
 clear rowW0
 have rowW1 : W.heap[w.heap.size + 1]? = some (.cells #[I 0, I 0] 23 (0, 0)) := by rw [hW]; exact heap_before (heap_last _ _ _ (by simp))
 have yW10 := ovr_cell (W := W) (b := w.heap.size + 1) (o := 0) (v := I 0) (by rw [cell_of_row _ _ _ _ _ _ rowW1]; rfl)
 have yW11 := ovr_cell (W := W) (b := w.heap.size + 1) (o := 1) (v := I 0) (by rw [cell_of_row _ _ _ _ _ _ rowW1]; rfl)
 have RrowW1 := Lib.hid (ovr_row rowW1)
 clear rowW1
 have rowW2 : W.heap[w.heap.size + 1 + 1]? = some (.cells #[I 0, I 0] 23 (0, 0)) := by rw [hW]; exact heap_last _ _ _ (by simp)
 have yW20 := ovr_cell (W := W) (b := w.heap.size + 1 + 1) (o := 0) (v := I 0) (by rw [cell_of_row _ _ _ _ _ _ rowW2]; rfl)
 have yW21 := ovr_cell (W := W) (b := w.heap.size + 1 + 1) (o := 1) (v := I 0) (by rw [cell_of_row _ _ _ _ _ _ rowW2]; rfl)
 have RrowW2 := Lib.hid (ovr_row rowW2)
 clear rowW2
 have HUW : Hid (∀ u, Below w.heap.size w (ovr W u)) := U3 hW
 have HW := Lib.hid hW
 clear hW
 go_enter Tryd.func14, Tryd.ntmps14
 go_upto_region 1 with (fail)
 rw [← HW.out]
 obtain ⟨u0, hu0⟩ := ovr_self W
 rw [hu0]
 clear hu0
 by_cases h1 : 30 < l.length
 case pos =>
  replace hf : Hid (anF l ⟨xl, xh⟩ v = (⟨0, 0⟩, ⟨0, 0⟩, 5)) := by show _ = _; rw [hf.out, he.out, if_pos h1]; rfl
  have d1 : decide ((30 : Int) < (l.length : Int)) = true := decide_eq_true (by omega)
  go_upto_region 2 with fail
  have z10 : (ovr W u0).frozen? ⟨w.heap.size + 1, 0, none⟩ = false := frozen_of_row _ _ _ _ _ (RrowW1.out u0)
  have z11 : (ovr W u0).frozen? ⟨w.heap.size + 1, 1, none⟩ = false := frozen_of_row _ _ _ _ _ (RrowW1.out u0)
  have z20 : (ovr W u0).frozen? ⟨w.heap.size + 1 + 1, 0, none⟩ = false := frozen_of_row _ _ _ _ _ (RrowW2.out u0)
  have z21 : (ovr W u0).frozen? ⟨w.heap.size + 1 + 1, 1, none⟩ = false := frozen_of_row _ _ _ _ _ (RrowW2.out u0)
  go_region
  obtain ⟨g1, g2, g3⟩ := two_cells (RrowW1.out u0) (RrowW2.out u0) (Nat.ne_of_lt (Nat.lt_succ_self _)) (I 0) (I 0) (I 0) (I 0) (HUW.out u0) (Nat.le_succ _) (Nat.le_trans (Nat.le_succ _) (Nat.le_succ _))
  generalize ((((((ovr W u0).setCell ⟨w.heap.size + 1, 0, none⟩ (I 0)).setCell ⟨w.heap.size + 1, 1, none⟩ (I 0)).setCell ⟨w.heap.size + 1 + 1, 0, none⟩ (I 0)).setCell ⟨w.heap.size + 1 + 1, 1, none⟩ (I 0)).drew) = Z at *
  go_wp2_with fail
  refine bodyPost_ret (results_two_tmp rfl _ _ (w.heap.size + 1) (w.heap.size + 1 + 1) 23 23 _ _ (0, 0) (0, 0) _ _ rfl g1 rfl g2 Tryd.underlying23 rfl (by kernel_rfl) Tryd.underlying23 rfl (by kernel_rfl)) rfl ?_
  exact ⟨by rw [hf.out]; rfl, g3⟩
 have d1 : decide ((30 : Int) < (l.length : Int)) = false := decide_eq_false (by omega)
 replace he : Hid (anE l ⟨xl, xh⟩ v = if l.any notSt || (!spanB ⟨xl, xh⟩ 0 1000000 || decide (31 < v)) then 2 else if v = 0 then 7 else 0) := by show _ = _; rw [he.out, if_neg h1]
 have CA : Hid (∀ V, Below w.heap.size w V → Calls Tryd.prog 33 #[.slice A l.length c, .func (Fn.func 34) #[] #[]] V fun e w' => e = .returned (.bool (l.any notSt)) ∧ Below V.heap.size V w') := fun V hV => an1_has A c l V B (by have := HL.out; unfold maxLen; omega) (HX.out V hV).2 (HX.out V hV).1
 have CR := Lib.hid fun W => isRange_any ⟨xl, xh⟩ 0 1000000 W
 rcases h2 : l.any notSt with _ | _ <;> rw [h2] at CA he
 case true =>
  replace hf : Hid (anF l ⟨xl, xh⟩ v = (⟨0, 0⟩, ⟨0, 0⟩, 2)) := by show _ = _; rw [hf.out, he.out]; rfl
  go_wp2_with (go_at_call 33; refine Hid.out ?_)
  refine Lib.hid ?_
  refine (CA.out _ (HUW.out u0)).mono ?_
  rintro e w1 ⟨rfl, hb1⟩
  obtain ⟨u1, rfl⟩ := ovr_next hb1
  clear hb1
  go_upto_region 4 with fail
  have z10 : (ovr W u1).frozen? ⟨w.heap.size + 1, 0, none⟩ = false := frozen_of_row _ _ _ _ _ (RrowW1.out u1)
  have z11 : (ovr W u1).frozen? ⟨w.heap.size + 1, 1, none⟩ = false := frozen_of_row _ _ _ _ _ (RrowW1.out u1)
  have z20 : (ovr W u1).frozen? ⟨w.heap.size + 1 + 1, 0, none⟩ = false := frozen_of_row _ _ _ _ _ (RrowW2.out u1)
  have z21 : (ovr W u1).frozen? ⟨w.heap.size + 1 + 1, 1, none⟩ = false := frozen_of_row _ _ _ _ _ (RrowW2.out u1)
  go_region
  obtain ⟨g1, g2, g3⟩ := two_cells (RrowW1.out u1) (RrowW2.out u1) (Nat.ne_of_lt (Nat.lt_succ_self _)) (I 0) (I 0) (I 0) (I 0) (HUW.out u1) (Nat.le_succ _) (Nat.le_trans (Nat.le_succ _) (Nat.le_succ _))
  generalize ((((((ovr W u1).setCell ⟨w.heap.size + 1, 0, none⟩ (I 0)).setCell ⟨w.heap.size + 1, 1, none⟩ (I 0)).setCell ⟨w.heap.size + 1 + 1, 0, none⟩ (I 0)).setCell ⟨w.heap.size + 1 + 1, 1, none⟩ (I 0)).drew) = Z at *
  go_wp2_with fail
  refine bodyPost_ret (results_two_tmp rfl _ _ (w.heap.size + 1) (w.heap.size + 1 + 1) 23 23 _ _ (0, 0) (0, 0) _ _ rfl g1 rfl g2 Tryd.underlying23 rfl (by kernel_rfl) Tryd.underlying23 rfl (by kernel_rfl)) rfl ?_
  exact ⟨by rw [hf.out]; rfl, g3⟩
 rcases h3 : spanB ⟨xl, xh⟩ 0 1000000 with _ | _ <;> rw [h3] at CR he
 case false =>
  replace hf : Hid (anF l ⟨xl, xh⟩ v = (⟨0, 0⟩, ⟨0, 0⟩, 2)) := by show _ = _; rw [hf.out, he.out]; rfl
  go_wp2_with fail
  refine (CA.out _ (HUW.out u0)).mono ?_
  rintro e w1 ⟨rfl, hb1⟩
  obtain ⟨u1, rfl⟩ := ovr_next hb1
  clear hb1
  go_wp2_with fail
  refine (CR.out _).mono ?_
  rintro e w1 ⟨rfl, hb1⟩
  obtain ⟨u2, rfl⟩ := ovr_next hb1
  clear hb1
  go_upto_region 4 with fail
  have z10 : (ovr W u2).frozen? ⟨w.heap.size + 1, 0, none⟩ = false := frozen_of_row _ _ _ _ _ (RrowW1.out u2)
  have z11 : (ovr W u2).frozen? ⟨w.heap.size + 1, 1, none⟩ = false := frozen_of_row _ _ _ _ _ (RrowW1.out u2)
  have z20 : (ovr W u2).frozen? ⟨w.heap.size + 1 + 1, 0, none⟩ = false := frozen_of_row _ _ _ _ _ (RrowW2.out u2)
  have z21 : (ovr W u2).frozen? ⟨w.heap.size + 1 + 1, 1, none⟩ = false := frozen_of_row _ _ _ _ _ (RrowW2.out u2)
  go_region
  obtain ⟨g1, g2, g3⟩ := two_cells (RrowW1.out u2) (RrowW2.out u2) (Nat.ne_of_lt (Nat.lt_succ_self _)) (I 0) (I 0) (I 0) (I 0) (HUW.out u2) (Nat.le_succ _) (Nat.le_trans (Nat.le_succ _) (Nat.le_succ _))
  generalize ((((((ovr W u2).setCell ⟨w.heap.size + 1, 0, none⟩ (I 0)).setCell ⟨w.heap.size + 1, 1, none⟩ (I 0)).setCell ⟨w.heap.size + 1 + 1, 0, none⟩ (I 0)).setCell ⟨w.heap.size + 1 + 1, 1, none⟩ (I 0)).drew) = Z at *
  go_wp2_with fail
  refine bodyPost_ret (results_two_tmp rfl _ _ (w.heap.size + 1) (w.heap.size + 1 + 1) 23 23 _ _ (0, 0) (0, 0) _ _ rfl g1 rfl g2 Tryd.underlying23 rfl (by kernel_rfl) Tryd.underlying23 rfl (by kernel_rfl)) rfl ?_
  exact ⟨by rw [hf.out]; rfl, g3⟩
 go_wp2_with fail
 refine (CA.out _ (HUW.out u0)).mono ?_
 rintro e w1 ⟨rfl, hb1⟩
 obtain ⟨u1, rfl⟩ := ovr_next hb1
 clear hb1
 go_wp2_with fail
 refine (CR.out _).mono ?_
 rintro e w1 ⟨rfl, hb1⟩
 obtain ⟨u2, rfl⟩ := ovr_next hb1
 clear hb1
 by_cases h4 : 31 < v
 case pos =>
  replace hf : Hid (anF l ⟨xl, xh⟩ v = (⟨0, 0⟩, ⟨0, 0⟩, 2)) := by show _ = _; rw [hf.out, he.out, decide_eq_true h4]; rfl
  go_upto_region 4 with fail
  have z10 : (ovr W u2).frozen? ⟨w.heap.size + 1, 0, none⟩ = false := frozen_of_row _ _ _ _ _ (RrowW1.out u2)
  have z11 : (ovr W u2).frozen? ⟨w.heap.size + 1, 1, none⟩ = false := frozen_of_row _ _ _ _ _ (RrowW1.out u2)
  have z20 : (ovr W u2).frozen? ⟨w.heap.size + 1 + 1, 0, none⟩ = false := frozen_of_row _ _ _ _ _ (RrowW2.out u2)
  have z21 : (ovr W u2).frozen? ⟨w.heap.size + 1 + 1, 1, none⟩ = false := frozen_of_row _ _ _ _ _ (RrowW2.out u2)
  go_region
  obtain ⟨g1, g2, g3⟩ := two_cells (RrowW1.out u2) (RrowW2.out u2) (Nat.ne_of_lt (Nat.lt_succ_self _)) (I 0) (I 0) (I 0) (I 0) (HUW.out u2) (Nat.le_succ _) (Nat.le_trans (Nat.le_succ _) (Nat.le_succ _))
  generalize ((((((ovr W u2).setCell ⟨w.heap.size + 1, 0, none⟩ (I 0)).setCell ⟨w.heap.size + 1, 1, none⟩ (I 0)).setCell ⟨w.heap.size + 1 + 1, 0, none⟩ (I 0)).setCell ⟨w.heap.size + 1 + 1, 1, none⟩ (I 0)).drew) = Z at *
  go_wp2_with fail
  refine bodyPost_ret (results_two_tmp rfl _ _ (w.heap.size + 1) (w.heap.size + 1 + 1) 23 23 _ _ (0, 0) (0, 0) _ _ rfl g1 rfl g2 Tryd.underlying23 rfl (by kernel_rfl) Tryd.underlying23 rfl (by kernel_rfl)) rfl ?_
  exact ⟨by rw [hf.out]; rfl, g3⟩
 replace he : Hid (anE l ⟨xl, xh⟩ v = if v = 0 then 7 else 0) := by show _ = _; rw [he.out, decide_eq_false h4]; rfl
 by_cases h5 : v = 0
 case pos =>
  replace hf : Hid (anF l ⟨xl, xh⟩ v = (⟨0, 0⟩, ⟨0, 0⟩, 7)) := by show _ = _; rw [hf.out, he.out, if_pos h5]; rfl
  go_upto_region 6 with fail
  have z10 : (ovr W u2).frozen? ⟨w.heap.size + 1, 0, none⟩ = false := frozen_of_row _ _ _ _ _ (RrowW1.out u2)
  have z11 : (ovr W u2).frozen? ⟨w.heap.size + 1, 1, none⟩ = false := frozen_of_row _ _ _ _ _ (RrowW1.out u2)
  have z20 : (ovr W u2).frozen? ⟨w.heap.size + 1 + 1, 0, none⟩ = false := frozen_of_row _ _ _ _ _ (RrowW2.out u2)
  have z21 : (ovr W u2).frozen? ⟨w.heap.size + 1 + 1, 1, none⟩ = false := frozen_of_row _ _ _ _ _ (RrowW2.out u2)
  go_region
  obtain ⟨g1, g2, g3⟩ := two_cells (RrowW1.out u2) (RrowW2.out u2) (Nat.ne_of_lt (Nat.lt_succ_self _)) (I 0) (I 0) (I 0) (I 0) (HUW.out u2) (Nat.le_succ _) (Nat.le_trans (Nat.le_succ _) (Nat.le_succ _))
  generalize ((((((ovr W u2).setCell ⟨w.heap.size + 1, 0, none⟩ (I 0)).setCell ⟨w.heap.size + 1, 1, none⟩ (I 0)).setCell ⟨w.heap.size + 1 + 1, 0, none⟩ (I 0)).setCell ⟨w.heap.size + 1 + 1, 1, none⟩ (I 0)).drew) = Z at *
  go_wp2_with fail
  refine bodyPost_ret (results_two_tmp rfl _ _ (w.heap.size + 1) (w.heap.size + 1 + 1) 23 23 _ _ (0, 0) (0, 0) _ _ rfl g1 rfl g2 Tryd.underlying23 rfl (by kernel_rfl) Tryd.underlying23 rfl (by kernel_rfl)) rfl ?_
  exact ⟨by rw [hf.out]; rfl, g3⟩
 replace hf : Hid (anF l ⟨xl, xh⟩ v = ((foF huF (anL v (anX l ⟨xl, xh⟩) 5)).1, (foF huF (anL v (anY l ⟨xl, xh⟩) 5)).1, 0)) := by show _ = _; rw [hf.out, he.out, if_neg h5]; rfl
 go_upto_region 8 with fail
 have hst : ∀ i, i < l.length → stOk (at0 l i) = true := fun i hi => by
  rw [List.any_eq_false] at h2
  have := h2 (at0 l i) (by rw [at0_get hi]; exact List.getElem_mem hi)
  simpa [notSt] using this
 have hsp : 0 ≤ xl ∧ xl ≤ xh ∧ xh ≤ 1000000 := spanB_iff.1 h3
 have CM : Hid (∀ ox : Int, 0 ≤ ox ∧ ox ≤ 1000000 → ∀ k : Nat, k < 5 → ∀ V, Below w.heap.size w V → Calls Tryd.prog 38 #[.func (Fn.func 37) #[] #[], .slice A l.length c, I ox, I k] V fun e w' => e = .returned (I (flK moP l ox k l.length)) ∧ Below V.heap.size V w') := fun ox hox k hk V hV => mofalls A c l ox k V B HL.out (HX.out V hV).2 (HX.out V hV).1 hk hox hst
 have CL : Hid (∀ ox : Int, 0 ≤ ox ∧ ox ≤ 1000000 → ∀ k : Nat, k < 5 → ∀ V, Below w.heap.size w V → Calls Tryd.prog 38 #[.func (Fn.func 39) #[] #[], .slice A l.length c, I ox, I k] V fun e w' => e = .returned (I (flK leP l ox k l.length)) ∧ Below V.heap.size V w') := fun ox hox k hk V hV => lefalls A c l ox k V B HL.out (HX.out V hV).2 (HX.out V hV).1 hk hox hst
 have BM : Hid (∀ ox : Int, 0 ≤ ox ∧ ox ≤ 1000000 → ∀ k : Nat, k < 5 → 0 ≤ flK moP l ox k l.length ∧ flK moP l ox k l.length ≤ ox) := fun ox hox k hk => flK_bd (fun a r h1 h2 => ⟨(moP_bd h1 h2).1, (moP_bd h1 h2).2.1⟩) hk hox _ (Nat.le_refl _) hst
 have BL : Hid (∀ ox : Int, 0 ≤ ox ∧ ox ≤ 1000000 → ∀ k : Nat, k < 5 → 0 ≤ flK leP l ox k l.length ∧ flK leP l ox k l.length ≤ ox) := fun ox hox k hk => flK_bd (fun a r h1 h2 => ⟨(leP_bd h1 h2).1, (leP_bd h1 h2).2.1⟩) hk hox _ (Nat.le_refl _) hst
 have HSP := Lib.hid hsp
 clear he CA CR d1 hst hsp h1 h2 h3 h4
 go_wp2_with fail
 go_loopw [9, 10, 37] (fun x y i wr => ∃ (k : Nat) (u : World), k ≤ 5 ∧ i = .int .i64 k ∧ wr = ovr W u ∧ (ovr W u).ownsRow W.heap.size 23 2 x (anL v (anX l ⟨xl, xh⟩) k).length (rc (anL v (anX l ⟨xl, xh⟩) k)) ∧ (ovr W u).ownsRow W.heap.size 23 2 y (anL v (anY l ⟨xl, xh⟩) k).length (rc (anL v (anY l ⟨xl, xh⟩) k)) ∧ Apart x y) (fun _ _ i _ => 5 - (intOf i).toNat)
 case atStart => exact ⟨0, u2, by omega, rfl, rfl, World.ownsRow_nil _ _ _ _, World.ownsRow_nil _ _ _ _, fun b hb => by cases hb⟩
 case round =>
  obtain ⟨k, u, hk5, rfl, rfl, hox, hoy, hap⟩ := hrel
  by_cases hlt : k < 5
  · have HOX := Lib.hid hox
    have HOY := Lib.hid hoy
    have HAP := Lib.hid hap
    have HLT := Lib.hid hlt
    clear hox hoy hap
    by_cases hu : bits .and .u8 (v / 2 ^ k) 1 = 0
    · have ex : anL v (anX l ⟨xl, xh⟩) (k + 1) = anL v (anX l ⟨xl, xh⟩) k := if_pos (decide_eq_true hu)
      have ey : anL v (anY l ⟨xl, xh⟩) (k + 1) = anL v (anY l ⟨xl, xh⟩) k := if_pos (decide_eq_true hu)
      have EX := Lib.hid ex
      have EY := Lib.hid ey
      clear ex ey
      go_wp2_with fail
      exact ⟨⟨k + 1, u, HLT.out, rfl, rfl, by rw [EX.out]; exact HOX.out, by rw [EY.out]; exact HOY.out, HAP.out⟩, by simp [intOf]; omega⟩
    · have hnu : ¬ unw v k = true := fun h => hu (of_decide_eq_true h)
      have ex : anL v (anX l ⟨xl, xh⟩) (k + 1) = anL v (anX l ⟨xl, xh⟩) k ++ [anX l ⟨xl, xh⟩ k] := if_neg hnu
      have ey : anL v (anY l ⟨xl, xh⟩) (k + 1) = anL v (anY l ⟨xl, xh⟩) k ++ [anY l ⟨xl, xh⟩ k] := if_neg hnu
      have EX := Lib.hid ex
      have EY := Lib.hid ey
      clear ex ey hnu
      go_upto_region 12 with fail
      clear hu
      obtain ⟨i0, hi0, iz0, iz1, iz2⟩ := info_parts rng_info5
      have c1 := CM.out xl (by have := HSP.out; omega) k HLT.out
      have c2 := CL.out xh (by have := HSP.out; omega) k HLT.out
      have c3 := CL.out xl (by have := HSP.out; omega) k HLT.out
      have c4 := CM.out xh (by have := HSP.out; omega) k HLT.out
      have b1 := BM.out xl (by have := HSP.out; omega) k HLT.out
      have b2 := BL.out xh (by have := HSP.out; omega) k HLT.out
      obtain ⟨m1, hm1⟩ : ∃ m, m = flK moP l xl k l.length := ⟨_, rfl⟩
      obtain ⟨m2, hm2⟩ : ∃ m, m = flK leP l xh k l.length := ⟨_, rfl⟩
      obtain ⟨m3, hm3⟩ : ∃ m, m = flK leP l xl k l.length := ⟨_, rfl⟩
      obtain ⟨m4, hm4⟩ : ∃ m, m = flK moP l xh k l.length := ⟨_, rfl⟩
      have EXV : Hid (anX l ⟨xl, xh⟩ k = ⟨xl - m1, xh - m2⟩) := by rw [hm1, hm2]; exact Lib.hid rfl
      have EYV : Hid (anY l ⟨xl, xh⟩ k = ⟨m3, m4⟩) := by rw [hm3, hm4]; exact Lib.hid rfl
      rw [← hm1] at c1 b1
      rw [← hm2] at c2 b2
      rw [← hm3] at c3
      rw [← hm4] at c4
      have k1 : IntKind.i64.wrap (xl - m1) = xl - m1 := IntWalk.i64_in _ (by have := HSP.out; omega)
      have k2 : IntKind.i64.wrap (xh - m2) = xh - m2 := IntWalk.i64_in _ (by have := HSP.out; omega)
      have C1 := Lib.hid c1
      have C2 := Lib.hid c2
      have C3 := Lib.hid c3
      have C4 := Lib.hid c4
      clear hm1 hm2 hm3 hm4 c1 c2 c3 c4 b1 b2
      have LX : Hid ((anL v (anX l ⟨xl, xh⟩) k).length ≤ k) := anL_len _ _ _
      have LY : Hid ((anL v (anY l ⟨xl, xh⟩) k).length ≤ k) := anL_len _ _ _
      have RW0 := RrowW0
      have hbY := ovr_below W u
      obtain ⟨Y, hY⟩ : ∃ Y, Y = ovr W u := ⟨_, rfl⟩
      rw [← hY] at hbY
      rw [← hY]
      have hY' := Lib.hid hY
      clear hY
      have hbY' := Lib.hid hbY
      have reY : ∀ v, ∃ x, ovr Y v = ovr W x := fun v => ovr_reB hbY v
      replace yW00 := tr_cell reY yW00
      replace yW01 := tr_cell reY yW01
      replace RrowW0 := Lib.hid (tr_row reY RrowW0.out)
      replace yW10 := tr_cell reY yW10
      replace yW11 := tr_cell reY yW11
      replace RrowW1 := Lib.hid (tr_row reY RrowW1.out)
      replace yW20 := tr_cell reY yW20
      replace yW21 := tr_cell reY yW21
      replace RrowW2 := Lib.hid (tr_row reY RrowW2.out)
      have HUY : Hid (∀ u, Below w.heap.size w (ovr Y u)) := fun u => by obtain ⟨x, hx⟩ := reY u; rw [hx]; exact HUW.out x
      clear reY hbY
      have hox := HOX.out
      have hoy := HOY.out
      rw [← hY'.out] at hox hoy
      have HOX1 := Lib.hid hox
      have HOY1 := Lib.hid hoy
      clear hox hoy
      refine wp_region_seq2 19 (fun j => if j = 7 then some (fun u _ => u = I m1) else if j = 15 then some (fun u _ => u = I m2) else if j = 18 then some (SlNew Y #[I (xl - m1), I (xh - m2)] 23) else none) (by kernel_rfl) (by kernel_rfl) (by kernel_rfl) (by kernel_rfl) (by kernel_rfl) ?_
      simp only [List.take_succ_cons, List.take_zero, List.drop_succ_cons, List.drop_zero]
      repeat (refine wpG_one rfl rfl rfl ?_; intro K hK; go_big_quiet_op; go_big_quiet_on)
      refine wpG_make (fun u _ => u = I m1) rfl rfl (fun w' hw' _ => ?_) (fun u hu => ?_)
      · go_simp
        exact call_grow (C1.out w' (below_chain0 (HUY.out) hw'.le))
      obtain ⟨_, _, rfl⟩ := hu
      simp only [Act.put, List.setIfInBounds_toArray, List.set_cons_zero, List.set_cons_succ]
      repeat (refine wpG_one rfl rfl rfl ?_; intro K hK; go_big_quiet_op; go_big_quiet_on)
      refine wpG_make (fun u _ => u = I m2) rfl rfl (fun w' hw' _ => ?_) (fun u hu => ?_)
      · go_simp
        exact call_grow (C2.out w' (below_chain0 (HUY.out) hw'.le))
      obtain ⟨_, _, rfl⟩ := hu
      simp only [Act.put, List.setIfInBounds_toArray, List.set_cons_zero, List.set_cons_succ]
      repeat (refine wpG_one rfl rfl rfl ?_; intro K hK; go_big_quiet_op; go_big_quiet_on)
      refine wpG_make (SlNew Y #[I (xl - m1), I (xh - m2)] 23) rfl rfl (fun w' hw' _ => ?_) (fun u hu => ?_)
      · go_simp
        exact slnew_grow hw'
      obtain ⟨_, _, bn, rfl, _, _⟩ := hu
      simp only [Act.put, List.setIfInBounds_toArray, List.set_cons_zero, List.set_cons_succ]
      refine wpG_nil (fun w5 hw5 hG => ?_)
      have hn := (Box.now hG.2).at
      have h5 := hw5.le
      clear hG hw5
      refine wpTailIn_cons Wd.wide (by intro c h; cases h) ?_
      refine wp_app_own _ _ 80 rfl W.heap.size 23 i0 _ 2 16 Tryd.underlying80 hi0 iz0 iz1 iz2 rfl (by decide) u9 _ _ rfl (own_below HOX1.out h5) ⟨bn, 0, none⟩ 1 [I (xl - m1), I (xh - m2)] rfl rfl (cells_row hn.1) (by simp [Value.oneCell']) (by have := LX.out; have := HLT.out; omega) (by decide) (Nat.le_trans hbY'.out.size h5.size) ?_
      intro x' w6 hx6 hg6 hob6
      refine wpTailIn_cons Wd.wide (by intro c h; cases h) ?_
      refine wp_assign _ x' rfl rfl ?_
      refine wpTailIn_nil ?_
      simp only [Act.put, List.setIfInBounds_toArray, List.set_cons_zero, List.set_cons_succ]
      have hy6 := own_other (own_below HOY1.out h5) hg6 HAP.out
      have hb5 : Below W.heap.size W w5 := hbY'.out.trans (h5.mono hbY'.out.size)
      have hb6 : Below W.heap.size W w6 := hb5.grown hg6 hb5.size (fun b hb => (HOX1.out.lt b hb).1)
      have hap6 : Apart x' u10 := fun b hb he => by
       rcases hob6 with h | h
       · exact HAP.out b hb (h ▸ he)
       · rw [h] at he
         injection he with he
         have := (own_below HOY1.out h5).lt b hb
         omega
      have hrow6 : w6.heap[w.heap.size]? = some (.cells #[I xl, I xh] 23 (0, 0)) := by rw [ovr_of hb6]; exact RW0.out _
      have hww6 : Below w.heap.size w w6 := (below_self0 HUW.out).trans (hb6.mono (below_self0 HUW.out).size)
      have y60 := ovr_cell (W := w6) (b := w.heap.size) (o := 0) (v := I xl) (by rw [cell_of_row _ _ _ _ _ _ hrow6]; rfl)
      have y61 := ovr_cell (W := w6) (b := w.heap.size) (o := 1) (v := I xh) (by rw [cell_of_row _ _ _ _ _ _ hrow6]; rfl)
      have HX6 := Lib.hid hx6
      have HY6 := Lib.hid hy6
      have HB6 := Lib.hid hb6
      have HAP6 := Lib.hid hap6
      have HWW6 := Lib.hid hww6
      clear hx6 hg6 hob6 hy6 hb5 hb6 hap6 hrow6 hww6 hn h5 k1 k2
      go_upto_region 13 with fail
      refine wp_region_seq2 13 (fun j => if j = 5 then some (fun u _ => u = I m3) else if j = 10 then some (fun u _ => u = I m4) else if j = 12 then some (SlNew w6 #[I m3, I m4] 23) else none) (by kernel_rfl) (by kernel_rfl) (by kernel_rfl) (by kernel_rfl) (by kernel_rfl) ?_
      simp only [List.take_succ_cons, List.take_zero, List.drop_succ_cons, List.drop_zero]
      repeat (refine wpG_one rfl rfl rfl ?_; intro K hK; go_big_quiet_op; go_big_quiet_on)
      refine wpG_make (fun u _ => u = I m3) rfl rfl (fun w' hw' _ => ?_) (fun u hu => ?_)
      · go_simp
        exact call_grow (C3.out w' (HWW6.out.trans (hw'.le.mono HWW6.out.size)))
      obtain ⟨_, _, rfl⟩ := hu
      simp only [Act.put, List.setIfInBounds_toArray, List.set_cons_zero, List.set_cons_succ]
      repeat (refine wpG_one rfl rfl rfl ?_; intro K hK; go_big_quiet_op; go_big_quiet_on)
      refine wpG_make (fun u _ => u = I m4) rfl rfl (fun w' hw' _ => ?_) (fun u hu => ?_)
      · go_simp
        exact call_grow (C4.out w' (HWW6.out.trans (hw'.le.mono HWW6.out.size)))
      obtain ⟨_, _, rfl⟩ := hu
      simp only [Act.put, List.setIfInBounds_toArray, List.set_cons_zero, List.set_cons_succ]
      repeat (refine wpG_one rfl rfl rfl ?_; intro K hK; go_big_quiet_op; go_big_quiet_on)
      refine wpG_make (SlNew w6 #[I m3, I m4] 23) rfl rfl (fun w' hw' _ => ?_) (fun u hu => ?_)
      · go_simp
        exact slnew_grow hw'
      obtain ⟨_, _, bm, rfl, _, _⟩ := hu
      simp only [Act.put, List.setIfInBounds_toArray, List.set_cons_zero, List.set_cons_succ]
      refine wpG_nil (fun w7 hw7 hG => ?_)
      have hn := (Box.now hG.2).at
      have h7 := hw7.le
      clear hG hw7
      refine wpTailIn_cons Wd.wide (by intro c h; cases h) ?_
      refine wp_app_own _ _ 80 rfl W.heap.size 23 i0 _ 2 16 Tryd.underlying80 hi0 iz0 iz1 iz2 rfl (by decide) u10 _ _ rfl (own_below HY6.out h7) ⟨bm, 0, none⟩ 1 [I m3, I m4] rfl rfl (cells_row hn.1) (by simp [Value.oneCell']) (by have := LY.out; have := HLT.out; omega) (by decide) (Nat.le_trans HB6.out.size h7.size) ?_
      intro y' w8 hy8 hg8 hob8
      refine wpTailIn_cons Wd.wide (by intro c h; cases h) ?_
      refine wp_assign _ y' rfl rfl ?_
      refine wpTailIn_nil ?_
      simp only [Act.put, List.setIfInBounds_toArray, List.set_cons_zero, List.set_cons_succ]
      have hx8 := own_other (own_below HX6.out h7) hg8 HAP6.out.symm
      have hb7 : Below W.heap.size W w7 := HB6.out.trans (h7.mono HB6.out.size)
      have hb8 : Below W.heap.size W w8 := hb7.grown hg8 hb7.size (fun b hb => (HY6.out.lt b hb).1)
      have hap8 : Apart x' y' := fun b hb he => by
       rcases hob8 with h | h
       · exact HAP6.out b (h ▸ hb) he
       · rw [h] at hb
         injection hb with hb
         have := (own_below HX6.out h7).lt b he
         omega
      have HX8 := Lib.hid hx8
      have HY8 := Lib.hid hy8
      have HB8 := Lib.hid hb8
      have HAP8 := Lib.hid hap8
      clear hx8 hy8 hg8 hob8 hb7 hb8 hap8 hn h7 y60 y61
      go_wp2_with fail
      refine ⟨⟨k + 1, w8, HLT.out, rfl, ovr_of HB8.out, ?_, ?_, HAP8.out⟩, by have := HLT.out; simp [intOf]; omega⟩
      · rw [← ovr_of HB8.out, EX.out, EXV.out, List.length_append, rc_app]; exact HX8.out
      · rw [← ovr_of HB8.out, EY.out, EYV.out, List.length_append, rc_app]; exact HY8.out
  · have hk : k = 5 := by omega
    subst hk
    obtain ⟨XS, hXS⟩ : ∃ X, X = anL v (anX l ⟨xl, xh⟩) 5 := ⟨_, rfl⟩
    obtain ⟨YS, hYS⟩ : ∃ Y, Y = anL v (anY l ⟨xl, xh⟩) 5 := ⟨_, rfl⟩
    rw [← hXS] at hox hf
    rw [← hYS] at hoy hf
    obtain ⟨Ax, cx, rfl, hx1, hx2, hx3⟩ := own_hull hox
    have CH1 := Lib.hid (hull_any Ax XS.length cx XS (ovr W u) _ rfl hx1 hx2 (Nat.le_refl _) hx3)
    obtain ⟨⟨⟨q1, q2⟩, q3⟩, hq⟩ : ∃ q, foF huF XS = q := ⟨_, rfl⟩
    rw [hq] at CH1 hf
    have HOY := Lib.hid hoy
    clear hox hoy hap hx1 hx2 hx3 hXS hYS hq hlt
    go_wp2_with fail
    refine CH1.out.mono ?_
    rintro e w1 ⟨rfl, hb1⟩
    have hoy1 := own_below HOY.out hb1
    obtain ⟨u3, rfl⟩ := ovr_next hb1
    have HOY1 := Lib.hid hoy1
    clear hb1 hoy1 CH1 HOY
    go_wp2_with (with_reducible show wpList _ _ _ (⟨none, Op.store _ _ _, _, _, _, _⟩ :: _) _ _; refine Hid.out ?_)
    refine Lib.hid ?_
    refine wpList_store_row rfl 23 _ _ rfl (w.heap.size + 1) rfl _ _ (RrowW1.out u3) #[I q1, I q2] rfl (one2 rfl rfl) rfl (by kernel_rfl) ?_
    go_upto_region 16 with fail
    refine name_w fun V hV => ?_
    have hWs : w.heap.size + 1 + 1 < W.heap.size := by rw [HW.out]; simp
    have v1 : V.heap[w.heap.size + 1]? = some (.cells #[I q1, I q2] 23 (0, 0)) := by rw [hV]; exact setRow_same (RrowW1.out u3)
    have v2 : V.heap[w.heap.size + 1 + 1]? = some (.cells #[I 0, I 0] 23 (0, 0)) := by rw [hV]; exact (setRow_other (by omega)).trans (RrowW2.out u3)
    have vb : Below w.heap.size w V := by rw [hV]; exact below_setRow (HUW.out u3) (Nat.le_succ _) _
    have hoy2 : V.ownsRow W.heap.size 23 2 u10 YS.length (rc YS) := by rw [hV]; exact own_set HOY1.out (by omega) _
    clear hV HOY1
    obtain ⟨Ay, cy, rfl, hy1, hy2, hy3⟩ := own_hull hoy2
    have CH2 := Lib.hid (hull_any Ay YS.length cy YS V _ rfl hy1 hy2 (Nat.le_refl _) hy3)
    obtain ⟨⟨⟨p1, p2⟩, p3⟩, hp⟩ : ∃ q, foF huF YS = q := ⟨_, rfl⟩
    rw [hp] at CH2 hf
    have V1 := Lib.hid v1
    have V2 := Lib.hid v2
    have VB := Lib.hid vb
    clear hoy2 hy1 hy2 hy3 hp v1 v2 vb hWs
    go_wp2_with fail
    refine CH2.out.mono ?_
    rintro e w1 ⟨rfl, hb1⟩
    obtain ⟨u4, rfl⟩ : ∃ z, w1 = ovr V z := ⟨w1, ovr_of hb1⟩
    clear hb1 CH2
    go_wp2_with (with_reducible show wpList _ _ _ (⟨none, Op.store _ _ _, _, _, _, _⟩ :: _) _ _; refine Hid.out ?_)
    refine Lib.hid ?_
    refine wpList_store_row rfl 23 _ _ rfl (w.heap.size + 1 + 1) rfl _ _ (ovr_row V2.out u4) #[I p1, I p2] rfl (one2 rfl rfl) rfl (by kernel_rfl) ?_
    go_upto_region 17 with fail
    refine name_w fun Z hZ => ?_
    have z1 : Z.heap[w.heap.size + 1]? = some (.cells #[I q1, I q2] 23 (0, 0)) := by rw [hZ]; exact (setRow_other (by omega)).trans (ovr_row V1.out u4)
    have z2 : Z.heap[w.heap.size + 1 + 1]? = some (.cells #[I p1, I p2] 23 (0, 0)) := by rw [hZ]; exact setRow_same (ovr_row V2.out u4)
    have zb : Below w.heap.size w Z := by rw [hZ]; exact below_setRow (VB.out.trans ((ovr_below V u4).mono VB.out.size)) (by omega) _
    clear hZ V1 V2 VB
    have x10 : Z.cell? ⟨w.heap.size + 1, 0, none⟩ = some (I q1) := by rw [cell_of_row _ _ _ _ _ _ z1]; rfl
    have x11 : Z.cell? ⟨w.heap.size + 1, 1, none⟩ = some (I q2) := by rw [cell_of_row _ _ _ _ _ _ z1]; rfl
    have x20 : Z.cell? ⟨w.heap.size + 1 + 1, 0, none⟩ = some (I p1) := by rw [cell_of_row _ _ _ _ _ _ z2]; rfl
    have x21 : Z.cell? ⟨w.heap.size + 1 + 1, 1, none⟩ = some (I p2) := by rw [cell_of_row _ _ _ _ _ _ z2]; rfl
    have f10 : Z.frozen? ⟨w.heap.size + 1, 0, none⟩ = false := frozen_of_row _ _ _ _ _ z1
    have f11 : Z.frozen? ⟨w.heap.size + 1, 1, none⟩ = false := frozen_of_row _ _ _ _ _ z1
    have f20 : Z.frozen? ⟨w.heap.size + 1 + 1, 0, none⟩ = false := frozen_of_row _ _ _ _ _ z2
    have f21 : Z.frozen? ⟨w.heap.size + 1 + 1, 1, none⟩ = false := frozen_of_row _ _ _ _ _ z2
    have Z1 := Lib.hid z1
    have Z2 := Lib.hid z2
    have ZB := Lib.hid zb
    clear z1 z2 zb
    go_region
    all_goals
        obtain ⟨g1, g2, g3⟩ := two_cells Z1.out Z2.out (Nat.ne_of_lt (Nat.lt_succ_self _)) (I q1) (I q2) (I p1) (I p2) ZB.out (Nat.le_succ _) (Nat.le_trans (Nat.le_succ _) (Nat.le_succ _))
        generalize (((((Z.setCell ⟨w.heap.size + 1, 0, none⟩ (I q1)).setCell ⟨w.heap.size + 1, 1, none⟩ (I q2)).setCell ⟨w.heap.size + 1 + 1, 0, none⟩ (I p1)).setCell ⟨w.heap.size + 1 + 1, 1, none⟩ (I p2)).drew) = ZZ at *
        go_wp2_with fail
        refine bodyPost_ret (results_two_tmp rfl _ _ (w.heap.size + 1) (w.heap.size + 1 + 1) 23 23 _ _ (0, 0) (0, 0) _ _ rfl g1 rfl g2 Tryd.underlying23 rfl (by kernel_rfl) Tryd.underlying23 rfl (by kernel_rfl)) rfl ?_
        exact ⟨by rw [hf.out]; rfl, g3⟩
end Go.Proofs.YtnkaoplgmglijaaDoor.Un
