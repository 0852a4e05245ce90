/- Lists of one's own: what append onto the empty literal returns; ownInts, ownRanges, ownKnots. -/
import Derived.Test.YtnkaoplgmglijaaDoorU4
import Derived.Test.YtnkaoplgmglijaaDoorSq
import Derived.ChangeAlike
import Derived.RegionTactic
import Derived.ArgAppend
namespace Go.Proofs.YtnkaoplgmglijaaDoor.Un
open Go.RowKit
structure Hul where
 lo : Int
 hi : Int
 s : Bool
 f : Bool
abbrev huRow (h : Hul) : Array Value := #[I h.lo, I h.hi, .bool h.s, .bool h.f]
def upF (v c : Int) : Int := if 0 < v % c then v / c + 1 else v / c
theorem rs {w : World} {k : Nat} {cs : Array Value} {t : TypeId} (h : w.heap[k]? = some (.cells cs t (0, 0))) (i : Nat) (v : Value) : (w.setCell ⟨k, i, none⟩ v).heap[k]? = some (.cells (cs.setIfInBounds i v) t (0, 0)) := heap_setCell_same w k i cs t v h
theorem bs {a w : World} {k : Nat} (h : Below k a w) (i : Nat) (v : Value) : Below k a (w.setCell ⟨k, i, none⟩ v) := h.setCell (Nat.le_refl _) v
theorem quo_near {v c : Int} (hc : 1 ≤ c) (h : v.natAbs / c.toNat ≤ 1000000000000000) : -1000000000000001 ≤ v / c ∧ v / c ≤ 1000000000000000 := by
 obtain ⟨C, rfl⟩ : ∃ C : Nat, c = C := ⟨c.toNat, by omega⟩
 rw [Int.toNat_natCast] at h
 rcases Int.lt_or_le v 0 with hv | hv
 · have f := floor_neg (m := v.natAbs) (C := C) (by omega)
   rw [show (-((v.natAbs : Nat) : Int)) = v by omega] at f
   rw [f]
   generalize v.natAbs / C = q at *
   split <;> omega
 · have e : v / (C : Int) = ((v.natAbs / C : Nat) : Int) := by rw [Int.natCast_ediv]; congr 1; omega
   rw [e]
   generalize v.natAbs / C = q at *
   omega
def addH (h : Hul) (v c : Int) : Hul :=
 if v.natAbs / c.toNat ≤ 1000000000000000 then (if h.s then ⟨min h.lo (v / c), max h.hi (upF v c), true, h.f⟩ else ⟨v / c, upF v c, true, h.f⟩) else ⟨h.lo, h.hi, h.s, true⟩
def reH (h : Hul) : Rng × Int := if h.f then (⟨0, 0⟩, 10) else fiF h.lo h.hi
theorem wp_assign {P : Program} {o : Oper} {a : Act} {w : World} {K : Act → World → Prop} {Q : Exit → Act → World → Prop} (x : Operand) (v : Value) (ho : o.op = .assign x) (hv : a.eval x = v) (h : K (a.put o.dst v) w) : o.wp P a w K Q := by
 unfold Oper.wp execOp
 simp only [ho, hv, Sem.run_pure, Oper.upon]
 exact h
theorem Cl.set {W0 w : World} (h : Cl W0 w) {g : Nat} (hg : W0.heap.size ≤ g) (cs : Array Value) : Cl W0 (w.setRow g cs) := Cl.of (below_setRow h.le hg _)
end Go.Proofs.YtnkaoplgmglijaaDoor.Un
/- The contracts of Times of package units. -/
namespace Go.Proofs.YtnkaoplgmglijaaDoor.Un
open Go.RowKit
def selR (r : Rng) (k : Nat) : Int := if k = 0 then r.lo else r.hi
theorem sel_num {r : Rng} (h : rngOk r = true) (k : Nat) : numB (selR r k) = true := by
 have := rngOk_iff.1 h
 unfold selR
 split <;> exact numB_iff.2 (by omega)
def hul0 : Hul := ⟨0, 0, false, false⟩
def tmI (h : Hul) (x : Int) (b : Rng) (c : Int) : Nat → Hul
 | 0 => h | k + 1 => addH (tmI h x b c k) (x * selR b k) c
def tmO (a b : Rng) (c : Int) : Nat → Hul
 | 0 => hul0 | k + 1 => tmI (tmO a b c k) (selR a k) b c 2
def tmF (a b : Rng) (c : Int) : Rng × Int := if rngOk a && rngOk b then (if 1 ≤ c ∧ c ≤ 1000000000000000 then reH (tmO a b c 2) else (⟨0, 0⟩, 3)) else (⟨0, 0⟩, 2)
end Go.Proofs.YtnkaoplgmglijaaDoor.Un
/- The contracts of Scale and Over of package units. -/
namespace Go.Proofs.YtnkaoplgmglijaaDoor.Un
open Go.RowKit
def scF (r : Rng) (f : Frc) : Rng × Int := if rngOk r && fok f then reH (addH (addH hul0 (r.lo * f.n) f.d) (r.hi * f.n) f.d) else (⟨0, 0⟩, 2)
def ovO (a b : Rng) (c : Int) : Nat → Hul
 | 0 => hul0 | k + 1 => addH (addH (ovO a b c k) (selR a k * c) b.lo) (selR a k * c) b.hi
def oeF (a b : Rng) (c : Int) : Rng × Int := if rngOk a && rngOk b then (if 1 ≤ c ∧ c ≤ 1000000000000000 ∧ 1 ≤ b.lo then reH (ovO a b c 2) else (⟨0, 0⟩, 3)) else (⟨0, 0⟩, 2)
end Go.Proofs.YtnkaoplgmglijaaDoor.Un
/- Ranges in memory that is new; the contract of Balance of package units. -/
namespace Go.Proofs.YtnkaoplgmglijaaDoor.Un
open Go.RowKit
theorem rng_info : (Tryd.prog.info? 23).map (fun i => (i.zero, i.size, i.bytes)) = some (some (.agg #[I 0, I 0]), 2, 16) := by kernel_rfl
def rc (l : List Rng) : List Value := l.flatMap fun r => [I r.lo, I r.hi]
theorem rc_app (l : List Rng) (r : Rng) : rc (l ++ [r]) = rc l ++ [I r.lo, I r.hi] := by simp [rc]
theorem flat_congr {sz n : Nat} {g g' : Nat → Nat → Value} (h : ∀ k, k < n → ∀ j, j < sz → g k j = g' k j) : flat sz g n = flat sz g' n := by
 apply List.map_congr_left
 intro i hi
 have hi' : i < n * sz := by simpa using hi
 have hs : 0 < sz := by
  rcases Nat.eq_zero_or_pos sz with h0 | h0
  · subst h0; simp at hi'
  · exact h0
 exact h _ ((Nat.div_lt_iff_lt_mul hs).2 hi') _ (Nat.mod_lt _ hs)
theorem at0_app {α : Type} [Inhabited α] (l r : List α) {k : Nat} (hk : k < l.length) : at0 (l ++ r) k = at0 l k := by
 rw [at0_get (by simp; omega), at0_get hk, List.getElem_append_left hk]
theorem at0_last {α : Type} [Inhabited α] (l : List α) (x : α) : at0 (l ++ [x]) l.length = x := by
 rw [at0_get (by simp)]; simp
theorem rc_flat_aux : ∀ (n : Nat) (l : List Rng), l.length = n → rc l = flat 2 (rR l) n
 | 0, l, h => by
   have : l = [] := List.eq_nil_of_length_eq_zero h
   subst this; rfl
 | n + 1, l, h => by
   obtain ⟨i, x, rfl⟩ : ∃ i x, l = i ++ [x] := ⟨l.dropLast, l.getLast (by intro e; subst e; simp at h), (List.dropLast_concat_getLast _).symm⟩
   have hi : i.length = n := by simpa using h
   rw [rc_app, flat_succ 2 (by omega), rc_flat_aux n i hi]
   congr 1
   · exact flat_congr fun k hk j _ => by simp only [rR]; rw [at0_app _ _ (by omega)]
   · show _ = (List.range 2).map (at0 (i ++ [x]) n).c
     rw [← hi, at0_last]; rfl
theorem rc_flat (l : List Rng) : rc l = flat 2 (rR l) l.length := rc_flat_aux _ l rfl
theorem Rd.of_rc {w : World} {base n : Nat} {e : TypeId} {v : Value} {l : List Rng} (hn : n = l.length) (h : w.ownsRow base e 2 v n (rc l)) : ∃ A c, v = .slice A n c ∧ n ≤ c ∧ Rd w w.heap.size 2 A n (rR l) := by
 subst hn
 rw [rc_flat] at h
 exact Rd.of_own_cap h
def mk {α β : Type} [Inhabited α] (f : α → β) (xs : List α) (k : Nat) : List β := (List.range k).map fun j => f (at0 xs j)
theorem mk_succ {α β : Type} [Inhabited α] (f : α → β) (xs : List α) (k : Nat) : mk f xs (k + 1) = mk f xs k ++ [f (at0 xs k)] := by simp [mk, List.range_succ]
theorem mk_len {α β : Type} [Inhabited α] (f : α → β) (xs : List α) (k : Nat) : (mk f xs k).length = k := by simp [mk]
theorem mk_at {α β : Type} [Inhabited α] [Inhabited β] (f : α → β) (xs : List α) {k j : Nat} (h : j < k) : at0 (mk f xs k) j = f (at0 xs j) := by
 rw [at0_get (by rw [mk_len]; exact h)]; simp [mk]
def naF (low high : Int) (s r : Rng) : Rng := cuF r ⟨s.lo - (high - r.hi), s.hi - (low - r.lo)⟩
def baF (xs : List Rng) (whole : Rng) : List Rng × Rng × Int :=
 if chk xs = 0 then (if rngOk whole then (if (cuF ⟨(addK xs xs.length).1, (addK xs xs.length).2⟩ whole).hi < (cuF ⟨(addK xs xs.length).1, (addK xs xs.length).2⟩ whole).lo then ([], ⟨0, 0⟩, 7)
    else (mk (naF (addK xs xs.length).1 (addK xs xs.length).2 (cuF ⟨(addK xs xs.length).1, (addK xs xs.length).2⟩ whole)) xs xs.length, cuF ⟨(addK xs xs.length).1, (addK xs xs.length).2⟩ whole, 0)) else ([], ⟨0, 0⟩, 2)) else ([], ⟨0, 0⟩, chk xs)
def RetB (w : World) (q : List Rng × Rng × Int) (e : Ending) (w' : World) : Prop := ∃ A n c, e = .returned (.tuple #[.slice A n c, q.2.1.val, I q.2.2]) ∧ n = q.1.length ∧ n ≤ c ∧ Rd w' w'.heap.size 2 A n (rR q.1) ∧ Below w.heap.size w w'
theorem setRow_id {w : World} {g : Nat} {cs : Array Value} {t : TypeId} {fr : Nat × Nat} (h : w.heap[g]? = some (.cells cs t fr)) : w.setRow g cs = w := by
 unfold World.setRow
 have e : (w.heap.modify g fun | .cells _ elem frozen => .cells cs elem frozen | o => o) = w.heap := by
  apply Array.ext_getElem?
  intro i
  rw [Array.getElem?_modify]
  split
  · rename_i hi
    subst hi
    rw [h]; rfl
  · rfl
 exact congrArg (fun x => ({ w with heap := x } : World)) e
theorem results_tmp_cell_tmp {P : Program} {fn : Func} {p t1 t2 : Tmp} {ty : TypeId} (h : fn.results = #[.tmp t1, .cell p ty, .tmp t2]) (tmps : Array Value) (w : World) (g : Nat) (t : TypeId) (cs : Array Value) (fr : Nat × Nat) (d : TypeDesc)
 (hp : tmps.getD p undef = .pointer (some ⟨g, 0, none⟩)) (hg : w.heap[g]? = some (.cells cs t fr))
 (hu : P.underlying ty = some d) (hd : (match d with | .struct _ | .array _ _ => true | _ => false) = true) (hi : (P.info? ty).map (·.size) = some cs.size) :
 (results fn tmps).run P w = .ok (.tuple #[tmps.getD t1 undef, .agg cs, tmps.getD t2 undef]) w := by
 have hp' : tmps[p]?.getD undef = .pointer (some ⟨g, 0, none⟩) := by simpa using hp
 simp [results, h, hp', asAddr, run_loadVar_row w g t ty cs fr d hg hu hd hi]
end Go.Proofs.YtnkaoplgmglijaaDoor.Un
namespace Go.Proofs.YtnkaoplgmglijaaDoor.Un
open Go.RowKit
theorem Rd.flat_at {w : World} {sz n : Nat} {b o : Nat} {g : Nat → Nat → Value} (hc : ∀ k, k < n → ∀ j, j < sz → w.cell? ⟨b, o + k * sz + j, none⟩ = some (g k j)) (hsz : 0 < sz) :
 ∀ j u, (flat sz g n)[j]? = some u → w.cell? ((⟨b, o, none⟩ : Addr).add j) = some u := by
 intro j u hu
 have hj : j < n * sz := by have := (List.getElem?_eq_some_iff.1 hu).1; rwa [flat_len] at this
 have e : j = j / sz * sz + j % sz := by rw [Nat.mul_comm]; exact (Nat.div_add_mod j sz).symm
 have hk : j / sz < n := Nat.div_lt_of_lt_mul (by rw [Nat.mul_comm]; exact hj)
 have hm : j % sz < sz := Nat.mod_lt _ hsz
 have h1 := flat_get g hk hm
 rw [← e, hu] at h1
 have h2 : w.cell? ⟨b, o + j / sz * sz + j % sz, none⟩ = some (g (j / sz) (j % sz)) := hc _ hk _ hm
 rw [addr_add, show o + j = o + j / sz * sz + j % sz by omega, h2]
 exact h1.symm
theorem Rd.of_own_max {w : World} {base sz n : Nat} {e : TypeId} {v : Value} {g : Nat → Nat → Value} (h : w.ownsRow base e sz v n (flat sz g n)) : ∃ A c, v = .slice A n c ∧ n ≤ c ∧ c ≤ maxLen ∧ Rd w w.heap.size sz A n g := by
 obtain ⟨A, c, hv, hc, hr⟩ := Rd.of_own_cap h
 refine ⟨A, c, hv, hc, ?_, hr⟩
 rcases h.2 with ⟨rfl, rfl⟩ | ⟨q, cap, cur, rfl, hq, hh, hn, hm, hsz, ht⟩
 · injection hv with _ _ h3; subst h3; unfold maxLen; omega
 · injection hv with _ _ h3; subst h3; exact hm
theorem own_base {w : World} {base base' sz n : Nat} {e : TypeId} {v : Value} {xs : List Value} (h : w.ownsRow base e sz v n xs) (hb : base' ≤ base) : w.ownsRow base' e sz v n xs := by
 obtain ⟨h1, h2⟩ := h
 refine ⟨h1, ?_⟩
 rcases h2 with h2 | ⟨g, cap, cur, hv, hg, r⟩
 · exact .inl h2
 · exact .inr ⟨g, cap, cur, hv, by omega, r⟩
theorem run_app_lit {P : Program} (w : World) (t ty e : TypeId) (i : TypeInfo) (z : Value) (sz bytes : Nat) (ht : P.underlying t = some (.slice e)) (hi : P.info? e = some i) (hz : i.zero = some z) (hsz : i.size = sz) (hby : i.bytes = bytes) (hzs : z.cells.size = sz) (h0 : 0 < sz)
 (b : Nat) (A : Option Addr) (n c : Nat) (g : Nat → Nat → Value) (hr : Rd w w.heap.size sz A n g) (hn : n ≤ 1000000) (hb : bytes ≤ 1000000) :
 ∃ A' c' w', (Builtin.append_ #[t, t] ty #[.slice (some ⟨b, 0, none⟩) 0 0, .slice A n c]).run P w = .ok (.slice A' n c') w' ∧ Below w.heap.size w w' ∧ n ≤ c' ∧ c' ≤ maxLen ∧ Rd w' w'.heap.size sz A' n g := by
 by_cases hn0 : n = 0
 · subst hn0
   refine ⟨some ⟨b, 0, none⟩, 0, w, ?_, Below.refl _ _, Nat.le_refl _, by unfold maxLen; omega, Rd.nil⟩
   cases A <;> simp [go_sem, Builtin.append_, run_underlying ht, sizeOf, typeInfo, hi, Builtin.lenOf, Builtin.firstCells, storeCells]
 · obtain ⟨b2, o2, hA, _, hc⟩ := hr (by omega)
   subst hA
   have hm : n * bytes ≤ 1000000 * 1000000 := Nat.mul_le_mul hn hb
   obtain ⟨v', w', hrun, hown, hgr⟩ := run_append_arg_grows (P := P) w t ty e i z sz bytes ht hi hz hsz hby hzs h0 ⟨b, 0, none⟩ 0 0 [] (by simp) (fun j u hu => by simp at hu) ⟨b2, o2, none⟩ n c (flat sz g n) (flat_len _ _ _) (Rd.flat_at hc h0) (by omega) (by unfold maxLen; omega) (by rw [Nat.zero_add]; omega)
   rw [Nat.zero_add, List.nil_append] at hown
   obtain ⟨A', c', hv, hnc, hcm, hrd⟩ := Rd.of_own_max hown
   subst hv
   exact ⟨A', c', w', hrun, (Below.refl _ _).grown hgr (Nat.le_refl _) (fun g hg => by cases hg), hnc, hcm, hrd⟩
theorem wpList_app_lit {P : Program} {ops : Array Oper} {rest : List Oper} {o : Oper} {a : Act} {w : World} {Q : Exit → Act → World → Prop} (hg : o.guard = none) (s x : Operand) (t : TypeId) (ho : o.op = .call { callee := .builtin .append, args := #[s, x], argTypes := #[t, t] })
 (e : TypeId) (i : TypeInfo) (z : Value) (sz bytes : Nat) (ht : P.underlying t = some (.slice e)) (hi : P.info? e = some i) (hz : i.zero = some z) (hsz : i.size = sz) (hby : i.bytes = bytes) (hzs : z.cells.size = sz) (h0 : 0 < sz)
 (b : Nat) (hs : a.eval s = .slice (some ⟨b, 0, none⟩) 0 0) (A : Option Addr) (n c : Nat) (hx : a.eval x = .slice A n c) (g : Nat → Nat → Value) (hr : Rd w w.heap.size sz A n g) (hn : n ≤ 1000000) (hb : bytes ≤ 1000000)
 (hK : ∀ A' c' w', n ≤ c' → c' ≤ maxLen → Rd w' w'.heap.size sz A' n g → Below w.heap.size w w' → wpList P ops Q rest (a.put o.dst (.slice A' n c')) w') : wpList P ops Q (o :: rest) a w := by
 refine wpList_plain hg fun K hK' => ?_
 obtain ⟨A', c', w', hrun, h1, h2, h3, h4⟩ := run_app_lit (P := P) w t o.type e i z sz bytes ht hi hz hsz hby hzs h0 b A n c g hr hn hb
 unfold Oper.wp
 simp [execOp, ho, resolve, invoke, builtin, hs, hx, hrun, Result.andThen]
 exact hK' _ _ (hK A' c' w' h2 h3 h4 h1)
theorem below_chain {X Y Z : World} (h : ∀ u, Below X.heap.size X (ovr Y u)) (h2 : ∀ u, Below Y.heap.size Y (ovr Z u)) : ∀ u, Below X.heap.size X (ovr Z u) := fun u => by
 obtain ⟨v, hv⟩ := ovr_self Y
 have := h v
 rw [← hv] at this
 exact this.trans ((h2 u).mono this.size)
theorem below_self {X Y : World} (h : ∀ u, Below X.heap.size X (ovr Y u)) : Below X.heap.size X Y := by
 obtain ⟨v, hv⟩ := ovr_self Y
 have := h v
 rwa [← hv] at this
def RetLc (w : World) (sz n : Nat) (g : Nat → Nat → Value) (e : Ending) (w' : World) : Prop := ∃ A c, e = .returned (.slice A n c) ∧ n ≤ c ∧ c ≤ maxLen ∧ Rd w' w'.heap.size sz A n g ∧ Below w.heap.size w w'
theorem intK_info : (Tryd.prog.info? 3).map (fun i => (i.zero, i.size, i.bytes)) = some (some (I 0), 1, 8) := by kernel_rfl
def SoC (e : TypeId) (sz B n : Nat) (olds : List Value) (v : Value) (w : World) : Prop := (n = 0 ∧ olds = [] ∧ ∃ b, v = .slice (some ⟨b, 0, none⟩) 0 0) ∨ w.ownsRow B e sz v n olds
theorem SoC.over {e : TypeId} {sz B n : Nat} {l : List Value} {v : Value} {w w' : World} (h : SoC e sz B n l v w) (hb : Below w.heap.size w w') : SoC e sz B n l v w' := h.imp id fun ho => own_below ho hb
theorem SoC.rd {e : TypeId} {sz B n : Nat} {g : Nat → Nat → Value} {v : Value} {w : World} (h : SoC e sz B n (flat sz g n) v w) : ∃ A c, v = .slice A n c ∧ n ≤ c ∧ c ≤ maxLen ∧ Rd w w.heap.size sz A n g := by
 rcases h with ⟨rfl, _, b, rfl⟩ | ho
 · exact ⟨_, _, rfl, Nat.le_refl _, by unfold maxLen; omega, Rd.nil⟩
 · exact Rd.of_own_max ho
theorem run_app_soc {P : Program} (w : World) (t ty : TypeId)
 (e : TypeId) (i : TypeInfo) (z : Value) (sz bytes : Nat) (h1 : P.underlying t = some (.slice e)) (h2 : P.info? e = some i) (h3 : i.zero = some z) (h4 : i.size = sz) (h5 : i.bytes = bytes) (h6 : z.cells.size = sz) (h7 : 0 < sz)
 {B n : Nat} {olds : List Value} {v : Value} (hso : SoC e sz B n olds v w) (ad : Addr) (c : Nat) (news : List Value) (hnl : news.length = sz)
 (hc : ∀ j u, news[j]? = some u → w.cell? (ad.add j) = some u) (h1c : ∀ u ∈ news, u.oneCell' = true) (hB : B ≤ w.heap.size) (hl : n ≤ 1000000) (hb : bytes ≤ 1000) :
 ∃ v' w', (Builtin.append_ #[t, t] ty #[v, .slice (some ad) 1 c]).run P w = .ok v' w' ∧ SoC e sz B (n + 1) (olds ++ news) v' w' ∧ Below B w w' := by
 have hm : (n + 1) * bytes ≤ 1000001 * 1000 := Nat.mul_le_mul (by omega) hb
 rcases hso with ⟨rfl, rfl, b, rfl⟩ | ho
 · obtain ⟨v', w', hrun, hown, hgr⟩ := run_append_arg_grows (P := P) w t ty e i z sz bytes h1 h2 h3 h4 h5 h6 h7 ⟨b, 0, none⟩ 0 0 [] (by simp) (fun j u hu => by simp at hu) ad 1 c news (by rw [hnl, Nat.one_mul]) hc (by omega) (by unfold maxLen; omega) (by simp only [Nat.zero_add] at hm ⊢; omega)
   refine ⟨v', w', hrun, .inr ?_, (Below.refl _ _).grown hgr hB (fun k hk => by cases hk)⟩
   have := own_base hown hB
   simpa using this
 · obtain ⟨v', w', hrun, hown, hgr, _⟩ := run_append_own (P := P) w B t ty e i z sz bytes h1 h2 h3 h4 h5 h6 h7 v n olds ho ad 1 c news (by rw [hnl, Nat.one_mul]) hc h1c (by unfold maxLen; omega) (by omega) hB
   exact ⟨v', w', hrun, .inr hown, (Below.refl _ _).grown hgr hB (fun k hk => (ho.lt k hk).1)⟩
theorem wp_app_soc {P : Program} {o : Oper} {a : Act} {w : World} {K : Act → World → Prop} {Q : Exit → Act → World → Prop} (s x : Operand) (t : TypeId) (ho : o.op = .call { callee := .builtin .append, args := #[s, x], argTypes := #[t, t] })
 (e : TypeId) (i : TypeInfo) (z : Value) (sz bytes : Nat) (h1 : P.underlying t = some (.slice e)) (h2 : P.info? e = some i) (h3 : i.zero = some z) (h4 : i.size = sz) (h5 : i.bytes = bytes) (h6 : z.cells.size = sz) (h7 : 0 < sz)
 (B n : Nat) (olds : List Value) (v : Value) (hs : a.eval s = v) (hso : SoC e sz B n olds v w) (ad : Addr) (c : Nat) (news : List Value) (hx : a.eval x = .slice (some ad) 1 c) (hnl : news.length = sz)
 (hc : ∀ j u, news[j]? = some u → w.cell? (ad.add j) = some u) (h1c : ∀ u ∈ news, u.oneCell' = true) (hB : B ≤ w.heap.size) (hl : n ≤ 1000000) (hb : bytes ≤ 1000)
 (h : ∀ v' w', SoC e sz B (n + 1) (olds ++ news) v' w' → Below B w w' → K (a.put o.dst v') w') : o.wp P a w K Q := by
 obtain ⟨v', w', hr, h8, h9⟩ := run_app_soc (P := P) w t o.type e i z sz bytes h1 h2 h3 h4 h5 h6 h7 hso ad c news hnl hc h1c hB hl hb
 unfold Oper.wp execOp
 simp only [ho, resolve, invoke, builtin, Sem.run_bind, Sem.run_pure, Result.andThen_ok, List.map_toArray, List.map_cons, List.map_nil, hs, hx, hr]
 exact h v' w' h8 h9
theorem wpList_app_soc {P : Program} {ops : Array Oper} {rest : List Oper} {o : Oper} {a : Act} {w : World} {Q : Exit → Act → World → Prop} (hg : o.guard = none) (s x : Operand) (t : TypeId) (ho : o.op = .call { callee := .builtin .append, args := #[s, x], argTypes := #[t, t] })
 (e : TypeId) (i : TypeInfo) (z : Value) (sz bytes : Nat) (h1 : P.underlying t = some (.slice e)) (h2 : P.info? e = some i) (h3 : i.zero = some z) (h4 : i.size = sz) (h5 : i.bytes = bytes) (h6 : z.cells.size = sz) (h7 : 0 < sz)
 (B n : Nat) (olds : List Value) (v : Value) (hs : a.eval s = v) (hso : SoC e sz B n olds v w) (ad : Addr) (c : Nat) (news : List Value) (hx : a.eval x = .slice (some ad) 1 c) (hnl : news.length = sz)
 (hc : ∀ j u, news[j]? = some u → w.cell? (ad.add j) = some u) (h1c : ∀ u ∈ news, u.oneCell' = true) (hB : B ≤ w.heap.size) (hl : n ≤ 1000000) (hb : bytes ≤ 1000)
 (h : ∀ v' w', SoC e sz B (n + 1) (olds ++ news) v' w' → Below B w w' → wpList P ops Q rest (a.put o.dst v') w') : wpList P ops Q (o :: rest) a w :=
 wpList_plain hg fun _ hK => wp_app_soc s x t ho e i z sz bytes h1 h2 h3 h4 h5 h6 h7 B n olds v hs hso ad c news hx hnl hc h1c hB hl hb fun v' w' h8 h9 => hK _ _ (h v' w' h8 h9)
theorem ints_flat (l : List Int) : (l.map fun x => I x) = flat 1 (rI l) l.length := by
 apply List.ext_getElem?
 intro i
 by_cases hi : i < l.length
 · have h := flat_get (sz := 1) (n := l.length) (k := i) (j := 0) (rI l) hi (by omega)
   rw [Nat.mul_one, Nat.add_zero] at h
   rw [h, List.getElem?_map, List.getElem?_eq_getElem hi]
   simp [rI, at0_get hi]
 · rw [List.getElem?_eq_none (by simpa using hi), List.getElem?_eq_none (by rw [flat_len]; omega)]
end Go.Proofs.YtnkaoplgmglijaaDoor.Un
