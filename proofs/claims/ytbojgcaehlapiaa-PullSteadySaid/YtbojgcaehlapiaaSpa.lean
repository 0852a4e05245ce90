/- What Sold of package pull leans on: stretches that the caller owns, the seconds that are spoiled, its two closures. -/
import Derived.Test.YtbojgcaehlapiaaNxa
import Derived.Test.YtbojgcaehlapiaaMka
namespace Go.Proofs.Ytbojgcaehlapiaa
open Go.RowKit
theorem own_base {w : World} {base base' sz n : Nat} {e : TypeId} {v : Value} {xs : List Value} (h : w.ownsRow base e sz v n xs) (hb : base' ≤ base) : w.ownsRow base' e sz v n xs := by
  obtain ⟨h1, h2⟩ := h
  refine ⟨h1, ?_⟩
  rcases h2 with h2 | ⟨g, cap, cur, hv, hg, r⟩
  · exact .inl h2
  · exact .inr ⟨g, cap, cur, hv, by omega, r⟩
/-- A list of ranges that the caller owns comes back. -/
def RetO (w : World) (l : List Rng) (e : Ending) (w' : World) : Prop := ∃ A n c, e = .returned (.slice A n c) ∧ n = l.length ∧ w'.ownsRow w.heap.size 23 2 (.slice A n c) l.length (rc l) ∧ Below w.heap.size w w'
set_option maxRecDepth 100000 in
set_option maxHeartbeats 1000000 in
theorem stretches_own (A1 A2 A3 : Option Addr) (c1 c2 c3 : Nat) (R : Run) (o s : Int) (w : World) (h : RunIn w A1 A2 A3 R) (hl : R.es.length ≤ 1000) :
    Calls Try.prog 54 #[runV A1 A2 A3 c1 c2 c3 R, I o, I s] w (RetO w (strs R o s)) := by
  have He := Lib.hid h.e
  clear h
  obtain ⟨i0, hi0, iz0, iz1, iz2⟩ := info_parts rng_info
  obtain ⟨W0, hW0⟩ : ∃ W0, W0 = w.alloc (.cells #[.slice A1 R.ss.length c1, I R.e, .slice A2 R.ms.length c2, .slice A3 R.es.length c3] 48) := ⟨_, rfl⟩
  have HW0 := Lib.hid hW0
  have hZ0 : Hid (W0.heap.size = w.heap.size + 1) := by subst hW0; simp [Hid]
  have hE0 : Hid (W0.cell? ⟨w.heap.size, 1, none⟩ = some (I R.e)) := by subst hW0; simp [Hid]
  have hU : ∀ W : World, Below (w.heap.size + 1) W0 W → Below w.heap.size w W := fun W h => under (o := .cells #[.slice A1 R.ss.length c1, I R.e, .slice A2 R.ms.length c2, .slice A3 R.es.length c3] 48) (HW0.out ▸ h)
  clear hW0
  have HU := Lib.hid hU
  clear hU
  go_enter Try.func54, Try.ntmps54
  go_wp2
  go_loopw [7, 8, 14] (fun v sn i wr => ∃ k l q, k ≤ R.es.length ∧ i = .int .i64 (k : Nat) ∧ strK R o s k = (l, q) ∧ sn = I q ∧ wr.ownsRow (w.heap.size + 1) 23 2 v l.length (rc l) ∧ Below (w.heap.size + 1) W0 wr) (fun _ _ i _ => R.es.length - (intOf i).toNat)
  case atStart => exact ⟨0, [], -1, by omega, rfl, rfl, rfl, ⟨rfl, .inl ⟨rfl, rfl⟩⟩, by rw [HW0.out]; exact Below.refl _ _⟩
  case round =>
    obtain ⟨k, l, q, hk, rfl, hst, rfl, hown, hbw⟩ := hrel
    have hsz : w.heap.size + 1 ≤ wr.heap.size := by have := hbw.size; rw [hZ0.out] at this; exact this
    have hll : l.length ≤ k := by have := strK_len R o s k; rw [hst] at this; exact this
    have Hst := Lib.hid hst
    clear hst
    by_cases hlt : k < R.es.length
    · obtain ⟨b, of, rfl, hB, x0, x1⟩ := (He.out.below (HU.out _ hbw)).evt hlt
      have hns : Hid (strK R o s (k + 1) = strStep o s (at0 R.es k) (l, q)) := by show strK R o s (k + 1) = _; rw [← Hst.out]; rfl
      by_cases h1 : (at0 R.es k).kd = o ∧ q < 0
      · have hn2 : Hid (strK R o s (k + 1) = (l, (at0 R.es k).t)) := by show _ = _; rw [hns.out, strStep, if_pos h1]
        obtain ⟨h1, h2⟩ := h1
        have h1' : ((at0 R.es k).kd == o) = true := by simpa using h1
        clear h1
        go_wp2_with fail
        go_roundw
        case rel => exact ⟨k + 1, l, _, by omega, by go_num, hn2.out, rfl, hown.alloc _, hbw.alloc (by omega) _⟩
        case measure => simp [intOf]; omega
      by_cases h2 : (at0 R.es k).kd = s ∧ 0 ≤ q
      · have hn2 : Hid (strK R o s (k + 1) = (l ++ [⟨q, (at0 R.es k).t⟩], -1)) := by show _ = _; rw [hns.out, strStep, if_neg h1, if_pos h2]
        have hrc := Lib.hid (rc_app l ⟨q, (at0 R.es k).t⟩)
        obtain ⟨h2, h3⟩ := h2
        have h2' : ((at0 R.es k).kd == s) = true := by simpa using h2
        clear h2 h1
        by_cases h4 : (at0 R.es k).kd = o
        all_goals
          (first | have h4' : ((at0 R.es k).kd == o) = true := by simpa using h4
                 | have h4' : ((at0 R.es k).kd == o) = false := by simpa using h4)
          clear h4
          go_wp2_with (at_builtin; go_loud (refine wpList_append_own _ rfl _ _ 69 rfl (w.heap.size + 1) 23 i0 _ 2 16 Try.underlying69 hi0 iz0 iz1 iz2 rfl (by decide) u7 l.length (rc l) rfl ((hown.alloc _).alloc _) ⟨wr.heap.size + 1, 0, none⟩ 1 1 [I q, I (at0 R.es k).t] rfl (by rfl) (news_lit (cs := #[I q, I (at0 R.es k).t]) (heap_last _ _ _ (by simp))) ?h1 ?h63 ?hby ?hba ?_))
          case h1 => simp [Value.oneCell']
          case h63 => unfold maxLen; omega
          case hby => omega
          case hba => first | omega | (simp; omega)
          intro v' w2 own3 hg2 _
          have hB3 : Below (w.heap.size + 1) W0 w2 := ((hbw.alloc (by omega) _).alloc (by simp; omega) _).grown hg2 (by simp; omega) (fun g hg => (hown.lt g hg).1)
          have own4 : Hid (w2.ownsRow (w.heap.size + 1) 23 2 v' (l ++ [(⟨q, (at0 R.es k).t⟩ : Rng)]).length (rc (l ++ [⟨q, (at0 R.es k).t⟩]))) := by
            show w2.ownsRow _ _ _ _ _ _
            rw [hrc.out]; simpa using own3
          clear own3
          go_wp2_with fail
          go_roundw
          case rel => exact ⟨k + 1, _, _, by omega, by go_num, hn2.out, rfl, own4.out, hB3⟩
          case measure => simp [intOf]; omega
      · have hn2 : Hid (strK R o s (k + 1) = (l, q)) := by show _ = _; rw [hns.out, strStep, if_neg h1, if_neg h2]
        by_cases h4 : (at0 R.es k).kd = o
        · have h5 : ¬ q < 0 := fun e => h1 ⟨h4, e⟩
          have h6 : ((at0 R.es k).kd == s) = false := by simp; intro e; exact h2 ⟨e, by omega⟩
          have h4' : ((at0 R.es k).kd == o) = true := by simpa using h4
          clear h1 h2 h4
          go_wp2_with fail
          go_roundw
          case rel => exact ⟨k + 1, l, q, by omega, by go_num, hn2.out, rfl, hown.alloc _, hbw.alloc (by omega) _⟩
          case measure => simp [intOf]; omega
        · have h4' : ((at0 R.es k).kd == o) = false := by simpa using h4
          by_cases h7 : (at0 R.es k).kd = s
          · have h8 : ¬ 0 ≤ q := fun e => h2 ⟨h7, e⟩
            have h7' : ((at0 R.es k).kd == s) = true := by simpa using h7
            clear h1 h2 h4 h7
            go_wp2_with fail
            go_roundw
            case rel => exact ⟨k + 1, l, q, by omega, by go_num, hn2.out, rfl, hown.alloc _, hbw.alloc (by omega) _⟩
            case measure => simp [intOf]; omega
          · have h7' : ((at0 R.es k).kd == s) = false := by simpa using h7
            clear h1 h2 h4 h7
            go_wp2_with fail
            go_roundw
            case rel => exact ⟨k + 1, l, q, by omega, by go_num, hn2.out, rfl, hown.alloc _, hbw.alloc (by omega) _⟩
            case measure => simp [intOf]; omega
    · have hkn : k = R.es.length := by omega
      subst hkn
      have cE : wr.cell? ⟨w.heap.size, 1, none⟩ = some (I R.e) := (hbw.cell (p := ⟨_, _, none⟩) (by simp)).trans hE0.out
      by_cases h2 : 0 ≤ q
      · have hfin : Hid (strs R o s = l ++ [⟨q, R.e⟩]) := by show _ = _; rw [strs, Hst.out, if_pos h2]
        have hrc := Lib.hid (rc_app l ⟨q, R.e⟩)
        go_wp2_with (at_builtin; go_loud (refine wpList_append_own _ rfl _ _ 69 rfl (w.heap.size + 1) 23 i0 _ 2 16 Try.underlying69 hi0 iz0 iz1 iz2 rfl (by decide) u7 l.length (rc l) rfl (hown.alloc _) ⟨wr.heap.size, 0, none⟩ 1 1 [I q, I R.e] rfl (by rfl) (news_lit (cs := #[I q, I R.e]) (heap_last _ _ _ (by simp))) ?h1 ?h63 ?hby ?hba ?_))
        case h1 => simp [Value.oneCell']
        case h63 => unfold maxLen; omega
        case hby => omega
        case hba => first | omega | (simp; omega)
        intro v' w2 own3 hg2 _
        have hB3 : Below (w.heap.size + 1) W0 w2 := (hbw.alloc (by omega) _).grown hg2 (by simp; omega) (fun g hg => (hown.lt g hg).1)
        have own4 : w2.ownsRow (w.heap.size + 1) 23 2 v' (l ++ [(⟨q, R.e⟩ : Rng)]).length (rc (l ++ [⟨q, R.e⟩])) := by rw [hrc.out]; simpa using own3
        clear own3
        obtain ⟨A, c, rfl, _⟩ := Rd.of_rc own4
        have HR := Lib.hid own4
        clear own4
        go_wp2_with fail
        go_ret
        exact ⟨A, _, c, rfl, by rw [hfin.out], by rw [hfin.out]; exact own_base HR.out (by omega), HU.out _ hB3⟩
      · have hfin : Hid (strs R o s = l) := by show _ = _; rw [strs, Hst.out, if_neg h2]
        obtain ⟨A, c, rfl, _⟩ := Rd.of_rc hown
        have HR := Lib.hid hown
        go_wp2_with fail
        go_ret
        exact ⟨A, _, c, rfl, by rw [hfin.out], by rw [hfin.out]; exact own_base HR.out (by omega), HU.out _ hbw⟩
/-- All but one block is left alone. -/
structure But (b : Nat) (w w' : World) : Prop where
  os : w'.os = w.os
  tape : w'.tape = w.tape
  output : w'.output = w.output
  size : w.heap.size ≤ w'.heap.size
  block : ∀ k, k < w.heap.size → k ≠ b → w'.heap[k]? = w.heap[k]?
theorem But.refl (b : Nat) (w : World) : But b w w := ⟨rfl, rfl, rfl, Nat.le_refl _, fun _ _ _ => rfl⟩
theorem But.trans {b : Nat} {u v w : World} (h : But b u v) (h' : But b v w) : But b u w :=
  ⟨h'.os.trans h.os, h'.tape.trans h.tape, h'.output.trans h.output, Nat.le_trans h.size h'.size, fun k hk hb => (h'.block k (Nat.lt_of_lt_of_le hk h.size) hb).trans (h.block k hk hb)⟩
theorem But.of_below {b : Nat} {w w' : World} (h : Below w.heap.size w w') : But b w w' := ⟨h.os, h.tape, h.output, h.size, fun k hk _ => h.block k hk⟩
theorem But.alloc {b : Nat} {w w' : World} (h : But b w w') (o : Obj) : But b w (w'.alloc o) := h.trans (But.of_below ((Below.refl _ _).alloc (Nat.le_refl _) o))
theorem But.setRow {b : Nat} {w w' : World} (h : But b w w') (cs : Array Value) : But b w (w'.setRow b cs) :=
  h.trans ⟨rfl, rfl, rfl, by simp [World.setRow], fun k _ hb => setRow_other hb⟩
theorem But.below {b B : Nat} {w w' : World} (h : But b w w') (hB : B ≤ b) (hs : B ≤ w.heap.size) : Below B w w' := ⟨h.os, h.tape, h.output, h.size, fun k hk => h.block k (by omega) (by omega)⟩
theorem But.cell {b : Nat} {w w' : World} (h : But b w w') {k o : Nat} {v : Value} (hc : w.cell? ⟨k, o, none⟩ = some v) (hk : k ≠ b) : w'.cell? ⟨k, o, none⟩ = some v := by
  rw [← hc]; unfold World.cell?; simp [h.block k (block_lt_of_cell hc) hk]
def bArr (f : Nat → Bool) (n : Nat) : Array Value := ((List.range n).map fun i => Value.bool (f i)).toArray
theorem bArr_size (f : Nat → Bool) (n : Nat) : (bArr f n).size = n := by simp [bArr]
theorem bArr_get (f : Nat → Bool) {n i : Nat} (h : i < n) : (bArr f n)[i]? = some (.bool (f i)) := by simp [bArr, h]
def updB (f : Nat → Bool) (k : Nat) (b : Bool) (i : Nat) : Bool := if i = k then b else f i
theorem bArr_upd (f : Nat → Bool) {n k : Nat} (hk : k < n) (b : Bool) : (bArr f n).setIfInBounds k (.bool b) = bArr (updB f k b) n := by
  apply Array.ext_getElem?
  intro i
  by_cases hi : i < n
  · rw [bArr_get _ hi, Array.getElem?_setIfInBounds]
    by_cases h : k = i
    · subst h; rw [if_pos rfl, if_pos (by rw [bArr_size]; exact hk)]; simp [updB]
    · rw [if_neg h, bArr_get _ hi, updB, if_neg (fun e => h e.symm)]
  · rw [Array.getElem?_eq_none (by simp [bArr_size]; omega), Array.getElem?_eq_none (by rw [bArr_size]; omega)]
theorem bArr_congr {f g : Nat → Bool} {n : Nat} (h : ∀ k, k < n → f k = g k) : bArr f n = bArr g n := by
  apply Array.ext_getElem?
  intro i
  by_cases hi : i < n
  · rw [bArr_get _ hi, bArr_get _ hi, h i hi]
  · rw [Array.getElem?_eq_none (by rw [bArr_size]; omega), Array.getElem?_eq_none (by rw [bArr_size]; omega)]
section
variable {P : Program}
theorem wpList_store_bool {ops : Array Oper} {rest : List Oper} {o : Oper} {a : Act} {w : World} {Q : Exit → Act → World → Prop} (hgd : o.guard = none) (ty : TypeId) (x y : Operand) (ho : o.op = .store ty x y)
    (g k : Nat) (hx : a.eval x = .pointer (some ⟨g, k, none⟩)) (f : Nat → Bool) (n : Nat) (t : TypeId) (hg : w.heap[g]? = some (.cells (bArr f n) t (0, 0))) (hk : k < n) (b : Bool) (hy : a.eval y = .bool b) (hi : (P.info? ty).map (·.size) = some 1)
    (h : wpList P ops Q rest (a.put o.dst undef) (w.setRow g (bArr (updB f k b) n))) : wpList P ops Q (o :: rest) a w := by
  refine wpList_plain hgd fun _ hK => ?_
  have hst := run_storeCells_at (P := P) g k t [.bool b] 0 (bArr f n) w hg (by rw [bArr_size]; show k + 0 + 1 ≤ _; omega) (by intro v hv; simp at hv; subst hv; rfl)
  have e : ((bArr f n).toList.take (k + 0) ++ [Value.bool b] ++ (bArr f n).toList.drop (k + 0 + [Value.bool b].length)).toArray = bArr (updB f k b) n := by
    rw [← bArr_upd f hk b]
    apply Array.ext_getElem?
    intro i
    rw [List.getElem?_toArray, Array.getElem?_setIfInBounds, Nat.add_zero]
    have hl : (bArr f n).toList.length = n := by simp [bArr]
    have hs : (bArr f n).size = n := bArr_size f n
    by_cases h1 : i < k
    · rw [List.append_assoc, List.getElem?_append_left (by rw [List.length_take]; omega), List.getElem?_take, if_pos h1, if_neg (by omega), Array.getElem?_toList]
    · by_cases h2 : k = i
      · subst h2
        rw [List.append_assoc, List.getElem?_append_right (by rw [List.length_take]; omega), List.length_take, List.getElem?_append_left (by simp; omega), if_pos rfl, if_pos (by rw [bArr_size]; exact hk)]
        have : k - min k (bArr f n).toList.length = 0 := by omega
        rw [this]; rfl
      · rw [List.getElem?_append_right (by simp [bArr_size]; omega), if_neg h2, List.getElem?_drop, Array.getElem?_toList]
        congr 1
        simp [bArr_size]
        omega
  rw [e] at hst
  have hrun : (storeVar ty ⟨g, k, none⟩ (.bool b)).run P w = .ok () (w.setRow g (bArr (updB f k b) n)) := by
    cases hq : P.info? ty with
    | none => simp [hq] at hi
    | some i =>
      have hs' : i.size = 1 := by simpa [hq] using hi
      simp only [storeVar, Sem.run_bind, sizeOf, typeInfo, Value.cells]
      simp [hq, hs', Sem.run_bind] at hst ⊢
      exact hst
  unfold Oper.wp execOp
  simp only [ho, hx, hy, Instr.storeAt, Instr.sureAddr, Sem.run_bind, Sem.run_pure, Result.andThen_ok, hrun]
  exact hK _ _ h
end
/-- The seconds of a range are spoiled, up to one. -/
def spB (f : Nat → Bool) (lo : Int) (k : Int) (i : Nat) : Bool := f i || (decide (lo ≤ (i : Int)) && decide ((i : Int) < k))
theorem spB_zero (f : Nat → Bool) (lo : Int) : spB f lo lo = f := by
  funext i; unfold spB
  have : (decide (lo ≤ (i : Int)) && decide ((i : Int) < lo)) = false := by simp
  rw [this, Bool.or_false]
theorem spB_upd (f : Nat → Bool) (lo : Int) (k : Nat) (h : lo ≤ (k : Int)) : updB (spB f lo k) k true = spB f lo ((k : Int) + 1) := by
  funext i; unfold updB spB
  by_cases hi : i = k
  · subst hi; rw [if_pos rfl]; simp; right; omega
  · rw [if_neg hi]
    have : decide ((i : Int) < (k : Int)) = decide ((i : Int) < (k : Int) + 1) := by rw [decide_eq_decide]; omega
    rw [this]
/-- One block changed, to these seconds. -/
def RetS (w : World) (db N : Nat) (g : Nat → Bool) (e : Ending) (w' : World) : Prop := e = .returned (.tuple #[]) ∧ But db w w' ∧ w'.heap[db]? = some (.cells (bArr g N) 4 (0, 0))
set_option maxHeartbeats 1000000 in
theorem spoil_any (vb db N : Nat) (f : Nat → Bool) (r : Rng) (w : World) (hv : w.cell? ⟨vb, 0, none⟩ = some (.slice (some ⟨db, 0, none⟩) N N)) (hd : w.heap[db]? = some (.cells (bArr f N) 4 (0, 0))) (hne : vb ≠ db) (hN : N ≤ 1000000)
    (hr : 0 ≤ r.lo ∧ r.hi ≤ N ∧ r.lo ≤ 1000000) :
    Calls Try.prog 53 #[r.val, .pointer (some ⟨vb, 0, none⟩)] w (RetS w db N (spB f r.lo (max r.lo r.hi))) := by
  obtain ⟨r1, r2, r3⟩ := hr
  have Hv := Lib.hid hv
  have Hd := Lib.hid hd
  have hdl : db < w.heap.size := (Array.getElem?_eq_some_iff.1 hd).1
  have hvl : vb < w.heap.size := block_lt_of_cell hv
  clear hv hd
  go_enter Try.func53, Try.ntmps53
  go_wp2_with fail
  go_loopw [3] (fun i wr => ∃ t : Int, i = .int .i64 t ∧ r.lo ≤ t ∧ t ≤ max r.lo r.hi ∧ wr.heap[db]? = some (.cells (bArr (spB f r.lo t) N) 4 (0, 0)) ∧ But db (w.alloc (.cells #[I r.lo, I r.hi] 23)) wr) (fun i _ => (r.hi - intOf i).toNat)
  case atStart => exact ⟨r.lo, rfl, by omega, by omega, by rw [spB_zero]; exact heap_before Hd.out, But.refl _ _⟩
  case round =>
    obtain ⟨t, rfl, t1, t2, hb, hbw⟩ := hrel
    have Hb := Lib.hid hb
    have Hbw := Lib.hid hbw
    have y0 : wr.cell? ⟨w.heap.size, 1, none⟩ = some (I r.hi) := hbw.cell (by simp) (by omega)
    have y1 : wr.cell? ⟨vb, 0, none⟩ = some (.slice (some ⟨db, 0, none⟩) N N) := hbw.cell (by rw [World.cell?_alloc_past _ _ _ hvl]; exact Hv.out) hne
    clear hb hbw
    by_cases hlt : t < r.hi
    · obtain ⟨k, rfl⟩ : ∃ k : Nat, t = (k : Int) := ⟨t.toNat, by omega⟩
      have hkN : k < N := by omega
      have hki : (k : Int) < (N : Int) := by omega
      go_wp2_with (refine wpList_store_bool rfl 4 _ _ rfl db k (by first | rfl | (simp; done)) (spB f r.lo k) N 4 Hb.out hkN true rfl (by kernel_rfl) ?_)
      go_roundw
      case rel => exact ⟨(k : Int) + 1, rfl, by omega, by omega, by rw [spB_upd _ _ _ t1]; exact setRow_same Hb.out, Hbw.out.setRow _⟩
      case measure => simp [intOf]; omega
    · have ht : Hid (t = max r.lo r.hi) := by show _ = _; omega
      have hfin : Hid (But db w wr) := (But.alloc (But.refl _ _) _).trans Hbw.out
      have hb2 : Hid (wr.heap[db]? = some (.cells (bArr (spB f r.lo (max r.lo r.hi)) N) 4 (0, 0))) := by show _ = _; rw [← ht.out]; exact Hb.out
      go_wp2_with fail
      go_end0
      exact ⟨rfl, hfin.out, hb2.out⟩
end Go.Proofs.Ytbojgcaehlapiaa
/- The contracts of soft and own of the statements' package. -/
namespace Go.Proofs.Ytbojgcaehlapiaa
open Go.RowKit
/-- Some cells of an aggregate, written over. -/
def ovw (f : Vec) (k m : Nat) (g : Vec) : Vec := fun i => if k ≤ i ∧ i < k + m then g (i - k) else f i
theorem ovw_ia (f g : Vec) {n k m : Nat} (h : k + m ≤ n) : ((ia n f).toList.take (k + 0) ++ (ia m g).toList ++ (ia n f).toList.drop (k + 0 + (ia m g).toList.length)).toArray = ia n (ovw f k m g) := by
  apply Array.ext_getElem?
  intro i
  have hl : (ia n f).toList.length = n := by simp [ia]
  have hm : (ia m g).toList.length = m := by simp [ia]
  rw [List.getElem?_toArray, hm, Nat.add_zero]
  by_cases hi : i < n
  · rw [ia_get hi]
    by_cases h1 : i < k
    · rw [List.append_assoc, List.getElem?_append_left (by rw [List.length_take]; omega), List.getElem?_take, if_pos h1, Array.getElem?_toList, ia_get hi, ovw, if_neg (by omega)]
    · by_cases h2 : i < k + m
      · rw [List.append_assoc, List.getElem?_append_right (by rw [List.length_take]; omega), List.length_take, List.getElem?_append_left (by rw [hm]; omega), Array.getElem?_toList, hl, show i - min k n = i - k by omega, ia_get (by omega), ovw, if_pos (by omega)]
      · rw [List.getElem?_append_right (by rw [List.length_append, List.length_take]; omega), List.length_append, List.length_take, List.getElem?_drop, Array.getElem?_toList, hl, hm, show k + m + (i - (min k n + m)) = i by omega, ia_get hi, ovw, if_neg (by omega)]
  · rw [List.getElem?_eq_none (by simp only [List.length_append, List.length_take, List.length_drop, hl, hm]; omega), Array.getElem?_eq_none (by rw [ia_size]; omega)]
section
variable {P : Program}
/-- A store of some integers into a block of integers. -/
theorem wpList_store_ia {ops : Array Oper} {rest : List Oper} {o : Oper} {a : Act} {w : World} {Q : Exit → Act → World → Prop} (hgd : o.guard = none) (ty : TypeId) (x y : Operand) (ho : o.op = .store ty x y)
    (b k n m : Nat) (hx : a.eval x = .pointer (some ⟨b, k, none⟩)) (f g : Vec) (t : TypeId) (hg : w.heap[b]? = some (.cells (ia n f) t (0, 0))) (hk : k + m ≤ n) (v : Value) (hv : v.cells = ia m g) (hy : a.eval y = v) (hi : (P.info? ty).map (·.size) = some m)
    (h : wpList P ops Q rest (a.put o.dst undef) (w.setRow b (ia n (ovw f k m g)))) : wpList P ops Q (o :: rest) a w := by
  refine wpList_plain hgd fun _ hK => ?_
  have hst := run_storeCells_at (P := P) b k t (ia m g).toList 0 (ia n f) w hg (by rw [ia_size]; simp [ia]; omega) ia_one
  rw [ovw_ia f g hk] at hst
  have hrun : (storeVar ty ⟨b, k, none⟩ v).run P w = .ok () (w.setRow b (ia n (ovw f k m g))) := by
    cases hq : P.info? ty with
    | none => simp [hq] at hi
    | some i =>
      have hs' : i.size = m := by simpa [hq] using hi
      simp only [storeVar, Sem.run_bind, sizeOf, typeInfo, hv]
      simp [hq, hs', Sem.run_bind, ia_size] at hst ⊢
      exact hst
  unfold Oper.wp execOp
  simp only [ho, hx, hy, Instr.storeAt, Instr.sureAddr, Sem.run_bind, Sem.run_pure, Result.andThen_ok, hrun]
  exact hK _ _ h
end
/-- A rule that lets everything through, its first g gauges set. -/
def softR (g : Nat) : Vec := fun i => if i < 12 then (if i / 2 < g ∧ i % 2 = 1 then 1000000 else 0) else if i < 18 then (if i - 12 < g then 1000000 else 0) else if i = 19 then 100000 else if i = 21 then 10000000000 else 0
/-- The puller whose first k rules are set. -/
def softP (k : Nat) : Vec := fun i => if i < 110 then (if i / 22 < k then softR 6 (i % 22) else 0) else if i = 110 then 2 else if i = 111 then 1 else if i = 112 then 97 else if i = 113 then 104 else if i = 114 then 600 else if i = 115 then 10 else 0
def softV : Vec := softP 5
theorem ia_congr {n : Nat} {f g : Vec} (h : ∀ i, i < n → f i = g i) : ia n f = ia n g := by
  apply Array.ext_getElem?
  intro i
  by_cases hi : i < n
  · rw [ia_get hi, ia_get hi, h i hi]
  · rw [Array.getElem?_eq_none (by rw [ia_size]; omega), Array.getElem?_eq_none (by rw [ia_size]; omega)]
theorem softR_step {g : Nat} (hg : g < 6) : ia 22 (ovw (ovw (softR g) (g * 2) 2 fun i => if i = 1 then 1000000 else 0) (12 + g) 1 fun _ => 1000000) = ia 22 (softR (g + 1)) := by
  refine ia_congr fun i hi => ?_
  unfold ovw softR
  dsimp only
  repeat' split
  all_goals first | rfl | omega
theorem softP_step {k : Nat} (hk : k < 5) : ia 117 (ovw (softP k) (k * 22) 22 (softR 6)) = ia 117 (softP (k + 1)) := by
  refine ia_congr fun i hi => ?_
  unfold ovw softP
  by_cases h1 : k * 22 ≤ i ∧ i < k * 22 + 22
  · rw [if_pos h1, if_pos (by omega), if_pos (by omega), show i - k * 22 = i % 22 by omega]
  · rw [if_neg h1]
    repeat' split
    all_goals first | rfl | omega
theorem soft_puller : Try.prog.built 30 [(1, I 2), (2, I 1), (3, .agg #[I 97, I 104]), (4, I 600), (5, I 10)] = some (ia 117 (softP 0)) := by kernel_rfl
theorem soft_rule : Try.prog.built 27 [(2, .agg #[I 0, I 100000]), (3, .agg #[I 0, I 10000000000])] = some (ia 22 (softR 0)) := by kernel_rfl
theorem soft1 : (ia 117 (softP 0)).size = Try.zeroCells30.size := by rw [ia_size]; kernel_rfl
theorem soft2 : (Try.prog.info? 30).map (·.size) = some Try.zeroCells30.size := by kernel_rfl
theorem soft4 : (Try.prog.info? 27).map (·.size) = some 22 := by kernel_rfl
theorem wpList_built {P : Program} {ops : Array Oper} {rest : List Oper} {o : Oper} {a : Act} {w : World} {Q : Exit → Act → World → Prop} (hgd : o.guard = none) (t : TypeId) (parts : Array (Nat × Operand)) (ho : o.op = .build t parts)
    (ps : List (Nat × Value)) (hp : (parts.map fun (i, x) => (i, a.eval x)).toList = ps) (cs : Array Value) (hb : P.built t ps = some cs) (h : wpList P ops Q rest (a.put o.dst (.agg cs)) w) : wpList P ops Q (o :: rest) a w := by
  refine wpList_plain hgd fun _ hK => ?_
  unfold Oper.wp execOp
  simp only [ho, Sem.run_bind, run_build w t _ cs (by rw [hp]; exact hb), Result.andThen_ok]
  exact hK _ _ h
set_option maxRecDepth 100000 in
set_option maxHeartbeats 1000000 in
theorem soft_any (w : World) : Calls Try.prog 18 #[] w fun e w' => e = .returned (.agg (ia 117 softV)) ∧ Below w.heap.size w w' := by
  go_enter Try.func18, Try.ntmps18
  go_wp2_with (first | (refine wpList_built rfl 30 _ rfl _ rfl _ soft_puller ?_) | (refine wpList_store_new rfl 30 _ _ rfl _ _ (w.heap.size + 1) rfl (by simp) (ia 117 (softP 0)) rfl ia_one soft1 soft2 ?_))
  go_loopw [2] (fun i wr => ∃ k : Nat, k ≤ 5 ∧ i = .int .i64 k ∧ wr.heap[w.heap.size + 1]? = some (.cells (ia 117 (softP k)) 30 (0, 0)) ∧ wr.heap[w.heap.size]? = some (.cells Try.zeroCells30 30 (0, 0)) ∧ Below w.heap.size w wr) (fun i _ => 5 - (intOf i).toNat)
  case atStart => exact ⟨0, by omega, rfl, heap_last _ _ _ (by simp), heap_before (heap_last _ _ _ rfl), ((Below.refl _ _).alloc (Nat.le_refl _) _).alloc (by simp) _⟩
  case round =>
    obtain ⟨k, hk, rfl, h1, h0, hbw⟩ := hrel
    have H1 := Lib.hid h1
    have H0 := Lib.hid h0
    have HB := Lib.hid hbw
    clear h1 h0 hbw
    have hk5 : (k : Int) ≤ 5 := by omega
    by_cases hlt : k < 5
    · go_wp2_with (first | (refine wpList_built rfl 27 _ rfl _ rfl _ soft_rule ?_) | (refine wpList_store_new rfl 27 _ _ rfl _ _ wr.heap.size rfl rfl (ia 22 (softR 0)) rfl ia_one (ia_size _ _) soft4 ?_))
      obtain ⟨wo, rfl⟩ : ∃ wo : World, wo = wr := ⟨_, rfl⟩
      go_loopw [4] (fun i wq => ∃ g : Nat, g ≤ 6 ∧ i = .int .i64 g ∧ wq.heap[wo.heap.size]? = some (.cells (ia 22 (softR g)) 27 (0, 0)) ∧ Below wo.heap.size wo wq) (fun i _ => 6 - (intOf i).toNat)
      case atStart => exact ⟨0, by omega, rfl, heap_last _ _ _ rfl, (Below.refl _ _).alloc (Nat.le_refl _) _⟩
      case round =>
        obtain ⟨g, hg, rfl, hr, hbq⟩ := hrel
        have HR := Lib.hid hr
        have HQ := Lib.hid hbq
        clear hr hbq
        have hg6 : (g : Int) ≤ 6 := by omega
        by_cases hlg : g < 6
        · have e1 : Hid ((wr.setRow wo.heap.size (ia 22 (ovw (softR g) (g * 2) 2 fun i => if i = 1 then 1000000 else 0))).heap[wo.heap.size]? = some (.cells (ia 22 (ovw (softR g) (g * 2) 2 fun i => if i = 1 then 1000000 else 0)) 27 (0, 0))) := setRow_same HR.out
          go_wp2_with (first | (refine wpList_store_ia rfl 23 _ _ rfl wo.heap.size (g * 2) 22 2 (by first | rfl | (simp; done)) (softR g) (fun i => if i = 1 then 1000000 else 0) _ HR.out (by omega) (.agg #[I 0, I 1000000]) rfl rfl (by kernel_rfl) ?_) | (refine wpList_store_ia rfl 3 _ _ rfl wo.heap.size (12 + g) 22 1 (by first | rfl | (simp; done)) _ (fun _ => 1000000) _ e1.out (by omega) (I 1000000) rfl rfl (by kernel_rfl) ?_))
          have hs : Hid (ia 22 (ovw (ovw (softR g) (g * 2) 2 fun i => if i = 1 then 1000000 else 0) (12 + g) 1 fun _ => 1000000) = ia 22 (softR (g + 1))) := softR_step hlg
          go_roundw
          case rel => exact ⟨g + 1, by omega, by go_num, by rw [← hs.out]; exact setRow_same e1.out, below_setRow (below_setRow HQ.out (Nat.le_refl _) _) (Nat.le_refl _) _⟩
          case measure => simp [intOf]; omega
        · obtain rfl : g = 6 := by omega
          have hb1 : Hid (wr.heap[w.heap.size + 1]? = some (.cells (ia 117 (softP k)) 30 (0, 0))) := (HQ.out.block _ (Array.getElem?_eq_some_iff.1 H1.out).1).trans H1.out
          have hz : w.heap.size + 1 < wo.heap.size := (Array.getElem?_eq_some_iff.1 H1.out).1
          have hs : Hid (ia 117 (ovw (softP k) (k * 22) 22 (softR 6)) = ia 117 (softP (k + 1))) := softP_step hlt
          go_wp2_with (first | (refine wpList_load_ia rfl 27 _ rfl wo.heap.size 0 rfl 22 (softR 6) _ (fun j hj => by rw [cell_of_row _ _ _ _ _ _ HR.out, Nat.zero_add]; exact ia_get hj) Try.underlying27 rfl (by kernel_rfl) ?_) | (refine wpList_store_ia rfl 27 _ _ rfl (w.heap.size + 1) (k * 22) 117 22 (by first | rfl | (simp; done)) (softP k) (softR 6) _ hb1.out (by omega) (.agg (ia 22 (softR 6))) rfl rfl soft4 ?_))
          go_roundw
          case rel => exact ⟨k + 1, by omega, by go_num, by rw [← hs.out]; exact setRow_same hb1.out, (setRow_other (by omega)).trans ((HQ.out.block _ (by omega)).trans H0.out), below_setRow (HB.out.trans (HQ.out.mono HB.out.size)) (by omega) _⟩
          case measure => simp [intOf]; omega
    · obtain rfl : k = 5 := by omega
      go_wp2_with (first | (refine wpList_load_ia rfl 30 _ rfl (w.heap.size + 1) 0 rfl 117 (softP 5) _ (fun j hj => by rw [cell_of_row _ _ _ _ _ _ H1.out, Nat.zero_add]; exact ia_get hj) Try.underlying30 rfl (by kernel_rfl) ?_) | (refine wpList_store_row rfl 30 _ _ rfl w.heap.size rfl _ _ H0.out (ia 117 (softP 5)) rfl ia_one (by rw [ia_size]; kernel_rfl) soft2 ?_))
      refine bodyPost_ret (results_cell_only rfl _ _ w.heap.size 30 (ia 117 (softP 5)) (0, 0) _ rfl (setRow_same H0.out) Try.underlying30 rfl (by kernel_rfl)) rfl ?_
      exact ⟨rfl, below_setRow HB.out (Nat.le_refl _) _⟩
end Go.Proofs.Ytbojgcaehlapiaa
/- The contract of sameRanges of the statements' package. -/
namespace Go.Proofs.Ytbojgcaehlapiaa
open Go.RowKit
def sameL (a b : List Rng) : Bool := decide (a = b)
theorem sameL_at {a b : List Rng} {k : Nat} (_hk : k < a.length) (h : ¬ at0 a k = at0 b k) : sameL a b = false := by
  unfold sameL
  rw [decide_eq_false_iff_not]
  intro e
  exact h (by rw [e])
theorem sameL_all {a b : List Rng} (hl : a.length = b.length) (h : ∀ k, k < a.length → at0 a k = at0 b k) : sameL a b = true := by
  unfold sameL
  rw [decide_eq_true_eq]
  apply List.ext_getElem hl
  intro i h1 h2
  rw [← at0_get h1, ← at0_get h2]
  exact h i h1
set_option maxRecDepth 100000 in
set_option maxHeartbeats 1000000 in
theorem same_any (A A' : Option Addr) (n n' c c' : Nat) (a b : List Rng) (w : World) (hn : n = a.length) (hn' : n' = b.length) (hx : Rd w w.heap.size 2 A n (rR a)) (hy : Rd w w.heap.size 2 A' n' (rR b)) (hl : n ≤ 1000000) (hl' : n' ≤ 1000000) :
    Calls Try.prog 23 #[.slice A n c, .slice A' n' c'] w fun e w' => e = .returned (.bool (sameL a b)) ∧ Below w.heap.size w w' := by
  have Hx := Lib.hid hx
  have Hy := Lib.hid hy
  have Hn := Lib.hid (And.intro hn hn')
  have l1 : (n : Int) ≤ 1000000 := by omega
  have l2 : (n' : Int) ≤ 1000000 := by omega
  by_cases he : n = n'
  · subst he
    have hab : Hid (a.length = b.length) := by show _ = _; rw [← hn, ← hn']
    clear hx hy hn hn' l2 hl hl'
    go_enter Try.func23, Try.ntmps23
    go_wp2_with fail
    go_loopw [5] (fun i wr => ∃ k : Nat, k ≤ n ∧ i = .int .i64 k ∧ (∀ j, j < k → at0 a j = at0 b j) ∧ Below w.heap.size w wr) (fun i _ => n - (intOf i).toNat)
    case atStart => exact ⟨0, by omega, rfl, fun j hj => absurd hj (by omega), Below.refl _ _⟩
    case round =>
      obtain ⟨k, hk, rfl, hs, hbw⟩ := hrel
      have Hs := Lib.hid hs
      have HB := Lib.hid hbw
      clear hs hbw
      by_cases hlt : k < n
      · obtain ⟨b1, o1, rfl, _, x0, x1⟩ := (Hx.out.below HB.out).rng hlt
        obtain ⟨b2, o2, rfl, _, y0, y1⟩ := (Hy.out.below HB.out).rng hlt
        have z0 := ovr_cell x0
        have z1 := ovr_cell x1
        have z2 := ovr_cell y0
        have z3 := ovr_cell y1
        have hki : (k : Int) < (n : Int) := by omega
        by_cases hq : at0 a k = at0 b k
        · have hcase : Hid (∀ j, j < k + 1 → at0 a j = at0 b j) := succ_case Hs.out hq
          rw [← hq] at z2 z3 y0 y1
          generalize at0 a k = q at *
          clear hq x0 x1 y0 y1
          go_wp2_with fail
          refine wp_region_below_lit (by kernel_rfl) (by kernel_rfl) ?_
          repeat (go_big_quiet_step (fail))
          refine wpQuiet_nil ?_
          intro w1 hb1
          go_wp2_with fail
          go_roundw
          case rel => exact ⟨k + 1, by omega, by go_num, hcase.out, HB.out.trans (hb1.mono HB.out.size)⟩
          case measure => simp [intOf]; omega
        · have hfin : Hid (sameL a b = false) := sameL_at (by have := Hn.out.1; omega) hq
          have hne : (at0 a k).lo = (at0 b k).lo → (at0 a k).hi = (at0 b k).hi → False := fun h1 h2 => hq (by cases h3 : at0 a k; cases h4 : at0 b k; rw [h3, h4] at h1 h2; simp at h1 h2; rw [h1, h2])
          have Hne := Lib.hid hne
          clear hne hq x0 x1 y0 y1
          by_cases h1 : (at0 a k).lo = (at0 b k).lo
          · have h2 : ((at0 a k).hi == (at0 b k).hi) = false := by rw [beq_eq_false_iff_ne]; exact fun e => Hne.out h1 e
            rw [← h1] at z2
            generalize at0 a k = q at *
            generalize at0 b k = q' at *
            clear h1 Hne
            go_wp2_with fail
            refine wp_region_below_lit (by kernel_rfl) (by kernel_rfl) ?_
            repeat (go_big_quiet_step (fail))
            refine wpQuiet_nil ?_
            intro w1 hb1
            go_wp2_with fail
            go_ret
            exact ⟨by rw [hfin.out]; rfl, HB.out.trans (hb1.mono HB.out.size)⟩
          · have h2 : ((at0 a k).lo == (at0 b k).lo) = false := by rw [beq_eq_false_iff_ne]; exact h1
            generalize at0 a k = q at *
            generalize at0 b k = q' at *
            clear h1 Hne
            go_wp2_with fail
            refine wp_region_below_lit (by kernel_rfl) (by kernel_rfl) ?_
            repeat (go_big_quiet_step (fail))
            refine wpQuiet_nil ?_
            intro w1 hb1
            go_wp2_with fail
            go_ret
            exact ⟨by rw [hfin.out]; rfl, HB.out.trans (hb1.mono HB.out.size)⟩
      · have hfin : Hid (sameL a b = true) := sameL_all hab.out (fun j hj => Hs.out j (by have := Hn.out.1; omega))
        go_wp2_with fail
        go_ret
        exact ⟨by rw [hfin.out]; rfl, HB.out⟩
  · have hfin : Hid (sameL a b = false) := by
      show _ = _
      unfold sameL
      rw [decide_eq_false_iff_not]
      intro e
      exact he (by rw [hn, hn', e])
    have hne : ((n : Int) == (n' : Int)) = false := by rw [beq_eq_false_iff_ne]; omega
    clear hx hy hn hn' he hl hl'
    go_enter Try.func23, Try.ntmps23
    go_wp2_with fail
    go_ret
    exact ⟨by rw [hfin.out]; rfl, Below.refl _ _⟩
end Go.Proofs.Ytbojgcaehlapiaa
