/- What Sold of package pull leans on: stretches that the caller owns, the seconds that are spoiled, its two closures. -/
import Derived.Test.YtlebefopdnadaaaAcc
import Derived.Test.YtlebefopdnadaaaMk
namespace Go.Proofs.Ytlebefopdnadaaa
open Go.RowKit
theorem own_base {w : World} {base base' sz n : Nat} {e : TypeId} {v : Value} {xs : List Value} (h : w.ownsRow base e sz v n xs) (hb : base' ≤ base) : w.ownsRow base' e sz v n xs := by
  obtain ⟨h1, h2⟩ := h
  refine ⟨h1, ?_⟩
  rcases h2 with h2 | ⟨g, cap, cur, hv, hg, r⟩
  · exact .inl h2
  · exact .inr ⟨g, cap, cur, hv, by omega, r⟩
/-- A list of ranges that the caller owns comes back. -/
def RetO (w : World) (l : List Rng) (e : Ending) (w' : World) : Prop := ∃ A n c, e = .returned (.slice A n c) ∧ n = l.length ∧ w'.ownsRow w.heap.size 23 2 (.slice A n c) l.length (rc l) ∧ Below w.heap.size w w'
set_option maxRecDepth 100000 in
set_option maxHeartbeats 1000000 in
theorem stretches_own (A1 A2 A3 : Option Addr) (c1 c2 c3 : Nat) (R : Run) (o s : Int) (w : World) (h : RunIn w A1 A2 A3 R) (hl : R.es.length ≤ 1000) :
    Calls Try.prog 71 #[runV A1 A2 A3 c1 c2 c3 R, I o, I s] w (RetO w (strs R o s)) := by
  have He := Lib.hid h.e
  clear h
  obtain ⟨i0, hi0, iz0, iz1, iz2⟩ := info_parts rng_info
  obtain ⟨W0, hW0⟩ : ∃ W0, W0 = w.alloc (.cells #[.slice A1 R.ss.length c1, I R.e, .slice A2 R.ms.length c2, .slice A3 R.es.length c3] 35) := ⟨_, rfl⟩
  have HW0 := Lib.hid hW0
  have hZ0 : Hid (W0.heap.size = w.heap.size + 1) := by subst hW0; simp [Hid]
  have hE0 : Hid (W0.cell? ⟨w.heap.size, 1, none⟩ = some (I R.e)) := by subst hW0; simp [Hid]
  have hU : ∀ W : World, Below (w.heap.size + 1) W0 W → Below w.heap.size w W := fun W h => under (o := .cells #[.slice A1 R.ss.length c1, I R.e, .slice A2 R.ms.length c2, .slice A3 R.es.length c3] 35) (HW0.out ▸ h)
  clear hW0
  have HU := Lib.hid hU
  clear hU
  go_enter Try.func71, Try.ntmps71
  go_wp2
  go_loopw [7, 8, 14] (fun v sn i wr => ∃ k l q, k ≤ R.es.length ∧ i = .int .i64 (k : Nat) ∧ strK R o s k = (l, q) ∧ sn = I q ∧ wr.ownsRow (w.heap.size + 1) 23 2 v l.length (rc l) ∧ Below (w.heap.size + 1) W0 wr) (fun _ _ i _ => R.es.length - (intOf i).toNat)
  case atStart => exact ⟨0, [], -1, by omega, rfl, rfl, rfl, ⟨rfl, .inl ⟨rfl, rfl⟩⟩, by rw [HW0.out]; exact Below.refl _ _⟩
  case round =>
    obtain ⟨k, l, q, hk, rfl, hst, rfl, hown, hbw⟩ := hrel
    have hsz : w.heap.size + 1 ≤ wr.heap.size := by have := hbw.size; rw [hZ0.out] at this; exact this
    have hll : l.length ≤ k := by have := strK_len R o s k; rw [hst] at this; exact this
    have Hst := Lib.hid hst
    clear hst
    by_cases hlt : k < R.es.length
    · obtain ⟨b, of, rfl, hB, x0, x1⟩ := (He.out.below (HU.out _ hbw)).evt hlt
      have hns : Hid (strK R o s (k + 1) = strStep o s (at0 R.es k) (l, q)) := by show strK R o s (k + 1) = _; rw [← Hst.out]; rfl
      by_cases h1 : (at0 R.es k).kd = o ∧ q < 0
      · have hn2 : Hid (strK R o s (k + 1) = (l, (at0 R.es k).t)) := by show _ = _; rw [hns.out, strStep, if_pos h1]
        obtain ⟨h1, h2⟩ := h1
        have h1' : ((at0 R.es k).kd == o) = true := by simpa using h1
        clear h1
        go_wp2_with fail
        go_roundw
        case rel => exact ⟨k + 1, l, _, by omega, by go_num, hn2.out, rfl, hown.alloc _, hbw.alloc (by omega) _⟩
        case measure => simp [intOf]; omega
      by_cases h2 : (at0 R.es k).kd = s ∧ 0 ≤ q
      · have hn2 : Hid (strK R o s (k + 1) = (l ++ [⟨q, (at0 R.es k).t⟩], -1)) := by show _ = _; rw [hns.out, strStep, if_neg h1, if_pos h2]
        have hrc := Lib.hid (rc_app l ⟨q, (at0 R.es k).t⟩)
        obtain ⟨h2, h3⟩ := h2
        have h2' : ((at0 R.es k).kd == s) = true := by simpa using h2
        clear h2 h1
        by_cases h4 : (at0 R.es k).kd = o
        all_goals
          (first | have h4' : ((at0 R.es k).kd == o) = true := by simpa using h4
                 | have h4' : ((at0 R.es k).kd == o) = false := by simpa using h4)
          clear h4
          go_wp2_with (at_builtin; go_loud (refine wpList_append_own _ rfl _ _ 68 rfl (w.heap.size + 1) 23 i0 _ 2 16 Try.underlying68 hi0 iz0 iz1 iz2 rfl (by decide) u7 l.length (rc l) rfl ((hown.alloc _).alloc _) ⟨wr.heap.size + 1, 0, none⟩ 1 1 [I q, I (at0 R.es k).t] rfl (by rfl) (news_lit (cs := #[I q, I (at0 R.es k).t]) (heap_last _ _ _ (by simp))) ?h1 ?h63 ?hby ?hba ?_))
          case h1 => simp [Value.oneCell']
          case h63 => unfold maxLen; omega
          case hby => omega
          case hba => first | omega | (simp; omega)
          intro v' w2 own3 hg2 _
          have hB3 : Below (w.heap.size + 1) W0 w2 := ((hbw.alloc (by omega) _).alloc (by simp; omega) _).grown hg2 (by simp; omega) (fun g hg => (hown.lt g hg).1)
          have own4 : Hid (w2.ownsRow (w.heap.size + 1) 23 2 v' (l ++ [(⟨q, (at0 R.es k).t⟩ : Rng)]).length (rc (l ++ [⟨q, (at0 R.es k).t⟩]))) := by
            show w2.ownsRow _ _ _ _ _ _
            rw [hrc.out]; simpa using own3
          clear own3
          go_wp2_with fail
          go_roundw
          case rel => exact ⟨k + 1, _, _, by omega, by go_num, hn2.out, rfl, own4.out, hB3⟩
          case measure => simp [intOf]; omega
      · have hn2 : Hid (strK R o s (k + 1) = (l, q)) := by show _ = _; rw [hns.out, strStep, if_neg h1, if_neg h2]
        by_cases h4 : (at0 R.es k).kd = o
        · have h5 : ¬ q < 0 := fun e => h1 ⟨h4, e⟩
          have h6 : ((at0 R.es k).kd == s) = false := by simp; intro e; exact h2 ⟨e, by omega⟩
          have h4' : ((at0 R.es k).kd == o) = true := by simpa using h4
          clear h1 h2 h4
          go_wp2_with fail
          go_roundw
          case rel => exact ⟨k + 1, l, q, by omega, by go_num, hn2.out, rfl, hown.alloc _, hbw.alloc (by omega) _⟩
          case measure => simp [intOf]; omega
        · have h4' : ((at0 R.es k).kd == o) = false := by simpa using h4
          by_cases h7 : (at0 R.es k).kd = s
          · have h8 : ¬ 0 ≤ q := fun e => h2 ⟨h7, e⟩
            have h7' : ((at0 R.es k).kd == s) = true := by simpa using h7
            clear h1 h2 h4 h7
            go_wp2_with fail
            go_roundw
            case rel => exact ⟨k + 1, l, q, by omega, by go_num, hn2.out, rfl, hown.alloc _, hbw.alloc (by omega) _⟩
            case measure => simp [intOf]; omega
          · have h7' : ((at0 R.es k).kd == s) = false := by simpa using h7
            clear h1 h2 h4 h7
            go_wp2_with fail
            go_roundw
            case rel => exact ⟨k + 1, l, q, by omega, by go_num, hn2.out, rfl, hown.alloc _, hbw.alloc (by omega) _⟩
            case measure => simp [intOf]; omega
    · have hkn : k = R.es.length := by omega
      subst hkn
      have cE : wr.cell? ⟨w.heap.size, 1, none⟩ = some (I R.e) := (hbw.cell (p := ⟨_, _, none⟩) (by simp)).trans hE0.out
      by_cases h2 : 0 ≤ q
      · have hfin : Hid (strs R o s = l ++ [⟨q, R.e⟩]) := by show _ = _; rw [strs, Hst.out, if_pos h2]
        have hrc := Lib.hid (rc_app l ⟨q, R.e⟩)
        go_wp2_with (at_builtin; go_loud (refine wpList_append_own _ rfl _ _ 68 rfl (w.heap.size + 1) 23 i0 _ 2 16 Try.underlying68 hi0 iz0 iz1 iz2 rfl (by decide) u7 l.length (rc l) rfl (hown.alloc _) ⟨wr.heap.size, 0, none⟩ 1 1 [I q, I R.e] rfl (by rfl) (news_lit (cs := #[I q, I R.e]) (heap_last _ _ _ (by simp))) ?h1 ?h63 ?hby ?hba ?_))
        case h1 => simp [Value.oneCell']
        case h63 => unfold maxLen; omega
        case hby => omega
        case hba => first | omega | (simp; omega)
        intro v' w2 own3 hg2 _
        have hB3 : Below (w.heap.size + 1) W0 w2 := (hbw.alloc (by omega) _).grown hg2 (by simp; omega) (fun g hg => (hown.lt g hg).1)
        have own4 : w2.ownsRow (w.heap.size + 1) 23 2 v' (l ++ [(⟨q, R.e⟩ : Rng)]).length (rc (l ++ [⟨q, R.e⟩])) := by rw [hrc.out]; simpa using own3
        clear own3
        obtain ⟨A, c, rfl, _⟩ := Rd.of_rc own4
        have HR := Lib.hid own4
        clear own4
        go_wp2_with fail
        go_ret
        exact ⟨A, _, c, rfl, by rw [hfin.out], by rw [hfin.out]; exact own_base HR.out (by omega), HU.out _ hB3⟩
      · have hfin : Hid (strs R o s = l) := by show _ = _; rw [strs, Hst.out, if_neg h2]
        obtain ⟨A, c, rfl, _⟩ := Rd.of_rc hown
        have HR := Lib.hid hown
        go_wp2_with fail
        go_ret
        exact ⟨A, _, c, rfl, by rw [hfin.out], by rw [hfin.out]; exact own_base HR.out (by omega), HU.out _ hbw⟩
/-- All but one block is left alone. -/
structure But (b : Nat) (w w' : World) : Prop where
  os : w'.os = w.os
  tape : w'.tape = w.tape
  output : w'.output = w.output
  size : w.heap.size ≤ w'.heap.size
  block : ∀ k, k < w.heap.size → k ≠ b → w'.heap[k]? = w.heap[k]?
theorem But.refl (b : Nat) (w : World) : But b w w := ⟨rfl, rfl, rfl, Nat.le_refl _, fun _ _ _ => rfl⟩
theorem But.trans {b : Nat} {u v w : World} (h : But b u v) (h' : But b v w) : But b u w :=
  ⟨h'.os.trans h.os, h'.tape.trans h.tape, h'.output.trans h.output, Nat.le_trans h.size h'.size, fun k hk hb => (h'.block k (Nat.lt_of_lt_of_le hk h.size) hb).trans (h.block k hk hb)⟩
theorem But.of_below {b : Nat} {w w' : World} (h : Below w.heap.size w w') : But b w w' := ⟨h.os, h.tape, h.output, h.size, fun k hk _ => h.block k hk⟩
theorem But.alloc {b : Nat} {w w' : World} (h : But b w w') (o : Obj) : But b w (w'.alloc o) := h.trans (But.of_below ((Below.refl _ _).alloc (Nat.le_refl _) o))
theorem But.setRow {b : Nat} {w w' : World} (h : But b w w') (cs : Array Value) : But b w (w'.setRow b cs) :=
  h.trans ⟨rfl, rfl, rfl, by simp [World.setRow], fun k _ hb => setRow_other hb⟩
theorem But.below {b B : Nat} {w w' : World} (h : But b w w') (hB : B ≤ b) (hs : B ≤ w.heap.size) : Below B w w' := ⟨h.os, h.tape, h.output, h.size, fun k hk => h.block k (by omega) (by omega)⟩
theorem But.cell {b : Nat} {w w' : World} (h : But b w w') {k o : Nat} {v : Value} (hc : w.cell? ⟨k, o, none⟩ = some v) (hk : k ≠ b) : w'.cell? ⟨k, o, none⟩ = some v := by
  rw [← hc]; unfold World.cell?; simp [h.block k (block_lt_of_cell hc) hk]
def bArr (f : Nat → Bool) (n : Nat) : Array Value := ((List.range n).map fun i => Value.bool (f i)).toArray
theorem bArr_size (f : Nat → Bool) (n : Nat) : (bArr f n).size = n := by simp [bArr]
theorem bArr_get (f : Nat → Bool) {n i : Nat} (h : i < n) : (bArr f n)[i]? = some (.bool (f i)) := by simp [bArr, h]
def updB (f : Nat → Bool) (k : Nat) (b : Bool) (i : Nat) : Bool := if i = k then b else f i
theorem bArr_upd (f : Nat → Bool) {n k : Nat} (hk : k < n) (b : Bool) : (bArr f n).setIfInBounds k (.bool b) = bArr (updB f k b) n := by
  apply Array.ext_getElem?
  intro i
  by_cases hi : i < n
  · rw [bArr_get _ hi, Array.getElem?_setIfInBounds]
    by_cases h : k = i
    · subst h; rw [if_pos rfl, if_pos (by rw [bArr_size]; exact hk)]; simp [updB]
    · rw [if_neg h, bArr_get _ hi, updB, if_neg (fun e => h e.symm)]
  · rw [Array.getElem?_eq_none (by simp [bArr_size]; omega), Array.getElem?_eq_none (by rw [bArr_size]; omega)]
theorem bArr_congr {f g : Nat → Bool} {n : Nat} (h : ∀ k, k < n → f k = g k) : bArr f n = bArr g n := by
  apply Array.ext_getElem?
  intro i
  by_cases hi : i < n
  · rw [bArr_get _ hi, bArr_get _ hi, h i hi]
  · rw [Array.getElem?_eq_none (by rw [bArr_size]; omega), Array.getElem?_eq_none (by rw [bArr_size]; omega)]
section
variable {P : Program}
theorem wpList_store_bool {ops : Array Oper} {rest : List Oper} {o : Oper} {a : Act} {w : World} {Q : Exit → Act → World → Prop} (hgd : o.guard = none) (ty : TypeId) (x y : Operand) (ho : o.op = .store ty x y)
    (g k : Nat) (hx : a.eval x = .pointer (some ⟨g, k, none⟩)) (f : Nat → Bool) (n : Nat) (t : TypeId) (hg : w.heap[g]? = some (.cells (bArr f n) t (0, 0))) (hk : k < n) (b : Bool) (hy : a.eval y = .bool b) (hi : (P.info? ty).map (·.size) = some 1)
    (h : wpList P ops Q rest (a.put o.dst undef) (w.setRow g (bArr (updB f k b) n))) : wpList P ops Q (o :: rest) a w := by
  refine wpList_plain hgd fun _ hK => ?_
  have hst := run_storeCells_at (P := P) g k t [.bool b] 0 (bArr f n) w hg (by rw [bArr_size]; show k + 0 + 1 ≤ _; omega) (by intro v hv; simp at hv; subst hv; rfl)
  have e : ((bArr f n).toList.take (k + 0) ++ [Value.bool b] ++ (bArr f n).toList.drop (k + 0 + [Value.bool b].length)).toArray = bArr (updB f k b) n := by
    rw [← bArr_upd f hk b]
    apply Array.ext_getElem?
    intro i
    rw [List.getElem?_toArray, Array.getElem?_setIfInBounds, Nat.add_zero]
    have hl : (bArr f n).toList.length = n := by simp [bArr]
    have hs : (bArr f n).size = n := bArr_size f n
    by_cases h1 : i < k
    · rw [List.append_assoc, List.getElem?_append_left (by rw [List.length_take]; omega), List.getElem?_take, if_pos h1, if_neg (by omega), Array.getElem?_toList]
    · by_cases h2 : k = i
      · subst h2
        rw [List.append_assoc, List.getElem?_append_right (by rw [List.length_take]; omega), List.length_take, List.getElem?_append_left (by simp; omega), if_pos rfl, if_pos (by rw [bArr_size]; exact hk)]
        have : k - min k (bArr f n).toList.length = 0 := by omega
        rw [this]; rfl
      · rw [List.getElem?_append_right (by simp [bArr_size]; omega), if_neg h2, List.getElem?_drop, Array.getElem?_toList]
        congr 1
        simp [bArr_size]
        omega
  rw [e] at hst
  have hrun : (storeVar ty ⟨g, k, none⟩ (.bool b)).run P w = .ok () (w.setRow g (bArr (updB f k b) n)) := by
    cases hq : P.info? ty with
    | none => simp [hq] at hi
    | some i =>
      have hs' : i.size = 1 := by simpa [hq] using hi
      simp only [storeVar, Sem.run_bind, sizeOf, typeInfo, Value.cells]
      simp [hq, hs', Sem.run_bind] at hst ⊢
      exact hst
  unfold Oper.wp execOp
  simp only [ho, hx, hy, Instr.storeAt, Instr.sureAddr, Sem.run_bind, Sem.run_pure, Result.andThen_ok, hrun]
  exact hK _ _ h
end
/-- The seconds of a range are spoiled, up to one. -/
def spB (f : Nat → Bool) (lo : Int) (k : Int) (i : Nat) : Bool := f i || (decide (lo ≤ (i : Int)) && decide ((i : Int) < k))
theorem spB_zero (f : Nat → Bool) (lo : Int) : spB f lo lo = f := by
  funext i; unfold spB
  have : (decide (lo ≤ (i : Int)) && decide ((i : Int) < lo)) = false := by simp
  rw [this, Bool.or_false]
theorem spB_upd (f : Nat → Bool) (lo : Int) (k : Nat) (h : lo ≤ (k : Int)) : updB (spB f lo k) k true = spB f lo ((k : Int) + 1) := by
  funext i; unfold updB spB
  by_cases hi : i = k
  · subst hi; rw [if_pos rfl]; simp; right; omega
  · rw [if_neg hi]
    have : decide ((i : Int) < (k : Int)) = decide ((i : Int) < (k : Int) + 1) := by rw [decide_eq_decide]; omega
    rw [this]
/-- One block changed, to these seconds. -/
def RetS (w : World) (db N : Nat) (g : Nat → Bool) (e : Ending) (w' : World) : Prop := e = .returned (.tuple #[]) ∧ But db w w' ∧ w'.heap[db]? = some (.cells (bArr g N) 4 (0, 0))
set_option maxHeartbeats 1000000 in
theorem spoil_any (vb db N : Nat) (f : Nat → Bool) (r : Rng) (w : World) (hv : w.cell? ⟨vb, 0, none⟩ = some (.slice (some ⟨db, 0, none⟩) N N)) (hd : w.heap[db]? = some (.cells (bArr f N) 4 (0, 0))) (hne : vb ≠ db) (hN : N ≤ 1000000)
    (hr : 0 ≤ r.lo ∧ r.hi ≤ N ∧ r.lo ≤ 1000000) :
    Calls Try.prog 70 #[r.val, .pointer (some ⟨vb, 0, none⟩)] w (RetS w db N (spB f r.lo (max r.lo r.hi))) := by
  obtain ⟨r1, r2, r3⟩ := hr
  have Hv := Lib.hid hv
  have Hd := Lib.hid hd
  have hdl : db < w.heap.size := (Array.getElem?_eq_some_iff.1 hd).1
  have hvl : vb < w.heap.size := block_lt_of_cell hv
  clear hv hd
  go_enter Try.func70, Try.ntmps70
  go_wp2_with fail
  go_loopw [3] (fun i wr => ∃ t : Int, i = .int .i64 t ∧ r.lo ≤ t ∧ t ≤ max r.lo r.hi ∧ wr.heap[db]? = some (.cells (bArr (spB f r.lo t) N) 4 (0, 0)) ∧ But db (w.alloc (.cells #[I r.lo, I r.hi] 23)) wr) (fun i _ => (r.hi - intOf i).toNat)
  case atStart => exact ⟨r.lo, rfl, by omega, by omega, by rw [spB_zero]; exact heap_before Hd.out, But.refl _ _⟩
  case round =>
    obtain ⟨t, rfl, t1, t2, hb, hbw⟩ := hrel
    have Hb := Lib.hid hb
    have Hbw := Lib.hid hbw
    have y0 : wr.cell? ⟨w.heap.size, 1, none⟩ = some (I r.hi) := hbw.cell (by simp) (by omega)
    have y1 : wr.cell? ⟨vb, 0, none⟩ = some (.slice (some ⟨db, 0, none⟩) N N) := hbw.cell (by rw [World.cell?_alloc_past _ _ _ hvl]; exact Hv.out) hne
    clear hb hbw
    by_cases hlt : t < r.hi
    · obtain ⟨k, rfl⟩ : ∃ k : Nat, t = (k : Int) := ⟨t.toNat, by omega⟩
      have hkN : k < N := by omega
      have hki : (k : Int) < (N : Int) := by omega
      go_wp2_with (refine wpList_store_bool rfl 4 _ _ rfl db k (by first | rfl | (simp; done)) (spB f r.lo k) N 4 Hb.out hkN true rfl (by kernel_rfl) ?_)
      go_roundw
      case rel => exact ⟨(k : Int) + 1, rfl, by omega, by omega, by rw [spB_upd _ _ _ t1]; exact setRow_same Hb.out, Hbw.out.setRow _⟩
      case measure => simp [intOf]; omega
    · have ht : Hid (t = max r.lo r.hi) := by show _ = _; omega
      have hfin : Hid (But db w wr) := (But.alloc (But.refl _ _) _).trans Hbw.out
      have hb2 : Hid (wr.heap[db]? = some (.cells (bArr (spB f r.lo (max r.lo r.hi)) N) 4 (0, 0))) := by show _ = _; rw [← ht.out]; exact Hb.out
      go_wp2_with fail
      go_end0
      exact ⟨rfl, hfin.out, hb2.out⟩
end Go.Proofs.Ytlebefopdnadaaa
