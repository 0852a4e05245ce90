/- The contract of Sold of package pull. -/
import Derived.Test.YtbojgcaehlapiaaSpa
namespace Go.Proofs.Ytbojgcaehlapiaa
open Go.RowKit
theorem bool_info : (Try.prog.info? 4).map (fun i => (i.zero, i.size, i.bytes)) = some (some (.bool false), 1, 1) := by kernel_rfl
theorem make_bool (m : Int) (N : Nat) (hN : N = m.toNat) (h0 : 0 ≤ m) (h1 : m ≤ 1000000) (w : World) :
    (Instr.makeSlice 121 (.int .i64 m) (.int .i64 m)).run Try.prog w = .ok (.slice (some ⟨w.heap.size, 0, none⟩) N N) (w.alloc (.cells (bArr (fun _ => false) N) 4)) := by
  obtain ⟨i0, hi0, iz0, iz1, iz2⟩ := info_parts bool_info
  have hm : m = (N : Int) := by omega
  rw [hm]
  have hr := run_make (P := Try.prog) w 121 4 i0 _ Try.underlying121 hi0 iz0 .i64 .i64 N N (by omega) (by omega) (by rw [iz2]; omega) (by omega)
  simp only [Int.toNat_natCast] at hr
  rw [hr, iz1]
  have e : madeCells (Value.bool false).cells (N * 1) = bArr (fun _ => false) N := by
    apply Array.ext_getElem?
    intro i
    by_cases hi : i < N
    · have h1 : i % 1 = 0 := Nat.mod_one i
      rw [bArr_get _ hi]; simp [madeCells, hi, Value.cells, h1]
    · rw [Array.getElem?_eq_none (by rw [size_madeCells]; omega), Array.getElem?_eq_none (by rw [bArr_size]; omega)]
  rw [e]
/-- The seconds that the first k settings spoil. -/
def bdP (R : Run) : Nat → Nat → Bool
  | 0 => fun _ => false | k + 1 => if (at0 R.ss k).ph = 4 then bdP R k else spB (bdP R k) (at0 R.ss k).t (max (at0 R.ss k).t (untS R k))
/-- The seconds that the first k ranges of a list spoil, too. -/
def bdS (f : Nat → Bool) (l : List Rng) : Nat → Nat → Bool
  | 0 => f | k + 1 => spB (bdS f l k) (at0 l k).lo (max (at0 l k).lo (at0 l k).hi)
def outL (R : Run) : List Rng := strs R 2 3 ++ strs R 4 5
def badF (R : Run) : Nat → Bool := bdS (bdP R R.ss.length) (outL R) (outL R).length
def sellF (p : Vec) (R : Run) (t : Nat) : Bool := !badF R t && goodB p R t
/-- Until when, and up to which place, may be sold. -/
def endF (p : Vec) (R : Run) : Int := if (stopF p R).2 = 0 then R.e else (stopF p R).1
def mostF (p : Vec) (R : Run) : Int := if (stopF p R).2 = 0 then placeR R R.e else placeR R (stopF p R).1 - p 114
def soldR (p : Vec) (R : Run) (s : Rng) : Rng := ⟨placeR R s.lo, min (placeR R (s.hi + 1)) (mostF p R)⟩
def soldK (p : Vec) (R : Run) (l : List Rng) : List Rng := l.filterMap fun s => if (soldR p R s).lo < (soldR p R s).hi then some (soldR p R s) else none
def soldL (p : Vec) (R : Run) : List Rng := if chE p R = 0 then soldK p R (runsF (sellF p R) (endF p R).toNat) else []
/-- The second closure. -/
theorem sell_any (cb bb fb cv bv db N : Nat) {p : Vec} {R : Run} (hok : (okPuller p && okRun R) = true) {k : Nat} (hk : k < R.e.toNat) (bad : Nat → Bool) (hN : R.e.toNat = N) (W : World) (h : Chart W cb bb fb p (R.e.toNat + 1) (befF p R) (frmF p R))
    (hv : W.cell? ⟨bv, 0, none⟩ = some (.slice (some ⟨db, 0, none⟩) N N)) (hc : W.cell? ⟨cv, 0, none⟩ = some (.pointer (some ⟨cb, 0, none⟩))) (hd : W.heap[db]? = some (.cells (bArr bad N) 4 (0, 0))) (_hl : N ≤ 1000000) :
    Calls Try.prog 55 #[I (k : Nat), .pointer (some ⟨bv, 0, none⟩), .pointer (some ⟨cv, 0, none⟩)] W fun e w' => e = .returned (.bool (!bad k && goodB p R k)) ∧ Below W.heap.size W w' := by
  have hg := goodB_any cb bb fb hok hk W h
  have Hg := Lib.hid hg
  have hkN : k < N := by omega
  have hki : (k : Int) < (N : Int) := by omega
  have hx : W.cell? ⟨db, k, none⟩ = some (.bool (bad k)) := by rw [cell_of_row W db k _ _ _ hd]; exact bArr_get _ hkN
  clear hg h hd hN hk hok
  rcases hb : bad k with _ | _
  · go_enter Try.func55, Try.ntmps55
    go_wp2_with fail
    refine Hg.out.mono ?_
    rintro e w1 ⟨rfl, hb1⟩
    have HB := Lib.hid hb1
    clear hb1
    go_wp2_with fail
    go_ret
    exact ⟨by simp, HB.out⟩
  · go_enter Try.func55, Try.ntmps55
    go_wp2_with fail
    go_ret
    exact ⟨by simp, Below.refl _ _⟩
theorem bdP_succ {R : Run} {k : Nat} (h : ¬ (at0 R.ss k).ph = 4) : bdP R (k + 1) = spB (bdP R k) (at0 R.ss k).t (max (at0 R.ss k).t (untS R k)) := if_neg h
theorem bdP_same {R : Run} {k : Nat} (h : (at0 R.ss k).ph = 4) : bdP R (k + 1) = bdP R k := if_pos h
theorem unt_bd {R : Run} (h : VRun R) {k : Nat} (_hk : k < R.ss.length) : 0 ≤ untS R k ∧ untS R k ≤ R.e := by
  unfold untS
  split
  · have h1 := h.t0 (k + 1) (by omega)
    have h2 := h.tlt (k + 1) (by omega)
    omega
  · have := h.first; have := h.tlt 0 h.n1; omega
/-- What is known of the world once the seconds are being spoiled: W3 as it was before, D the block of the seconds. -/
structure Spl (W3 : World) (N : Nat) (f : Nat → Bool) (wr : World) : Prop where
  bw : Below W3.heap.size W3 wr
  v : wr.cell? ⟨W3.heap.size + 1, 0, none⟩ = some (.slice (some ⟨W3.heap.size, 0, none⟩) N N)
  d : wr.heap[W3.heap.size]? = some (.cells (bArr f N) 4 (0, 0))
theorem Spl.le {W3 wr w' : World} {N : Nat} {f : Nat → Bool} (h : Spl W3 N f wr) (hb : Below wr.heap.size wr w') : Spl W3 N f w' :=
  ⟨h.bw.trans (hb.mono h.bw.size), (hb.cell (p := ⟨_, _, none⟩) (block_lt_of_cell h.v)).trans h.v, (hb.block _ (Array.getElem?_eq_some_iff.1 h.d).1).trans h.d⟩
theorem Spl.but {W3 wr w' : World} {N : Nat} {f g : Nat → Bool} (h : Spl W3 N f wr) (hb : But W3.heap.size wr w') (hd : w'.heap[W3.heap.size]? = some (.cells (bArr g N) 4 (0, 0))) : Spl W3 N g w' :=
  ⟨h.bw.trans (hb.below (Nat.le_refl _) h.bw.size), hb.cell h.v (by omega), hd⟩
theorem wp_append_own_none {P : Program} {w : World} {o : Oper} {a : Act} {K : Act → World → Prop} {Q : Exit → Act → World → Prop} (s x : Operand) (t : TypeId) (ho : o.op = .call { callee := .builtin .append, args := #[s, x], argTypes := #[t, t] })
    (base : Nat) (e : TypeId) (i : TypeInfo) (size : Nat) (ht : P.underlying t = some (.slice e)) (hi : P.info? e = some i)
    (v : Value) (n : Nat) (xs : List Value) (hs : a.eval s = v) (hown : w.ownsRow base e size v n xs) (hx : a.eval x = .slice none 0 0) (h : K (a.put o.dst v) w) : o.wp P a w K Q := by
  have hrun := run_append_owned_none (P := P) (w := w) base t o.type e i size ht hi v n xs hown
  unfold Oper.wp
  simp [execOp, ho, resolve, invoke, builtin, hs, hx, hrun, Result.andThen]
  exact h
theorem ixOf_sat {α : Type} [Inhabited α] (f : α → Bool) : ∀ xs : List α, 0 ≤ ixOf f xs → f (at0 xs (ixOf f xs).toNat) = true
  | [], h => by simp [ixOf] at h
  | x :: r, h => by
    unfold ixOf at h ⊢
    by_cases hx : f x = true
    · simp [hx, at0]
    · simp only [hx, Bool.false_eq_true, if_false] at h ⊢
      by_cases hi : ixOf f r < 0
      · simp [hi] at h
      · simp only [hi, if_false] at h ⊢
        have := ixOf_sat f r (by omega)
        rw [show (ixOf f r + 1).toNat = (ixOf f r).toNat + 1 by omega]
        simpa [at0] using this
theorem stopF_on {p : Vec} {R : Run} (hv : VRun R) (hp : VPul p) (h : ¬ (stopF p R).2 = 0) : 0 ≤ (stopF p R).1 ∧ (stopF p R).1 ≤ R.e := by
  have h0 : ¬ (stop0 R).2 = 0 → 0 ≤ (stop0 R).1 ∧ (stop0 R).1 ≤ R.e := by
    unfold stop0
    split
    · rename_i h
      intro _
      have h2 := ixOf_lt lostB R.es
      have := hv.et (ixOf lostB R.es).toNat (by omega)
      simp; omega
    · intro h; simp at h
  unfold stopF at h ⊢
  simp only at h ⊢
  split
  · rename_i hi
    rw [if_pos hi] at h
    split
    · rename_i hq
      have h2 := ixOf_lt (longB (p 115)) (strs R 4 5)
      have hin := at0_in (l := strs R 4 5) (k := (ixOf (longB (p 115)) (strs R 4 5)).toNat) (by omega)
      have h3 := ixOf_sat (longB (p 115)) (strs R 4 5) hi
      have := strs_bd hv 4 5 _ hin
      have := hp.hold
      simp only [longB, decide_eq_true_eq] at h3
      show 0 ≤ _ ∧ _ ≤ R.e
      simp; omega
    · rename_i hq
      rw [if_neg hq] at h
      exact h0 h
  · rename_i hi
    rw [if_neg hi] at h
    exact h0 h
theorem rnK_bd (f : Nat → Bool) : ∀ k, ∀ r ∈ (rnK f k).1, 0 ≤ r.lo ∧ r.lo ≤ r.hi ∧ r.hi < k
  | 0, r, hr => by simp [rnK] at hr
  | k + 1, r, hr => by
    have ih := rnK_bd f k
    have hop := rnK_open f k
    simp only [rnK, rnStep] at hr
    split at hr
    · split at hr
      · rename_i _ h2
        obtain ⟨i, x, hix⟩ := hop h2
        rw [hix] at hr ih
        simp at hr
        rcases hr with hr | hr
        · have := ih r (by simp [hr]); omega
        · have := ih x (by simp)
          rw [hr]; simp; omega
      · simp at hr
        rcases hr with hr | hr
        · have := ih r hr; omega
        · rw [hr]; simp; omega
    · have := ih r hr; omega
theorem runsF_bd (f : Nat → Bool) (n : Nat) : ∀ r ∈ runsF f n, 0 ≤ r.lo ∧ r.lo ≤ r.hi ∧ r.hi < n := rnK_bd f n
theorem own_over {w w' : World} {base sz n : Nat} {e : TypeId} {v : Value} {xs : List Value} (h : w.ownsRow base e sz v n xs) (hk : ∀ g, g < w.heap.size → w'.heap[g]? = w.heap[g]?) : w'.ownsRow base e sz v n xs := by
  obtain ⟨h1, h2⟩ := h
  refine ⟨h1, ?_⟩
  rcases h2 with h2 | ⟨g, cap, cur, hv, hg, hh, r⟩
  · exact .inl h2
  · exact .inr ⟨g, cap, cur, hv, hg, (hk g (Array.getElem?_eq_some_iff.1 hh).1).trans hh, r⟩
theorem take_at {l : List Rng} {k : Nat} (hk : k < l.length) : l.take (k + 1) = l.take k ++ [at0 l k] := by
  rw [List.take_succ_eq_append_getElem hk, at0_get hk]
theorem soldK_take (p : Vec) (R : Run) {l : List Rng} {k : Nat} (hk : k < l.length) : soldK p R (l.take (k + 1)) = soldK p R (l.take k) ++ (if (soldR p R (at0 l k)).lo < (soldR p R (at0 l k)).hi then [soldR p R (at0 l k)] else []) := by
  rw [take_at hk, soldK, List.filterMap_append]
  show soldK p R (l.take k) ++ _ = _
  congr 1
  by_cases h : (soldR p R (at0 l k)).lo < (soldR p R (at0 l k)).hi <;> simp [h]
theorem soldK_len (p : Vec) (R : Run) (l : List Rng) : (soldK p R l).length ≤ l.length := List.length_filterMap_le _ _
theorem own_rd {w : World} {base n c : Nat} {A : Option Addr} {l : List Rng} (h : w.ownsRow base 23 2 (.slice A n c) l.length (rc l)) : n = l.length ∧ Rd w w.heap.size 2 A l.length (rR l) := by
  obtain ⟨A', c', he, hr⟩ := Rd.of_rc h
  injection he with e1 e2 e3
  exact ⟨e2, by rw [e1]; exact hr⟩
theorem own_but {w w' : World} {base b sz n : Nat} {e : TypeId} {v : Value} {xs : List Value} (h : w.ownsRow base e sz v n xs) (hb : But b w w') (hB : b < base) : w'.ownsRow base e sz v n xs := by
  obtain ⟨h1, h2⟩ := h
  refine ⟨h1, ?_⟩
  rcases h2 with h2 | ⟨g, cap, cur, hv, hg, hh, r⟩
  · exact .inl h2
  · exact .inr ⟨g, cap, cur, hv, hg, (hb.block g (Array.getElem?_eq_some_iff.1 hh).1 (by omega)).trans hh, r⟩
theorem outL_bd {R : Run} (h : VRun R) {k : Nat} (hk : k < (outL R).length) : 0 ≤ (at0 (outL R) k).lo ∧ (at0 (outL R) k).lo ≤ R.e ∧ (at0 (outL R) k).hi ≤ R.e := by
  have hm := at0_in hk
  unfold outL at hm ⊢
  rcases List.mem_append.1 hm with hm | hm
  · have h1 := strs_bd h _ _ _ hm
    have h2 := strs_lo h _ _ _ hm
    omega
  · have h1 := strs_bd h _ _ _ hm
    have h2 := strs_lo h _ _ _ hm
    omega
set_option maxRecDepth 100000 in
set_option maxHeartbeats 2000000 in
theorem soldX_ok (A1 A2 A3 : Option Addr) (c1 c2 c3 : Nat) (p : Vec) (R : Run) (w : World) (h : RunIn w A1 A2 A3 R) (hc2 : R.ms.length ≤ c2) (hok : (okPuller p && okRun R) = true) (hcf : conf p R = none) :
    Calls Try.prog 22 #[.agg (ia 117 p), runV A1 A2 A3 c1 c2 c3 R] w (RetL w (soldL p R) (chE p R)) := by
  obtain ⟨W2, hW2⟩ : ∃ W2, W2 = ((w.alloc (.cells (ia 117 p) 30)).alloc (.cells #[.slice A1 R.ss.length c1, I R.e, .slice A2 R.ms.length c2, .slice A3 R.es.length c3] 48)) := ⟨_, rfl⟩
  have T : Hid (Two w A1 A2 A3 c1 c2 c3 p R W2) := hW2 ▸ two_mk h c1 c2 c3 p
  have HW := Lib.hid hW2
  have x0 : W2.cell? ⟨w.heap.size + 1, 0, none⟩ = some (.slice A1 R.ss.length c1) := T.out.r0 _ (Below.refl _ _)
  have x1 : W2.cell? ⟨w.heap.size + 1, 1, none⟩ = some (I R.e) := T.out.r1 _ (Below.refl _ _)
  have x2 : W2.cell? ⟨w.heap.size + 1, 2, none⟩ = some (.slice A2 R.ms.length c2) := T.out.r2 _ (Below.refl _ _)
  have x3 : W2.cell? ⟨w.heap.size + 1, 3, none⟩ = some (.slice A3 R.es.length c3) := T.out.r3 _ (Below.refl _ _)
  have hE : Hid (chE p R = 0) := by show _ = _; rw [chE, hok, hcf]; rfl
  have hL : Hid (soldL p R = soldK p R (runsF (sellF p R) (endF p R).toNat)) := if_pos hE.out
  have Hok := Lib.hid hok
  have Hcf := Lib.hid hcf
  rw [Bool.and_eq_true] at hok
  have hv := (vRun_iff R).1 hok.2
  have hp := vPul_of hok.1
  have last := hv.last
  have e0 : 0 ≤ R.e := by have := hv.first; have := hv.tlt 0 hv.n1; omega
  obtain ⟨N, hN⟩ : ∃ N, N = R.e.toNat := ⟨_, rfl⟩
  have HN := Lib.hid hN
  have Hv := Lib.hid hv
  have Hp := Lib.hid hp
  have hNe : Hid (R.e = (N : Int)) := by show _ = _; omega
  have hN1 : (N : Int) ≤ 100000 := by omega
  have hmk := make_bool R.e N hN e0 (by omega)
  clear h hW2 hok hcf hv hp hN
  go_enter Try.func22, Try.ntmps22
  go_wp2_with (refine wpList_load_ia rfl 30 _ rfl w.heap.size 0 rfl 117 p _ (by rw [← HW.out]; exact T.out.pul _ (Below.refl _ _)) Try.underlying30 rfl (by kernel_rfl) ?_)
  rw [← HW.out]
  refine (newChart_ok A1 A2 A3 c1 c2 c3 p R _ T.out.run hc2 Hok.out Hcf.out).mono ?_
  rintro e w1 ⟨cb, bb, fb, rfl, hch, hb1⟩
  have HC := Lib.hid hch
  have HB1 := Lib.hid hb1
  have y0 : ∀ x, (w1.alloc x).cell? ⟨w.heap.size + 1, 0, none⟩ = some (.slice A1 R.ss.length c1) := fun x => T.out.r0 _ (hb1.alloc hb1.size x)
  have y1 : ∀ x, (w1.alloc x).cell? ⟨w.heap.size + 1, 1, none⟩ = some (I R.e) := fun x => T.out.r1 _ (hb1.alloc hb1.size x)
  have y2 : ∀ x, (w1.alloc x).cell? ⟨w.heap.size + 1, 2, none⟩ = some (.slice A2 R.ms.length c2) := fun x => T.out.r2 _ (hb1.alloc hb1.size x)
  have y3 : ∀ x, (w1.alloc x).cell? ⟨w.heap.size + 1, 3, none⟩ = some (.slice A3 R.es.length c3) := fun x => T.out.r3 _ (hb1.alloc hb1.size x)
  clear hch hb1 x0 x1 x2 x3
  go_wp2_with fail
  refine (pieces_any _ _ _ _ _ _ R _ (T.out.run.below (HB1.out.alloc HB1.out.size _)) (by have := Hv.out.n60; omega) Hv.out.pcb).mono ?_
  rintro e W3 ⟨A, n, c, rfl, hn, hx, hb3, _⟩
  have Hn := Lib.hid hn
  have Hx := Lib.hid hx
  have HB3 : Hid (Below W2.heap.size W2 W3) := (HB1.out.alloc HB1.out.size _).trans (hb3.mono (HB1.out.alloc HB1.out.size _).size)
  have HC3 : Hid (Chart W3 cb bb fb p (R.e.toNat + 1) (befF p R) (frmF p R)) := (HC.out.below ((Below.refl _ _).alloc (Nat.le_refl _) _)).below hb3
  have hcv : Hid (W3.cell? ⟨w1.heap.size, 0, none⟩ = some (.pointer (some ⟨cb, 0, none⟩))) := (hb3.cell (p := ⟨_, _, none⟩) (by simp)).trans (by simp)
  have x1 : W3.cell? ⟨w.heap.size + 1, 1, none⟩ = some (I R.e) := T.out.r1 _ HB3.out
  have hn60 : (n : Int) ≤ 60 := by have := Hv.out.n60; omega
  clear hn hx hb3 y0 y1 y2 y3
  go_wp2_with fail
  go_loopw [40] (fun i wr => ∃ k : Nat, k ≤ R.ss.length ∧ i = .int .i64 k ∧ Spl W3 N (bdP R k) wr) (fun i _ => R.ss.length - (intOf i).toNat)
  case atStart => exact ⟨0, by omega, rfl, ((Below.refl _ _).alloc (Nat.le_refl _) _).alloc (by simp) _, by simp, heap_before (heap_last _ _ _ rfl)⟩
  case round =>
    obtain ⟨k, hk, rfl, hs⟩ := hrel
    have HS := Lib.hid hs
    clear hs
    have hkn : k ≤ n := by rw [Hn.out]; exact hk
    by_cases hlt : k < R.ss.length
    · have hkn' : k < n := by rw [Hn.out]; exact hlt
      obtain ⟨b, o, rfl, hb, hcell⟩ := Rd.pce ((Hx.out.below HS.out.bw)) hkn'
      rw [at0_pcs R hlt] at hcell
      have ht0 := Hv.out.t0 k hlt
      have htl := Hv.out.tlt k hlt
      have hub := unt_bd Hv.out hlt
      obtain ⟨z0, z1, z2, z3, z4, z5, z6, z7, z8, z9⟩ := hcell
      have hq : (pcS R k).s = at0 R.ss k := rfl
      have hq2 : (pcS R k).e = untS R k := rfl
      rw [hq2] at z8
      rw [hq] at z0 z1 z2 z3 z4 z5 z6 z7
      obtain ⟨q, hqq⟩ : ∃ q, q = at0 R.ss k := ⟨_, rfl⟩
      obtain ⟨u, huu⟩ : ∃ u, u = untS R k := ⟨_, rfl⟩
      rw [← hqq] at z0 z1 z2 z3 z4 z5 z6 z7 ht0 htl
      rw [← huu] at z8 hub
      have Hq := Lib.hid hqq
      have Hu := Lib.hid huu
      generalize (pcS R k).p = pl at z9
      obtain ⟨u1, u2⟩ := hub
      clear hqq huu hq hq2
      by_cases hph : q.ph = 4
      · have hf : Hid (bdP R (k + 1) = bdP R k) := bdP_same (by rw [← Hq.out]; exact hph)
        have hph' : (q.ph == 4) = true := by rw [hph]; rfl
        clear hph
        go_wp2_with fail
        go_roundw
        case rel => exact ⟨k + 1, by omega, by go_num, by rw [hf.out]; exact HS.out.le ((Below.refl _ _).alloc (Nat.le_refl _) _)⟩
        case measure => simp [intOf]; omega
      · have hf : Hid (bdP R (k + 1) = spB (bdP R k) q.t (max q.t u)) := by show _ = _; rw [bdP_succ (by rw [← Hq.out]; exact hph), ← Hq.out, ← Hu.out]
        have hph' : (q.ph == 4) = false := by simpa using hph
        clear hph
        go_wp2_with fail
        have HS2 : Hid (∀ x, Spl W3 N (bdP R k) (wr.alloc x)) := fun x => HS.out.le ((Below.refl _ _).alloc (Nat.le_refl _) _)
        refine (spoil_any (W3.heap.size + 1) W3.heap.size N (bdP R k) ⟨q.t, u⟩ _ (HS2.out _).v (HS2.out _).d (by omega) (by omega) ⟨by show 0 ≤ q.t; omega, by show u ≤ _; have := hNe.out; omega, by show q.t ≤ _; omega⟩).mono ?_
        rintro e w4 ⟨rfl, hbut, hd⟩
        have HS4 : Hid (Spl W3 N (bdP R (k + 1)) w4) := by rw [hf.out]; exact (HS2.out _).but hbut hd
        clear hbut hd
        go_wp2_with fail
        go_roundw
        case rel => exact ⟨k + 1, by omega, by go_num, HS4.out⟩
        case measure => simp [intOf]; omega
    · have hkl : k = n := by rw [Hn.out]; omega
      have HS5 : Hid (Spl W3 N (bdP R R.ss.length) wr) := by have := HS.out; rw [hkl, Hn.out] at this; exact this
      obtain ⟨wo, rfl⟩ : ∃ wo : World, wo = wr := ⟨_, rfl⟩
      subst hkl
      clear HS hlt hk hkn
      go_wp2_with fail
      go_cut [61, 62, 63] (fun s61 s62 s63 wx => ∃ A' n' c', s61 = .slice A' n' c' ∧ s62 = .int .i64 (n' : Nat) ∧ s63 = .int .i64 0 ∧ n' = (outL R).length ∧ wx.ownsRow wo.heap.size 23 2 (.slice A' n' c') (outL R).length (rc (outL R)) ∧ Below wo.heap.size wo wx)
      case first =>
        have hbo : Hid (Below W2.heap.size W2 wo) := HB3.out.trans (HS5.out.bw.mono HB3.out.size)
        have hrd : ∀ W, Below wo.heap.size wo W → W.cell? ⟨w.heap.size + 1, 0, none⟩ = some (.slice A1 R.ss.length c1) ∧ W.cell? ⟨w.heap.size + 1, 1, none⟩ = some (I R.e) ∧ W.cell? ⟨w.heap.size + 1, 2, none⟩ = some (.slice A2 R.ms.length c2) ∧ W.cell? ⟨w.heap.size + 1, 3, none⟩ = some (.slice A3 R.es.length c3) := fun W hW =>
          have hb := hbo.out.trans (hW.mono hbo.out.size)
          ⟨T.out.r0 _ hb, T.out.r1 _ hb, T.out.r2 _ hb, T.out.r3 _ hb⟩
        have e20 := Hv.out.e20
        refine wp_region_held_drew (S := fun w' => Below wo.heap.size wo w') (by kernel_rfl) (Below.refl _ _).drew (fun hHeld => ?_)
        refine wpAnyH_take (i := 0) (oi := ⟨some 57, _, _, _, _, _⟩) (v := .agg #[.slice A1 R.ss.length c1, I R.e, .slice A2 R.ms.length c2, .slice A3 R.es.length c3]) rfl (by kernel_rfl) (by kernel_rfl) (by kernel_rfl) (fun _ _ _ h => h) (Or.inl ⟨by rfl, fun w' hw' => by obtain ⟨a0, a1, a2, a3⟩ := hrd w' hw'; go_simp⟩) hHeld ?_
        simp only [Act.put, List.setIfInBounds_toArray, List.set_cons_zero, List.set_cons_succ]
        refine wpAnyH_take (i := 2) (oi := ⟨some 59, _, _, _, _, _⟩) (v := .agg #[.slice A1 R.ss.length c1, I R.e, .slice A2 R.ms.length c2, .slice A3 R.es.length c3]) rfl (by kernel_rfl) (by kernel_rfl) (by kernel_rfl) (fun _ _ _ h => h) (Or.inl ⟨by rfl, fun w' hw' => by obtain ⟨a0, a1, a2, a3⟩ := hrd w' hw'; go_simp⟩) hHeld ?_
        simp only [Act.put, List.setIfInBounds_toArray, List.set_cons_zero, List.set_cons_succ]
        refine wpAnyH_take (i := 6) (oi := ⟨some 63, _, _, _, _, _⟩) (v := I 0) rfl (by kernel_rfl) (by kernel_rfl) (by kernel_rfl) (fun _ _ _ h => h) (Or.inl ⟨by rfl, fun w' hw' => rfl⟩) hHeld ?_
        simp only [Act.put, List.setIfInBounds_toArray, List.set_cons_zero, List.set_cons_succ]
        refine wpAnyH_ready (rs := [1]) (by kernel_rfl) (by simp) ?_
        refine AllReadyH.cons (o := ⟨some 58, _, _, _, _, _⟩) rfl (fun K hK => ?_) AllReadyH.nil
        rw [if_pos (by rfl)]
        go_simp
        refine (stretches_own A1 A2 A3 c1 c2 c3 R 2 3 _ (T.out.run.below (hbo.out.trans (hHeld.mono hbo.out.size))) (by omega)).mono ?_
        rintro e w5 ⟨Ax, nx, cx, rfl, hnx, hownx, hb5⟩
        refine hK.out _ _ (hHeld.trans (hb5.mono hHeld.size)) (fun hHeld => ?_)
        clear hK K
        refine wpAnyH_ready (rs := [3]) (by kernel_rfl) (by simp) ?_
        refine AllReadyH.cons (o := ⟨some 60, _, _, _, _, _⟩) rfl (fun K hK => ?_) AllReadyH.nil
        rw [if_pos (by rfl)]
        go_simp
        refine (stretches_own A1 A2 A3 c1 c2 c3 R 4 5 _ (T.out.run.below (hbo.out.trans (hHeld.mono hbo.out.size))) (by omega)).mono ?_
        rintro e w6 ⟨Ay, ny, cy, rfl, hny, howny, hb6⟩
        refine hK.out _ _ (hHeld.trans (hb6.mono hHeld.size)) (fun hHeld => ?_)
        have hx6 := own_below hownx hb6
        have hl1 := strs_len R 2 3
        have hl2 := strs_len R 4 5
        clear hK K hownx hb5 hb6
        subst hnx hny
        refine wpAnyH_ready (rs := [4]) (by kernel_rfl) (by simp) ?_
        refine AllReadyH.cons (o := ⟨some 61, _, _, _, _, _⟩) rfl (fun K hK => ?_) AllReadyH.nil
        rw [if_pos (by rfl)]
        have HX6 := Lib.hid hx6
        have hlo : (outL R).length = (strs R 2 3).length + (strs R 4 5).length := by rw [outL, List.length_append]
        have hro : rc (outL R) = rc (strs R 2 3) ++ rc (strs R 4 5) := by rw [outL, rc, List.flatMap_append]; rfl
        have HL := Lib.hid (And.intro hlo hro)
        have Hy := Lib.hid howny
        have q1 : ((strs R 2 3).length : Int) ≤ 21 := by omega
        have q2 : ((strs R 4 5).length : Int) ≤ 21 := by omega
        obtain ⟨i0, hi0, iz0, iz1, iz2⟩ := info_parts rng_info
        clear hx6 hlo hro howny
        rcases Hy.out.2 with ⟨hyv, hye⟩ | ⟨g, cap, cur, hyv, hg, hh, r1, r2, r3, r4⟩
        · have hye' : (strs R 4 5) = [] := by
            cases hq : strs R 4 5 with
            | nil => rfl
            | cons a r => rw [hq] at hye; cases hye
          have hl0 : Hid ((outL R).length = (strs R 2 3).length) := by show _ = _; rw [HL.out.1, hye']; simp
          have hfin : Hid (w6.ownsRow wo.heap.size 23 2 (.slice Ax (strs R 2 3).length cx) (outL R).length (rc (outL R))) := by
            show World.ownsRow _ _ _ _ _ _ _
            rw [hl0.out, HL.out.2, hye', show rc ([] : List Rng) = [] from rfl, List.append_nil]; exact HX6.out
          refine wp_append_own_none _ _ 69 rfl wo.heap.size 23 i0 2 Try.underlying69 hi0 (.slice Ax (strs R 2 3).length cx) _ _ rfl HX6.out hyv ?_
          refine hK.out _ _ hHeld (fun hHeld => ?_)
          clear hK K hyv hye hye'
          simp only [Act.put, List.setIfInBounds_toArray, List.set_cons_zero, List.set_cons_succ]
          refine wpAnyH_take (i := 5) (oi := ⟨some 62, _, _, _, _, _⟩) (v := I ((strs R 2 3).length : Nat)) rfl (by kernel_rfl) (by kernel_rfl) (by kernel_rfl) (fun _ _ _ h => h) (Or.inl ⟨by rfl, fun w' hw' => by go_simp⟩) hHeld ?_
          simp only [Act.put, List.setIfInBounds_toArray, List.set_cons_zero, List.set_cons_succ]
          refine wpAnyH_done (by kernel_rfl) ?_ _
          go_wp2_with fail
          go_meet
          case rel => exact ⟨Ax, _, cx, rfl, rfl, rfl, hl0.out.symm, hfin.out, hHeld⟩
        · obtain ⟨ec1, ec2⟩ : Ay = some ⟨g, 0, none⟩ ∧ cy = cap := by injection hyv with e1 e2 e3; exact ⟨e1, e3⟩
          subst ec1 ec2
          refine wp_append_own _ _ _ 69 rfl wo.heap.size 23 i0 _ 2 16 Try.underlying69 hi0 iz0 iz1 iz2 rfl (by decide) (.slice Ax (strs R 2 3).length cx) (strs R 2 3).length (rc (strs R 2 3)) rfl HX6.out ⟨g, 0, none⟩ (strs R 4 5).length cy (rc (strs R 4 5)) rfl (rc_len _) ?hnews ?h1 ?h63 ?hby ?hba ?_
          case hnews =>
            intro j u hu
            rw [addr_add, Nat.zero_add, cell_of_row w6 g j _ _ _ hh, ← Array.getElem?_toList]
            rw [← r4, List.getElem?_take] at hu
            split at hu
            · exact hu
            · cases hu
          case h1 => intro u hu; simp only [rc, List.mem_flatMap] at hu; obtain ⟨r, _, hr⟩ := hu; simp at hr; rcases hr with rfl | rfl <;> rfl
          case h63 => unfold maxLen; omega
          case hby => omega
          case hba => exact hHeld.size
          intro v' w7 own7 hg7 _
          have hb7 : Below wo.heap.size wo w7 := hHeld.grown hg7 hHeld.size (fun g hg => (HX6.out.lt g hg).1)
          obtain ⟨A', c', rfl, hr⟩ : ∃ A' c', v' = .slice A' (outL R).length c' ∧ w7.ownsRow wo.heap.size 23 2 v' (outL R).length (rc (outL R)) := by
            rw [← HL.out.1, ← HL.out.2] at own7
            obtain ⟨A', c', he, _⟩ := Rd.of_rc own7
            exact ⟨A', c', he, own7⟩
          have HR := Lib.hid hr
          clear hr own7
          refine hK.out _ _ hb7 (fun hHeld => ?_)
          clear hK K
          simp only [Act.put, List.setIfInBounds_toArray, List.set_cons_zero, List.set_cons_succ]
          refine wpAnyH_take (i := 5) (oi := ⟨some 62, _, _, _, _, _⟩) (v := I ((outL R).length : Nat)) rfl (by kernel_rfl) (by kernel_rfl) (by kernel_rfl) (fun _ _ _ h => h) (Or.inl ⟨by rfl, fun w' hw' => by go_simp⟩) hHeld ?_
          simp only [Act.put, List.setIfInBounds_toArray, List.set_cons_zero, List.set_cons_succ]
          refine wpAnyH_done (by kernel_rfl) ?_ _
          go_wp2_with fail
          go_meet
          case rel => exact ⟨A', _, c', rfl, rfl, rfl, rfl, HR.out, hHeld⟩
      case rest =>
        obtain ⟨A', n', c', rfl, rfl, rfl, hn', hown, hbx⟩ := hcut
        have HSc : Hid (Spl W3 N (bdP R R.ss.length) wc) := HS5.out.le hbx
        have hdb : W3.heap.size < wo.heap.size := (Array.getElem?_eq_some_iff.1 HS5.out.d).1
        have HO := Lib.hid hown
        have Hn' := Lib.hid hn'
        have hol : (outL R).length ≤ 42 := by
          have h1 := strs_len R 2 3
          have h2 := strs_len R 4 5
          have := Hv.out.e20
          rw [outL, List.length_append]; omega
        have hn1 : (n' : Int) ≤ 42 := by omega
        clear hown hn' hbx HS5
        go_wp2_with fail
        go_loopw [63] (fun i wr => ∃ k : Nat, k ≤ n' ∧ i = .int .i64 k ∧ Spl W3 N (bdS (bdP R R.ss.length) (outL R) k) wr ∧ wr.ownsRow wo.heap.size 23 2 (.slice A' n' c') (outL R).length (rc (outL R))) (fun i _ => n' - (intOf i).toNat)
        case atStart => exact ⟨0, by omega, rfl, HSc.out, HO.out⟩
        case round =>
          obtain ⟨k, hk, rfl, hs, hown⟩ := hrel
          have HS := Lib.hid hs
          have Hown := Lib.hid hown
          clear hs hown
          by_cases hlt : k < n'
          · obtain ⟨b, o, rfl, hb, z0, z1⟩ := Rd.rng (own_rd Hown.out).2 (show k < (outL R).length by rw [← Hn'.out]; exact hlt)
            have hbd := outL_bd Hv.out (show k < (outL R).length by rw [← Hn'.out]; exact hlt)
            have hf : Hid (bdS (bdP R R.ss.length) (outL R) (k + 1) = spB (bdS (bdP R R.ss.length) (outL R) k) (at0 (outL R) k).lo (max (at0 (outL R) k).lo (at0 (outL R) k).hi)) := rfl
            generalize at0 (outL R) k = q at *
            obtain ⟨d1, d2, d3⟩ := hbd
            go_wp2_with fail
            have HS2 : Hid (∀ x, Spl W3 N (bdS (bdP R R.ss.length) (outL R) k) (wr.alloc x)) := fun x => HS.out.le ((Below.refl _ _).alloc (Nat.le_refl _) _)
            refine (spoil_any (W3.heap.size + 1) W3.heap.size N (bdS (bdP R R.ss.length) (outL R) k) q _ (HS2.out _).v (HS2.out _).d (by omega) (by omega) ⟨d1, by have := hNe.out; omega, by omega⟩).mono ?_
            rintro e w4 ⟨rfl, hbut, hd⟩
            have HS4 : Hid (Spl W3 N (bdS (bdP R R.ss.length) (outL R) (k + 1)) w4) := by rw [hf.out]; exact (HS2.out _).but hbut hd
            have HO4 : Hid (w4.ownsRow wo.heap.size 23 2 (.slice (some ⟨b, o, none⟩) n' c') (outL R).length (rc (outL R))) := own_but (Hown.out.alloc _) hbut hdb
            clear hbut hd
            go_wp2_with fail
            go_roundw
            case rel => exact ⟨k + 1, by omega, by go_num, HS4.out, HO4.out⟩
            case measure => simp [intOf]; omega
          · obtain rfl : n' = k := by omega
            have HS5 : Hid (Spl W3 N (badF R) wr) := by have := HS.out; rw [Hn'.out] at this; exact this
            obtain ⟨wo2, rfl⟩ : ∃ wo : World, wo = wr := ⟨_, rfl⟩
            clear HS hlt hk HSc HO Hown
            have hbo : Hid (Below W2.heap.size W2 wo2) := HB3.out.trans (HS5.out.bw.mono HB3.out.size)
            have hbd : ∀ W, Below wo2.heap.size wo2 W → Below W2.heap.size W2 W := fun W hW => hbo.out.trans (hW.mono hbo.out.size)
            have Hbd := Lib.hid hbd
            have HRd : Hid (∀ W, Below wo2.heap.size wo2 W → Rd W W.heap.size 10 A k (rP (pcs R))) := fun W hW =>
              have hb := HS5.out.bw.trans (hW.mono HS5.out.bw.size)
              (Hx.out.below hb).more hb.size
            have y1 := ovr_cell (T.out.r1 _ hbo.out)
            have Hpl : Hid (∀ u, Calls Try.prog 44 #[.slice A k c, I R.e] (ovr wo2 u) fun e w' => e = .returned (I (placeR R R.e)) ∧ Below (ovr wo2 u).heap.size (ovr wo2 u) w') := fun u =>
              place_at A k c R R.e _ Hv.out Hn.out (HRd.out _ (ovr_below _ _)) e0 (by omega)
            clear hbd
            go_wp2_with fail
            refine wp_region_below_lit (by kernel_rfl) (by kernel_rfl) ?_
            repeat (go_big_quiet_step ((go_at_call 44; exact call_below (Hpl.out _))))
            refine wpQuiet_nil ?_
            intro w5 hb5
            have HB5 := Lib.hid hb5
            have z0 := T.out.r0 _ (Hbd.out _ hb5)
            have z1 := T.out.r1 _ (Hbd.out _ hb5)
            have z2 := T.out.r2 _ (Hbd.out _ hb5)
            have z3 := T.out.r3 _ (Hbd.out _ hb5)
            clear hb5 y1
            go_wp2_with (refine wpList_load_ia rfl 30 _ rfl w.heap.size 0 rfl 117 p _ (T.out.pul _ (Hbd.out _ HB5.out)) Try.underlying30 rfl (by kernel_rfl) ?_)
            refine (stop_any A1 A2 A3 c1 c2 c3 p R _ (T.out.run.below (Hbd.out _ HB5.out)) Hv.out Hp.out.hold).mono ?_
            rintro e w6 ⟨rfl, hb6⟩
            have HB6 : Hid (Below wo2.heap.size wo2 w6) := HB5.out.trans (hb6.mono HB5.out.size)
            clear hb6 z0 z1 z2 z3
            go_upto_if 84 with (fail)
            go_cut [15, 16] (fun s15 s16 wx => s15 = I (endF p R) ∧ s16 = I (mostF p R) ∧ Below wo2.heap.size wo2 wx)
            case first =>
              by_cases hk0 : (stopF p R).2 = 0
              · have he : Hid (endF p R = R.e ∧ mostF p R = placeR R R.e) := ⟨if_pos hk0, if_pos hk0⟩
                have hq : ((stopF p R).2 == 0) = true := by rw [hk0]; rfl
                clear hk0
                go_wp2_with fail
                go_meet
                case rel => exact ⟨by rw [he.out.1], by rw [he.out.2], HB6.out⟩
              · have he : Hid (endF p R = (stopF p R).1 ∧ mostF p R = placeR R (stopF p R).1 - p 114) := ⟨if_neg hk0, if_neg hk0⟩
                have hq : ((stopF p R).2 == 0) = false := by simpa using hk0
                obtain ⟨b1, b2⟩ := stopF_on Hv.out Hp.out hk0
                obtain ⟨b3, b4⟩ := placeR_bd Hv.out b1
                obtain ⟨b5, b6⟩ := Hp.out.slip
                clear hk0
                have y2 := ovr_cell (T.out.pul _ (Hbd.out _ HB6.out) 114 (by omega))
                rw [Nat.zero_add] at y2
                have Hpl2 : Hid (∀ u, Calls Try.prog 44 #[.slice A k c, I (stopF p R).1] (ovr w6 u) fun e w' => e = .returned (I (placeR R (stopF p R).1)) ∧ Below (ovr w6 u).heap.size (ovr w6 u) w') := fun u =>
                  place_at A k c R _ _ Hv.out Hn.out (HRd.out _ (HB6.out.trans ((ovr_below _ _).mono HB6.out.size))) b1 (by omega)
                go_wp2_with fail
                refine wp_region_below_lit (by kernel_rfl) (by kernel_rfl) ?_
                repeat (go_big_quiet_step ((go_at_call 44; exact call_below (Hpl2.out _))))
                refine wpQuiet_nil ?_
                intro w7 hb7
                go_wp2_with fail
                go_meet
                case rel => exact ⟨by rw [he.out.1], by rw [he.out.2], HB6.out.trans (hb7.mono HB6.out.size)⟩
            case rest =>
              obtain ⟨rfl, rfl, hbc⟩ := hcut
              have HSc2 : Hid (Spl W3 N (badF R) wc) := HS5.out.le hbc
              have HRc : Hid (∀ W, Below wc.heap.size wc W → Rd W W.heap.size 10 A k (rP (pcs R))) := fun W hW => HRd.out _ (hbc.trans (hW.mono hbc.size))
              have HBc := Lib.hid (Hbd.out _ hbc)
              have hend : 0 ≤ endF p R ∧ endF p R ≤ R.e := by
                unfold endF
                split
                · omega
                · rename_i hk0; exact stopF_on Hv.out Hp.out hk0
              obtain ⟨M, hM⟩ : ∃ M, M = (endF p R).toNat := ⟨_, rfl⟩
              have hMe : Hid (endF p R = (M : Int)) := by show _ = _; omega
              have hMN : M ≤ N := by have := hNe.out; omega
              have HM := Lib.hid hM
              clear hbc hend hM
              go_wp2_with fail
              rw [hMe.out]
              refine (runs_sd (W3.heap.size + 1) w1.heap.size M (sellF p R) _ (by omega) (fun kk hkk W hW => ?_)).mono ?_
              · have hs := HSc2.out.le hW
                exact sell_any cb bb fb w1.heap.size (W3.heap.size + 1) W3.heap.size N Hok.out (by have := HN.out; omega) (badF R) HN.out.symm W (HC3.out.below hs.bw) hs.v ((hs.bw.cell (p := ⟨_, _, none⟩) (block_lt_of_cell hcv.out)).trans hcv.out) hs.d (by omega)
              rintro e w8 ⟨A8, n8, c8, rfl, hn8, hr8, hb8⟩
              have HR8 := Lib.hid hr8
              have Hn8 := Lib.hid hn8
              have HB8 := Lib.hid hb8
              have hrb := runsF_bd (sellF p R) M
              have Hrb := Lib.hid hrb
              clear hr8 hn8 hb8 hrb
              obtain ⟨rs, hrs⟩ : ∃ rs, rs = runsF (sellF p R) M := ⟨_, rfl⟩
              rw [← hrs] at HR8 Hn8 Hrb
              have hL8 : Hid (rs.length ≤ 100000) := by show _ ≤ _; rw [hrs]; have := rnK_len (sellF p R) M; rw [← runsF] at this; omega
              have Hrs := Lib.hid hrs
              have hn8 : (n8 : Int) ≤ 100000 := by have := hL8.out; have := Hn8.out; omega
              obtain ⟨i0, hi0, iz0, iz1, iz2⟩ := info_parts rng_info
              have HRk : Hid (∀ W, Below w8.heap.size w8 W → Rd W W.heap.size 10 A k (rP (pcs R))) := fun W hW => HRc.out _ (HB8.out.trans (hW.mono HB8.out.size))
              clear hrs
              go_wp2_with fail
              go_loopw [19, 96] (fun v i wr => ∃ kk : Nat, kk ≤ n8 ∧ i = .int .i64 kk ∧ wr.ownsRow w8.heap.size 23 2 v (soldK p R (rs.take kk)).length (rc (soldK p R (rs.take kk))) ∧ Below w8.heap.size w8 wr) (fun _ i _ => n8 - (intOf i).toNat)
              case atStart => exact ⟨0, by omega, rfl, ⟨rfl, .inl ⟨rfl, rfl⟩⟩, Below.refl _ _⟩
              case round =>
                obtain ⟨kk, hkk, rfl, hown, hbw⟩ := hrel
                have Hown := Lib.hid hown
                have Hbw := Lib.hid hbw
                clear hown hbw
                by_cases hlt : kk < n8
                · obtain ⟨b, o, rfl, hb, z0, z1⟩ := (HR8.out.below Hbw.out).rng (show kk < n8 from hlt)
                  have hq := Hrb.out _ (at0_in (show kk < rs.length by rw [← Hn8.out]; exact hlt))
                  have hst : Hid (soldK p R (rs.take (kk + 1)) = soldK p R (rs.take kk) ++ (if (soldR p R (at0 rs kk)).lo < (soldR p R (at0 rs kk)).hi then [soldR p R (at0 rs kk)] else [])) := soldK_take p R (by rw [← Hn8.out]; exact hlt)
                  have hlk : Hid ((soldK p R (rs.take kk)).length ≤ 100000) := by show _ ≤ _; have := soldK_len p R (rs.take kk); rw [List.length_take] at this; have := hL8.out; omega
                  generalize at0 rs kk = s at *
                  obtain ⟨s1, s2, s3⟩ := hq
                  have s4 : s.hi < 100000 := by omega
                  go_wp2_with fail
                  obtain ⟨W9, hW9⟩ : ∃ W9, W9 = wr.alloc (.cells #[I s.lo, I s.hi] 23) := ⟨_, rfl⟩
                  have v0 : W9.cell? ⟨wr.heap.size, 0, none⟩ = some (I s.lo) := by rw [hW9]; simp
                  have v1 : W9.cell? ⟨wr.heap.size, 1, none⟩ = some (I s.hi) := by rw [hW9]; simp
                  have hb9 : Below w8.heap.size w8 W9 := by rw [hW9]; exact Hbw.out.alloc Hbw.out.size _
                  rw [← hW9]
                  have HW9 := Lib.hid hW9
                  have Hb9 := Lib.hid hb9
                  clear hW9 hb9 z0 z1
                  have v0' := ovr_cell v0
                  have v1' := ovr_cell v1
                  have hp1 := placeR_bd Hv.out s1
                  have hp2 := placeR_bd Hv.out (t := s.hi + 1) (by omega)
                  obtain ⟨q1, hq1⟩ : ∃ q1, q1 = placeR R s.lo := ⟨_, rfl⟩
                  obtain ⟨q2, hq2⟩ : ∃ q2, q2 = placeR R (s.hi + 1) := ⟨_, rfl⟩
                  rw [← hq1] at hp1
                  rw [← hq2] at hp2
                  have Hq := Lib.hid (And.intro hq1 hq2)
                  have Hsm : Hid (soldR p R s = ⟨q1, min q2 (mostF p R)⟩) := by show _ = _; rw [hq1, hq2]; rfl
                  clear hq1 hq2
                  have Hp1 : Hid (∀ w', Cl W9 w' → Calls Try.prog 44 #[.slice A k c, I s.lo] w' fun e w'' => e = .returned (I q1) ∧ Below w'.heap.size w' w'') := fun w' hw' => by
                    rw [Hq.out.1]; exact place_at A k c R _ _ Hv.out Hn.out (HRk.out _ (Hb9.out.trans (hw'.le.mono Hb9.out.size))) s1 (by omega)
                  have Hp2 : Hid (∀ w', Cl W9 w' → Calls Try.prog 44 #[.slice A k c, I (s.hi + 1)] w' fun e w'' => e = .returned (I q2) ∧ Below w'.heap.size w' w'') := fun w' hw' => by
                    rw [Hq.out.2]; exact place_at A k c R _ _ Hv.out Hn.out (HRk.out _ (Hb9.out.trans (hw'.le.mono Hb9.out.size))) (by omega) (by omega)
                  refine wp_region_make_last (fun j => if j = 3 then some (fun u _ => u = I q1) else if j = 8 then some (fun u _ => u = I q2) else if j = 12 then some (NewAt W9 #[I 0, I 0] 23) else none) (by kernel_rfl) (by kernel_rfl) (by kernel_rfl) (by kernel_rfl) rfl ?_
                  simp only [skipLast_two, skipLast_one, lastOf_two, lastOf_one]
                  repeat (refine wpG_one rfl rfl rfl ?_; intro K hK; go_big_quiet_op; go_big_quiet_on)
                  refine wpG_make (fun u _ => u = I q1) rfl rfl (fun w' hw' _ => ?_) (fun u hu => ?_)
                  · go_simp
                    exact call_grow (Hp1.out w' hw')
                  obtain ⟨_, _, rfl⟩ := hu
                  simp only [Act.put, List.setIfInBounds_toArray, List.set_cons_zero, List.set_cons_succ]
                  repeat (refine wpG_one rfl rfl rfl ?_; intro K hK; go_big_quiet_op; go_big_quiet_on)
                  refine wpG_make (fun u _ => u = I q2) rfl rfl (fun w' hw' _ => ?_) (fun u hu => ?_)
                  · go_simp
                    exact call_grow (Hp2.out w' hw')
                  obtain ⟨_, _, rfl⟩ := hu
                  simp only [Act.put, List.setIfInBounds_toArray, List.set_cons_zero, List.set_cons_succ]
                  repeat (refine wpG_one rfl rfl rfl ?_; intro K hK; go_big_quiet_op; go_big_quiet_on)
                  refine wpG_make (NewAt W9 #[I 0, I 0] 23) rfl rfl (fun w' hw' _ => ?_) (fun u hu => ?_)
                  · go_simp
                    exact new_grow hw'
                  obtain ⟨_, _, xb, rfl, _, hxb⟩ := hu
                  simp only [Act.put, List.setIfInBounds_toArray, List.set_cons_zero, List.set_cons_succ]
                  repeat (refine wpG_one rfl rfl rfl ?_; intro K hK; go_big_quiet_op; go_big_quiet_on)
                  refine wpG_nil (fun w5 hw5 hG => ?_)
                  have hx5 := (Box.now hG.2).at.1
                  clear hG
                  refine wp_store_row 23 _ _ rfl xb rfl _ _ hx5 #[I q1, I (min q2 (mostF p R))] ?hy (two2 _ _) rfl (by kernel_rfl) ?_
                  case hy => (simp [Act.eval]; split <;> omega)
                  obtain ⟨mn, hmn⟩ : ∃ mn, mn = min q2 (mostF p R) := ⟨_, rfl⟩
                  rw [← hmn] at Hsm ⊢
                  have c0 : (w5.setRow xb #[I q1, I mn]).cell? ⟨xb, 0, none⟩ = some (I q1) := by rw [cell_of_row _ _ _ _ _ _ (setRow_same hx5)]; rfl
                  have c1 : (w5.setRow xb #[I q1, I mn]).cell? ⟨xb, 1, none⟩ = some (I mn) := by rw [cell_of_row _ _ _ _ _ _ (setRow_same hx5)]; rfl
                  have ho5 : Hid ((w5.setRow xb #[I q1, I mn]).ownsRow w8.heap.size 23 2 u19 (soldK p R (rs.take kk)).length (rc (soldK p R (rs.take kk)))) := by
                    refine own_over (w := W9) (by rw [HW9.out]; exact Hown.out.alloc _) (fun g hg => ?_)
                    rw [setRow_other (by omega)]; exact hw5.le.block g hg
                  have hb10 : Hid (Below w8.heap.size w8 (w5.setRow xb #[I q1, I mn])) := below_setRow (Hb9.out.trans (hw5.le.mono Hb9.out.size)) (by have := Hb9.out.size; omega) _
                  generalize w5.setRow xb #[I q1, I mn] = W10 at *
                  clear hx5 hw5 hmn
                  by_cases hlt2 : q1 < mn
                  · have hs2 : Hid (soldK p R (rs.take (kk + 1)) = soldK p R (rs.take kk) ++ [⟨q1, mn⟩]) := by show _ = _; rw [hst.out, Hsm.out, if_pos hlt2]
                    have hl1 : Hid ((soldK p R (rs.take (kk + 1))).length = (soldK p R (rs.take kk)).length + 1) := by show _ = _; rw [hs2.out, List.length_append]; rfl
                    have hrc : Hid (rc (soldK p R (rs.take (kk + 1))) = rc (soldK p R (rs.take kk)) ++ [I q1, I mn]) := by show _ = _; rw [hs2.out, rc_app]
                    have hz10 := hb10.out.size
                    go_wp2_with (at_builtin; (refine wpList_append_own _ rfl _ _ 69 rfl w8.heap.size 23 i0 _ 2 16 Try.underlying69 hi0 iz0 iz1 iz2 rfl (by decide) u19 (soldK p R (rs.take kk)).length (rc (soldK p R (rs.take kk))) rfl (ho5.out.alloc _) ⟨W10.heap.size, 0, none⟩ 1 1 [I q1, I mn] rfl (by rfl) (news_lit (cs := #[I q1, I mn]) (heap_last _ _ _ rfl)) ?h1 ?h63 ?hby ?hba ?_))
                    case h1 => simp [Value.oneCell']
                    case h63 => have := hlk.out; unfold maxLen; omega
                    case hby => have := hlk.out; omega
                    case hba => simp; omega
                    all_goals
                      intro v' w11 own3 hg2 _
                      have hB3 : Below w8.heap.size w8 w11 := (hb10.out.alloc hz10 _).grown hg2 (by simp; omega) (fun g hg => (ho5.out.lt g hg).1)
                      have own4 : Hid (w11.ownsRow w8.heap.size 23 2 v' (soldK p R (rs.take (kk + 1))).length (rc (soldK p R (rs.take (kk + 1))))) := by show World.ownsRow _ _ _ _ _ _ _; rw [hl1.out, hrc.out]; exact own3
                      clear own3
                      go_wp2_with fail
                      go_roundw
                      case rel => exact ⟨kk + 1, by omega, by go_num, own4.out, hB3⟩
                      case measure => simp [intOf]; omega
                  · have hs2 : Hid (soldK p R (rs.take (kk + 1)) = soldK p R (rs.take kk)) := by show _ = _; rw [hst.out, Hsm.out, if_neg hlt2, List.append_nil]
                    go_wp2_with fail
                    go_roundw
                    case rel => exact ⟨kk + 1, by omega, by go_num, by rw [hs2.out]; exact ho5.out, hb10.out⟩
                    case measure => simp [intOf]; omega
                · obtain rfl : n8 = kk := by omega
                  have hfin : Hid (soldL p R = soldK p R (rs.take n8)) := by
                    show _ = _
                    rw [hL.out, List.take_of_length_le (by rw [Hn8.out]; exact Nat.le_refl _), Hrs.out, HM.out]
                  obtain ⟨A9, c9, rfl, hr⟩ := Rd.of_rc Hown.out
                  have HR := Lib.hid hr
                  have HBf : Hid (Below w.heap.size w wr) := T.out.up _ (HBc.out.trans ((HB8.out.trans (Hbw.out.mono HB8.out.size)).mono HBc.out.size))
                  clear hr Hown
                  go_wp2_with fail
                  go_ret2
                  exact ⟨A9, _, c9, by rw [hE.out]; rfl, by rw [hfin.out], by rw [hfin.out]; exact HR.out, HBf.out⟩
end Go.Proofs.Ytbojgcaehlapiaa
/- The contract of Sold of package pull, whatever the run. -/
namespace Go.Proofs.Ytbojgcaehlapiaa
open Go.RowKit
set_option maxRecDepth 100000 in
set_option maxHeartbeats 1000000 in
theorem soldX_any (A1 A2 A3 : Option Addr) (c1 c2 c3 : Nat) (p : Vec) (R : Run) (w : World) (h : RunIn w A1 A2 A3 R) (hc2 : R.ms.length ≤ c2) :
    Calls Try.prog 22 #[.agg (ia 117 p), runV A1 A2 A3 c1 c2 c3 R] w (RetL w (soldL p R) (chE p R)) := by
  by_cases hok : (okPuller p && okRun R) = true ∧ conf p R = none
  · exact soldX_ok A1 A2 A3 c1 c2 c3 p R w h hc2 hok.1 hok.2
  · obtain ⟨W2, hW2⟩ : ∃ W2, W2 = ((w.alloc (.cells (ia 117 p) 30)).alloc (.cells #[.slice A1 R.ss.length c1, I R.e, .slice A2 R.ms.length c2, .slice A3 R.es.length c3] 48)) := ⟨_, rfl⟩
    have T : Hid (Two w A1 A2 A3 c1 c2 c3 p R W2) := hW2 ▸ two_mk h c1 c2 c3 p
    have HW := Lib.hid hW2
    have x0 : W2.cell? ⟨w.heap.size + 1, 0, none⟩ = some (.slice A1 R.ss.length c1) := T.out.r0 _ (Below.refl _ _)
    have x1 : W2.cell? ⟨w.heap.size + 1, 1, none⟩ = some (I R.e) := T.out.r1 _ (Below.refl _ _)
    have x2 : W2.cell? ⟨w.heap.size + 1, 2, none⟩ = some (.slice A2 R.ms.length c2) := T.out.r2 _ (Below.refl _ _)
    have x3 : W2.cell? ⟨w.heap.size + 1, 3, none⟩ = some (.slice A3 R.es.length c3) := T.out.r3 _ (Below.refl _ _)
    clear h hW2
    have hno : Hid (∃ er', ((okPuller p && okRun R) = false ∧ er' = 2 ∨ (okPuller p && okRun R) = true ∧ (conf p R).isSome = true ∧ er' = 40) ∧ chE p R = er' ∧ (er' == 0) = false ∧ soldL p R = []) := by
      cases hq : (okPuller p && okRun R) with
      | false =>
        have h2 : chE p R = 2 := by rw [chE, hq]; rfl
        exact ⟨2, .inl ⟨rfl, rfl⟩, h2, rfl, by rw [soldL, h2]; rfl⟩
      | true =>
        have hc : (conf p R).isSome = true := by
          cases hc : conf p R with
          | none => exact absurd ⟨hq, hc⟩ hok
          | some _ => rfl
        have h2 : chE p R = 40 := by rw [chE, hq, hc]; rfl
        exact ⟨40, .inr ⟨rfl, hc, rfl⟩, h2, rfl, by rw [soldL, h2]; rfl⟩
    obtain ⟨er', h1, h2, h3, h4⟩ := hno.out
    have H1 := Lib.hid h1
    have H2 := Lib.hid (And.intro h2 h4)
    clear hno hok h1 h2 h4
    go_enter Try.func22, Try.ntmps22
    go_wp2_with (refine wpList_load_ia rfl 30 _ rfl w.heap.size 0 rfl 117 p _ (by rw [← HW.out]; exact T.out.pul _ (Below.refl _ _)) Try.underlying30 rfl (by kernel_rfl) ?_)
    rw [← HW.out]
    refine (newChart_no A1 A2 A3 c1 c2 c3 p R _ T.out.run hc2 er' H1.out).mono ?_
    rintro e w1 ⟨rfl, hb1⟩
    have HB2 : Hid (∀ x, Below w.heap.size w (w1.alloc x)) := fun x => T.out.up _ (hb1.alloc hb1.size x)
    clear hb1
    go_wp2_with fail
    go_ret2
    exact ⟨none, 0, 0, by rw [H2.out.1]; rfl, by rw [H2.out.2]; rfl, Rd.nil, HB2.out _⟩
end Go.Proofs.Ytbojgcaehlapiaa
