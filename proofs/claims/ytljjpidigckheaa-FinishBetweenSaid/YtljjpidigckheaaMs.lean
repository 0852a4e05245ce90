/- Contract of Apart of package finish. -/
import Derived.Test.YtljjpidigckheaaMpr
namespace Go.Proofs.Ytljjpidigckheaa.Un
open Go.RowKit
open Go.ChangeMaps (setBlock)
theorem trQ_ge {n : Nat} {l : List Int} (hq : trQ n l l.length = true) : ∀ k, k < l.length → (k : Int) ≤ at0 l k
 | 0, h => (trB_iff.1 (trQ_iff.1 hq 0 h)).1
 | k + 1, h => by
   have h1 := trQ_ge hq k (by omega)
   have h2 := (trB_iff.1 (trQ_iff.1 hq (k + 1) h)).2.2
   rcases h2 with h2 | h2
   · omega
   · have h3 : at0 l k < at0 l (k + 1) := by simpa using h2
     omega
theorem trQ_len {n : Nat} {l : List Int} (hq : trQ n l l.length = true) : l.length ≤ n := by
 rcases Nat.eq_zero_or_pos l.length with h | h
 · omega
 · have h1 := trQ_ge hq (l.length - 1) (by omega)
   have h2 := (trB_iff.1 (trQ_iff.1 hq (l.length - 1) (by omega))).2.1
   omega
def apP (bs : List Rng) (f : Nat → Option Bool) (v : Bool) : Int × Int := (SmL f (fun _ => true) v (fun k => (at0 bs k).lo) bs.length, SmL f (fun _ => true) v (fun k => (at0 bs k).hi) bs.length)
def apE (bs : List Rng) (a b : Trt) : Int := if 60 < bs.length then 5 else if (all9 0 10000000 bs && (trtOk bs.length a && trtOk bs.length b)) = false then 2 else 0
def apX (bs : List Rng) (a b : Trt) : Rng := if apE bs a b = 0 then ⟨a.s.lo + (apP bs (apF a.b b.b) false).1 - (b.s.hi + (apP bs (apF a.b b.b) true).2), a.s.hi + (apP bs (apF a.b b.b) false).2 - (b.s.lo + (apP bs (apF a.b b.b) true).1)⟩ else ⟨0, 0⟩
structure ApW (w : World) (bs : List Rng) (BA : Option Addr) (bn : Nat) (a b : Trt) (A C : Option Addr) (n m : Nat) (V : World) : Prop where
 r0 : V.heap[w.heap.size]? = some (.cells #[.slice BA bs.length bn] 35 (0, 0))
 r1 : V.heap[w.heap.size + 1]? = some (.cells #[I a.s.lo, I a.s.hi, .slice A a.b.length n] 72 (0, 0))
 r2 : V.heap[w.heap.size + 1 + 1]? = some (.cells #[I b.s.lo, I b.s.hi, .slice C b.b.length m] 72 (0, 0))
 r3 : V.heap[w.heap.size + 1 + 1 + 1]? = some (.cells #[I 0, I 0] 24 (0, 0))
 bw : Below w.heap.size w V
theorem ApW.lt {w : World} {bs : List Rng} {BA : Option Addr} {bn : Nat} {a b : Trt} {A C : Option Addr} {n m : Nat} {V : World} (h : ApW w bs BA bn a b A C n m V) : w.heap.size + 1 + 1 + 1 < V.heap.size := lt_of_row h.r3
theorem ApW.grown {w : World} {bs : List Rng} {BA : Option Addr} {bn : Nat} {a b : Trt} {A C : Option Addr} {n m : Nat} {V U : World} {row : Option Nat} (h : ApW w bs BA bn a b A C n m V) (hg : V.grownBy U row) (hr : ∀ k, row = some k → w.heap.size + 1 + 1 + 1 < k) : ApW w bs BA bn a b A C n m U := by
 have hn : ∀ k, k ≤ w.heap.size + 1 + 1 + 1 → row ≠ some k := fun k hk e => by
  have := hr k e
  omega
 exact ⟨row_grown hg h.r0 (hn _ (by omega)), row_grown hg h.r1 (hn _ (by omega)), row_grown hg h.r2 (hn _ (by omega)), row_grown hg h.r3 (hn _ (by omega)), h.bw.grown hg h.bw.size (fun k e => by have := hr k e; omega)⟩
theorem ApW.below {w : World} {bs : List Rng} {BA : Option Addr} {bn : Nat} {a b : Trt} {A C : Option Addr} {n m : Nat} {V U : World} (h : ApW w bs BA bn a b A C n m V) (hb : Below V.heap.size V U) : ApW w bs BA bn a b A C n m U := h.grown (le_grown hb none) (fun k e => by cases e)
theorem rR_snoc (l : List Rng) (r : Rng) : flat 2 (rR (l ++ [r])) (l.length + 1) = flat 2 (rR l) l.length ++ [I r.lo, I r.hi] := by
 rw [flat_succ 2 (by decide)]
 have e : flat 2 (rR (l ++ [r])) l.length = flat 2 (rR l) l.length := flat_congr fun k hk j _ => by
  unfold rR
  rw [at0_get hk, at0_get (by simp; omega), List.getElem_append_left]
 have e2 : at0 (l ++ [r]) l.length = r := by
  rw [at0_get (by simp), List.getElem_append_right (Nat.le_refl _)]
  simp
 rw [e]
 congr 1
 show [(at0 (l ++ [r]) l.length).c 0, (at0 (l ++ [r]) l.length).c 1] = _
 rw [e2]
 rfl
theorem flat_one9 (r : Rng) : flat 2 (rR [r]) [r].length = [I r.lo, I r.hi] := (rR_snoc [] r).trans rfl
structure ApL (w : World) (bs : List Rng) (f : Nat → Option Bool) (sa sb : Rng) (mb rb N : Nat) (ps ms : List Rng) (v1 v2 : Value) (left : Nat → Bool) (cnt : Nat) (V : World) : Prop where
 o1 : V.ownsRow w.heap.size 24 2 v1 ps.length (flat 2 (rR ps) ps.length)
 o2 : V.ownsRow w.heap.size 24 2 v2 ms.length (flat 2 (rR ms) ms.length)
 n1 : ∀ k, v1.ownBlock = some k → k ≠ mb ∧ k ≠ rb ∧ w.heap.size + 1 + 1 + 1 < k
 n2 : ∀ k, v2.ownBlock = some k → k ≠ mb ∧ k ≠ rb ∧ w.heap.size + 1 + 1 + 1 < k
 ap : ∀ k, v1.ownBlock = some k → v2.ownBlock ≠ some k
 mr : MR V mb rb N f left cnt
 p1 : (addK ps ps.length).1 + SmL f left false (fun k => (at0 bs k).lo) bs.length = sa.lo + (apP bs f false).1
 p2 : (addK ps ps.length).2 + SmL f left false (fun k => (at0 bs k).hi) bs.length = sa.hi + (apP bs f false).2
 m1 : (addK ms ms.length).1 + SmL f left true (fun k => (at0 bs k).lo) bs.length = sb.lo + (apP bs f true).1
 m2 : (addK ms ms.length).2 + SmL f left true (fun k => (at0 bs k).hi) bs.length = sb.hi + (apP bs f true).2
 p9 : all9 0 10000000 ps = true
 m9 : all9 0 10000000 ms = true
 pc : (ps.length : Int) + SmL f left false (fun _ => 1) bs.length ≤ 1 + bs.length
 mc : (ms.length : Int) + SmL f left true (fun _ => 1) bs.length ≤ 1 + bs.length
theorem ApL.plus {w V V1 V3 : World} {bs : List Rng} {f : Nat → Option Bool} {sa sb : Rng} {mb rb N : Nat} {ps ms : List Rng} {v1 v2 v' : Value} {left : Nat → Bool} {cnt cnt' k : Nat} {o : Obj}
 (h : ApL w bs f sa sb mb rb N ps ms v1 v2 left cnt V) (hk : k < bs.length) (hl : left k = true) (hf : f k = some false) (hb : all9 0 10000000 bs = true) (hg1 : V.grownBy V1 (some rb)) (hz : w.heap.size + 1 + 1 + 1 < V.heap.size) (hmr : MR V1 mb rb N f (fun m => left m && !decide (m = k)) cnt')
 (ho : V3.ownsRow w.heap.size 24 2 v' (ps.length + 1) (flat 2 (rR ps) ps.length ++ [I (at0 bs k).lo, I (at0 bs k).hi])) (hg3 : (V1.alloc o).grownBy V3 v1.ownBlock) (hob : v'.ownBlock = v1.ownBlock ∨ v'.ownBlock = some (V1.alloc o).heap.size) :
 ApL w bs f sa sb mb rb N (ps ++ [at0 bs k]) ms v' v2 (fun m => left m && !decide (m = k)) cnt' V3 := by
 have e : (ps ++ [at0 bs k]).length = ps.length + 1 := by simp
 have ga : V1.grownBy (V1.alloc o) none := World.grownBy_alloc V1 o none
 have o2a := own_other (own_other h.o2 hg1 (fun b hb he => (h.n2 b hb).2.1 (by injection he with he; exact he.symm))) ga (fun b hb => by simp)
 have hmr2 := hmr.kept ga (by simp) (by simp)
 have lt1 := hmr2.lt
 have l2 : ∀ b, v2.ownBlock = some b → b < (V1.alloc o).heap.size := own_block_lt o2a
 have sz : V.heap.size ≤ V1.heap.size := hg1.size
 have lt0 := h.mr.lt
 have r1 := addK_snoc ps (at0 bs k)
 have st1 := SmL_strike (f := f) (left := left) (v := false) (g := fun k => (at0 bs k).lo) (k := k) bs.length
 have st2 := SmL_strike (f := f) (left := left) (v := false) (g := fun k => (at0 bs k).hi) (k := k) bs.length
 have st3 := SmL_strike (f := f) (left := left) (v := true) (g := fun k => (at0 bs k).lo) (k := k) bs.length
 have st4 := SmL_strike (f := f) (left := left) (v := true) (g := fun k => (at0 bs k).hi) (k := k) bs.length
 have st5 := SmL_strike (f := f) (left := left) (v := false) (g := fun _ => 1) (k := k) bs.length
 have st6 := SmL_strike (f := f) (left := left) (v := true) (g := fun _ => 1) (k := k) bs.length
 rw [if_pos ⟨hk, hl, hf⟩] at st1 st2 st5
 rw [if_neg (fun h => by rw [hf] at h; cases h.2.2)] at st3 st4 st6
 have hsp := all9_iff.1 hb _ (by rw [at0_get hk]; exact List.getElem_mem hk : at0 bs k ∈ bs)
 have hsz : w.heap.size + 1 + 1 + 1 < (V1.alloc o).heap.size := by
  simp
  omega
 have hnew : ∀ b, v'.ownBlock = some b → (b ≠ mb ∧ b ≠ rb ∧ w.heap.size + 1 + 1 + 1 < b) ∧ v2.ownBlock ≠ some b := fun b hb => by
  rcases hob with h1 | h1
  · rw [h1] at hb
    exact ⟨h.n1 b hb, h.ap b hb⟩
  · rw [h1] at hb
    injection hb with hb
    refine ⟨⟨by omega, by omega, by omega⟩, fun h2 => ?_⟩
    have := l2 b h2
    omega
 refine ⟨by rw [e, rR_snoc]; exact ho, own_other o2a hg3 (fun b hb he => h.ap b he hb), fun b hb => (hnew b hb).1, h.n2, fun b hb => (hnew b hb).2, hmr2.kept hg3 (fun he => (h.n1 _ he.symm).1 rfl) (fun he => (h.n1 _ he.symm).2.1 rfl), ?_, ?_, ?_, ?_, all9_snoc h.p9 hsp, h.m9, ?_, ?_⟩
 · rw [r1]
   have := h.p1
   simp only
   omega
 · rw [r1]
   have := h.p2
   simp only
   omega
 · have := h.m1
   omega
 · have := h.m2
   omega
 · rw [e]
   have := h.pc
   simp only [Int.natCast_add]
   omega
 · have := h.mc
   omega
theorem ApL.minus {w V V1 V3 : World} {bs : List Rng} {f : Nat → Option Bool} {sa sb : Rng} {mb rb N : Nat} {ps ms : List Rng} {v1 v2 v' : Value} {left : Nat → Bool} {cnt cnt' k : Nat} {o : Obj}
 (h : ApL w bs f sa sb mb rb N ps ms v1 v2 left cnt V) (hk : k < bs.length) (hl : left k = true) (hf : f k = some true) (hb : all9 0 10000000 bs = true) (hg1 : V.grownBy V1 (some rb)) (hz : w.heap.size + 1 + 1 + 1 < V.heap.size) (hmr : MR V1 mb rb N f (fun m => left m && !decide (m = k)) cnt')
 (ho : V3.ownsRow w.heap.size 24 2 v' (ms.length + 1) (flat 2 (rR ms) ms.length ++ [I (at0 bs k).lo, I (at0 bs k).hi])) (hg3 : (V1.alloc o).grownBy V3 v2.ownBlock) (hob : v'.ownBlock = v2.ownBlock ∨ v'.ownBlock = some (V1.alloc o).heap.size) :
 ApL w bs f sa sb mb rb N ps (ms ++ [at0 bs k]) v1 v' (fun m => left m && !decide (m = k)) cnt' V3 := by
 have e : (ms ++ [at0 bs k]).length = ms.length + 1 := by simp
 have ga : V1.grownBy (V1.alloc o) none := World.grownBy_alloc V1 o none
 have o2a := own_other (own_other h.o1 hg1 (fun b hb he => (h.n1 b hb).2.1 (by injection he with he; exact he.symm))) ga (fun b hb => by simp)
 have hmr2 := hmr.kept ga (by simp) (by simp)
 have lt1 := hmr2.lt
 have l2 : ∀ b, v1.ownBlock = some b → b < (V1.alloc o).heap.size := own_block_lt o2a
 have sz : V.heap.size ≤ V1.heap.size := hg1.size
 have lt0 := h.mr.lt
 have r1 := addK_snoc ms (at0 bs k)
 have st1 := SmL_strike (f := f) (left := left) (v := false) (g := fun k => (at0 bs k).lo) (k := k) bs.length
 have st2 := SmL_strike (f := f) (left := left) (v := false) (g := fun k => (at0 bs k).hi) (k := k) bs.length
 have st3 := SmL_strike (f := f) (left := left) (v := true) (g := fun k => (at0 bs k).lo) (k := k) bs.length
 have st4 := SmL_strike (f := f) (left := left) (v := true) (g := fun k => (at0 bs k).hi) (k := k) bs.length
 have st5 := SmL_strike (f := f) (left := left) (v := false) (g := fun _ => 1) (k := k) bs.length
 have st6 := SmL_strike (f := f) (left := left) (v := true) (g := fun _ => 1) (k := k) bs.length
 rw [if_pos ⟨hk, hl, hf⟩] at st3 st4 st6
 rw [if_neg (fun h => by rw [hf] at h; cases h.2.2)] at st1 st2 st5
 have hsp := all9_iff.1 hb _ (by rw [at0_get hk]; exact List.getElem_mem hk : at0 bs k ∈ bs)
 have hsz : w.heap.size + 1 + 1 + 1 < (V1.alloc o).heap.size := by
  simp
  omega
 have hnew : ∀ b, v'.ownBlock = some b → (b ≠ mb ∧ b ≠ rb ∧ w.heap.size + 1 + 1 + 1 < b) ∧ v1.ownBlock ≠ some b := fun b hb => by
  rcases hob with h1 | h1
  · rw [h1] at hb
    exact ⟨h.n2 b hb, fun h2 => h.ap b h2 hb⟩
  · rw [h1] at hb
    injection hb with hb
    refine ⟨⟨by omega, by omega, by omega⟩, fun h2 => ?_⟩
    have := l2 b h2
    omega
 refine ⟨own_other o2a hg3 (fun b hb he => h.ap b hb he), by rw [e, rR_snoc]; exact ho, h.n1, fun b hb => (hnew b hb).1, fun b hb he => (hnew b he).2 hb, hmr2.kept hg3 (fun he => (h.n2 _ he.symm).1 rfl) (fun he => (h.n2 _ he.symm).2.1 rfl), ?_, ?_, ?_, ?_, h.p9, all9_snoc h.m9 hsp, ?_, ?_⟩
 · have := h.p1
   omega
 · have := h.p2
   omega
 · rw [r1]
   have := h.m1
   simp only
   omega
 · rw [r1]
   have := h.m2
   simp only
   omega
 · have := h.pc
   omega
 · rw [e]
   have := h.mc
   simp only [Int.natCast_add]
   omega
set_option maxRecDepth 100000 in
set_option maxHeartbeats 8000000 in
theorem apart_any (bs : List Rng) (BA : Option Addr) (bn : Nat) (a b : Trt) (A C : Option Addr) (n m : Nat) (w : World) (B : Nat) (hB : B ≤ w.heap.size) (hx : Rd w B 2 BA bs.length (rR bs)) (ha : Rd w B 1 A a.b.length (rI a.b)) (hb : Rd w B 1 C b.b.length (rI b.b)) (hm : bs.length ≤ 1000 ∧ a.b.length ≤ 1000 ∧ b.b.length ≤ 1000) :
 Calls Try.prog 38 #[.slice BA bs.length bn, .agg #[I a.s.lo, I a.s.hi, .slice A a.b.length n], .agg #[I b.s.lo, I b.s.hi, .slice C b.b.length m]] w (RetRn w (apX bs a b, apE bs a b)) := by
 have HRD : Hid (∀ V, Below w.heap.size w V → Rd V B 2 BA bs.length (rR bs) ∧ Rd V B 1 A a.b.length (rI a.b) ∧ Rd V B 1 C b.b.length (rI b.b) ∧ B ≤ V.heap.size) := fun V hV => ⟨hx.below (hV.mono hB), ha.below (hV.mono hB), hb.below (hV.mono hB), Nat.le_trans hB hV.size⟩
 have HM := Lib.hid hm
 have hE : Hid (apE bs a b = if 60 < bs.length then 5 else if (all9 0 10000000 bs && (trtOk bs.length a && trtOk bs.length b)) = false then 2 else 0) := rfl
 have hXX : Hid (∀ er : Int, apE bs a b = er → er ≠ 0 → (apX bs a b, apE bs a b).1 = ⟨0, 0⟩ ∧ (apX bs a b, apE bs a b).2 = er) := fun er h h0 => ⟨by show apX bs a b = _; unfold apX; rw [if_neg (by rw [h]; exact h0)], h⟩
 clear hx hB ha hb hm
 obtain ⟨W, hW⟩ : ∃ W, W = ((((w.alloc (.cells #[.slice BA bs.length bn] 35)).alloc (.cells #[I a.s.lo, I a.s.hi, .slice A a.b.length n] 72)).alloc (.cells #[I b.s.lo, I b.s.hi, .slice C b.b.length m] 72)).alloc (.cells #[I 0, I 0] 24)) := ⟨_, rfl⟩
 have rowW0 : W.heap[w.heap.size]? = some (.cells #[.slice BA bs.length bn] 35 (0, 0)) := by rw [hW]; exact heap_before (heap_before (heap_before (heap_last _ _ _ rfl)))
 have yW00 := ovr_cell (W := W) (b := w.heap.size) (o := 0) (v := .slice BA bs.length bn) (by rw [cell_of_row _ _ _ _ _ _ rowW0]; rfl)
 have RrowW0 := Lib.hid (ovr_row rowW0)
 clear rowW0
 have rowW1 : W.heap[w.heap.size + 1]? = some (.cells #[I a.s.lo, I a.s.hi, .slice A a.b.length n] 72 (0, 0)) := by rw [hW]; exact heap_before (heap_before (heap_last _ _ _ (by simp)))
 have yW10 := ovr_cell (W := W) (b := w.heap.size + 1) (o := 0) (v := I a.s.lo) (by rw [cell_of_row _ _ _ _ _ _ rowW1]; rfl)
 have yW11 := ovr_cell (W := W) (b := w.heap.size + 1) (o := 1) (v := I a.s.hi) (by rw [cell_of_row _ _ _ _ _ _ rowW1]; rfl)
 have yW12 := ovr_cell (W := W) (b := w.heap.size + 1) (o := 2) (v := .slice A a.b.length n) (by rw [cell_of_row _ _ _ _ _ _ rowW1]; rfl)
 have RrowW1 := Lib.hid (ovr_row rowW1)
 clear rowW1
 have rowW2 : W.heap[w.heap.size + 1 + 1]? = some (.cells #[I b.s.lo, I b.s.hi, .slice C b.b.length m] 72 (0, 0)) := by rw [hW]; exact heap_before (heap_last _ _ _ (by simp))
 have yW20 := ovr_cell (W := W) (b := w.heap.size + 1 + 1) (o := 0) (v := I b.s.lo) (by rw [cell_of_row _ _ _ _ _ _ rowW2]; rfl)
 have yW21 := ovr_cell (W := W) (b := w.heap.size + 1 + 1) (o := 1) (v := I b.s.hi) (by rw [cell_of_row _ _ _ _ _ _ rowW2]; rfl)
 have yW22 := ovr_cell (W := W) (b := w.heap.size + 1 + 1) (o := 2) (v := .slice C b.b.length m) (by rw [cell_of_row _ _ _ _ _ _ rowW2]; rfl)
 have RrowW2 := Lib.hid (ovr_row rowW2)
 clear rowW2
 have rowW3 : W.heap[w.heap.size + 1 + 1 + 1]? = some (.cells #[I 0, I 0] 24 (0, 0)) := by rw [hW]; exact heap_last _ _ _ (by simp)
 have yW30 := ovr_cell (W := W) (b := w.heap.size + 1 + 1 + 1) (o := 0) (v := I 0) (by rw [cell_of_row _ _ _ _ _ _ rowW3]; rfl)
 have yW31 := ovr_cell (W := W) (b := w.heap.size + 1 + 1 + 1) (o := 1) (v := I 0) (by rw [cell_of_row _ _ _ _ _ _ rowW3]; rfl)
 have RrowW3 := Lib.hid (ovr_row rowW3)
 clear rowW3
 have HUW : Hid (∀ u, Below w.heap.size w (ovr W u)) := U4 hW
 have HW := Lib.hid hW
 clear hW
 go_enter Try.func38, Try.ntmps38
 go_upto_region 1 with (fail)
 rw [← HW.out]
 obtain ⟨u0, hu0⟩ := ovr_self W
 rw [hu0]
 clear hu0
 have hmf := @makeFunc_run Try.prog
 by_cases h1 : 60 < bs.length
 · have HEE := Lib.hid (hXX.out 5 (by rw [hE.out, if_pos h1]) (by decide))
   have d1 : decide ((60 : Int) < (bs.length : Int)) = true := decide_eq_true (by omega)
   go_wp2_with (refine wpList_store_row rfl 24 _ _ rfl (w.heap.size + 1 + 1 + 1) rfl _ _ ((RrowW3.out u0)) _ rfl (one2 rfl rfl) rfl (by kernel_rfl) ?_)
   refine bodyPost_ret (results_cell_tmp rfl _ _ (w.heap.size + 1 + 1 + 1) 24 _ (0, 0) _ rfl (setRow_same ((RrowW3.out u0))) Try.underlying24 rfl (by kernel_rfl)) rfl ?_
   exact ⟨by rw [HEE.out.1, HEE.out.2]; rfl, below_setRow (HUW.out u0) (by omega) _⟩
 have d1 : decide ((60 : Int) < (bs.length : Int)) = false := decide_eq_false (by omega)
 have hE : Hid (apE bs a b = if (all9 0 10000000 bs && (trtOk bs.length a && trtOk bs.length b)) = false then 2 else 0) := by show _ = _; rw [hE.out, if_neg h1]
 have h60 : Hid (bs.length ≤ 60) := by show _ ≤ _; omega
 clear h1
 go_upto_region 4 with fail
 have HA0 : Hid (ApW w bs BA bn a b A C n m (ovr W u0)) := ⟨RrowW0.out u0, RrowW1.out u0, RrowW2.out u0, RrowW3.out u0, HUW.out u0⟩
 have hbX := ovr_below W u0
 obtain ⟨X, hX⟩ : ∃ X, X = ovr W u0 := ⟨_, rfl⟩
 rw [← hX] at hbX
 rw [← hX]
 have hX' := Lib.hid hX
 clear hX
 have hbX' := Lib.hid hbX
 have reX : ∀ v, ∃ x, ovr X v = ovr W x := fun v => ovr_reB hbX v
 replace yW00 := tr_cell reX yW00
 replace RrowW0 := Lib.hid (tr_row reX RrowW0.out)
 replace yW10 := tr_cell reX yW10
 replace yW11 := tr_cell reX yW11
 replace yW12 := tr_cell reX yW12
 replace RrowW1 := Lib.hid (tr_row reX RrowW1.out)
 replace yW20 := tr_cell reX yW20
 replace yW21 := tr_cell reX yW21
 replace yW22 := tr_cell reX yW22
 replace RrowW2 := Lib.hid (tr_row reX RrowW2.out)
 replace yW30 := tr_cell reX yW30
 replace yW31 := tr_cell reX yW31
 replace RrowW3 := Lib.hid (tr_row reX RrowW3.out)
 have HUX : Hid (∀ u, Below w.heap.size w (ovr X u)) := fun u => by obtain ⟨x, hx⟩ := reX u; rw [hx]; exact HUW.out x
 clear reX hbX
 have HAX : Hid (ApW w bs BA bn a b A C n m X) := by show ApW _ _ _ _ _ _ _ _ _ _ _; rw [hX'.out]; exact HA0.out
 have hwX : Hid (∀ V, Le X V → Below w.heap.size w V) := fun V hV => HAX.out.bw.trans (hV.mono HAX.out.bw.size)
 have CH : Hid (∀ V, Cl X V → Calls Try.prog 49 #[.agg #[I 0, I 10000000], .slice BA bs.length bn] V fun e w' => e = .returned (.bool (all9 0 10000000 bs)) ∧ Below V.heap.size V w') := fun V hV => has_any 0 10000000 BA bn bs V B (by have := HM.out; unfold maxLen; omega) (HRD.out V (hwX.out V hV.le)).2.2.2 (HRD.out V (hwX.out V hV.le)).1
 have CW : Hid (∀ V, Cl X V → V.cell? ⟨w.heap.size, 0, none⟩ = some (.slice BA bs.length bn) ∧ w.heap.size < V.heap.size) := fun V hV => by
  have hl := HAX.out.lt
  have r := (hV.le.block w.heap.size (by omega)).trans HAX.out.r0
  exact ⟨by rw [cell_of_row _ _ _ _ _ _ r]; rfl, lt_of_row r⟩
 have CA : Hid (∀ V, Cl X V → Calls Try.prog 73 #[.agg #[I a.s.lo, I a.s.hi, .slice A a.b.length n], .pointer (some ⟨w.heap.size, 0, none⟩)] V fun e w' => e = .returned (.bool (!trtOk bs.length a)) ∧ Below V.heap.size V w') := fun V hV => apart1_any a bs BA bn A n w.heap.size V B (HRD.out V (hwX.out V hV.le)).2.2.2 (HRD.out V (hwX.out V hV.le)).2.1 ⟨HM.out.2.1, HM.out.1⟩ (CW.out V hV).2 (CW.out V hV).1
 have CB : Hid (∀ V, Cl X V → Calls Try.prog 73 #[.agg #[I b.s.lo, I b.s.hi, .slice C b.b.length m], .pointer (some ⟨w.heap.size, 0, none⟩)] V fun e w' => e = .returned (.bool (!trtOk bs.length b)) ∧ Below V.heap.size V w') := fun V hV => apart1_any b bs BA bn C m w.heap.size V B (HRD.out V (hwX.out V hV.le)).2.2.2 (HRD.out V (hwX.out V hV.le)).2.2.1 ⟨HM.out.2.2, HM.out.1⟩ (CW.out V hV).2 (CW.out V hV).1
 clear hmf HA0 d1
 rcases h2 : all9 0 10000000 bs with _ | _ <;> rw [h2] at CH
 · have HEE := Lib.hid (hXX.out 2 (by rw [hE.out, h2]; rfl) (by decide))
   clear h2
   refine Gg.wp_region_make (fun j => if j = 0 then some (fun u _ => u = .agg #[I 0, I 10000000]) else if j = 2 then some (fun u _ => u = .bool false) else none) (by kernel_rfl) (by kernel_rfl) (by kernel_rfl) ?_
   repeat (first | (refine Gg.wpG_one rfl rfl rfl ?_; intro K hK; go_big_quiet_op; go_big_quiet_on) | (refine Gg.wpG_skip rfl ?_; simp only [Act.put, List.setIfInBounds_toArray, List.set_cons_zero, List.set_cons_succ]))
   refine Gg.wpG_make (fun u _ => u = .agg #[I 0, I 10000000]) rfl rfl (fun w' hw' hk => ?_) (fun u hu => ?_)
   · go_simp
     exact call_grow (amounts_any w')
   obtain ⟨_, _, rfl⟩ := hu
   simp only [Act.put, List.setIfInBounds_toArray, List.set_cons_zero, List.set_cons_succ]
   repeat (first | (refine Gg.wpG_one rfl rfl rfl ?_; intro K hK; go_big_quiet_op; go_big_quiet_on) | (refine Gg.wpG_skip rfl ?_; simp only [Act.put, List.setIfInBounds_toArray, List.set_cons_zero, List.set_cons_succ]))
   refine Gg.wpG_make (fun u _ => u = .bool false) rfl rfl (fun w' hw' hk => ?_) (fun u hu => ?_)
   · go_simp
     exact call_grow (CH.out w' hw')
   obtain ⟨_, _, rfl⟩ := hu
   simp only [Act.put, List.setIfInBounds_toArray, List.set_cons_zero, List.set_cons_succ]
   repeat (first | (refine Gg.wpG_one rfl rfl rfl ?_; intro K hK; go_big_quiet_op; go_big_quiet_on) | (refine Gg.wpG_skip rfl ?_; simp only [Act.put, List.setIfInBounds_toArray, List.set_cons_zero, List.set_cons_succ]))
   refine Gg.wpG_nil (fun w5 hw5 hG => ?_)
   clear hG
   have hb5 : Below X.heap.size X w5 := hw5.le
   have HA5 : Hid (ApW w bs BA bn a b A C n m w5) := HAX.out.below hb5
   clear hw5 hb5
   have HQ3 := Lib.hid HA5.out.r3
   go_wp2_with (refine wpList_store_row rfl 24 _ _ rfl (w.heap.size + 1 + 1 + 1) rfl _ _ (HQ3.out) _ rfl (one2 rfl rfl) rfl (by kernel_rfl) ?_)
   refine bodyPost_ret (results_cell_tmp rfl _ _ (w.heap.size + 1 + 1 + 1) 24 _ (0, 0) _ rfl (setRow_same (HQ3.out)) Try.underlying24 rfl (by kernel_rfl)) rfl ?_
   exact ⟨by rw [HEE.out.1, HEE.out.2]; rfl, below_setRow (HA5.out.bw) (by omega) _⟩
 rcases h3 : trtOk bs.length a with _ | _ <;> rw [h3] at CA
 · have HEE := Lib.hid (hXX.out 2 (by rw [hE.out, h2, h3]; rfl) (by decide))
   clear h2 h3
   refine Gg.wp_region_make (fun j => if j = 0 then some (fun u _ => u = .agg #[I 0, I 10000000]) else if j = 2 then some (fun u _ => u = .bool true) else if j = 7 then some (fun u _ => u = .bool true) else none) (by kernel_rfl) (by kernel_rfl) (by kernel_rfl) ?_
   repeat (first | (refine Gg.wpG_one rfl rfl rfl ?_; intro K hK; go_big_quiet_op; go_big_quiet_on) | (refine Gg.wpG_skip rfl ?_; simp only [Act.put, List.setIfInBounds_toArray, List.set_cons_zero, List.set_cons_succ]))
   refine Gg.wpG_make (fun u _ => u = .agg #[I 0, I 10000000]) rfl rfl (fun w' hw' hk => ?_) (fun u hu => ?_)
   · go_simp
     exact call_grow (amounts_any w')
   obtain ⟨_, _, rfl⟩ := hu
   simp only [Act.put, List.setIfInBounds_toArray, List.set_cons_zero, List.set_cons_succ]
   repeat (first | (refine Gg.wpG_one rfl rfl rfl ?_; intro K hK; go_big_quiet_op; go_big_quiet_on) | (refine Gg.wpG_skip rfl ?_; simp only [Act.put, List.setIfInBounds_toArray, List.set_cons_zero, List.set_cons_succ]))
   refine Gg.wpG_make (fun u _ => u = .bool true) rfl rfl (fun w' hw' hk => ?_) (fun u hu => ?_)
   · go_simp
     exact call_grow (CH.out w' hw')
   obtain ⟨_, _, rfl⟩ := hu
   simp only [Act.put, List.setIfInBounds_toArray, List.set_cons_zero, List.set_cons_succ]
   repeat (first | (refine Gg.wpG_one rfl rfl rfl ?_; intro K hK; go_big_quiet_op; go_big_quiet_on) | (refine Gg.wpG_skip rfl ?_; simp only [Act.put, List.setIfInBounds_toArray, List.set_cons_zero, List.set_cons_succ]))
   refine Gg.wpG_make (fun u _ => u = .bool true) rfl rfl (fun w' hw' hk => ?_) (fun u hu => ?_)
   · go_simp
     exact call_grow (CA.out w' hw')
   obtain ⟨_, _, rfl⟩ := hu
   simp only [Act.put, List.setIfInBounds_toArray, List.set_cons_zero, List.set_cons_succ]
   repeat (first | (refine Gg.wpG_one rfl rfl rfl ?_; intro K hK; go_big_quiet_op; go_big_quiet_on) | (refine Gg.wpG_skip rfl ?_; simp only [Act.put, List.setIfInBounds_toArray, List.set_cons_zero, List.set_cons_succ]))
   refine Gg.wpG_nil (fun w5 hw5 hG => ?_)
   clear hG
   have hb5 : Below X.heap.size X w5 := hw5.le
   have HA5 : Hid (ApW w bs BA bn a b A C n m w5) := HAX.out.below hb5
   clear hw5 hb5
   have HQ3 := Lib.hid HA5.out.r3
   go_wp2_with (refine wpList_store_row rfl 24 _ _ rfl (w.heap.size + 1 + 1 + 1) rfl _ _ (HQ3.out) _ rfl (one2 rfl rfl) rfl (by kernel_rfl) ?_)
   refine bodyPost_ret (results_cell_tmp rfl _ _ (w.heap.size + 1 + 1 + 1) 24 _ (0, 0) _ rfl (setRow_same (HQ3.out)) Try.underlying24 rfl (by kernel_rfl)) rfl ?_
   exact ⟨by rw [HEE.out.1, HEE.out.2]; rfl, below_setRow (HA5.out.bw) (by omega) _⟩
 rcases h4 : trtOk bs.length b with _ | _ <;> rw [h4] at CB
 · have HEE := Lib.hid (hXX.out 2 (by rw [hE.out, h2, h3, h4]; rfl) (by decide))
   clear h2 h3 h4
   refine Gg.wp_region_make (fun j => if j = 0 then some (fun u _ => u = .agg #[I 0, I 10000000]) else if j = 2 then some (fun u _ => u = .bool true) else if j = 7 then some (fun u _ => u = .bool false) else if j = 12 then some (fun u _ => u = .bool true) else none) (by kernel_rfl) (by kernel_rfl) (by kernel_rfl) ?_
   repeat (first | (refine Gg.wpG_one rfl rfl rfl ?_; intro K hK; go_big_quiet_op; go_big_quiet_on) | (refine Gg.wpG_skip rfl ?_; simp only [Act.put, List.setIfInBounds_toArray, List.set_cons_zero, List.set_cons_succ]))
   refine Gg.wpG_make (fun u _ => u = .agg #[I 0, I 10000000]) rfl rfl (fun w' hw' hk => ?_) (fun u hu => ?_)
   · go_simp
     exact call_grow (amounts_any w')
   obtain ⟨_, _, rfl⟩ := hu
   simp only [Act.put, List.setIfInBounds_toArray, List.set_cons_zero, List.set_cons_succ]
   repeat (first | (refine Gg.wpG_one rfl rfl rfl ?_; intro K hK; go_big_quiet_op; go_big_quiet_on) | (refine Gg.wpG_skip rfl ?_; simp only [Act.put, List.setIfInBounds_toArray, List.set_cons_zero, List.set_cons_succ]))
   refine Gg.wpG_make (fun u _ => u = .bool true) rfl rfl (fun w' hw' hk => ?_) (fun u hu => ?_)
   · go_simp
     exact call_grow (CH.out w' hw')
   obtain ⟨_, _, rfl⟩ := hu
   simp only [Act.put, List.setIfInBounds_toArray, List.set_cons_zero, List.set_cons_succ]
   repeat (first | (refine Gg.wpG_one rfl rfl rfl ?_; intro K hK; go_big_quiet_op; go_big_quiet_on) | (refine Gg.wpG_skip rfl ?_; simp only [Act.put, List.setIfInBounds_toArray, List.set_cons_zero, List.set_cons_succ]))
   refine Gg.wpG_make (fun u _ => u = .bool false) rfl rfl (fun w' hw' hk => ?_) (fun u hu => ?_)
   · go_simp
     exact call_grow (CA.out w' hw')
   obtain ⟨_, _, rfl⟩ := hu
   simp only [Act.put, List.setIfInBounds_toArray, List.set_cons_zero, List.set_cons_succ]
   repeat (first | (refine Gg.wpG_one rfl rfl rfl ?_; intro K hK; go_big_quiet_op; go_big_quiet_on) | (refine Gg.wpG_skip rfl ?_; simp only [Act.put, List.setIfInBounds_toArray, List.set_cons_zero, List.set_cons_succ]))
   refine Gg.wpG_make (fun u _ => u = .bool true) rfl rfl (fun w' hw' hk => ?_) (fun u hu => ?_)
   · go_simp
     exact call_grow (CB.out w' hw')
   obtain ⟨_, _, rfl⟩ := hu
   simp only [Act.put, List.setIfInBounds_toArray, List.set_cons_zero, List.set_cons_succ]
   repeat (first | (refine Gg.wpG_one rfl rfl rfl ?_; intro K hK; go_big_quiet_op; go_big_quiet_on) | (refine Gg.wpG_skip rfl ?_; simp only [Act.put, List.setIfInBounds_toArray, List.set_cons_zero, List.set_cons_succ]))
   refine Gg.wpG_nil (fun w5 hw5 hG => ?_)
   clear hG
   have hb5 : Below X.heap.size X w5 := hw5.le
   have HA5 : Hid (ApW w bs BA bn a b A C n m w5) := HAX.out.below hb5
   clear hw5 hb5
   have HQ3 := Lib.hid HA5.out.r3
   go_wp2_with (refine wpList_store_row rfl 24 _ _ rfl (w.heap.size + 1 + 1 + 1) rfl _ _ (HQ3.out) _ rfl (one2 rfl rfl) rfl (by kernel_rfl) ?_)
   refine bodyPost_ret (results_cell_tmp rfl _ _ (w.heap.size + 1 + 1 + 1) 24 _ (0, 0) _ rfl (setRow_same (HQ3.out)) Try.underlying24 rfl (by kernel_rfl)) rfl ?_
   exact ⟨by rw [HEE.out.1, HEE.out.2]; rfl, below_setRow (HA5.out.bw) (by omega) _⟩
 have HEE : Hid (apE bs a b = 0) := by show _ = _; rw [hE.out, h2, h3, h4]; rfl
 have HOK := Lib.hid (And.intro h2 (And.intro h3 h4))
 clear h2 h3 h4
 refine Gg.wp_region_make (fun j => if j = 0 then some (fun u _ => u = .agg #[I 0, I 10000000]) else if j = 2 then some (fun u _ => u = .bool true) else if j = 7 then some (fun u _ => u = .bool false) else if j = 12 then some (fun u _ => u = .bool false) else none) (by kernel_rfl) (by kernel_rfl) (by kernel_rfl) ?_
 repeat (first | (refine Gg.wpG_one rfl rfl rfl ?_; intro K hK; go_big_quiet_op; go_big_quiet_on) | (refine Gg.wpG_skip rfl ?_; simp only [Act.put, List.setIfInBounds_toArray, List.set_cons_zero, List.set_cons_succ]))
 refine Gg.wpG_make (fun u _ => u = .agg #[I 0, I 10000000]) rfl rfl (fun w' hw' hk => ?_) (fun u hu => ?_)
 · go_simp
   exact call_grow (amounts_any w')
 obtain ⟨_, _, rfl⟩ := hu
 simp only [Act.put, List.setIfInBounds_toArray, List.set_cons_zero, List.set_cons_succ]
 repeat (first | (refine Gg.wpG_one rfl rfl rfl ?_; intro K hK; go_big_quiet_op; go_big_quiet_on) | (refine Gg.wpG_skip rfl ?_; simp only [Act.put, List.setIfInBounds_toArray, List.set_cons_zero, List.set_cons_succ]))
 refine Gg.wpG_make (fun u _ => u = .bool true) rfl rfl (fun w' hw' hk => ?_) (fun u hu => ?_)
 · go_simp
   exact call_grow (CH.out w' hw')
 obtain ⟨_, _, rfl⟩ := hu
 simp only [Act.put, List.setIfInBounds_toArray, List.set_cons_zero, List.set_cons_succ]
 repeat (first | (refine Gg.wpG_one rfl rfl rfl ?_; intro K hK; go_big_quiet_op; go_big_quiet_on) | (refine Gg.wpG_skip rfl ?_; simp only [Act.put, List.setIfInBounds_toArray, List.set_cons_zero, List.set_cons_succ]))
 refine Gg.wpG_make (fun u _ => u = .bool false) rfl rfl (fun w' hw' hk => ?_) (fun u hu => ?_)
 · go_simp
   exact call_grow (CA.out w' hw')
 obtain ⟨_, _, rfl⟩ := hu
 simp only [Act.put, List.setIfInBounds_toArray, List.set_cons_zero, List.set_cons_succ]
 repeat (first | (refine Gg.wpG_one rfl rfl rfl ?_; intro K hK; go_big_quiet_op; go_big_quiet_on) | (refine Gg.wpG_skip rfl ?_; simp only [Act.put, List.setIfInBounds_toArray, List.set_cons_zero, List.set_cons_succ]))
 refine Gg.wpG_make (fun u _ => u = .bool false) rfl rfl (fun w' hw' hk => ?_) (fun u hu => ?_)
 · go_simp
   exact call_grow (CB.out w' hw')
 obtain ⟨_, _, rfl⟩ := hu
 simp only [Act.put, List.setIfInBounds_toArray, List.set_cons_zero, List.set_cons_succ]
 repeat (first | (refine Gg.wpG_one rfl rfl rfl ?_; intro K hK; go_big_quiet_op; go_big_quiet_on) | (refine Gg.wpG_skip rfl ?_; simp only [Act.put, List.setIfInBounds_toArray, List.set_cons_zero, List.set_cons_succ]))
 refine Gg.wpG_nil (fun w5 hw5 hG => ?_)
 clear hG
 have hb5 : Below X.heap.size X w5 := hw5.le
 have HA5 : Hid (ApW w bs BA bn a b A C n m w5) := HAX.out.below hb5
 clear hw5 hb5
 obtain ⟨X1, hX1⟩ : ∃ X, X = w5.alloc (.map #[] 0) := ⟨_, rfl⟩
 obtain ⟨mb, hmb⟩ : ∃ q, q = w5.heap.size := ⟨_, rfl⟩
 have hmk : (Instr.makeMap 151 none).run Try.prog w5 = .ok (.map (some mb)) X1 := by rw [hX1, hmb]; rfl
 have HMB0 : Hid (MB X1 mb 0 (apF (a.b.take 0) [])) := by
  show MB _ _ _ _
  have : apF (a.b.take 0) [] = fun _ => none := funext fun k => by unfold apF; simp
  rw [this, hX1, hmb]
  exact MB.made w5
 have hbX1 : Below w5.heap.size w5 X1 := by rw [hX1]; exact (Below.refl _ _).alloc (Nat.le_refl _) _
 have HA1 := Lib.hid (HA5.out.below hbX1)
 have hmbl : Hid (w.heap.size + 1 + 1 + 1 < mb) := by show _ < _; rw [hmb]; exact HA5.out.lt
 clear hX1 hmb hbX1
 go_upto_region 7 with fail
 have HAQ : Hid (∀ k, k < a.b.length → ∃ v : Nat, at0 a.b k = (v : Int) ∧ v < bs.length) := fun k hk => by
  have h3 := HOK.out.2.1
  unfold trtOk at h3
  rw [Bool.and_eq_true] at h3
  have := trB_iff.1 (trQ_iff.1 h3.1 k hk)
  exact ⟨(at0 a.b k).toNat, by omega, by omega⟩
 have HBQ : Hid (∀ k, k < b.b.length → ∃ v : Nat, at0 b.b k = (v : Int) ∧ v < bs.length) := fun k hk => by
  have h3 := HOK.out.2.2
  unfold trtOk at h3
  rw [Bool.and_eq_true] at h3
  have := trB_iff.1 (trQ_iff.1 h3.1 k hk)
  exact ⟨(at0 b.b k).toNat, by omega, by omega⟩
 have HQA : Hid (trQ bs.length a.b a.b.length = true ∧ trQ bs.length b.b b.b.length = true) := by
  have h3 := HOK.out.2.1
  have h4 := HOK.out.2.2
  unfold trtOk at h3 h4
  rw [Bool.and_eq_true] at h3 h4
  exact ⟨h3.1, h4.1⟩
 have r0 := HA1.out.r1
 have y2 := cell_of_row _ _ 2 _ _ _ r0
 change _ = some (Value.slice A a.b.length n) at y2
 clear r0
 go_wp2_with fail
 clear y2 hmk
 go_loopw [48] (fun iv wr => ∃ i : Nat, i ≤ a.b.length ∧ iv = .int .i64 i ∧ MB wr mb i (apF (a.b.take i) []) ∧ ApW w bs BA bn a b A C n m wr) (fun iv _ => a.b.length - (intOf iv).toNat)
 case atStart => exact ⟨0, Nat.zero_le _, rfl, HMB0.out, HA1.out⟩
 case round =>
  obtain ⟨i, hi, rfl, hmb0, haw⟩ := hrel
  rename World => V
  have HV := Lib.hid (And.intro hmb0 haw)
  clear hmb0 haw HMB0 HA1
  by_cases hlt : i < a.b.length
  case pos =>
   have HLI := Lib.hid hlt
   have ki : decide ((i : Int) < (a.b.length : Int)) = true := decide_eq_true (by omega)
   have kin : decide (i < a.b.length) = true := decide_eq_true hlt
   have hi1000 : i ≤ 1000 := by have := HM.out.2.1; omega
   obtain ⟨ab, ao, rfl, _, e0⟩ := rd_int9 (HRD.out V HV.out.2.bw).2.1 hlt
   obtain ⟨k, hk, hkn⟩ := HAQ.out i hlt
   rw [hk] at e0
   obtain ⟨U, hput, hmu, hgu⟩ := MB.put HV.out.1 hi1000 (k := k) (by have := HM.out.1; omega) true
   rw [apF_a hlt hk] at hmu
   have HU := Lib.hid (And.intro hmu (HV.out.2.grown hgu (fun k e => by injection e with e; rw [← e]; exact hmbl.out)))
   clear hk hkn hmu hgu hi
   go_wp2_with fail
   go_roundw
   case rel => exact ⟨i + 1, HLI.out, by go_num, HU.out.1, HU.out.2⟩
   case measure => have := HLI.out; simp [intOf]; omega
  obtain rfl : i = a.b.length := by omega
  have ki : decide ((a.b.length : Int) < (a.b.length : Int)) = false := decide_eq_false (by omega)
  clear hi hlt
  go_upto_region 12 with fail
  have HMB1 : Hid (MB V mb (a.b.length + 0) (apF a.b (b.b.take 0))) := by
   have h1 := HV.out.1
   rw [List.take_length] at h1
   exact h1
  have HA1 := Lib.hid HV.out.2
  have r0 := HA1.out.r2
  have y2 := cell_of_row _ _ 2 _ _ _ r0
  change _ = some (Value.slice C b.b.length m) at y2
  clear r0
  go_wp2_with fail
  clear y2
  go_loopw [58] (fun iv wr => ∃ j : Nat, j ≤ b.b.length ∧ iv = .int .i64 j ∧ MB wr mb (a.b.length + j) (apF a.b (b.b.take j)) ∧ ApW w bs BA bn a b A C n m wr) (fun iv _ => b.b.length - (intOf iv).toNat)
  case atStart => exact ⟨0, Nat.zero_le _, rfl, HMB1.out, HA1.out⟩
  case round =>
   obtain ⟨j, hj, rfl, hmb0, haw⟩ := hrel
   rename World => V2
   have HV2 := Lib.hid (And.intro hmb0 haw)
   clear hmb0 haw HMB1 HA1
   by_cases hlt : j < b.b.length
   case pos =>
        have HLI := Lib.hid hlt
        have ki2 : decide ((j : Int) < (b.b.length : Int)) = true := decide_eq_true (by omega)
        have kin2 : decide (j < b.b.length) = true := decide_eq_true hlt
        have hj1000 : j ≤ 1000 := by have := HM.out.2.2; omega
        obtain ⟨cb, co, rfl, _, e0⟩ := rd_int9 (HRD.out V2 HV2.out.2.bw).2.2.1 hlt
        obtain ⟨k, hk, hkn⟩ := HBQ.out j hlt
        rw [hk] at e0
        have hk6 : k ≤ 1000000 := by have := HM.out.1; omega
        have hlook := HV2.out.1.look hk6
        rw [apF_look HQA.out.2 hlt hk] at hlook
        have HLN2 : a.b.length + j ≤ 1000 := by
         have := trQ_len HQA.out.1
         have := trQ_len HQA.out.2
         have := h60.out
         omega
        by_cases hin : (k : Int) ∈ a.b
        · rw [decide_eq_true hin] at hlook
          obtain ⟨U, hdrop, hmu, hgu⟩ := MB.drop HV2.out.1 hk6 0
          rw [apF_drop hlt hk hin] at hmu
          have hmu : MB U mb (a.b.length + (j + 1)) (apF a.b (b.b.take (j + 1))) := by
           obtain ⟨D, h1, h2⟩ := hmu
           exact ⟨D, h1.mono (by omega), h2⟩
          have HU := Lib.hid (And.intro hmu (HV2.out.2.grown hgu (fun k e => by injection e with e; rw [← e]; exact hmbl.out)))
          clear hk hkn hmu hgu hj hin HLN2
          go_wp2_with fail
          go_roundw
          case rel => exact ⟨j + 1, HLI.out, by go_num, HU.out.1, HU.out.2⟩
          case measure => have := HLI.out; simp [intOf]; omega
        · rw [decide_eq_false hin] at hlook
          obtain ⟨U, hput, hmu, hgu⟩ := MB.put HV2.out.1 HLN2 hk6 false
          rw [apF_put hlt hk hin] at hmu
          have HU := Lib.hid (And.intro hmu (HV2.out.2.grown hgu (fun k e => by injection e with e; rw [← e]; exact hmbl.out)))
          clear hk hkn hmu hgu hj hin HLN2
          go_wp2_with fail
          go_roundw
          case rel => exact ⟨j + 1, HLI.out, by go_num, HU.out.1, HU.out.2⟩
          case measure => have := HLI.out; simp [intOf]; omega
   obtain rfl : j = b.b.length := by omega
   have ki2 : decide ((b.b.length : Int) < (b.b.length : Int)) = false := decide_eq_false (by omega)
   clear hj hlt
   go_upto_region 19 with fail
   have HM2 : Hid (MB V2 mb (a.b.length + b.b.length) (apF a.b b.b)) := by
        have h1 := HV2.out.1
        rw [List.take_length] at h1
        exact h1
   have HA2 := Lib.hid HV2.out.2
   have r1 := HA2.out.r1
   have r2 := HA2.out.r2
   have a0 := cell_of_row _ _ 0 _ _ _ r1
   have a1 := cell_of_row _ _ 1 _ _ _ r1
   have b0 := cell_of_row _ _ 0 _ _ _ r2
   have b1 := cell_of_row _ _ 1 _ _ _ r2
   change _ = some (I a.s.lo) at a0
   change _ = some (I a.s.hi) at a1
   change _ = some (I b.s.lo) at b0
   change _ = some (I b.s.hi) at b1
   clear r1 r2 HV2 HV
   go_cut [14, 15] (fun s6 s7 wx => ∃ p q : Nat, s6 = .slice (some ⟨p, 0, none⟩) 1 1 ∧ s7 = .slice (some ⟨q, 0, none⟩) 1 1 ∧ p ≠ q ∧ (V2.heap.size ≤ p ∧ V2.heap.size ≤ q) ∧ wx.heap[p]? = some (.cells #[I a.s.lo, I a.s.hi] 24 (0, 0)) ∧ wx.heap[q]? = some (.cells #[I b.s.lo, I b.s.hi] 24 (0, 0)) ∧ Below V2.heap.size V2 wx)
   case first =>
        go_region_held3 (fun w' => w'.cell? ⟨w.heap.size + 1, 0, none⟩ = some (I a.s.lo) ∧ w'.cell? ⟨w.heap.size + 1, 1, none⟩ = some (I a.s.hi) ∧ w'.cell? ⟨w.heap.size + 1 + 1, 0, none⟩ = some (I b.s.lo) ∧ w'.cell? ⟨w.heap.size + 1 + 1, 1, none⟩ = some (I b.s.hi)) (go_keep) (fail)
        all_goals
         go_wp2_with fail
         go_meet
         case rel =>
          first
          | exact ⟨_, _, rfl, rfl, by simp, ⟨Nat.le_refl _, by simp⟩, (by rw [heap_drew]; exact heap_before (heap_last _ _ _ rfl)), (by rw [heap_drew]; exact heap_last _ _ _ (by simp)), (((Below.refl _ _).alloc (Nat.le_refl _) _).alloc (by simp) _).drew⟩
          | exact ⟨_, _, rfl, rfl, by simp, ⟨by simp, Nat.le_refl _⟩, (by rw [heap_drew]; exact heap_last _ _ _ (by simp)), (by rw [heap_drew]; exact heap_before (heap_last _ _ _ rfl)), (((Below.refl _ _).alloc (Nat.le_refl _) _).alloc (by simp) _).drew⟩
   case rest =>
        obtain ⟨p, q, rfl, rfl, hpq, hge, rp, rq, hb⟩ := hcut
        rename World => V3
        have hgl := HA2.out.lt
        obtain ⟨V4, cnt, hrange, hmr, hg4, hs4⟩ := (HM2.out.below hb).range
        obtain ⟨rb, hrb⟩ : ∃ r, r = V3.heap.size := ⟨_, rfl⟩
        rw [← hrb] at hrange hmr
        have HA4 : Hid (ApW w bs BA bn a b A C n m V4) := (HA2.out.below hb).grown hg4 (fun k e => by cases e)
        have hmbV2 : mb < V2.heap.size := HM2.out.lt
        have HL0 : Hid (ApL w bs (apF a.b b.b) a.s b.s mb rb (a.b.length + b.b.length) [a.s] [b.s] (.slice (some ⟨p, 0, none⟩) 1 1) (.slice (some ⟨q, 0, none⟩) 1 1) (fun k => (apF a.b b.b k).isSome) cnt V4) := by
         have hpl := lt_of_row rp
         have hql := lt_of_row rq
         have rp4 := row_grown hg4 rp (by simp)
         have rq4 := row_grown hg4 rq (by simp)
         have h9 : ∀ t : Trt, trtOk bs.length t = true → spn9 t.s 0 10000000 = true := fun t h => by
          unfold trtOk at h
          rw [Bool.and_eq_true] at h
          exact h.2
         refine ⟨own_new rp4 rfl (flat_one9 a.s).symm (by omega), own_new rq4 rfl (flat_one9 b.s).symm (by omega), fun k hk => ?_, fun k hk => ?_, fun k hk hk2 => ?_, hmr, ?_, ?_, ?_, ?_, by rw [all9_one]; exact h9 a HOK.out.2.1, by rw [all9_one]; exact h9 b HOK.out.2.2, ?_, ?_⟩
         · obtain rfl : p = k := by injection hk
           exact ⟨by omega, by omega, by omega⟩
         · obtain rfl : q = k := by injection hk
           exact ⟨by omega, by omega, by omega⟩
         · obtain rfl : p = k := by injection hk
           have : q = p := by injection hk2
           exact hpq this.symm
         · rw [SmL_all]
           show 0 + a.s.lo + _ = _
           rw [Int.zero_add]
           rfl
         · rw [SmL_all]
           show 0 + a.s.hi + _ = _
           rw [Int.zero_add]
           rfl
         · rw [SmL_all]
           show 0 + b.s.lo + _ = _
           rw [Int.zero_add]
           rfl
         · rw [SmL_all]
           show 0 + b.s.hi + _ = _
           rw [Int.zero_add]
           rfl
         · have := (SmL_one (f := apF a.b b.b) (left := fun k => (apF a.b b.b k).isSome) (v := false) bs.length).2
           show ((1 : Nat) : Int) + _ ≤ _
           omega
         · have := (SmL_one (f := apF a.b b.b) (left := fun k => (apF a.b b.b k).isSome) (v := true) bs.length).2
           show ((1 : Nat) : Int) + _ ≤ _
           omega
        have HRB : Hid (w.heap.size + 1 + 1 + 1 < rb) := by show _ < _; rw [hrb]; have := lt_of_row rp; omega
        clear hgl hmr hg4 hs4 hmbV2 hge rp rq hb hpq HM2 HA2 a0 a1 b0 b1 hrb
        go_wp2_with fail
        clear hrange
        go_loopw [14, 15] (fun v1 v2 wr => ∃ (ps ms : List Rng) (left : Nat → Bool) (cnt : Nat), ApL w bs (apF a.b b.b) a.s b.s mb rb (a.b.length + b.b.length) ps ms v1 v2 left cnt wr ∧ ApW w bs BA bn a b A C n m wr) (fun _ _ wr => wr.rangeLeft mb rb)
        case atStart => exact ⟨_, _, _, _, HL0.out, HA4.out⟩
        case round =>
         obtain ⟨ps, ms, left, cnt, hst, haw⟩ := hrel
         rename World => V5
         have HST := Lib.hid (And.intro hst haw)
         clear haw HL0 HA4
         have hleft := hst.mr.left_eq
         rcases hst.mr.next 0 with ⟨hc0, hnone, hnx⟩ | ⟨k, v, V6, cnt', hk6, hlk, hfk, hnx, hmr6, hlt6, hgr6, hsz6, hen6⟩
         · have hz : ∀ v g, SmL (apF a.b b.b) left v g bs.length = 0 := fun v g => SmL_none fun k hk => hnone k (by have := h60.out; omega)
           have hp := hst.p1
           have hp2 := hst.p2
           have hm1 := hst.m1
           have hm2 := hst.m2
           have hpc := hst.pc
           have hmc := hst.mc
           rw [hz] at hp hp2 hm1 hm2 hpc hmc
           have hl1 : ps.length ≤ 100 := by have := h60.out; omega
           have hl2 : ms.length ≤ 100 := by have := h60.out; omega
           obtain ⟨sp, bp⟩ := suF_of hst.p9 hl1
           obtain ⟨sm, bm⟩ := suF_of hst.m9 hl2
           obtain ⟨x, hx⟩ : ∃ x : Rng, x = ⟨(addK ps ps.length).1, (addK ps ps.length).2⟩ := ⟨_, rfl⟩
           obtain ⟨y, hy⟩ : ∃ y : Rng, y = ⟨(addK ms ms.length).1, (addK ms ms.length).2⟩ := ⟨_, rfl⟩
           have bx : 0 ≤ x.lo ∧ x.lo ≤ x.hi ∧ x.hi ≤ 1000000000 := by rw [hx]; exact bp
           have by_ : 0 ≤ y.lo ∧ y.lo ≤ y.hi ∧ y.hi ≤ 1000000000 := by rw [hy]; exact bm
           have hle : leF x y = (apX bs a b, 0) := by
            unfold leF
            rw [rngOk_iff.2 (by omega), rngOk_iff.2 (by omega)]
            show fiF _ _ = _
            rw [fiF_ok (by omega) (by omega)]
            unfold apX
            rw [if_pos HEE.out, hx, hy]
            simp only
            rw [show (addK ps ps.length).1 = a.s.lo + (apP bs (apF a.b b.b) false).1 by omega, show (addK ps ps.length).2 = a.s.hi + (apP bs (apF a.b b.b) false).2 by omega, show (addK ms ms.length).1 = b.s.lo + (apP bs (apF a.b b.b) true).1 by omega, show (addK ms ms.length).2 = b.s.hi + (apP bs (apF a.b b.b) true).2 by omega]
           rw [← hx] at sp
           rw [← hy] at sm
           have HLE := Lib.hid hle
           obtain ⟨P1, c1, hv1, hc1, hcm1, r1⟩ := SoC.rd (.inr hst.o1)
           obtain ⟨P2, c2, hv2, hc2, hcm2, r2⟩ := SoC.rd (.inr hst.o2)
           have CS1 : Hid (∀ V, Below V5.heap.size V5 V → Calls Try.prog 54 #[.slice P1 ps.length c1] V (RetRn V (x, 0))) := fun V hV => by
            rw [← sp]
            exact sum_any P1 ps.length c1 ps V V.heap.size rfl (by unfold maxLen; omega) (Nat.le_refl _) ((r1.below hV).more hV.size)
           have CS2 : Hid (∀ V, Below V5.heap.size V5 V → Calls Try.prog 54 #[.slice P2 ms.length c2] V (RetRn V (y, 0))) := fun V hV => by
            rw [← sm]
            exact sum_any P2 ms.length c2 ms V V.heap.size rfl (by unfold maxLen; omega) (Nat.le_refl _) ((r2.below hV).more hV.size)
           clear hst hleft hc0 hnone hz hp hp2 hm1 hm2 hpc hmc sp sm bp bm hx hy bx by_ hle r1 r2 hc1 hcm1 hc2 hcm2
           go_wp2_with fail
           refine (CS1.out V5 (Below.refl _ _)).mono ?_
           rintro e W1 ⟨rfl, hb1⟩
           go_upto_region 27 with fail
           obtain ⟨q18, hq18⟩ : ∃ q, q = W1.heap.size := ⟨_, rfl⟩
           obtain ⟨Y1, hY1⟩ : ∃ Y, Y = W1.alloc (.cells #[I x.lo, I x.hi] 24) := ⟨_, rfl⟩
           have rx : Y1.heap[q18]? = some (.cells #[I x.lo, I x.hi] 24 (0, 0)) := by rw [hY1]; exact heap_last _ _ _ hq18
           have hbY1 : Below V5.heap.size V5 Y1 := by rw [hY1]; exact hb1.alloc hb1.size _
           have HY1 := Lib.hid (And.intro rx hbY1)
           rw [← hq18, ← hY1]
           clear hb1 hq18 hY1 rx hbY1
           go_wp2_with fail
           refine (CS2.out Y1 HY1.out.2).mono ?_
           rintro e W2 ⟨rfl, hb2⟩
           go_upto_region 28 with fail
           obtain ⟨q20, hq20⟩ : ∃ q, q = W2.heap.size := ⟨_, rfl⟩
           obtain ⟨Y2, hY2⟩ : ∃ Y, Y = W2.alloc (.cells #[I y.lo, I y.hi] 24) := ⟨_, rfl⟩
           have ry : Y2.heap[q20]? = some (.cells #[I y.lo, I y.hi] 24 (0, 0)) := by rw [hY2]; exact heap_last _ _ _ hq20
           have hbY2 : Below Y1.heap.size Y1 Y2 := by rw [hY2]; exact hb2.alloc hb2.size _
           have rx := (hbY2.block _ (lt_of_row HY1.out.1)).trans HY1.out.1
           have HA9 := Lib.hid (HST.out.2.below (HY1.out.2.trans (hbY2.mono HY1.out.2.size)))
           rw [← hq20, ← hY2]
           have x0 := cell_of_row _ _ 0 _ _ _ rx
           have x1 := cell_of_row _ _ 1 _ _ _ rx
           have y0 := cell_of_row _ _ 0 _ _ _ ry
           have y1 := cell_of_row _ _ 1 _ _ _ ry
           change _ = some (I x.lo) at x0
           change _ = some (I x.hi) at x1
           change _ = some (I y.lo) at y0
           change _ = some (I y.hi) at y1
           clear hb2 hq20 hY2 rx ry hbY2
           go_wp2_with fail
           refine (less_any x y Y2).mono ?_
           rintro e W3 ⟨rfl, hb3⟩
           have HA10 := Lib.hid (HA9.out.below hb3)
           have HQ3 := Lib.hid HA10.out.r3
           rw [HLE.out]
           clear hb3 x0 x1 y0 y1
           obtain ⟨z, hz⟩ : ∃ z, apX bs a b = z := ⟨_, rfl⟩
           have HZ := Lib.hid hz
           rw [hz]
           go_wp2_with (with_reducible show wpList _ _ _ _ _ _; refine wpList_store_row rfl 24 _ _ rfl (w.heap.size + 1 + 1 + 1) rfl _ _ HQ3.out #[I z.lo, I z.hi] rfl (by simp [Value.oneCell']) rfl (by kernel_rfl) ?_)
           refine bodyPost_ret (results_cell_tmp rfl _ _ (w.heap.size + 1 + 1 + 1) 24 _ (0, 0) _ rfl (setRow_same (HQ3.out)) Try.underlying24 rfl (by kernel_rfl)) rfl ?_
           refine ⟨?_, below_setRow HA10.out.bw (by omega) _⟩
           show _ = Ending.returned (.tuple #[(apX bs a b).val, I (apE bs a b)])
           rw [HEE.out, HZ.out]
           rfl
         have hkN : k < bs.length := apF_lt HQA.out.1 HQA.out.2 hfk
         have HA6 : Hid (ApW w bs BA bn a b A C n m V6) := HST.out.2.grown hgr6 (fun j e => by
          injection e with e
          rw [← e]
          exact HRB.out)
         obtain ⟨bb, bo, rfl, _, e0, e1⟩ := (HRD.out V6 HA6.out.bw).1.rng hkN
         have r0 := HA6.out.r0
         have yb := cell_of_row _ _ 0 _ _ _ r0
         change _ = some (Value.slice (some ⟨bb, bo, none⟩) bs.length bn) at yb
         obtain ⟨r, hr⟩ : ∃ r, at0 bs k = r := ⟨_, rfl⟩
         rw [hr] at e0 e1
         obtain ⟨i0, hi0, iz0, iz1, iz2⟩ := info_parts rng9_info
         have hpl : ps.length ≤ 100 ∧ ms.length ≤ 100 := by
          have h1 := hst.pc
          have h2 := hst.mc
          have h3 := (SmL_one (f := apF a.b b.b) (left := left) (v := false) bs.length).1
          have h4 := (SmL_one (f := apF a.b b.b) (left := left) (v := true) bs.length).1
          have := h60.out
          omega
         have HKK := Lib.hid (And.intro (And.intro hkN hlk) (And.intro hfk (And.intro hmr6 (And.intro hlt6 (And.intro hgr6 hr)))))
         have HLF := Lib.hid hleft
         have hki : decide ((k : Int) < (bs.length : Int)) = true := decide_eq_true (by omega)
         clear hst hleft r0 hmr6 hlt6 hgr6 hr hfk hlk hsz6
         rcases v with _ | _
         · have HOWN : Hid ((V6.alloc (.cells #[I r.lo, I r.hi] 24)).ownsRow w.heap.size 24 2 _ ps.length (flat 2 (rR ps) ps.length)) :=
            own_other (own_other HST.out.1.o1 HKK.out.2.2.2.2.1 (fun b hb he => (HST.out.1.n1 b hb).2.1 (by injection he with he; exact he.symm))) (World.grownBy_alloc V6 _ none) (fun b hb => by simp)
           have hbs := HA6.out.bw.size
           go_wp2_with (with_reducible show wpList _ _ _ (⟨some 97, _, _, _, _, _⟩ :: _) _ _; refine Hid.out ?_)
           refine Lib.hid ?_
           refine wpList_append_own_at _ rfl _ _ 35 rfl w.heap.size 24 i0 _ 2 16 Try.underlying35 hi0 iz0 iz1 iz2 rfl (by decide) _ ps.length (flat 2 (rR ps) ps.length) rfl HOWN.out ⟨V6.heap.size, 0, none⟩ 1 1 [I r.lo, I r.hi] rfl rfl (cells_row (heap_last _ _ _ rfl)) (by simp [Value.oneCell']) (by unfold maxLen; omega) (by omega) (by simp; omega) (fun v' V7 g1 g2 g3 g4 => ?_)
           simp only [Act.put, List.setIfInBounds_toArray, List.set_cons_zero, List.set_cons_succ]
           have HN7 : Hid (∃ (ps ms : List Rng) (left : Nat → Bool) (cnt : Nat), cnt < V5.rangeLeft mb rb ∧ ApL w bs (apF a.b b.b) a.s b.s mb rb (a.b.length + b.b.length) ps ms v' u15 left cnt V7 ∧ ApW w bs (some ⟨bb, bo, none⟩) bn a b A C n m V7) := by
            obtain ⟨⟨k1, k2⟩, k3, k4, k5, k6, k7⟩ := HKK.out
            subst k7
            refine ⟨_, _, _, _, by rw [HLF.out]; exact k5, HST.out.1.plus k1 k2 k3 HOK.out.1 k6 HST.out.2.lt k4 g1 g2 g4, ((HA6.out.below (U := V6.alloc (.cells #[I (at0 bs k).lo, I (at0 bs k).hi] 24)) ((Below.refl _ _).alloc (Nat.le_refl _) _)).grown g2 (fun j e => (HST.out.1.n1 j e).2.2))⟩
           go_wp2_with fail
           go_roundw
           case rel =>
            obtain ⟨ps2, ms2, left2, cnt2, h1, h2, h3⟩ := HN7.out
            exact ⟨ps2, ms2, left2, cnt2, h2, h3⟩
           case measure =>
            obtain ⟨ps2, ms2, left2, cnt2, h1, h2, h3⟩ := HN7.out
            rw [h2.mr.left_eq]
            exact h1
         · have HOWN : Hid ((V6.alloc (.cells #[I r.lo, I r.hi] 24)).ownsRow w.heap.size 24 2 _ ms.length (flat 2 (rR ms) ms.length)) :=
            own_other (own_other HST.out.1.o2 HKK.out.2.2.2.2.1 (fun b hb he => (HST.out.1.n2 b hb).2.1 (by injection he with he; exact he.symm))) (World.grownBy_alloc V6 _ none) (fun b hb => by simp)
           have hbs := HA6.out.bw.size
           go_wp2_with (with_reducible show wpList _ _ _ (⟨some 90, _, _, _, _, _⟩ :: _) _ _; refine Hid.out ?_)
           refine Lib.hid ?_
           refine wpList_append_own_at _ rfl _ _ 35 rfl w.heap.size 24 i0 _ 2 16 Try.underlying35 hi0 iz0 iz1 iz2 rfl (by decide) _ ms.length (flat 2 (rR ms) ms.length) rfl HOWN.out ⟨V6.heap.size, 0, none⟩ 1 1 [I r.lo, I r.hi] rfl rfl (cells_row (heap_last _ _ _ rfl)) (by simp [Value.oneCell']) (by unfold maxLen; omega) (by omega) (by simp; omega) (fun v' V7 g1 g2 g3 g4 => ?_)
           simp only [Act.put, List.setIfInBounds_toArray, List.set_cons_zero, List.set_cons_succ]
           have HN7 : Hid (∃ (ps ms : List Rng) (left : Nat → Bool) (cnt : Nat), cnt < V5.rangeLeft mb rb ∧ ApL w bs (apF a.b b.b) a.s b.s mb rb (a.b.length + b.b.length) ps ms u14 v' left cnt V7 ∧ ApW w bs (some ⟨bb, bo, none⟩) bn a b A C n m V7) := by
            obtain ⟨⟨k1, k2⟩, k3, k4, k5, k6, k7⟩ := HKK.out
            subst k7
            refine ⟨_, _, _, _, by rw [HLF.out]; exact k5, HST.out.1.minus k1 k2 k3 HOK.out.1 k6 HST.out.2.lt k4 g1 g2 g4, ((HA6.out.below (U := V6.alloc (.cells #[I (at0 bs k).lo, I (at0 bs k).hi] 24)) ((Below.refl _ _).alloc (Nat.le_refl _) _)).grown g2 (fun j e => (HST.out.1.n2 j e).2.2))⟩
           go_wp2_with fail
           go_roundw
           case rel =>
            obtain ⟨ps2, ms2, left2, cnt2, h1, h2, h3⟩ := HN7.out
            exact ⟨ps2, ms2, left2, cnt2, h2, h3⟩
           case measure =>
            obtain ⟨ps2, ms2, left2, cnt2, h1, h2, h3⟩ := HN7.out
            rw [h2.mr.left_eq]
            exact h1
end Go.Proofs.Ytljjpidigckheaa.Un
