/- The contracts of add and result of a hull of package units. -/
import Derived.Test.YtliolnfcgaflcaaGreatU4
import Derived.Test.YtliolnfcgaflcaaGreatSq
import Derived.ChangeAlike
import Derived.RegionTactic
namespace Go.Proofs.YtliolnfcgaflcaaGreat.Un
open Go.RowKit
structure Hul where
 lo : Int
 hi : Int
 s : Bool
 f : Bool
abbrev huRow (h : Hul) : Array Value := #[I h.lo, I h.hi, .bool h.s, .bool h.f]
def upF (v c : Int) : Int := if 0 < v % c then v / c + 1 else v / c
theorem rs {w : World} {k : Nat} {cs : Array Value} {t : TypeId} (h : w.heap[k]? = some (.cells cs t (0, 0))) (i : Nat) (v : Value) : (w.setCell ⟨k, i, none⟩ v).heap[k]? = some (.cells (cs.setIfInBounds i v) t (0, 0)) := heap_setCell_same w k i cs t v h
theorem bs {a w : World} {k : Nat} (h : Below k a w) (i : Nat) (v : Value) : Below k a (w.setCell ⟨k, i, none⟩ v) := h.setCell (Nat.le_refl _) v
theorem quo_near {v c : Int} (hc : 1 ≤ c) (h : v.natAbs / c.toNat ≤ 1000000000000000) : -1000000000000001 ≤ v / c ∧ v / c ≤ 1000000000000000 := by
 obtain ⟨C, rfl⟩ : ∃ C : Nat, c = C := ⟨c.toNat, by omega⟩
 rw [Int.toNat_natCast] at h
 rcases Int.lt_or_le v 0 with hv | hv
 · have f := floor_neg (m := v.natAbs) (C := C) (by omega)
   rw [show (-((v.natAbs : Nat) : Int)) = v by omega] at f
   rw [f]
   generalize v.natAbs / C = q at *
   split <;> omega
 · have e : v / (C : Int) = ((v.natAbs / C : Nat) : Int) := by rw [Int.natCast_ediv]; congr 1; omega
   rw [e]
   generalize v.natAbs / C = q at *
   omega
def addH (h : Hul) (v c : Int) : Hul :=
 if v.natAbs / c.toNat ≤ 1000000000000000 then (if h.s then ⟨min h.lo (v / c), max h.hi (upF v c), true, h.f⟩ else ⟨v / c, upF v c, true, h.f⟩) else ⟨h.lo, h.hi, h.s, true⟩
def RetAdd (w : World) (k : Nat) (h : Hul) (e : Ending) (w' : World) : Prop := e = .returned (.tuple #[]) ∧ w'.heap[k]? = some (.cells (huRow h) 127 (0, 0)) ∧ Below k w w'
set_option maxRecDepth 100000 in
set_option maxHeartbeats 2000000 in
theorem add_any (h : Hul) (a b c : Int) (k : Nat) (w : World) (ha : numB a = true) (hb : numB b = true) (hc : 1 ≤ c ∧ c ≤ 1000000000000000) (hr : w.heap[k]? = some (.cells (huRow h) 127 (0, 0))) :
 Calls Tryz.prog 54 #[.pointer (some ⟨k, 0, none⟩), I a, I b, I c] w (RetAdd w k (addH h (a * b) c)) := by
 obtain ⟨lo, hi, s, f⟩ := h
 have hf : Hid (addH ⟨lo, hi, s, f⟩ (a * b) c = if (a * b).natAbs / c.toNat ≤ 1000000000000000 then (if s then ⟨min lo ((a * b) / c), max hi (upF (a * b) c), true, f⟩ else ⟨(a * b) / c, upF (a * b) c, true, f⟩) else ⟨lo, hi, s, true⟩) := rfl
 have ba := numB_iff.1 ha
 have bb := numB_iff.1 hb
 have cp := Lib.hid fun W => product_any a b W (by omega) (by omega)
 have co := Lib.hid fun W => over_any (a * b) c W (by omega)
 clear ba bb ha hb
 have hk := (Array.getElem?_eq_some_iff.1 hr).1
 have HBk : Hid (∀ u, Below k w (ovr w u)) := fun u => (ovr_below w u).mono (by omega)
 have hr2 := hr
 have HR := Lib.hid hr2
 clear hk hr2
 have yw00 := ovr_cell (W := w) (b := k) (o := 0) (v := I lo) (by rw [cell_of_row _ _ _ _ _ _ hr]; rfl)
 have zw00 : ∀ u, (ovr w u).frozen? ⟨k, 0, none⟩ = false := fun u => frozen_of_row _ _ _ _ _ (ovr_row hr u)
 have yw01 := ovr_cell (W := w) (b := k) (o := 1) (v := I hi) (by rw [cell_of_row _ _ _ _ _ _ hr]; rfl)
 have zw01 : ∀ u, (ovr w u).frozen? ⟨k, 1, none⟩ = false := fun u => frozen_of_row _ _ _ _ _ (ovr_row hr u)
 have yw02 := ovr_cell (W := w) (b := k) (o := 2) (v := .bool s) (by rw [cell_of_row _ _ _ _ _ _ hr]; rfl)
 have zw02 : ∀ u, (ovr w u).frozen? ⟨k, 2, none⟩ = false := fun u => frozen_of_row _ _ _ _ _ (ovr_row hr u)
 have yw03 := ovr_cell (W := w) (b := k) (o := 3) (v := .bool f) (by rw [cell_of_row _ _ _ _ _ _ hr]; rfl)
 have zw03 : ∀ u, (ovr w u).frozen? ⟨k, 3, none⟩ = false := fun u => frozen_of_row _ _ _ _ _ (ovr_row hr u)
 have Rroww0 := Lib.hid (ovr_row hr)
 clear hr
 obtain ⟨v, hv⟩ : ∃ v, a * b = v := ⟨_, rfl⟩
 rw [hv] at hf cp co
 rw [hv]
 clear hv
 go_enter Tryz.func54, Tryz.ntmps54
 go_wp2_with fail
 refine (cp.out _).mono ?_
 rintro e w1 ⟨rfl, hb1⟩
 obtain ⟨u1, rfl⟩ : ∃ u, w1 = ovr w u := ⟨w1, ovr_of hb1⟩
 clear hb1
 go_wp2_with fail
 refine (co.out _).mono ?_
 rintro e w1 ⟨rfl, hb1⟩
 obtain ⟨u2, rfl⟩ := ovr_next hb1
 clear hb1
 by_cases h1 : v.natAbs / c.toNat ≤ 1000000000000000
 · rw [if_pos h1] at hf
   rw [ovF_near h1]
   have bv : -1000000000000001 ≤ v / c ∧ v / c ≤ 1000000000000000 := quo_near hc.1 h1
   have bm : 0 ≤ v % c ∧ v % c < c := ⟨Int.emod_nonneg _ (by omega), Int.emod_lt_of_pos _ (by omega)⟩
   clear h1
   rcases s with _ | _
   · simp only [Bool.false_eq_true, if_false] at hf
     by_cases h2 : 0 < v % c
     · have h2b : decide (0 < v % c) = true := decide_eq_true h2
       rw [show upF v c = v / c + 1 from if_pos h2] at hf
       go_upto_region 8 with (fail)
       go_region
       go_end0
       exact ⟨rfl, by rw [hf.out]; exact rs (rs (rs (rs (rs (Rroww0.out u2) 0 _) 1 _) 2 _) 0 _) 1 _, ((bs (bs (bs (bs (bs (HBk.out u2) 0 _) 1 _) 2 _) 0 _) 1 _)).drew⟩
     · have h2b : decide (0 < v % c) = false := decide_eq_false h2
       rw [show upF v c = v / c from if_neg h2] at hf
       go_upto_region 8 with (fail)
       go_region
       go_end0
       exact ⟨rfl, by rw [hf.out]; exact rs (rs (rs (rs (rs (Rroww0.out u2) 0 _) 1 _) 2 _) 0 _) 1 _, ((bs (bs (bs (bs (bs (HBk.out u2) 0 _) 1 _) 2 _) 0 _) 1 _)).drew⟩
   · simp only [if_true] at hf
     by_cases h2 : 0 < v % c
     · have h2b : decide (0 < v % c) = true := decide_eq_true h2
       rw [show upF v c = v / c + 1 from if_pos h2] at hf
       go_upto_region 8 with (fail)
       go_region
       go_end0
       exact ⟨rfl, by rw [hf.out]; exact rs (rs (Rroww0.out u2) 0 _) 1 _, (bs (bs (HBk.out u2) 0 _) 1 _).drew⟩
     · have h2b : decide (0 < v % c) = false := decide_eq_false h2
       rw [show upF v c = v / c from if_neg h2] at hf
       go_upto_region 8 with (fail)
       go_region
       go_end0
       exact ⟨rfl, by rw [hf.out]; exact rs (rs (Rroww0.out u2) 0 _) 1 _, (bs (bs (HBk.out u2) 0 _) 1 _).drew⟩
 · rw [if_neg h1] at hf
   rw [ovF_far (by omega)]
   clear h1
   go_wp2_with fail
   (try simp only [Exit.inBlock, Exit.then])
   refine bodyPost_ret (results_none rfl _ _ _) rfl ?_
   exact ⟨rfl, by rw [hf.out]; exact rs (Rroww0.out u2) 3 _, bs (HBk.out u2) 3 _⟩
def reH (h : Hul) : Rng × Int := if h.f then (⟨0, 0⟩, 10) else fiF h.lo h.hi
theorem wp_assign {P : Program} {o : Oper} {a : Act} {w : World} {K : Act → World → Prop} {Q : Exit → Act → World → Prop} (x : Operand) (v : Value) (ho : o.op = .assign x) (hv : a.eval x = v) (h : K (a.put o.dst v) w) : o.wp P a w K Q := by
 unfold Oper.wp execOp
 simp only [ho, hv, Sem.run_pure, Oper.upon]
 exact h
theorem Cl.set {W0 w : World} (h : Cl W0 w) {g : Nat} (hg : W0.heap.size ≤ g) (cs : Array Value) : Cl W0 (w.setRow g cs) := Cl.of (below_setRow h.le hg _)
set_option maxRecDepth 100000 in
set_option maxHeartbeats 2000000 in
theorem result_any (h : Hul) (k : Nat) (w : World) (hr : w.heap[k]? = some (.cells (huRow h) 127 (0, 0))) :
 Calls Tryz.prog 55 #[.pointer (some ⟨k, 0, none⟩)] w (RetRn w (reH h)) := by
 obtain ⟨lo, hi, s, f⟩ := h
 have hf : Hid (reH ⟨lo, hi, s, f⟩ = if f then (⟨0, 0⟩, 10) else fiF lo hi) := rfl
 have yw00 := ovr_cell (W := w) (b := k) (o := 0) (v := I lo) (by rw [cell_of_row _ _ _ _ _ _ hr]; rfl)
 have zw00 : ∀ u, (ovr w u).frozen? ⟨k, 0, none⟩ = false := fun u => frozen_of_row _ _ _ _ _ (ovr_row hr u)
 have yw01 := ovr_cell (W := w) (b := k) (o := 1) (v := I hi) (by rw [cell_of_row _ _ _ _ _ _ hr]; rfl)
 have zw01 : ∀ u, (ovr w u).frozen? ⟨k, 1, none⟩ = false := fun u => frozen_of_row _ _ _ _ _ (ovr_row hr u)
 have yw02 := ovr_cell (W := w) (b := k) (o := 2) (v := .bool s) (by rw [cell_of_row _ _ _ _ _ _ hr]; rfl)
 have zw02 : ∀ u, (ovr w u).frozen? ⟨k, 2, none⟩ = false := fun u => frozen_of_row _ _ _ _ _ (ovr_row hr u)
 have yw03 := ovr_cell (W := w) (b := k) (o := 3) (v := .bool f) (by rw [cell_of_row _ _ _ _ _ _ hr]; rfl)
 have zw03 : ∀ u, (ovr w u).frozen? ⟨k, 3, none⟩ = false := fun u => frozen_of_row _ _ _ _ _ (ovr_row hr u)
 have Rroww0 := Lib.hid (ovr_row hr)
 clear hr
 obtain ⟨W, hW⟩ : ∃ W, W = (w.alloc (.cells #[I 0, I 0] 24)) := ⟨_, rfl⟩
 have reW : ∀ v, ∃ x, ovr W v = ovr w x := fun v => ⟨_, ovr_of (U1 hW v)⟩
 replace yw00 := tr_cell reW yw00
 replace zw00 := tr_froz reW zw00
 replace yw01 := tr_cell reW yw01
 replace zw01 := tr_froz reW zw01
 replace yw02 := tr_cell reW yw02
 replace zw02 := tr_froz reW zw02
 replace yw03 := tr_cell reW yw03
 replace zw03 := tr_froz reW zw03
 replace Rroww0 := Lib.hid (tr_row reW Rroww0.out)
 have rowW0 : W.heap[w.heap.size]? = some (.cells #[I 0, I 0] 24 (0, 0)) := by rw [hW]; exact heap_last _ _ _ rfl
 have yW00 := ovr_cell (W := W) (b := w.heap.size) (o := 0) (v := I 0) (by rw [cell_of_row _ _ _ _ _ _ rowW0]; rfl)
 have yW01 := ovr_cell (W := W) (b := w.heap.size) (o := 1) (v := I 0) (by rw [cell_of_row _ _ _ _ _ _ rowW0]; rfl)
 have RrowW0 := Lib.hid (ovr_row rowW0)
 clear rowW0
 have HUW : Hid (∀ u, Below w.heap.size w (ovr W u)) := U1 hW
 have HW := Lib.hid hW
 clear hW
 go_enter Tryz.func55, Tryz.ntmps55
 go_upto_region 1 with (fail)
 rw [← HW.out]
 obtain ⟨u0, hu0⟩ := ovr_self W
 rw [hu0]
 clear hu0
 rcases f with _ | _
 · rw [if_neg (by decide)] at hf
   go_upto_region 3 with (fail)
   have hbX := ovr_below W u0
   obtain ⟨X, hX⟩ : ∃ X, X = ovr W u0 := ⟨_, rfl⟩
   rw [← hX] at hbX
   rw [← hX]
   have hX' := Lib.hid hX
   clear hX
   have hbX' := Lib.hid hbX
   have reX : ∀ v, ∃ x, ovr X v = ovr W x := fun v => ovr_reB hbX v
   replace yw00 := tr_cell reX yw00
   replace zw00 := tr_froz reX zw00
   replace yw01 := tr_cell reX yw01
   replace zw01 := tr_froz reX zw01
   replace yw02 := tr_cell reX yw02
   replace zw02 := tr_froz reX zw02
   replace yw03 := tr_cell reX yw03
   replace zw03 := tr_froz reX zw03
   replace Rroww0 := Lib.hid (tr_row reX Rroww0.out)
   replace yW00 := tr_cell reX yW00
   replace yW01 := tr_cell reX yW01
   replace RrowW0 := Lib.hid (tr_row reX RrowW0.out)
   have HUX : Hid (∀ u, Below w.heap.size w (ovr X u)) := fun u => by obtain ⟨x, hx⟩ := reX u; rw [hx]; exact HUW.out x
   clear reX hbX
   obtain ⟨q, hq⟩ : ∃ q, fiF lo hi = q := ⟨_, rfl⟩
   have cf := Lib.hid fun w => fits_any lo hi w
   rw [hq] at hf cf
   clear hq
   refine wp_region_seq 13 (fun j => if j = 10 then some (fun u _ => u = .tuple #[q.1.val, I q.2]) else none) (by kernel_rfl) (by kernel_rfl) (by kernel_rfl) (by kernel_rfl) ?_
   simp only [List.take_succ_cons, List.take_zero, List.drop_succ_cons, List.drop_zero]
   repeat (first | (refine wpG_one rfl rfl rfl ?_; intro K hK; go_big_quiet_op; go_big_quiet_on) | (refine wpG_skip rfl ?_; simp only [Act.put, List.setIfInBounds_toArray, List.set_cons_zero, List.set_cons_succ]))
   refine wpG_make (fun u _ => u = .tuple #[q.1.val, I q.2]) rfl rfl (fun w' hw' _ => ?_) (fun u hu => ?_)
   · go_simp
     exact call_grow (cf.out _)
   obtain ⟨_, _, rfl⟩ := hu
   simp only [Act.put, List.setIfInBounds_toArray, List.set_cons_zero, List.set_cons_succ]
   repeat (first | (refine wpG_one rfl rfl rfl ?_; intro K hK; go_big_quiet_op; go_big_quiet_on) | (refine wpG_skip rfl ?_; simp only [Act.put, List.setIfInBounds_toArray, List.set_cons_zero, List.set_cons_succ]))
   refine wpG_nil (fun w5 hw5 hG => ?_)
   clear hG
   obtain ⟨u5, rfl⟩ : ∃ x, w5 = ovr X x := ⟨w5, ovr_of hw5.le⟩
   clear hw5
   refine wpTail_cons ?_
   refine wp_store_row 24 _ _ rfl (w.heap.size) rfl _ _ (RrowW0.out _) _ rfl (one2 rfl rfl) rfl (by kernel_rfl) ?_
   refine wpTail_cons ?_
   refine wp_assign _ (I q.2) rfl rfl ?_
   refine wpTail_nil ?_
   simp only [Act.put, List.setIfInBounds_toArray, List.set_cons_zero, List.set_cons_succ]
   go_wp2_with fail
   refine bodyPost_ret (results_cell_tmp rfl _ _ (w.heap.size) 24 _ (0, 0) _ rfl (setRow_same (RrowW0.out _)) Tryz.underlying24 rfl (by kernel_rfl)) rfl ?_
   exact ⟨by rw [hf.out]; rfl, below_setRow (HUX.out _) (by omega) _⟩
 · rw [if_pos rfl] at hf
   go_wp2_with (refine wpList_store_row rfl 24 _ _ rfl (w.heap.size) rfl _ _ (RrowW0.out _) _ rfl (one2 rfl rfl) rfl (by kernel_rfl) ?_)
   refine bodyPost_ret (results_cell_tmp rfl _ _ (w.heap.size) 24 _ (0, 0) _ rfl (setRow_same (RrowW0.out _)) Tryz.underlying24 rfl (by kernel_rfl)) rfl ?_
   exact ⟨by rw [hf.out]; rfl, below_setRow (HUW.out _) (by omega) _⟩
end Go.Proofs.YtliolnfcgaflcaaGreat.Un
/- The contracts of Times of package units. -/
namespace Go.Proofs.YtliolnfcgaflcaaGreat.Un
open Go.RowKit
def selR (r : Rng) (k : Nat) : Int := if k = 0 then r.lo else r.hi
theorem sel_num {r : Rng} (h : rngOk r = true) (k : Nat) : numB (selR r k) = true := by
 have := rngOk_iff.1 h
 unfold selR
 split <;> exact numB_iff.2 (by omega)
def hul0 : Hul := ⟨0, 0, false, false⟩
def tmI (h : Hul) (x : Int) (b : Rng) (c : Int) : Nat → Hul
 | 0 => h | k + 1 => addH (tmI h x b c k) (x * selR b k) c
def tmO (a b : Rng) (c : Int) : Nat → Hul
 | 0 => hul0 | k + 1 => tmI (tmO a b c k) (selR a k) b c 2
def tmF (a b : Rng) (c : Int) : Rng × Int := if rngOk a && rngOk b then (if 1 ≤ c ∧ c ≤ 1000000000000000 then reH (tmO a b c 2) else (⟨0, 0⟩, 3)) else (⟨0, 0⟩, 2)
theorem ix_two (x y : Int) (k : Nat) (hk : k < 2) (w : World) : (Instr.index 66 (.agg #[I x, I y]) (.int .i64 (k : Int))).run Tryz.prog w = .ok (I (if k = 0 then x else y)) w := by
 rcases k with _ | _ | k
 · kernel_rfl
 · kernel_rfl
 · omega
set_option maxRecDepth 100000 in
set_option maxHeartbeats 2000000 in
theorem times_any (a b : Rng) (c : Int) (w : World) : Calls Tryz.prog 19 #[a.val, b.val, I c] w (RetRn w (tmF a b c)) := by
 have hf : Hid (tmF a b c = if rngOk a && rngOk b then (if 1 ≤ c ∧ c ≤ 1000000000000000 then reH (tmO a b c 2) else (⟨0, 0⟩, 3)) else (⟨0, 0⟩, 2)) := rfl
 have cv := Lib.hid fun W k => valid_two a b W k
 obtain ⟨W, hW⟩ : ∃ W, W = (((w.alloc (.cells #[I a.lo, I a.hi] 24)).alloc (.cells #[I b.lo, I b.hi] 24)).alloc (.cells #[I 0, I 0] 24)) := ⟨_, rfl⟩
 have rowW0 : W.heap[w.heap.size]? = some (.cells #[I a.lo, I a.hi] 24 (0, 0)) := by rw [hW]; exact heap_before (heap_before (heap_last _ _ _ rfl))
 have yW00 := ovr_cell (W := W) (b := w.heap.size) (o := 0) (v := I a.lo) (by rw [cell_of_row _ _ _ _ _ _ rowW0]; rfl)
 have yW01 := ovr_cell (W := W) (b := w.heap.size) (o := 1) (v := I a.hi) (by rw [cell_of_row _ _ _ _ _ _ rowW0]; rfl)
 have RrowW0 := Lib.hid (ovr_row rowW0)
 clear rowW0
 have rowW1 : W.heap[w.heap.size + 1]? = some (.cells #[I b.lo, I b.hi] 24 (0, 0)) := by rw [hW]; exact heap_before (heap_last _ _ _ (by simp))
 have yW10 := ovr_cell (W := W) (b := w.heap.size + 1) (o := 0) (v := I b.lo) (by rw [cell_of_row _ _ _ _ _ _ rowW1]; rfl)
 have yW11 := ovr_cell (W := W) (b := w.heap.size + 1) (o := 1) (v := I b.hi) (by rw [cell_of_row _ _ _ _ _ _ rowW1]; rfl)
 have RrowW1 := Lib.hid (ovr_row rowW1)
 clear rowW1
 have rowW2 : W.heap[w.heap.size + 1 + 1]? = some (.cells #[I 0, I 0] 24 (0, 0)) := by rw [hW]; exact heap_last _ _ _ (by simp)
 have yW20 := ovr_cell (W := W) (b := w.heap.size + 1 + 1) (o := 0) (v := I 0) (by rw [cell_of_row _ _ _ _ _ _ rowW2]; rfl)
 have yW21 := ovr_cell (W := W) (b := w.heap.size + 1 + 1) (o := 1) (v := I 0) (by rw [cell_of_row _ _ _ _ _ _ rowW2]; rfl)
 have RrowW2 := Lib.hid (ovr_row rowW2)
 clear rowW2
 have HUW : Hid (∀ u, Below w.heap.size w (ovr W u)) := U3 hW
 have HW := Lib.hid hW
 clear hW
 rcases h1 : (rngOk a && rngOk b) with _ | _ <;> (rw [h1] at hf cv)
 · go_enter Tryz.func19, Tryz.ntmps19
   go_upto_block 0 with (fail)
   rw [← HW.out]
   obtain ⟨u0, hu0⟩ := ovr_self W
   rw [hu0]
   clear hu0
   go_wp2_with fail
   refine (cv.out _ _ rfl).mono ?_
   rintro e w1 ⟨rfl, hb1⟩
   obtain ⟨u1, rfl⟩ := ovr_next hb1
   clear hb1
   go_wp2_with (refine wpList_store_row rfl 24 _ _ rfl (w.heap.size + 1 + 1) rfl _ _ (RrowW2.out _) _ rfl (one2 rfl rfl) rfl (by kernel_rfl) ?_)
   refine bodyPost_ret (results_cell_tmp rfl _ _ (w.heap.size + 1 + 1) 24 _ (0, 0) _ rfl (setRow_same (RrowW2.out _)) Tryz.underlying24 rfl (by kernel_rfl)) rfl ?_
   exact ⟨by rw [hf.out]; rfl, below_setRow (HUW.out _) (by omega) _⟩
 rw [if_pos rfl] at hf
 obtain ⟨ka, kb⟩ := Bool.and_eq_true_iff.1 h1
 have Ka := Lib.hid ka
 have Kb := Lib.hid kb
 clear ka kb h1
 by_cases h2 : 1 ≤ c ∧ c ≤ 1000000000000000
 · rw [if_pos h2] at hf
   have H2 := Lib.hid h2
   have t1 : decide (c < 1) = false := decide_eq_false (by omega)
   have t2 : decide (1000000000000000 < c) = false := decide_eq_false (by omega)
   clear h2
   go_enter Tryz.func19, Tryz.ntmps19
   go_upto_block 0 with (fail)
   rw [← HW.out]
   obtain ⟨u0, hu0⟩ := ovr_self W
   rw [hu0]
   clear hu0
   go_wp2_with fail
   refine (cv.out _ _ rfl).mono ?_
   rintro e w1 ⟨rfl, hb1⟩
   obtain ⟨u1, rfl⟩ := ovr_next hb1
   clear hb1
   go_upto_region 6 with (fail)
   obtain ⟨V, hV⟩ : ∃ V, V = (ovr W u1).alloc (.cells #[I 0, I 0, .bool false, .bool false] 127) := ⟨_, rfl⟩
   have rV : V.heap[(ovr W u1).heap.size]? = some (.cells (huRow hul0) 127 (0, 0)) := by rw [hV]; exact heap_last _ _ _ rfl
   have bV : Below W.heap.size W V := by rw [hV]; exact (ovr_below W u1).alloc (ovr_below W u1).size _
   have sk := (ovr_below W u1).size
   rw [← hV]
   obtain ⟨kx, hkx⟩ : ∃ kx, (ovr W u1).heap.size = kx := ⟨_, rfl⟩
   rw [hkx] at rV sk
   rw [hkx]
   have RV := Lib.hid rV
   have BV := Lib.hid bV
   have SK := Lib.hid sk
   have fV : Hid (∀ u, Below W.heap.size W (ovr V u)) := fun u => BV.out.trans ((ovr_below V u).mono BV.out.size)
   clear hV hkx rV sk
   obtain ⟨u2, hu2⟩ := ovr_self V
   have e0 : V.cell? ⟨w.heap.size, 0, none⟩ = some (I a.lo) := by rw [ovr_of bV]; exact yW00 V
   have e1 : V.cell? ⟨w.heap.size, 1, none⟩ = some (I a.hi) := by rw [ovr_of bV]; exact yW01 V
   clear hu2 bV
   go_wp2_with fail
   go_loopw [33] (fun i wr => ∃ k : Nat, k ≤ 2 ∧ i = .int .i64 k ∧ wr.heap[kx]? = some (.cells (huRow (tmO a b c k)) 127 (0, 0)) ∧ Below W.heap.size W wr) (fun i _ => 2 - (intOf i).toNat)
   case atStart => exact ⟨0, by omega, rfl, RV.out, BV.out⟩
   case round =>
    obtain ⟨k, hk, rfl, hr, hb⟩ := hrel
    rename World => X
    clear e0 e1
    by_cases hlt : k < 2
    · have kb : decide ((k : Int) < 2) = true := decide_eq_true (by omega)
      have i1 := ix_two a.lo a.hi k hlt
      have Hr := Lib.hid hr
      have HB := Lib.hid hb
      clear hr
      have reX : ∀ v, ∃ x, ovr X v = ovr W x := fun v => ovr_reB hb v
      replace yW00 := tr_cell reX yW00
      replace yW01 := tr_cell reX yW01
      replace RrowW0 := Lib.hid (tr_row reX RrowW0.out)
      replace yW10 := tr_cell reX yW10
      replace yW11 := tr_cell reX yW11
      replace RrowW1 := Lib.hid (tr_row reX RrowW1.out)
      replace yW20 := tr_cell reX yW20
      replace yW21 := tr_cell reX yW21
      replace RrowW2 := Lib.hid (tr_row reX RrowW2.out)
      have HUX : Hid (∀ u, Below w.heap.size w (ovr X u)) := fun u => by obtain ⟨x, hx⟩ := reX u; rw [hx]; exact HUW.out x
      clear reX hb
      obtain ⟨u3, hu3⟩ := ovr_self X
      rw [hu3]
      clear hu3
      obtain ⟨x, hx⟩ : ∃ x, (if k = 0 then a.lo else a.hi) = x := ⟨_, rfl⟩
      rw [hx] at i1
      have HT : Hid (tmO a b c (k + 1) = tmI (tmO a b c k) x b c 2) := by show _ = _; rw [← hx]; rfl
      have Hn : Hid (numB x = true) := by rw [← hx]; exact sel_num Ka.out k
      clear hx
      go_wp2_with fail
      have Hr2 := Lib.hid ((ovr_row Hr.out) u3)
      have HB2 : Hid (Below W.heap.size W (ovr X u3)) := HB.out.trans ((ovr_below X u3).mono HB.out.size)
      clear yW00 yW01 yW10 yW11 yW20 yW21 i1
      obtain ⟨X2, hX2⟩ : ∃ X2, X2 = ovr X u3 := ⟨_, rfl⟩
      rw [← hX2] at Hr2 HB2
      rw [← hX2]
      clear hX2
      go_loopw [41] (fun i wr => ∃ j : Nat, j ≤ 2 ∧ i = .int .i64 j ∧ wr.heap[kx]? = some (.cells (huRow (tmI (tmO a b c k) x b c j)) 127 (0, 0)) ∧ Below W.heap.size W wr) (fun i _ => 2 - (intOf i).toNat)
      case atStart => exact ⟨0, by omega, rfl, Hr2.out, HB2.out⟩
      case round =>
       obtain ⟨j, hj, rfl, hr, hb⟩ := hrel
       rename World => Y
       by_cases hlt2 : j < 2
       · have i2 := ix_two b.lo b.hi j hlt2
         obtain ⟨y, hy⟩ : ∃ y, (if j = 0 then b.lo else b.hi) = y := ⟨_, rfl⟩
         rw [hy] at i2
         have HT2 : Hid (tmI (tmO a b c k) x b c (j + 1) = addH (tmI (tmO a b c k) x b c j) (x * y) c) := by show _ = _; rw [← hy]; rfl
         have Hm : Hid (numB y = true) := by rw [← hy]; exact sel_num Kb.out j
         have ca := add_any _ x y c kx Y Hn.out Hm.out H2.out hr
         rw [← HT2.out] at ca
         have Ca := Lib.hid ca
         have HB := Lib.hid hb
         clear hy hr hb ca
         go_wp2_with fail
         refine Ca.out.mono ?_
         rintro e w1 ⟨rfl, hr, hb⟩
         have HR1 := Lib.hid hr
         have HB1 := Lib.hid (HB.out.trans (hb.mono SK.out))
         clear hr hb
         go_wp2_with fail
         go_roundw
         case rel => exact ⟨j + 1, by omega, by go_num, HR1.out, HB1.out⟩
         case measure => simp [intOf]; omega
       · obtain rfl : j = 2 := by omega
         have HR1 := Lib.hid hr
         have HB1 := Lib.hid hb
         clear hr hb
         go_wp2_with fail
         go_roundw
         case rel => exact ⟨k + 1, by omega, by go_num, by rw [HT.out]; exact HR1.out, HB1.out⟩
         case measure => simp [intOf]; omega
    · obtain rfl : k = 2 := by omega
      have cr := result_any _ kx X hr
      obtain ⟨q, hq⟩ : ∃ q, reH (tmO a b c 2) = q := ⟨_, rfl⟩
      rw [hq] at hf cr
      have Cr := Lib.hid cr
      clear hq hr cr
      have reX : ∀ v, ∃ x, ovr X v = ovr W x := fun v => ovr_reB hb v
      replace yW00 := tr_cell reX yW00
      replace yW01 := tr_cell reX yW01
      replace RrowW0 := Lib.hid (tr_row reX RrowW0.out)
      replace yW10 := tr_cell reX yW10
      replace yW11 := tr_cell reX yW11
      replace RrowW1 := Lib.hid (tr_row reX RrowW1.out)
      replace yW20 := tr_cell reX yW20
      replace yW21 := tr_cell reX yW21
      replace RrowW2 := Lib.hid (tr_row reX RrowW2.out)
      have HUX : Hid (∀ u, Below w.heap.size w (ovr X u)) := fun u => by obtain ⟨x, hx⟩ := reX u; rw [hx]; exact HUW.out x
      clear reX hb
      go_wp2_with fail
      refine Cr.out.mono ?_
      rintro e w1 ⟨rfl, hb1⟩
      obtain ⟨u4, rfl⟩ : ∃ u, w1 = ovr X u := ⟨w1, ovr_of hb1⟩
      clear hb1
      go_wp2_with (refine wpList_store_row rfl 24 _ _ rfl (w.heap.size + 1 + 1) rfl _ _ (RrowW2.out _) _ rfl (one2 rfl rfl) rfl (by kernel_rfl) ?_)
      refine bodyPost_ret (results_cell_tmp rfl _ _ (w.heap.size + 1 + 1) 24 _ (0, 0) _ rfl (setRow_same (RrowW2.out _)) Tryz.underlying24 rfl (by kernel_rfl)) rfl ?_
      exact ⟨by rw [hf.out]; rfl, below_setRow (HUX.out _) (by omega) _⟩
 · rw [if_neg h2] at hf
   have t0 : (decide (c < 1) = true) ∨ (decide (c < 1) = false ∧ decide (1000000000000000 < c) = true) := by simp only [decide_eq_true_eq, decide_eq_false_iff_not]; omega
   rcases t0 with t2 | ⟨t2, t3⟩
   all_goals
    go_enter Tryz.func19, Tryz.ntmps19
    go_upto_block 0 with (fail)
    rw [← HW.out]
    obtain ⟨u0, hu0⟩ := ovr_self W
    rw [hu0]
    clear hu0
    go_wp2_with fail
    refine (cv.out _ _ rfl).mono ?_
    rintro e w1 ⟨rfl, hb1⟩
    obtain ⟨u1, rfl⟩ := ovr_next hb1
    clear hb1
    go_wp2_with (refine wpList_store_row rfl 24 _ _ rfl (w.heap.size + 1 + 1) rfl _ _ (RrowW2.out _) _ rfl (one2 rfl rfl) rfl (by kernel_rfl) ?_)
    refine bodyPost_ret (results_cell_tmp rfl _ _ (w.heap.size + 1 + 1) 24 _ (0, 0) _ rfl (setRow_same (RrowW2.out _)) Tryz.underlying24 rfl (by kernel_rfl)) rfl ?_
    exact ⟨by rw [hf.out]; rfl, below_setRow (HUW.out _) (by omega) _⟩
end Go.Proofs.YtliolnfcgaflcaaGreat.Un
/- The contracts of Scale and Over of package units. -/
namespace Go.Proofs.YtliolnfcgaflcaaGreat.Un
open Go.RowKit
def scF (r : Rng) (f : Frc) : Rng × Int := if rngOk r && fok f then reH (addH (addH hul0 (r.lo * f.n) f.d) (r.hi * f.n) f.d) else (⟨0, 0⟩, 2)
def ovO (a b : Rng) (c : Int) : Nat → Hul
 | 0 => hul0 | k + 1 => addH (addH (ovO a b c k) (selR a k * c) b.lo) (selR a k * c) b.hi
def oeF (a b : Rng) (c : Int) : Rng × Int := if rngOk a && rngOk b then (if 1 ≤ c ∧ c ≤ 1000000000000000 ∧ 1 ≤ b.lo then reH (ovO a b c 2) else (⟨0, 0⟩, 3)) else (⟨0, 0⟩, 2)
end Go.Proofs.YtliolnfcgaflcaaGreat.Un
/- Ranges in memory that is new; the contract of Balance of package units. -/
namespace Go.Proofs.YtliolnfcgaflcaaGreat.Un
open Go.RowKit
theorem rng_info : (Tryz.prog.info? 24).map (fun i => (i.zero, i.size, i.bytes)) = some (some (.agg #[I 0, I 0]), 2, 16) := by kernel_rfl
def rc (l : List Rng) : List Value := l.flatMap fun r => [I r.lo, I r.hi]
theorem rc_app (l : List Rng) (r : Rng) : rc (l ++ [r]) = rc l ++ [I r.lo, I r.hi] := by simp [rc]
theorem flat_congr {sz n : Nat} {g g' : Nat → Nat → Value} (h : ∀ k, k < n → ∀ j, j < sz → g k j = g' k j) : flat sz g n = flat sz g' n := by
 apply List.map_congr_left
 intro i hi
 have hi' : i < n * sz := by simpa using hi
 have hs : 0 < sz := by
  rcases Nat.eq_zero_or_pos sz with h0 | h0
  · subst h0; simp at hi'
  · exact h0
 exact h _ ((Nat.div_lt_iff_lt_mul hs).2 hi') _ (Nat.mod_lt _ hs)
theorem at0_app {α : Type} [Inhabited α] (l r : List α) {k : Nat} (hk : k < l.length) : at0 (l ++ r) k = at0 l k := by
 rw [at0_get (by simp; omega), at0_get hk, List.getElem_append_left hk]
theorem at0_last {α : Type} [Inhabited α] (l : List α) (x : α) : at0 (l ++ [x]) l.length = x := by
 rw [at0_get (by simp)]; simp
theorem rc_flat_aux : ∀ (n : Nat) (l : List Rng), l.length = n → rc l = flat 2 (rR l) n
 | 0, l, h => by
   have : l = [] := List.eq_nil_of_length_eq_zero h
   subst this; rfl
 | n + 1, l, h => by
   obtain ⟨i, x, rfl⟩ : ∃ i x, l = i ++ [x] := ⟨l.dropLast, l.getLast (by intro e; subst e; simp at h), (List.dropLast_concat_getLast _).symm⟩
   have hi : i.length = n := by simpa using h
   rw [rc_app, flat_succ 2 (by omega), rc_flat_aux n i hi]
   congr 1
   · exact flat_congr fun k hk j _ => by simp only [rR]; rw [at0_app _ _ (by omega)]
   · show _ = (List.range 2).map (at0 (i ++ [x]) n).c
     rw [← hi, at0_last]; rfl
theorem rc_flat (l : List Rng) : rc l = flat 2 (rR l) l.length := rc_flat_aux _ l rfl
theorem Rd.of_rc {w : World} {base n : Nat} {e : TypeId} {v : Value} {l : List Rng} (hn : n = l.length) (h : w.ownsRow base e 2 v n (rc l)) : ∃ A c, v = .slice A n c ∧ n ≤ c ∧ Rd w w.heap.size 2 A n (rR l) := by
 subst hn
 rw [rc_flat] at h
 exact Rd.of_own_cap h
def mk {α β : Type} [Inhabited α] (f : α → β) (xs : List α) (k : Nat) : List β := (List.range k).map fun j => f (at0 xs j)
theorem mk_succ {α β : Type} [Inhabited α] (f : α → β) (xs : List α) (k : Nat) : mk f xs (k + 1) = mk f xs k ++ [f (at0 xs k)] := by simp [mk, List.range_succ]
theorem mk_len {α β : Type} [Inhabited α] (f : α → β) (xs : List α) (k : Nat) : (mk f xs k).length = k := by simp [mk]
theorem mk_at {α β : Type} [Inhabited α] [Inhabited β] (f : α → β) (xs : List α) {k j : Nat} (h : j < k) : at0 (mk f xs k) j = f (at0 xs j) := by
 rw [at0_get (by rw [mk_len]; exact h)]; simp [mk]
def naF (low high : Int) (s r : Rng) : Rng := cuF r ⟨s.lo - (high - r.hi), s.hi - (low - r.lo)⟩
def baF (xs : List Rng) (whole : Rng) : List Rng × Rng × Int :=
 if chk xs = 0 then (if rngOk whole then (if (cuF ⟨(addK xs xs.length).1, (addK xs xs.length).2⟩ whole).hi < (cuF ⟨(addK xs xs.length).1, (addK xs xs.length).2⟩ whole).lo then ([], ⟨0, 0⟩, 7)
    else (mk (naF (addK xs xs.length).1 (addK xs xs.length).2 (cuF ⟨(addK xs xs.length).1, (addK xs xs.length).2⟩ whole)) xs xs.length, cuF ⟨(addK xs xs.length).1, (addK xs xs.length).2⟩ whole, 0)) else ([], ⟨0, 0⟩, 2)) else ([], ⟨0, 0⟩, chk xs)
def RetB (w : World) (q : List Rng × Rng × Int) (e : Ending) (w' : World) : Prop := ∃ A n c, e = .returned (.tuple #[.slice A n c, q.2.1.val, I q.2.2]) ∧ n = q.1.length ∧ n ≤ c ∧ Rd w' w'.heap.size 2 A n (rR q.1) ∧ Below w.heap.size w w'
theorem setRow_id {w : World} {g : Nat} {cs : Array Value} {t : TypeId} {fr : Nat × Nat} (h : w.heap[g]? = some (.cells cs t fr)) : w.setRow g cs = w := by
 unfold World.setRow
 have e : (w.heap.modify g fun | .cells _ elem frozen => .cells cs elem frozen | o => o) = w.heap := by
  apply Array.ext_getElem?
  intro i
  rw [Array.getElem?_modify]
  split
  · rename_i hi
    subst hi
    rw [h]; rfl
  · rfl
 exact congrArg (fun x => ({ w with heap := x } : World)) e
theorem results_tmp_cell_tmp {P : Program} {fn : Func} {p t1 t2 : Tmp} {ty : TypeId} (h : fn.results = #[.tmp t1, .cell p ty, .tmp t2]) (tmps : Array Value) (w : World) (g : Nat) (t : TypeId) (cs : Array Value) (fr : Nat × Nat) (d : TypeDesc)
 (hp : tmps.getD p undef = .pointer (some ⟨g, 0, none⟩)) (hg : w.heap[g]? = some (.cells cs t fr))
 (hu : P.underlying ty = some d) (hd : (match d with | .struct _ | .array _ _ => true | _ => false) = true) (hi : (P.info? ty).map (·.size) = some cs.size) :
 (results fn tmps).run P w = .ok (.tuple #[tmps.getD t1 undef, .agg cs, tmps.getD t2 undef]) w := by
 have hp' : tmps[p]?.getD undef = .pointer (some ⟨g, 0, none⟩) := by simpa using hp
 simp [results, h, hp', asAddr, run_loadVar_row w g t ty cs fr d hg hu hd hi]
end Go.Proofs.YtliolnfcgaflcaaGreat.Un
