/- The contracts of add and result of a hull of package units. -/
import Derived.Test.YtmadlmmfbpmebaaUt
import Derived.Test.YtmadlmmfbpmebaaSq
import Derived.ChangeAlike
import Derived.RegionTactic
namespace Go.Proofs.Ytmadlmmfbpmebaa
open Go.RowKit
/-- What was gathered. -/
structure Hul where
  lo : Int
  hi : Int
  s : Bool
  f : Bool
abbrev huRow (h : Hul) : Array Value := #[I h.lo, I h.hi, .bool h.s, .bool h.f]
def upF (v c : Int) : Int := if 0 < v % c then v / c + 1 else v / c
theorem rs {w : World} {k : Nat} {cs : Array Value} {t : TypeId} (h : w.heap[k]? = some (.cells cs t (0, 0))) (i : Nat) (v : Value) : (w.setCell ⟨k, i, none⟩ v).heap[k]? = some (.cells (cs.setIfInBounds i v) t (0, 0)) := heap_setCell_same w k i cs t v h
theorem bs {a w : World} {k : Nat} (h : Below k a w) (i : Nat) (v : Value) : Below k a (w.setCell ⟨k, i, none⟩ v) := h.setCell (Nat.le_refl _) v
theorem quo_near {v c : Int} (hc : 1 ≤ c) (h : v.natAbs / c.toNat ≤ 1000000000000000) : -1000000000000001 ≤ v / c ∧ v / c ≤ 1000000000000000 := by
  obtain ⟨C, rfl⟩ : ∃ C : Nat, c = C := ⟨c.toNat, by omega⟩
  rw [Int.toNat_natCast] at h
  rcases Int.lt_or_le v 0 with hv | hv
  · have f := floor_neg (m := v.natAbs) (C := C) (by omega)
    rw [show (-((v.natAbs : Nat) : Int)) = v by omega] at f
    rw [f]
    generalize v.natAbs / C = q at *
    split <;> omega
  · have e : v / (C : Int) = ((v.natAbs / C : Nat) : Int) := by rw [Int.natCast_ediv]; congr 1; omega
    rw [e]
    generalize v.natAbs / C = q at *
    omega
/-- One more quotient is taken in. -/
def addH (h : Hul) (v c : Int) : Hul :=
  if v.natAbs / c.toNat ≤ 1000000000000000 then (if h.s then ⟨min h.lo (v / c), max h.hi (upF v c), true, h.f⟩ else ⟨v / c, upF v c, true, h.f⟩) else ⟨h.lo, h.hi, h.s, true⟩
def RetAdd (w : World) (k : Nat) (h : Hul) (e : Ending) (w' : World) : Prop := e = .returned (.tuple #[]) ∧ w'.heap[k]? = some (.cells (huRow h) 133 (0, 0)) ∧ Below k w w'
set_option maxRecDepth 100000 in
set_option maxHeartbeats 2000000 in
theorem add_any (h : Hul) (a b c : Int) (k : Nat) (w : World) (ha : numB a = true) (hb : numB b = true) (hc : 1 ≤ c ∧ c ≤ 1000000000000000) (hr : w.heap[k]? = some (.cells (huRow h) 133 (0, 0))) :
    Calls Try.prog 94 #[.pointer (some ⟨k, 0, none⟩), I a, I b, I c] w (RetAdd w k (addH h (a * b) c)) := by
  obtain ⟨lo, hi, s, f⟩ := h
  have hf : Hid (addH ⟨lo, hi, s, f⟩ (a * b) c = if (a * b).natAbs / c.toNat ≤ 1000000000000000 then (if s then ⟨min lo ((a * b) / c), max hi (upF (a * b) c), true, f⟩ else ⟨(a * b) / c, upF (a * b) c, true, f⟩) else ⟨lo, hi, s, true⟩) := rfl
  have ba := numB_iff.1 ha
  have bb := numB_iff.1 hb
  have cp := Lib.hid fun W => product_any a b W (by omega) (by omega)
  have co := Lib.hid fun W => over_any (a * b) c W (by omega)
  clear ba bb ha hb
  have hk := (Array.getElem?_eq_some_iff.1 hr).1
  have HBk : Hid (∀ u, Below k w (ovr w u)) := fun u => (ovr_below w u).mono (by omega)
  have hr2 := hr
  have HR := Lib.hid hr2
  clear hk hr2
  have yw00 := ovr_cell (W := w) (b := k) (o := 0) (v := I lo) (by rw [cell_of_row _ _ _ _ _ _ hr]; rfl)
  have zw00 : ∀ u, (ovr w u).frozen? ⟨k, 0, none⟩ = false := fun u => frozen_of_row _ _ _ _ _ (ovr_row hr u)
  have yw01 := ovr_cell (W := w) (b := k) (o := 1) (v := I hi) (by rw [cell_of_row _ _ _ _ _ _ hr]; rfl)
  have zw01 : ∀ u, (ovr w u).frozen? ⟨k, 1, none⟩ = false := fun u => frozen_of_row _ _ _ _ _ (ovr_row hr u)
  have yw02 := ovr_cell (W := w) (b := k) (o := 2) (v := .bool s) (by rw [cell_of_row _ _ _ _ _ _ hr]; rfl)
  have zw02 : ∀ u, (ovr w u).frozen? ⟨k, 2, none⟩ = false := fun u => frozen_of_row _ _ _ _ _ (ovr_row hr u)
  have yw03 := ovr_cell (W := w) (b := k) (o := 3) (v := .bool f) (by rw [cell_of_row _ _ _ _ _ _ hr]; rfl)
  have zw03 : ∀ u, (ovr w u).frozen? ⟨k, 3, none⟩ = false := fun u => frozen_of_row _ _ _ _ _ (ovr_row hr u)
  have Rroww0 := Lib.hid (ovr_row hr)
  clear hr
  obtain ⟨v, hv⟩ : ∃ v, a * b = v := ⟨_, rfl⟩
  rw [hv] at hf cp co
  rw [hv]
  clear hv
  go_enter Try.func94, Try.ntmps94
  go_wp2_with fail
  refine (cp.out _).mono ?_
  rintro e w1 ⟨rfl, hb1⟩
  obtain ⟨u1, rfl⟩ : ∃ u, w1 = ovr w u := ⟨w1, ovr_of hb1⟩
  clear hb1
  go_wp2_with fail
  refine (co.out _).mono ?_
  rintro e w1 ⟨rfl, hb1⟩
  obtain ⟨u2, rfl⟩ := ovr_next hb1
  clear hb1
  by_cases h1 : v.natAbs / c.toNat ≤ 1000000000000000
  · rw [if_pos h1] at hf
    rw [ovF_near h1]
    have bv : -1000000000000001 ≤ v / c ∧ v / c ≤ 1000000000000000 := quo_near hc.1 h1
    have bm : 0 ≤ v % c ∧ v % c < c := ⟨Int.emod_nonneg _ (by omega), Int.emod_lt_of_pos _ (by omega)⟩
    clear h1
    rcases s with _ | _
    · simp only [Bool.false_eq_true, if_false] at hf
      by_cases h2 : 0 < v % c
      · have h2b : decide (0 < v % c) = true := decide_eq_true h2
        rw [show upF v c = v / c + 1 from if_pos h2] at hf
        go_upto_region 8 with (fail)
        go_region
        go_end0
        exact ⟨rfl, by rw [hf.out]; exact rs (rs (rs (rs (rs (Rroww0.out u2) 0 _) 1 _) 2 _) 0 _) 1 _, ((bs (bs (bs (bs (bs (HBk.out u2) 0 _) 1 _) 2 _) 0 _) 1 _)).drew⟩
      · have h2b : decide (0 < v % c) = false := decide_eq_false h2
        rw [show upF v c = v / c from if_neg h2] at hf
        go_upto_region 8 with (fail)
        go_region
        go_end0
        exact ⟨rfl, by rw [hf.out]; exact rs (rs (rs (rs (rs (Rroww0.out u2) 0 _) 1 _) 2 _) 0 _) 1 _, ((bs (bs (bs (bs (bs (HBk.out u2) 0 _) 1 _) 2 _) 0 _) 1 _)).drew⟩
    · simp only [if_true] at hf
      by_cases h2 : 0 < v % c
      · have h2b : decide (0 < v % c) = true := decide_eq_true h2
        rw [show upF v c = v / c + 1 from if_pos h2] at hf
        go_upto_region 8 with (fail)
        go_region
        go_end0
        exact ⟨rfl, by rw [hf.out]; exact rs (rs (Rroww0.out u2) 0 _) 1 _, (bs (bs (HBk.out u2) 0 _) 1 _).drew⟩
      · have h2b : decide (0 < v % c) = false := decide_eq_false h2
        rw [show upF v c = v / c from if_neg h2] at hf
        go_upto_region 8 with (fail)
        go_region
        go_end0
        exact ⟨rfl, by rw [hf.out]; exact rs (rs (Rroww0.out u2) 0 _) 1 _, (bs (bs (HBk.out u2) 0 _) 1 _).drew⟩
  · rw [if_neg h1] at hf
    rw [ovF_far (by omega)]
    clear h1
    go_wp2_with fail
    (try simp only [Exit.inBlock, Exit.then])
    refine bodyPost_ret (results_none rfl _ _ _) rfl ?_
    exact ⟨rfl, by rw [hf.out]; exact rs (Rroww0.out u2) 3 _, bs (HBk.out u2) 3 _⟩
def reH (h : Hul) : Rng × Int := if h.f then (⟨0, 0⟩, 10) else fiF h.lo h.hi
theorem wp_assign {P : Program} {o : Oper} {a : Act} {w : World} {K : Act → World → Prop} {Q : Exit → Act → World → Prop} (x : Operand) (v : Value) (ho : o.op = .assign x) (hv : a.eval x = v) (h : K (a.put o.dst v) w) : o.wp P a w K Q := by
  unfold Oper.wp execOp
  simp only [ho, hv, Sem.run_pure, Oper.upon]
  exact h
theorem Cl.set {W0 w : World} (h : Cl W0 w) {g : Nat} (hg : W0.heap.size ≤ g) (cs : Array Value) : Cl W0 (w.setRow g cs) := Cl.of (below_setRow h.le hg _)
set_option maxRecDepth 100000 in
set_option maxHeartbeats 2000000 in
theorem result_any (h : Hul) (k : Nat) (w : World) (hr : w.heap[k]? = some (.cells (huRow h) 133 (0, 0))) :
    Calls Try.prog 95 #[.pointer (some ⟨k, 0, none⟩)] w (RetRn w (reH h)) := by
  obtain ⟨lo, hi, s, f⟩ := h
  have hf : Hid (reH ⟨lo, hi, s, f⟩ = if f then (⟨0, 0⟩, 10) else fiF lo hi) := rfl
  have yw00 := ovr_cell (W := w) (b := k) (o := 0) (v := I lo) (by rw [cell_of_row _ _ _ _ _ _ hr]; rfl)
  have zw00 : ∀ u, (ovr w u).frozen? ⟨k, 0, none⟩ = false := fun u => frozen_of_row _ _ _ _ _ (ovr_row hr u)
  have yw01 := ovr_cell (W := w) (b := k) (o := 1) (v := I hi) (by rw [cell_of_row _ _ _ _ _ _ hr]; rfl)
  have zw01 : ∀ u, (ovr w u).frozen? ⟨k, 1, none⟩ = false := fun u => frozen_of_row _ _ _ _ _ (ovr_row hr u)
  have yw02 := ovr_cell (W := w) (b := k) (o := 2) (v := .bool s) (by rw [cell_of_row _ _ _ _ _ _ hr]; rfl)
  have zw02 : ∀ u, (ovr w u).frozen? ⟨k, 2, none⟩ = false := fun u => frozen_of_row _ _ _ _ _ (ovr_row hr u)
  have yw03 := ovr_cell (W := w) (b := k) (o := 3) (v := .bool f) (by rw [cell_of_row _ _ _ _ _ _ hr]; rfl)
  have zw03 : ∀ u, (ovr w u).frozen? ⟨k, 3, none⟩ = false := fun u => frozen_of_row _ _ _ _ _ (ovr_row hr u)
  have Rroww0 := Lib.hid (ovr_row hr)
  clear hr
  obtain ⟨W, hW⟩ : ∃ W, W = (w.alloc (.cells #[I 0, I 0] 38)) := ⟨_, rfl⟩
  have reW : ∀ v, ∃ x, ovr W v = ovr w x := fun v => ⟨_, ovr_of (U1 hW v)⟩
  replace yw00 := tr_cell reW yw00
  replace zw00 := tr_froz reW zw00
  replace yw01 := tr_cell reW yw01
  replace zw01 := tr_froz reW zw01
  replace yw02 := tr_cell reW yw02
  replace zw02 := tr_froz reW zw02
  replace yw03 := tr_cell reW yw03
  replace zw03 := tr_froz reW zw03
  replace Rroww0 := Lib.hid (tr_row reW Rroww0.out)
  have rowW0 : W.heap[w.heap.size]? = some (.cells #[I 0, I 0] 38 (0, 0)) := by rw [hW]; exact heap_last _ _ _ rfl
  have yW00 := ovr_cell (W := W) (b := w.heap.size) (o := 0) (v := I 0) (by rw [cell_of_row _ _ _ _ _ _ rowW0]; rfl)
  have yW01 := ovr_cell (W := W) (b := w.heap.size) (o := 1) (v := I 0) (by rw [cell_of_row _ _ _ _ _ _ rowW0]; rfl)
  have RrowW0 := Lib.hid (ovr_row rowW0)
  clear rowW0
  have HUW : Hid (∀ u, Below w.heap.size w (ovr W u)) := U1 hW
  have HW := Lib.hid hW
  clear hW
  go_enter Try.func95, Try.ntmps95
  go_upto_region 1 with (fail)
  rw [← HW.out]
  obtain ⟨u0, hu0⟩ := ovr_self W
  rw [hu0]
  clear hu0
  rcases f with _ | _
  · rw [if_neg (by decide)] at hf
    go_upto_region 3 with (fail)
    have hbX := ovr_below W u0
    obtain ⟨X, hX⟩ : ∃ X, X = ovr W u0 := ⟨_, rfl⟩
    rw [← hX] at hbX
    rw [← hX]
    clear hX
    have reX : ∀ v, ∃ x, ovr X v = ovr W x := fun v => ovr_reB hbX v
    replace yw00 := tr_cell reX yw00
    replace zw00 := tr_froz reX zw00
    replace yw01 := tr_cell reX yw01
    replace zw01 := tr_froz reX zw01
    replace yw02 := tr_cell reX yw02
    replace zw02 := tr_froz reX zw02
    replace yw03 := tr_cell reX yw03
    replace zw03 := tr_froz reX zw03
    replace Rroww0 := Lib.hid (tr_row reX Rroww0.out)
    replace yW00 := tr_cell reX yW00
    replace yW01 := tr_cell reX yW01
    replace RrowW0 := Lib.hid (tr_row reX RrowW0.out)
    have HUX : Hid (∀ u, Below w.heap.size w (ovr X u)) := fun u => by obtain ⟨x, hx⟩ := reX u; rw [hx]; exact HUW.out x
    clear reX hbX
    obtain ⟨q, hq⟩ : ∃ q, fiF lo hi = q := ⟨_, rfl⟩
    have cf := Lib.hid fun w => fits_any lo hi w
    rw [hq] at hf cf
    clear hq
    refine wp_region_seq 13 (fun j => if j = 10 then some (fun u _ => u = .tuple #[q.1.val, I q.2]) else none) (by kernel_rfl) (by kernel_rfl) (by kernel_rfl) (by kernel_rfl) ?_
    simp only [List.take_succ_cons, List.take_zero, List.drop_succ_cons, List.drop_zero]
    repeat (refine wpG_one rfl rfl rfl ?_; intro K hK; go_big_quiet_op; go_big_quiet_on)
    refine wpG_make (fun u _ => u = .tuple #[q.1.val, I q.2]) rfl rfl (fun w' hw' _ => ?_) (fun u hu => ?_)
    · go_simp
      exact call_grow (cf.out _)
    obtain ⟨_, _, rfl⟩ := hu
    simp only [Act.put, List.setIfInBounds_toArray, List.set_cons_zero, List.set_cons_succ]
    repeat (refine wpG_one rfl rfl rfl ?_; intro K hK; go_big_quiet_op; go_big_quiet_on)
    refine wpG_nil (fun w5 hw5 hG => ?_)
    clear hG
    obtain ⟨u5, rfl⟩ : ∃ x, w5 = ovr X x := ⟨w5, ovr_of hw5.le⟩
    clear hw5
    refine wpTail_cons ?_
    refine wp_store_row 38 _ _ rfl (w.heap.size) rfl _ _ (RrowW0.out _) _ rfl (one2 rfl rfl) rfl (by kernel_rfl) ?_
    refine wpTail_cons ?_
    refine wp_assign _ (I q.2) rfl rfl ?_
    refine wpTail_nil ?_
    simp only [Act.put, List.setIfInBounds_toArray, List.set_cons_zero, List.set_cons_succ]
    go_wp2_with fail
    refine bodyPost_ret (results_cell_tmp rfl _ _ (w.heap.size) 38 _ (0, 0) _ rfl (setRow_same (RrowW0.out _)) Try.underlying38 rfl (by kernel_rfl)) rfl ?_
    exact ⟨by rw [hf.out]; rfl, below_setRow (HUX.out _) (by omega) _⟩
  · rw [if_pos rfl] at hf
    go_wp2_with (refine wpList_store_row rfl 38 _ _ rfl (w.heap.size) rfl _ _ (RrowW0.out _) _ rfl (one2 rfl rfl) rfl (by kernel_rfl) ?_)
    refine bodyPost_ret (results_cell_tmp rfl _ _ (w.heap.size) 38 _ (0, 0) _ rfl (setRow_same (RrowW0.out _)) Try.underlying38 rfl (by kernel_rfl)) rfl ?_
    exact ⟨by rw [hf.out]; rfl, below_setRow (HUW.out _) (by omega) _⟩
end Go.Proofs.Ytmadlmmfbpmebaa
