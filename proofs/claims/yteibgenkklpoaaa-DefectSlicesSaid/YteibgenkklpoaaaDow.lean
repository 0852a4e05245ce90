/- A growth with lists of its own; whether its lists are too long. -/
import Derived.Test.YteibgenkklpoaaaWh1
import Derived.Test.YteibgenkklpoaaaDp1
import Derived.Test.YteibgenkklpoaaaRo
import Derived.Test.YteibgenkklpoaaaFda
namespace Go.Proofs.Yteibgenkklpoaaa.Un
open Go.RowKit
def wdB (g : Gro) : Bool := decide (70 < g.r.length) || (decide (70 < g.z.length) || decide (70 < g.f.length))
set_option maxRecDepth 100000 in
set_option maxHeartbeats 1000000 in
theorem wide_any (g : Gro) (A Z F : Option Addr) (a c d : Nat) (w : World) : Calls Try.prog 30 #[.agg (grA g A Z F a c d)] w fun e w' => e = .returned (.bool (wdB g)) ∧ Below w.heap.size w w' := by
  have hf : Hid (wdB g = (decide (70 < g.r.length) || (decide (70 < g.z.length) || decide (70 < g.f.length)))) := rfl
  obtain ⟨W, hW⟩ : ∃ W, W = (w.alloc (.cells #[.slice A g.r.length a, I g.o, .slice Z g.z.length c, .slice F g.f.length d] 77)) := ⟨_, rfl⟩
  have rowW0 : W.heap[w.heap.size]? = some (.cells #[.slice A g.r.length a, I g.o, .slice Z g.z.length c, .slice F g.f.length d] 77 (0, 0)) := by rw [hW]; exact heap_last _ _ _ rfl
  have yW00 := ovr_cell (W := W) (b := w.heap.size) (o := 0) (v := .slice A g.r.length a) (by rw [cell_of_row _ _ _ _ _ _ rowW0]; rfl)
  have yW01 := ovr_cell (W := W) (b := w.heap.size) (o := 1) (v := I g.o) (by rw [cell_of_row _ _ _ _ _ _ rowW0]; rfl)
  have yW02 := ovr_cell (W := W) (b := w.heap.size) (o := 2) (v := .slice Z g.z.length c) (by rw [cell_of_row _ _ _ _ _ _ rowW0]; rfl)
  have yW03 := ovr_cell (W := W) (b := w.heap.size) (o := 3) (v := .slice F g.f.length d) (by rw [cell_of_row _ _ _ _ _ _ rowW0]; rfl)
  have RrowW0 := Lib.hid (ovr_row rowW0)
  clear rowW0
  have HUW : Hid (∀ u, Below w.heap.size w (ovr W u)) := U1 hW
  have HW := Lib.hid hW
  clear hW
  go_enter Try.func30, Try.ntmps30
  go_upto_region 1 with (fail)
  rw [← HW.out]
  obtain ⟨u0, hu0⟩ := ovr_self W
  rw [hu0]
  clear hu0
  by_cases h1 : 70 < g.r.length
  · have d1 : decide ((70 : Int) < (g.r.length : Int)) = true := decide_eq_true (by omega)
    rw [decide_eq_true h1] at hf
    have h1' : (70 : Int) < (g.r.length : Int) := by omega
    go_wp2_with fail
    go_ret
    exact ⟨by rw [hf.out]; rfl, HUW.out _⟩
  have d1 : decide ((70 : Int) < (g.r.length : Int)) = false := decide_eq_false (by omega)
  rw [decide_eq_false h1] at hf
  by_cases h2 : 70 < g.z.length
  · have d2 : decide ((70 : Int) < (g.z.length : Int)) = true := decide_eq_true (by omega)
    rw [decide_eq_true h2] at hf
    have h2' : (70 : Int) < (g.z.length : Int) := by omega
    go_wp2_with fail
    go_ret
    exact ⟨by rw [hf.out]; rfl, HUW.out _⟩
  have d2 : decide ((70 : Int) < (g.z.length : Int)) = false := decide_eq_false (by omega)
  rw [decide_eq_false h2] at hf
  by_cases h3 : 70 < g.f.length
  · have d3 : decide ((70 : Int) < (g.f.length : Int)) = true := decide_eq_true (by omega)
    rw [decide_eq_true h3] at hf
    have h3' : (70 : Int) < (g.f.length : Int) := by omega
    go_wp2_with fail
    go_ret
    exact ⟨by rw [hf.out]; rfl, HUW.out _⟩
  have d3 : decide ((70 : Int) < (g.f.length : Int)) = false := decide_eq_false (by omega)
  rw [decide_eq_false h3] at hf
  go_wp2_with fail
  go_ret
  exact ⟨by rw [hf.out]; rfl, HUW.out _⟩
theorem wd_no {g : Gro} (h : wdB g = false) : g.r.length ≤ 70 ∧ g.z.length ≤ 70 ∧ g.f.length ≤ 70 := by
  unfold wdB at h
  simp only [Bool.or_eq_false_iff, decide_eq_false_iff_not] at h
  omega
theorem GroRd.inn {w : World} {B : Nat} {g : Gro} {A Z F : Option Addr} (h : GroRd w B g A Z F) (hl : g.r.length ≤ 70 ∧ g.z.length ≤ 70 ∧ g.f.length ≤ 70) : GroIn w B g A Z F := ⟨h.r, h.z, h.f, by omega, by omega, by omega⟩
/-- A store into a block that no list of pairs of integers lies in. -/
theorem rd_off {w : World} {q B n : Nat} {T : TypeId} {A : Option Addr} {zs : List Rng} (hq : w.heap[q]? = some (.cells #[.slice none 0 0, I 0, .slice none 0 0, .slice none 0 0] T (0, 0))) (h : Rd w B 2 A n (rR zs)) (cs : Array Value) : Rd (w.setRow q cs) B 2 A n (rR zs) := fun hn => by
  obtain ⟨b, o, hA, hlt, hc⟩ := h hn
  have hne : b ≠ q := by
    rintro rfl
    have e0 := hc 0 hn 0 (by omega)
    have e1 := hc 0 hn 1 (by omega)
    rw [cell_of_row _ _ _ _ _ _ hq] at e0 e1
    rw [show o + 0 * 2 + 0 = o by omega] at e0
    rw [show o + 0 * 2 + 1 = o + 1 by omega] at e1
    match o, e0, e1 with
    | 0, e0, _ => exact absurd e0 (by unfold rR; intro h; injection h with h; cases h)
    | 1, _, e1 => exact absurd e1 (by unfold rR; intro h; injection h with h; cases h)
    | 2, e0, _ => exact absurd e0 (by unfold rR; intro h; injection h with h; cases h)
    | 3, e0, _ => exact absurd e0 (by unfold rR; intro h; injection h with h; cases h)
    | o + 4, e0, _ => simp at e0
  refine ⟨b, o, hA, hlt, fun k hk j hj => ?_⟩
  rw [← hc k hk j hj]
  unfold World.cell?
  rw [setRow_other hne]
theorem growth_info : (Try.prog.info? 77).map (fun i => (i.zero, i.size)) = some (some (.agg #[.slice none 0 0, I 0, .slice none 0 0, .slice none 0 0]), 4) := by kernel_rfl
def RetOw (g : Gro) (w : World) (e : Ending) (w' : World) : Prop :=
  ∃ A Z F a c d, e = .returned (.agg (grA g A Z F a c d)) ∧ GroIn w' w'.heap.size g A Z F ∧ Below w.heap.size w w'
set_option maxRecDepth 100000 in
set_option maxHeartbeats 4000000 in
theorem own_any (g : Gro) (A Z F : Option Addr) (a c d : Nat) (w : World) (B : Nat) (hB : B ≤ w.heap.size) (hg : GroIn w B g A Z F) (hl : g.r.length ≤ 70 ∧ g.z.length ≤ 70 ∧ g.f.length ≤ 70) :
    Calls Try.prog 32 #[.agg (grA g A Z F a c d)] w (RetOw g w) := by
  have HG : Hid (∀ V, Below w.heap.size w V → GroIn V B g A Z F ∧ B ≤ V.heap.size) := fun V hV => ⟨hg.below hB hV, Nat.le_trans hB hV.size⟩
  have HL := Lib.hid hl
  obtain ⟨i3, hi3, jz0, jz1, jz2⟩ := info_parts knot_info
  have CZ : Hid (∀ V, Below w.heap.size w V → Calls Try.prog 21 #[.slice Z g.z.length c] V (RetLc V 2 g.z.length (rR g.z))) := fun V hV => zones_any Z g.z.length c (rR g.z) V B ⟨by unfold maxLen; omega, by omega⟩ (HG.out V hV).2 (HG.out V hV).1.z
  clear hg hB hl
  obtain ⟨W, hW⟩ : ∃ W, W = ((w.alloc (.cells #[.slice A g.r.length a, I g.o, .slice Z g.z.length c, .slice F g.f.length d] 77)).alloc (.cells #[.slice none 0 0, I 0, .slice none 0 0, .slice none 0 0] 77)) := ⟨_, rfl⟩
  have rowW0 : W.heap[w.heap.size]? = some (.cells #[.slice A g.r.length a, I g.o, .slice Z g.z.length c, .slice F g.f.length d] 77 (0, 0)) := by rw [hW]; exact heap_before (heap_last _ _ _ rfl)
  have yW00 := ovr_cell (W := W) (b := w.heap.size) (o := 0) (v := .slice A g.r.length a) (by rw [cell_of_row _ _ _ _ _ _ rowW0]; rfl)
  have yW01 := ovr_cell (W := W) (b := w.heap.size) (o := 1) (v := I g.o) (by rw [cell_of_row _ _ _ _ _ _ rowW0]; rfl)
  have yW02 := ovr_cell (W := W) (b := w.heap.size) (o := 2) (v := .slice Z g.z.length c) (by rw [cell_of_row _ _ _ _ _ _ rowW0]; rfl)
  have yW03 := ovr_cell (W := W) (b := w.heap.size) (o := 3) (v := .slice F g.f.length d) (by rw [cell_of_row _ _ _ _ _ _ rowW0]; rfl)
  have RrowW0 := Lib.hid (ovr_row rowW0)
  clear rowW0
  have rowW1 : W.heap[w.heap.size + 1]? = some (.cells #[.slice none 0 0, I 0, .slice none 0 0, .slice none 0 0] 77 (0, 0)) := by rw [hW]; exact heap_last _ _ _ (by simp)
  have yW10 := ovr_cell (W := W) (b := w.heap.size + 1) (o := 0) (v := .slice none 0 0) (by rw [cell_of_row _ _ _ _ _ _ rowW1]; rfl)
  have yW11 := ovr_cell (W := W) (b := w.heap.size + 1) (o := 1) (v := I 0) (by rw [cell_of_row _ _ _ _ _ _ rowW1]; rfl)
  have yW12 := ovr_cell (W := W) (b := w.heap.size + 1) (o := 2) (v := .slice none 0 0) (by rw [cell_of_row _ _ _ _ _ _ rowW1]; rfl)
  have yW13 := ovr_cell (W := W) (b := w.heap.size + 1) (o := 3) (v := .slice none 0 0) (by rw [cell_of_row _ _ _ _ _ _ rowW1]; rfl)
  have RrowW1 := Lib.hid (ovr_row rowW1)
  clear rowW1
  have HUW : Hid (∀ u, Below w.heap.size w (ovr W u)) := U2 hW
  have HW := Lib.hid hW
  clear hW
  go_enter Try.func32, Try.ntmps32
  go_upto_region 1 with (fail)
  rw [← HW.out]
  obtain ⟨u0, hu0⟩ := ovr_self W
  rw [hu0]
  clear hu0
  have hbY := ovr_below W u0
  obtain ⟨Y, hY⟩ : ∃ Y, Y = ovr W u0 := ⟨_, rfl⟩
  rw [← hY] at hbY
  rw [← hY]
  have hY' := Lib.hid hY
  clear hY
  have hbY' := Lib.hid hbY
  have reY : ∀ v, ∃ x, ovr Y v = ovr W x := fun v => ovr_reB hbY v
  replace yW00 := tr_cell reY yW00
  replace yW01 := tr_cell reY yW01
  replace yW02 := tr_cell reY yW02
  replace yW03 := tr_cell reY yW03
  replace RrowW0 := Lib.hid (tr_row reY RrowW0.out)
  replace yW10 := tr_cell reY yW10
  replace yW11 := tr_cell reY yW11
  replace yW12 := tr_cell reY yW12
  replace yW13 := tr_cell reY yW13
  replace RrowW1 := Lib.hid (tr_row reY RrowW1.out)
  have HUY : Hid (∀ u, Below w.heap.size w (ovr Y u)) := fun u => by obtain ⟨x, hx⟩ := reY u; rw [hx]; exact HUW.out x
  clear reY hbY
  refine wp_region_seq2 14 (fun j => if j = 0 then some Emp else if j = 3 then some (SlAt Y.heap.size 2 g.r.length (rR g.r)) else if j = 8 then some (SlK 2 g.z.length (rR g.z)) else if j = 9 then some Emp else if j = 12 then some (SlAt Y.heap.size 2 g.f.length (rR g.f)) else none) (by kernel_rfl) (by kernel_rfl) (by kernel_rfl) (by kernel_rfl) (by kernel_rfl) ?_
  simp only [List.take_succ_cons, List.take_zero, List.drop_succ_cons, List.drop_zero]
  refine wpG_make Emp rfl rfl (fun w' hw' _ => ?_) (fun u hu => ?_)
  · go_simp
    exact emp_grow w'
  obtain ⟨_, _, e1, rfl⟩ := hu
  simp only [Act.put, List.setIfInBounds_toArray, List.set_cons_zero, List.set_cons_succ]
  repeat (refine wpG_one rfl rfl rfl ?_; intro K hK; go_big_quiet_op; go_big_quiet_on)
  refine wpG_make (SlAt Y.heap.size 2 g.r.length (rR g.r)) rfl rfl (fun w' hw' _ => ?_) (fun u hu => ?_)
  · obtain ⟨x, rfl⟩ := hw'
    exact app_grow _ _ 75 rfl 85 i3 _ 2 16 Try.underlying75 hi3 jz0 jz1 jz2 rfl (by decide) e1 rfl A g.r.length a rfl (rR g.r) ((HG.out _ (HUY.out x)).1.r.more (HG.out _ (HUY.out x)).2) (by have := HL.out; omega) (by decide) (ovr_below Y x).size
  obtain ⟨_, _, A2, a2, rfl, _, _, _⟩ := hu
  simp only [Act.put, List.setIfInBounds_toArray, List.set_cons_zero, List.set_cons_succ]
  repeat (refine wpG_one rfl rfl rfl ?_; intro K hK; go_big_quiet_op; go_big_quiet_on)
  refine wpG_make (SlK 2 g.z.length (rR g.z)) rfl rfl (fun w' hw' _ => ?_) (fun u hu => ?_)
  · obtain ⟨x, rfl⟩ := hw'
    go_simp
    exact own_growK (CZ.out _ (HUY.out x))
  obtain ⟨_, _, Z2, c2, rfl, _, _, _⟩ := hu
  simp only [Act.put, List.setIfInBounds_toArray, List.set_cons_zero, List.set_cons_succ]
  refine wpG_make Emp rfl rfl (fun w' hw' _ => ?_) (fun u hu => ?_)
  · go_simp
    exact emp_grow w'
  obtain ⟨_, _, e2, rfl⟩ := hu
  simp only [Act.put, List.setIfInBounds_toArray, List.set_cons_zero, List.set_cons_succ]
  repeat (refine wpG_one rfl rfl rfl ?_; intro K hK; go_big_quiet_op; go_big_quiet_on)
  refine wpG_make (SlAt Y.heap.size 2 g.f.length (rR g.f)) rfl rfl (fun w' hw' _ => ?_) (fun u hu => ?_)
  · obtain ⟨x, rfl⟩ := hw'
    exact app_grow _ _ 75 rfl 85 i3 _ 2 16 Try.underlying75 hi3 jz0 jz1 jz2 rfl (by decide) e2 rfl F g.f.length d rfl (rR g.f) ((HG.out _ (HUY.out x)).1.f.more (HG.out _ (HUY.out x)).2) (by have := HL.out; omega) (by decide) (ovr_below Y x).size
  obtain ⟨_, _, F2, d2, rfl, _, _, _⟩ := hu
  simp only [Act.put, List.setIfInBounds_toArray, List.set_cons_zero, List.set_cons_succ]
  repeat (refine wpG_one rfl rfl rfl ?_; intro K hK; go_big_quiet_op; go_big_quiet_on)
  refine wpG_nil (fun w5 hw5 hG => ?_)
  obtain ⟨F3, d3, hF, _, hrF, _⟩ := Box.now hG.2
  obtain ⟨Z3, c3, hZ, _, _, hrZ⟩ := Box.now hG.1.1.2
  obtain ⟨A3, a3, hA, _, hrA, _⟩ := Box.now hG.1.1.1.2
  injection hF with hF1 hF2 hF3
  injection hZ with hZ1 hZ2 hZ3
  injection hA with hA1 hA2 hA3
  subst hF1 hF3 hZ1 hZ3 hA1 hA3
  clear hG
  obtain ⟨x5, rfl⟩ : ∃ x, w5 = ovr Y x := ⟨w5, ovr_of hw5.le⟩
  have hrow := RrowW1.out x5
  have hbw := HUY.out x5
  clear hw5
  refine wpTailIn_cons Wd.wide (by intro c h; cases h) ?_
  refine wp_store_row 77 _ _ rfl (w.heap.size + 1) rfl _ _ hrow #[.slice A2 g.r.length a2, I g.o, .slice Z2 g.z.length c2, .slice F2 g.f.length d2] rfl (by intro u hu; simp at hu; rcases hu with rfl | rfl | rfl | rfl <;> rfl) rfl (by kernel_rfl) ?_
  refine wpTailIn_nil ?_
  simp only [Act.put]
  have gA := rd_off hrow hrA #[.slice A2 g.r.length a2, I g.o, .slice Z2 g.z.length c2, .slice F2 g.f.length d2]
  have gZ := rd_off hrow hrZ #[.slice A2 g.r.length a2, I g.o, .slice Z2 g.z.length c2, .slice F2 g.f.length d2]
  have gF := rd_off hrow hrF #[.slice A2 g.r.length a2, I g.o, .slice Z2 g.z.length c2, .slice F2 g.f.length d2]
  have hb9 := below_setRow hbw (Nat.le_succ w.heap.size) #[.slice A2 g.r.length a2, I g.o, .slice Z2 g.z.length c2, .slice F2 g.f.length d2]
  go_wp2_with fail
  refine bodyPost_ret (results_cell_only rfl _ _ (w.heap.size + 1) 77 _ (0, 0) _ rfl (setRow_same (hrow)) Try.underlying77 rfl (by kernel_rfl)) rfl ?_
  refine ⟨A2, Z2, F2, a2, c2, d2, rfl, ⟨?_, ?_, ?_, ?_, ?_, ?_⟩, hb9⟩
  · rw [setRow_size]; exact gA
  · rw [setRow_size]; exact gZ
  · rw [setRow_size]; exact gF
  · have := HL.out; omega
  · have := HL.out; omega
  · have := HL.out; omega
/-- A growth of one's own. -/
def OwB (g : Gro) (u : Value) (w : World) : Prop := ∃ A Z F a c d, u = .agg (grA g A Z F a c d) ∧ GroIn w w.heap.size g A Z F
theorem OwB.box {g : Gro} {u : Value} {w : World} (h : OwB g u w) : Box (OwB g) u w := fun w' hl => by
  obtain ⟨A, Z, F, a, c, d, hu, hg⟩ := h
  exact ⟨A, Z, F, a, c, d, hu, (hg.r.below hl).more hl.size, (hg.z.below hl).more hl.size, (hg.f.below hl).more hl.size, hg.lr, hg.lz, hg.lf⟩
theorem ow_grow {P : Program} {f : FuncId} {args : Array Value} {w : World} {g : Gro} (h : Calls P f args w (RetOw g w)) : Calls P f args w fun e w' => ∃ u, e = .returned u ∧ Le w w' ∧ Box (OwB g) u w' :=
  h.mono fun _ _ ⟨A, Z, F, a, c, d, he, hg, hb⟩ => ⟨_, he, hb, OwB.box ⟨A, Z, F, a, c, d, rfl, hg⟩⟩
theorem OwB.at {g : Gro} {A Z F : Option Addr} {n1 n2 n3 a c d : Nat} {o : Int} {w : World} (h : OwB g (.agg #[.slice A n1 a, I o, .slice Z n2 c, .slice F n3 d]) w) : GroIn w w.heap.size g A Z F := by
  obtain ⟨A', Z', F', a', c', d', hu, hg⟩ := h
  unfold grA at hu
  simp only [Value.agg.injEq, Array.mk.injEq, List.cons.injEq, Value.slice.injEq] at hu
  obtain ⟨⟨rfl, _⟩, _, ⟨rfl, _⟩, ⟨rfl, _⟩, _⟩ := hu
  exact hg
end Go.Proofs.Yteibgenkklpoaaa.Un
