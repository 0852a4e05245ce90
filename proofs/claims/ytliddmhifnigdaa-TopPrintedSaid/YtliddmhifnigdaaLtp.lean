/- The law TopPrinted: its walk. -/
import Derived.Test.YtliddmhifnigdaaTq
import Derived.Test.YtliddmhifnigdaaRo
import Derived.Test.YtliddmhifnigdaaDl
namespace Go.Proofs.Ytliddmhifnigdaa.Un
open Go.RowKit
theorem map_flat1 (S : Nat → Value) : ∀ n, (List.range n).map S = flat 1 (fun i _ => S i) n
  | 0 => rfl
  | n + 1 => by
    rw [List.range_succ, List.map_append, flat_succ 1 (by omega), map_flat1 S n]
    rfl
theorem rd_one {w : World} {B b o n k : Nat} {f : Nat → Nat → Value} (h : Rd w B 1 (some ⟨b, o, none⟩) n f) (hk : k < n) : w.cell? ⟨b, o + k, none⟩ = some (f k 0) := by
  obtain ⟨b', o', e, _, hc⟩ := h (by omega)
  injection e with e
  injection e with e1 e2
  subst e1 e2
  have h9 := hc k hk 0 (by omega)
  rw [show o + k * 1 + 0 = o + k by omega] at h9
  exact h9
theorem rd_at2 {w : World} {B b o n k : Nat} {xs : List Rng} (h : Rd w B 2 (some ⟨b, o, none⟩) n (rR xs)) (hk : k < n) : w.cell? ⟨b, o + k * 2, none⟩ = some (I (at0 xs k).lo) ∧ w.cell? ⟨b, o + k * 2 + 1, none⟩ = some (I (at0 xs k).hi) := by
  obtain ⟨b', o', e, _, h1, h2⟩ := h.rng hk
  injection e with e
  injection e with e1 e2
  subst e1 e2
  exact ⟨h1, h2⟩
theorem rd_off {w : World} {q B n : Nat} {T : TypeId} {A : Option Addr} {zs : List Rng} (hq : w.heap[q]? = some (.cells #[.slice none 0 0, I 0, .slice none 0 0, .slice none 0 0] T (0, 0))) (h : Rd w B 2 A n (rR zs)) (cs : Array Value) : Rd (w.setRow q cs) B 2 A n (rR zs) := fun hn => by
  obtain ⟨b, o, hA, hlt, hc⟩ := h hn
  have hne : b ≠ q := by
    rintro rfl
    have e0 := hc 0 hn 0 (by omega)
    have e1 := hc 0 hn 1 (by omega)
    rw [cell_of_row _ _ _ _ _ _ hq] at e0 e1
    rw [show o + 0 * 2 + 0 = o by omega] at e0
    rw [show o + 0 * 2 + 1 = o + 1 by omega] at e1
    match o, e0, e1 with
    | 0, e0, _ => exact absurd e0 (by unfold rR; intro h; injection h with h; cases h)
    | 1, _, e1 => exact absurd e1 (by unfold rR; intro h; injection h with h; cases h)
    | 2, e0, _ => exact absurd e0 (by unfold rR; intro h; injection h with h; cases h)
    | 3, e0, _ => exact absurd e0 (by unfold rR; intro h; injection h with h; cases h)
    | o + 4, e0, _ => simp at e0
  refine ⟨b, o, hA, hlt, fun k hk j hj => ?_⟩
  rw [← hc k hk j hj]
  unfold World.cell?
  rw [setRow_other hne]
theorem below_self1 {w Y : World} (h : ∀ u, Below w.heap.size w (ovr Y u)) : Below w.heap.size w Y := by
  obtain ⟨v, hv⟩ := ovr_self Y
  have := h v
  rwa [← hv] at this
structure GroRd (w : World) (B : Nat) (g : Gro) (A Z F : Option Addr) : Prop where
  r : Rd w B 2 A g.r.length (rR g.r)
  z : Rd w B 2 Z g.z.length (rR g.z)
  f : Rd w B 2 F g.f.length (rR g.f)
theorem alloc_gro (w : World) : ∃ w', (Instr.alloc 68 true (.tuple #[])).run Try.prog w = .ok (.pointer (some ⟨w.heap.size, 0, none⟩)) w' := ⟨w.alloc (.cells #[.slice none 0 0, I 0, .slice none 0 0, .slice none 0 0] 68), by kernel_rfl⟩
theorem pr_ok {m : Mdl} {g : Gro} {cuts : List Int} (h : prE m g cuts = 0) : okMdl m = true ∧ okGro g = true ∧ ctE g cuts = 0 := by
  unfold prE at h
  split at h
  · rename_i h1
    obtain ⟨h2, h3⟩ := Bool.and_eq_true_iff.1 h1
    exact ⟨h2, h3, h⟩
  · cases h
theorem ct_two {g : Gro} {x y : Int} (h : ctE g [x, y] = 0) : (at0 g.r 0).lo ≤ x ∧ x ≤ y ∧ y ≤ lastX g.r := by
  unfold ctE at h
  rw [if_neg (show ¬ 500 < [x, y].length by simp)] at h
  split at h
  · cases h
  · rename_i h2
    rw [Bool.not_eq_true, List.any_eq_false] at h2
    have h3 := h2 0 (by simp)
    have h4 := h2 1 (by simp)
    unfold ctB at h3 h4
    rw [show at0 [x, y] 0 = x from rfl] at h3
    rw [show at0 [x, y] 1 = y from rfl, show at0 [x, y] (1 - 1) = x from rfl] at h4
    simp at h3 h4
    omega
set_option maxRecDepth 100000 in
set_option maxHeartbeats 8000000 in
theorem topPrinted_any (m : Mdl) (g : Gro) (A Z F : Option Addr) (a c d : Nat) (c0 c1 : Int) (w : World) (hg : GroRd w w.heap.size g A Z F) :
    Calls Try.prog 4 #[.agg (mdA m), .agg (grA g A Z F a c d), .agg #[I c0, I c1]] w fun e w' => e = .returned (.bool true) ∧ Below w.heap.size w w' := by
  have KN := Lib.hid quiet_any
  obtain ⟨W, hW⟩ : ∃ W, W = (((w.alloc (.cells #[I m.sc, I (m.b 0).lo, I (m.b 0).hi, I (m.b 1).lo, I (m.b 1).hi, I (m.b 2).lo, I (m.b 2).hi, I (m.b 3).lo, I (m.b 3).hi] 33)).alloc (.cells #[.slice A g.r.length a, I g.o, .slice Z g.z.length c, .slice F g.f.length d] 68)).alloc (.cells #[I c0, I c1] 69)) := ⟨_, rfl⟩
  have rowW0 : W.heap[w.heap.size]? = some (.cells #[I m.sc, I (m.b 0).lo, I (m.b 0).hi, I (m.b 1).lo, I (m.b 1).hi, I (m.b 2).lo, I (m.b 2).hi, I (m.b 3).lo, I (m.b 3).hi] 33 (0, 0)) := by rw [hW]; exact heap_before (heap_before (heap_last _ _ _ rfl))
  have yW00 := ovr_cell (W := W) (b := w.heap.size) (o := 0) (v := I m.sc) (by rw [cell_of_row _ _ _ _ _ _ rowW0]; rfl)
  have yW01 := ovr_cell (W := W) (b := w.heap.size) (o := 1) (v := I (m.b 0).lo) (by rw [cell_of_row _ _ _ _ _ _ rowW0]; rfl)
  have yW02 := ovr_cell (W := W) (b := w.heap.size) (o := 2) (v := I (m.b 0).hi) (by rw [cell_of_row _ _ _ _ _ _ rowW0]; rfl)
  have yW03 := ovr_cell (W := W) (b := w.heap.size) (o := 3) (v := I (m.b 1).lo) (by rw [cell_of_row _ _ _ _ _ _ rowW0]; rfl)
  have yW04 := ovr_cell (W := W) (b := w.heap.size) (o := 4) (v := I (m.b 1).hi) (by rw [cell_of_row _ _ _ _ _ _ rowW0]; rfl)
  have yW05 := ovr_cell (W := W) (b := w.heap.size) (o := 5) (v := I (m.b 2).lo) (by rw [cell_of_row _ _ _ _ _ _ rowW0]; rfl)
  have yW06 := ovr_cell (W := W) (b := w.heap.size) (o := 6) (v := I (m.b 2).hi) (by rw [cell_of_row _ _ _ _ _ _ rowW0]; rfl)
  have yW07 := ovr_cell (W := W) (b := w.heap.size) (o := 7) (v := I (m.b 3).lo) (by rw [cell_of_row _ _ _ _ _ _ rowW0]; rfl)
  have yW08 := ovr_cell (W := W) (b := w.heap.size) (o := 8) (v := I (m.b 3).hi) (by rw [cell_of_row _ _ _ _ _ _ rowW0]; rfl)
  have RrowW0 := Lib.hid (ovr_row rowW0)
  clear rowW0
  have rowW1 : W.heap[w.heap.size + 1]? = some (.cells #[.slice A g.r.length a, I g.o, .slice Z g.z.length c, .slice F g.f.length d] 68 (0, 0)) := by rw [hW]; exact heap_before (heap_last _ _ _ (by simp))
  have yW10 := ovr_cell (W := W) (b := w.heap.size + 1) (o := 0) (v := .slice A g.r.length a) (by rw [cell_of_row _ _ _ _ _ _ rowW1]; rfl)
  have yW11 := ovr_cell (W := W) (b := w.heap.size + 1) (o := 1) (v := I g.o) (by rw [cell_of_row _ _ _ _ _ _ rowW1]; rfl)
  have yW12 := ovr_cell (W := W) (b := w.heap.size + 1) (o := 2) (v := .slice Z g.z.length c) (by rw [cell_of_row _ _ _ _ _ _ rowW1]; rfl)
  have yW13 := ovr_cell (W := W) (b := w.heap.size + 1) (o := 3) (v := .slice F g.f.length d) (by rw [cell_of_row _ _ _ _ _ _ rowW1]; rfl)
  have RrowW1 := Lib.hid (ovr_row rowW1)
  clear rowW1
  have rowW2 : W.heap[w.heap.size + 1 + 1]? = some (.cells #[I c0, I c1] 69 (0, 0)) := by rw [hW]; exact heap_last _ _ _ (by simp)
  have yW20 := ovr_cell (W := W) (b := w.heap.size + 1 + 1) (o := 0) (v := I c0) (by rw [cell_of_row _ _ _ _ _ _ rowW2]; rfl)
  have yW21 := ovr_cell (W := W) (b := w.heap.size + 1 + 1) (o := 1) (v := I c1) (by rw [cell_of_row _ _ _ _ _ _ rowW2]; rfl)
  have RrowW2 := Lib.hid (ovr_row rowW2)
  clear rowW2
  have HUW : Hid (∀ u, Below w.heap.size w (ovr W u)) := U3 hW
  have HW := Lib.hid hW
  clear hW
  go_enter Try.func4, Try.ntmps4
  go_upto_region 1 with (fail)
  rw [← HW.out]
  obtain ⟨u0, hu0⟩ := ovr_self W
  rw [hu0]
  clear hu0
  by_cases h1 : 20 < g.z.length
  · have d1 : decide ((20 : Int) < (g.z.length : Int)) = true := decide_eq_true (by omega)
    have d1' : (20 : Int) < (g.z.length : Int) := by omega
    clear hg
    go_wp2_with fail
    refine (KN.out _).mono ?_
    rintro e w1 ⟨rfl, hb1⟩
    obtain ⟨uk, rfl⟩ := ovr_next hb1
    clear hb1
    go_wp2_with fail
    go_ret
    exact ⟨rfl, HUW.out _⟩
  have d1 : decide ((20 : Int) < (g.z.length : Int)) = false := decide_eq_false (by omega)
  by_cases h2 : 60 < g.r.length
  · have d2 : decide ((60 : Int) < (g.r.length : Int)) = true := decide_eq_true (by omega)
    have d2' : (60 : Int) < (g.r.length : Int) := by omega
    clear hg
    go_wp2_with fail
    refine (KN.out _).mono ?_
    rintro e w1 ⟨rfl, hb1⟩
    obtain ⟨uk, rfl⟩ := ovr_next hb1
    clear hb1
    go_wp2_with fail
    go_ret
    exact ⟨rfl, HUW.out _⟩
  have d2 : decide ((60 : Int) < (g.r.length : Int)) = false := decide_eq_false (by omega)
  by_cases h3 : 60 < g.f.length
  · have d3 : decide ((60 : Int) < (g.f.length : Int)) = true := decide_eq_true (by omega)
    have d3' : (60 : Int) < (g.f.length : Int) := by omega
    clear hg
    go_wp2_with fail
    refine (KN.out _).mono ?_
    rintro e w1 ⟨rfl, hb1⟩
    obtain ⟨uk, rfl⟩ := ovr_next hb1
    clear hb1
    go_wp2_with fail
    go_ret
    exact ⟨rfl, HUW.out _⟩
  have d3 : decide ((60 : Int) < (g.f.length : Int)) = false := decide_eq_false (by omega)
  have HLL : Hid (g.z.length ≤ 20 ∧ g.r.length ≤ 60 ∧ g.f.length ≤ 60) := by show _ ∧ _ ∧ _; omega
  have HGI : Hid (∀ V, Below w.heap.size w V → GroRd V w.heap.size g A Z F) := fun V hV => ⟨hg.r.below hV, hg.z.below hV, hg.f.below hV⟩
  clear hg h1 h2 h3
  obtain ⟨i3, hi3, jz0, jz1, jz2⟩ := info_parts knot_info
  obtain ⟨i4, hi4, kz0, kz1, kz2⟩ := info_parts rng_info
  go_upto_region 3 with fail
  clear d1 d2 d3
  have hbY := ovr_below W u0
  obtain ⟨Y, hY⟩ : ∃ Y, Y = ovr W u0 := ⟨_, rfl⟩
  rw [← hY] at hbY
  rw [← hY]
  have hY' := Lib.hid hY
  clear hY
  have hbY' := Lib.hid hbY
  have reY : ∀ v, ∃ x, ovr Y v = ovr W x := fun v => ovr_reB hbY v
  replace yW00 := tr_cell reY yW00
  replace yW01 := tr_cell reY yW01
  replace yW02 := tr_cell reY yW02
  replace yW03 := tr_cell reY yW03
  replace yW04 := tr_cell reY yW04
  replace yW05 := tr_cell reY yW05
  replace yW06 := tr_cell reY yW06
  replace yW07 := tr_cell reY yW07
  replace yW08 := tr_cell reY yW08
  replace RrowW0 := Lib.hid (tr_row reY RrowW0.out)
  replace yW10 := tr_cell reY yW10
  replace yW11 := tr_cell reY yW11
  replace yW12 := tr_cell reY yW12
  replace yW13 := tr_cell reY yW13
  replace RrowW1 := Lib.hid (tr_row reY RrowW1.out)
  replace yW20 := tr_cell reY yW20
  replace yW21 := tr_cell reY yW21
  replace RrowW2 := Lib.hid (tr_row reY RrowW2.out)
  have HUY : Hid (∀ u, Below w.heap.size w (ovr Y u)) := fun u => by obtain ⟨x, hx⟩ := reY u; rw [hx]; exact HUW.out x
  clear reY hbY
  refine Dl.wp_region_late 16 [] (fun j => if j = 0 then some Emp else if j = 3 then some (SlAt Y.heap.size 2 g.r.length (rR g.r)) else if j = 6 then some Emp else if j = 9 then some (SlAt Y.heap.size 2 g.z.length (rR g.z)) else if j = 10 then some Emp else if j = 13 then some (SlAt Y.heap.size 2 g.f.length (rR g.f)) else if j = 15 then some (NewAt Y #[.slice none 0 0, I 0, .slice none 0 0, .slice none 0 0] 68) else none) (by kernel_rfl) (by kernel_rfl) (by kernel_rfl) (by kernel_rfl) [15] (E := 68)
    ⟨by kernel_rfl, alloc_gro, fun j hj => by simp only [List.mem_cons, List.not_mem_nil, or_false] at hj; rcases hj with rfl; exact ⟨_, _, _, rfl⟩⟩ (by kernel_rfl) (fun i hi => by cases hi) (fun c a d v w h => by cases d <;> exact h) ?_
  simp only [List.take_succ_cons, List.take_zero, List.drop_succ_cons, List.drop_zero]
  refine Dk.wpG_make Emp rfl rfl (fun w' hw' _ => ?_) (fun u hu => ?_)
  · go_simp
    exact emp_grow w'
  obtain ⟨_, _, e1, rfl⟩ := hu
  simp only [Act.put, List.setIfInBounds_toArray, List.set_cons_zero, List.set_cons_succ]
  repeat (refine Dk.wpG_one rfl rfl rfl ?_; intro K hK; go_big_quiet_op; go_big_quiet_on)
  refine Dk.wpG_make (SlAt Y.heap.size 2 g.r.length (rR g.r)) rfl rfl (fun w' hw' _ => ?_) (fun u hu => ?_)
  · obtain ⟨x, rfl⟩ := hw'
    exact app_grow _ _ 66 rfl 111 i3 _ 2 16 Try.underlying66 hi3 jz0 jz1 jz2 rfl (by decide) e1 rfl A g.r.length a rfl (rR g.r) ((HGI.out _ (HUY.out x)).r.more (HUY.out x).size) (by have := HLL.out; omega) (by decide) (ovr_below Y x).size
  obtain ⟨_, _, A2, a2, rfl, _, _, _⟩ := hu
  simp only [Act.put, List.setIfInBounds_toArray, List.set_cons_zero, List.set_cons_succ]
  repeat (refine Dk.wpG_one rfl rfl rfl ?_; intro K hK; go_big_quiet_op; go_big_quiet_on)
  refine Dk.wpG_make Emp rfl rfl (fun w' hw' _ => ?_) (fun u hu => ?_)
  · go_simp
    exact emp_grow w'
  obtain ⟨_, _, e2, rfl⟩ := hu
  simp only [Act.put, List.setIfInBounds_toArray, List.set_cons_zero, List.set_cons_succ]
  repeat (refine Dk.wpG_one rfl rfl rfl ?_; intro K hK; go_big_quiet_op; go_big_quiet_on)
  refine Dk.wpG_make (SlAt Y.heap.size 2 g.z.length (rR g.z)) rfl rfl (fun w' hw' _ => ?_) (fun u hu => ?_)
  · obtain ⟨x, rfl⟩ := hw'
    exact app_grow _ _ 34 rfl 23 i4 _ 2 16 Try.underlying34 hi4 kz0 kz1 kz2 rfl (by decide) e2 rfl Z g.z.length c rfl (rR g.z) ((HGI.out _ (HUY.out x)).z.more (HUY.out x).size) (by have := HLL.out; omega) (by decide) (ovr_below Y x).size
  obtain ⟨_, _, Z2, c2, rfl, _, _, _⟩ := hu
  simp only [Act.put, List.setIfInBounds_toArray, List.set_cons_zero, List.set_cons_succ]
  refine Dk.wpG_make Emp rfl rfl (fun w' hw' _ => ?_) (fun u hu => ?_)
  · go_simp
    exact emp_grow w'
  obtain ⟨_, _, e3, rfl⟩ := hu
  simp only [Act.put, List.setIfInBounds_toArray, List.set_cons_zero, List.set_cons_succ]
  repeat (refine Dk.wpG_one rfl rfl rfl ?_; intro K hK; go_big_quiet_op; go_big_quiet_on)
  refine Dk.wpG_make (SlAt Y.heap.size 2 g.f.length (rR g.f)) rfl rfl (fun w' hw' _ => ?_) (fun u hu => ?_)
  · obtain ⟨x, rfl⟩ := hw'
    exact app_grow _ _ 66 rfl 111 i3 _ 2 16 Try.underlying66 hi3 jz0 jz1 jz2 rfl (by decide) e3 rfl F g.f.length d rfl (rR g.f) ((HGI.out _ (HUY.out x)).f.more (HUY.out x).size) (by have := HLL.out; omega) (by decide) (ovr_below Y x).size
  obtain ⟨_, _, F2, d2, rfl, _, _, _⟩ := hu
  simp only [Act.put, List.setIfInBounds_toArray, List.set_cons_zero, List.set_cons_succ]
  repeat (refine Dk.wpG_one rfl rfl rfl ?_; intro K hK; go_big_quiet_op; go_big_quiet_on)
  refine Dk.wpG_make (NewAt Y #[.slice none 0 0, I 0, .slice none 0 0, .slice none 0 0] 68) rfl rfl (fun w' hw' _ => ?_) (fun u hu => ?_)
  · go_simp
    exact new_grow hw'
  obtain ⟨_, _, PB, rfl, _, _⟩ := hu
  simp only [Act.put, List.setIfInBounds_toArray, List.set_cons_zero, List.set_cons_succ]
  refine Dk.wpG_nil (fun w5 hw5 hG => ?_)
  obtain ⟨F3, d3, hF, _, hrF, _⟩ := Box.now hG.1.2
  obtain ⟨Z3, c3, hZ, _, hrZ, _⟩ := Box.now hG.1.1.1.2
  obtain ⟨A3, a3, hA, _, hrA, _⟩ := Box.now hG.1.1.1.1.1.2
  injection hF with hF1 hF2 hF3
  injection hZ with hZ1 hZ2 hZ3
  injection hA with hA1 hA2 hA3
  subst hF1 hF3 hZ1 hZ3 hA1 hA3
  have hn1 := (Box.now hG.2).at
  clear hG
  refine Dl.wpTailH_cons ?_
  refine wp_store_row 68 _ _ rfl PB rfl _ _ hn1.1 #[.slice A2 g.r.length a2, I g.o, .slice Z2 g.z.length c2, .slice F2 g.f.length d2] rfl (by intro u hu; simp at hu; rcases hu with rfl | rfl | rfl | rfl <;> rfl) rfl (by kernel_rfl) ?_
  have hc1 := below_setRow hw5.le hn1.2 #[.slice A2 g.r.length a2, I g.o, .slice Z2 g.z.length c2, .slice F2 g.f.length d2]
  refine ⟨Cl.of hc1, ?_⟩
  refine Dl.wpTailH_nil ?_
  simp only [Act.put]
  have gA := rd_off hn1.1 hrA #[.slice A2 g.r.length a2, I g.o, .slice Z2 g.z.length c2, .slice F2 g.f.length d2]
  have gZ := rd_off hn1.1 hrZ #[.slice A2 g.r.length a2, I g.o, .slice Z2 g.z.length c2, .slice F2 g.f.length d2]
  have gF := rd_off hn1.1 hrF #[.slice A2 g.r.length a2, I g.o, .slice Z2 g.z.length c2, .slice F2 g.f.length d2]
  have hsz : (w5.setRow PB #[.slice A2 g.r.length a2, I g.o, .slice Z2 g.z.length c2, .slice F2 g.f.length d2]).heap.size = w5.heap.size := setRow_size _ _ _
  rw [← hsz] at gA gZ gF
  obtain ⟨X, hX⟩ : ∃ X, X = w5.setRow PB #[.slice A2 g.r.length a2, I g.o, .slice Z2 g.z.length c2, .slice F2 g.f.length d2] := ⟨_, rfl⟩
  have rp : X.heap[PB]? = some (.cells #[.slice A2 g.r.length a2, I g.o, .slice Z2 g.z.length c2, .slice F2 g.f.length d2] 68 (0, 0)) := by rw [hX]; exact setRow_same hn1.1
  have hbX : Below Y.heap.size Y X := by rw [hX]; exact hc1
  rw [← hX] at gA gZ gF
  rw [← hX]
  have HGX : Hid (GroIn X X.heap.size g A2 Z2 F2) := ⟨gA, gZ, gF, by have := HLL.out; omega, by have := HLL.out; omega, by have := HLL.out; omega⟩
  have HGV : Hid (∀ V, Below X.heap.size X V → GroIn V X.heap.size g A2 Z2 F2) := fun V hV => HGX.out.below (Nat.le_refl _) hV
  clear hX hn1 hw5 hc1 hsz gA gZ gF hrA hrZ hrF
  have reX : ∀ v, ∃ x, ovr X v = ovr Y x := fun v => ovr_reB hbX v
  replace yW00 := tr_cell reX yW00
  replace yW01 := tr_cell reX yW01
  replace yW02 := tr_cell reX yW02
  replace yW03 := tr_cell reX yW03
  replace yW04 := tr_cell reX yW04
  replace yW05 := tr_cell reX yW05
  replace yW06 := tr_cell reX yW06
  replace yW07 := tr_cell reX yW07
  replace yW08 := tr_cell reX yW08
  replace RrowW0 := Lib.hid (tr_row reX RrowW0.out)
  replace yW10 := tr_cell reX yW10
  replace yW11 := tr_cell reX yW11
  replace yW12 := tr_cell reX yW12
  replace yW13 := tr_cell reX yW13
  replace RrowW1 := Lib.hid (tr_row reX RrowW1.out)
  replace yW20 := tr_cell reX yW20
  replace yW21 := tr_cell reX yW21
  replace RrowW2 := Lib.hid (tr_row reX RrowW2.out)
  have yX00 := ovr_cell (W := X) (b := PB) (o := 0) (v := .slice A2 g.r.length a2) (by rw [cell_of_row _ _ _ _ _ _ rp]; rfl)
  have yX01 := ovr_cell (W := X) (b := PB) (o := 1) (v := I g.o) (by rw [cell_of_row _ _ _ _ _ _ rp]; rfl)
  have yX02 := ovr_cell (W := X) (b := PB) (o := 2) (v := .slice Z2 g.z.length c2) (by rw [cell_of_row _ _ _ _ _ _ rp]; rfl)
  have yX03 := ovr_cell (W := X) (b := PB) (o := 3) (v := .slice F2 g.f.length d2) (by rw [cell_of_row _ _ _ _ _ _ rp]; rfl)
  have RrowX0 := Lib.hid (ovr_row rp)
  clear rp
  have HUX : Hid (∀ u, Below w.heap.size w (ovr X u)) := fun u => by obtain ⟨x, hx⟩ := reX u; rw [hx]; exact HUY.out x
  clear reX hbX
  obtain ⟨x0, hx0⟩ := ovr_self X
  rw [hx0]
  clear hx0
  have CPR : Hid (∀ k, (ovr X x0).heap.size = k → Calls Try.prog 14 #[.agg (mdA m), .agg #[.slice A2 g.r.length a2, I g.o, .slice Z2 g.z.length c2, .slice F2 g.f.length d2], .slice (some ⟨k, 0, none⟩) 2 2] ((ovr X x0).alloc (.cells #[I c0, I c1] 3)) fun e w' => ∃ V bs n, e = .returned (.tuple #[V, I (prE m g [c0, c1])]) ∧ (prE m g [c0, c1] = 0 → n = 1) ∧ (¬ prE m g [c0, c1] = 0 → n = 0) ∧ (∃ B, Sls B m g [c0, c1] V n bs w') ∧ Below X.heap.size X w') := fun k hk => by
    subst hk
    have hr : ((ovr X x0).alloc (.cells #[I c0, I c1] 3)).heap[(ovr X x0).heap.size]? = some (.cells #[I c0, I c1] 3 (0, 0)) := heap_last _ _ _ rfl
    have hX1 : Below X.heap.size X ((ovr X x0).alloc (.cells #[I c0, I c1] 3)) := (ovr_below X x0).alloc (ovr_below X x0).size _
    have hg1 := HGV.out _ hX1
    refine (print_any m g [c0, c1] A2 Z2 F2 (some ⟨(ovr X x0).heap.size, 0, none⟩) a2 c2 d2 2 _ _ (Nat.le_refl _) ⟨hg1.r.more hX1.size, hg1.z.more hX1.size, hg1.f.more hX1.size, hg1.lr, hg1.lz, hg1.lf⟩ (rd_rowI hr rfl) (by simp)).mono ?_
    rintro e w' ⟨V, bs, n, rfl, h1, h2, hs, hb⟩
    exact ⟨V, bs, n, rfl, h1, h2, ⟨_, hs⟩, hX1.trans (hb.mono hX1.size)⟩
  obtain ⟨pe, hpe⟩ : ∃ q, prE m g [c0, c1] = q := ⟨_, rfl⟩
  rw [hpe] at CPR
  have HPE := Lib.hid hpe
  clear hpe
  go_wp2_with fail
  refine (CPR.out _ rfl).mono ?_
  rintro e X2 ⟨V, bs, n, rfl, hp1, hp2, ⟨B9, hs⟩, hb⟩
  clear CPR
  have ho := hs.own
  rw [map_flat1] at ho
  obtain ⟨A4, c4, rfl, _, _, hrl⟩ := Rd.of_own_max ho
  clear ho
  have HXX : Hid (Below X.heap.size X X2) := hb
  by_cases hp0 : pe = 0
  case neg =>
    as_aux_lemma =>
      have hn0 := hp2 hp0
      subst hn0
      have HB2 : Hid (Below w.heap.size w X2) := (below_self1 HUX.out).trans (hb.mono (below_self1 HUX.out).size)
      clear hs hrl hb hp1 hp2
      go_wp2_with fail
      refine (KN.out _).mono ?_
      rintro e w1 ⟨rfl, hb1⟩
      go_wp2_with fail
      go_ret
      exact ⟨rfl, HB2.out.trans (hb1.mono HB2.out.size)⟩
  have hn0 := hp1 hp0
  subst hn0
  subst hp0
  obtain ⟨hok, hgo, hct⟩ := pr_ok HPE.out
  have hcc := ct_two hct
  obtain ⟨b4, o4, hA4, hb4, _⟩ := hrl (by omega)
  subst hA4
  have hcl := rd_one hrl (k := 0) (by omega)
  rw [Nat.add_zero] at hcl
  have hrow := hs.row 0 (by omega)
  have HLG : Hid (∀ V, Below X2.heap.size X2 V → V.cell? ⟨b4, o4, none⟩ = some (.slice (some ⟨bs 0, 0, none⟩) g.z.length g.z.length) ∧ ∀ i, i < g.z.length → V.cell? ⟨bs 0, i, none⟩ = some (.int .u8 (slV m g ⟨c0, c1⟩ (at0 g.z i)))) := fun V hV => ⟨(hV.cell hb4).trans hcl, fun i hi => by
    have h9 := (hV.block (bs 0) (Array.getElem?_eq_some_iff.1 hrow).1).trans hrow
    rw [cell_of_row _ _ _ _ _ _ h9, slK_at m g _ hi, if_pos hi]; rfl⟩
  have HGO := Lib.hid (okGro_ok hgo)
  have HOK := Lib.hid hok
  have HCC := Lib.hid hcc
  clear hs hrl hp1 hp2 hok hgo hct hcc hb4 hcl hrow
  have reX2 : ∀ v, ∃ x, ovr X2 v = ovr X x := fun v => ovr_reB hb v
  replace yW00 := tr_cell reX2 yW00
  replace yW01 := tr_cell reX2 yW01
  replace yW02 := tr_cell reX2 yW02
  replace yW03 := tr_cell reX2 yW03
  replace yW04 := tr_cell reX2 yW04
  replace yW05 := tr_cell reX2 yW05
  replace yW06 := tr_cell reX2 yW06
  replace yW07 := tr_cell reX2 yW07
  replace yW08 := tr_cell reX2 yW08
  replace RrowW0 := Lib.hid (tr_row reX2 RrowW0.out)
  replace yW10 := tr_cell reX2 yW10
  replace yW11 := tr_cell reX2 yW11
  replace yW12 := tr_cell reX2 yW12
  replace yW13 := tr_cell reX2 yW13
  replace RrowW1 := Lib.hid (tr_row reX2 RrowW1.out)
  replace yW20 := tr_cell reX2 yW20
  replace yW21 := tr_cell reX2 yW21
  replace RrowW2 := Lib.hid (tr_row reX2 RrowW2.out)
  replace yX00 := tr_cell reX2 yX00
  replace yX01 := tr_cell reX2 yX01
  replace yX02 := tr_cell reX2 yX02
  replace yX03 := tr_cell reX2 yX03
  replace RrowX0 := Lib.hid (tr_row reX2 RrowX0.out)
  have HUX2 : Hid (∀ u, Below w.heap.size w (ovr X2 u)) := fun u => by obtain ⟨x, hx⟩ := reX2 u; rw [hx]; exact HUX.out x
  clear reX2 hb
  have hvr := HGO.out.va_r (x := ⟨c0, c1⟩) HCC.out
  have hvf := HGO.out.va_f (x := ⟨c0, c1⟩) HCC.out
  have PL : Hid (∀ j, j < g.z.length → PlOk m (rtF g ⟨c0, c1⟩) (gdF g ⟨c0, c1⟩ (at0 g.z j))) := fun j hj => HGO.out.pl HOK.out HCC.out hj
  have TM : Hid (∀ j, j < g.z.length → ∃ p, tmF (at0 g.z j) (vaF g.f ⟨c0, c1⟩).1 10000 = (p, 0)) := fun j hj => ⟨_, tm_pos (spanB_iff.1 (HGO.out.z j hj)) hvf.2⟩
  have hrt : Hid (rtF g ⟨c0, c1⟩ = insF ⟨(vaF g.r ⟨c0, c1⟩).1.lo - g.o, (vaF g.r ⟨c0, c1⟩).1.hi + g.o⟩ 0 1000000) := rfl
  have hgd : Hid (∀ z, gdF g ⟨c0, c1⟩ z = insF (tmF z (vaF g.f ⟨c0, c1⟩).1 10000).1 1 1000000) := fun z => rfl
  have CV1 : Hid (∀ V, Below X.heap.size X V → Calls Try.prog 15 #[.slice A2 g.r.length a2, .agg #[I c0, I c1]] V (RetRn V (vaF g.r ⟨c0, c1⟩))) := fun V hV => value2_any A2 g.r.length a2 g.r ⟨c0, c1⟩ V X.heap.size rfl (by have := HLL.out; unfold maxLen; omega) hV.size (HGV.out V hV).r
  have CV2 : Hid (∀ V, Below X.heap.size X V → Calls Try.prog 15 #[.slice F2 g.f.length d2, .agg #[I c0, I c1]] V (RetRn V (vaF g.f ⟨c0, c1⟩))) := fun V hV => value2_any F2 g.f.length d2 g.f ⟨c0, c1⟩ V X.heap.size rfl (by have := HLL.out; unfold maxLen; omega) hV.size (HGV.out V hV).f
  obtain ⟨⟨vl, vh⟩, hvre⟩ : ∃ r, (vaF g.r ⟨c0, c1⟩).1 = r := ⟨_, rfl⟩
  obtain ⟨⟨fl, fh⟩, hvfe⟩ : ∃ r, (vaF g.f ⟨c0, c1⟩).1 = r := ⟨_, rfl⟩
  have v1e : vaF g.r ⟨c0, c1⟩ = (⟨vl, vh⟩, 0) := by rw [← hvre]; have := congrArg Prod.snd hvr.1; exact Prod.ext rfl this
  have v2e : vaF g.f ⟨c0, c1⟩ = (⟨fl, fh⟩, 0) := by rw [← hvfe]; have := congrArg Prod.snd hvf.1; exact Prod.ext rfl this
  have hvb := hvr.2
  rw [v1e] at CV1 hvb hrt
  rw [v2e] at CV2 hgd TM
  simp only at hvb
  have HVB := Lib.hid hvb
  clear hvr hvf hvre hvfe v1e v2e hvb
  have HX2u : Hid (∀ u, Below X.heap.size X (ovr X2 u)) := fun u => HXX.out.trans ((ovr_below X2 u).mono HXX.out.size)
  obtain ⟨x2, hx2⟩ := ovr_self X2
  rw [hx2]
  clear hx2
  go_upto_region 8 with fail
  obtain ⟨X3, hX3⟩ : ∃ X3, X3 = ((ovr X2 x2).alloc (.cells #[I c0, I c1] 23)) := ⟨_, rfl⟩
  have reX3 : ∀ v, ∃ x, ovr X3 v = ovr X2 x := fun v => ovr_re1 hX3
  replace yW00 := tr_cell reX3 yW00
  replace yW01 := tr_cell reX3 yW01
  replace yW02 := tr_cell reX3 yW02
  replace yW03 := tr_cell reX3 yW03
  replace yW04 := tr_cell reX3 yW04
  replace yW05 := tr_cell reX3 yW05
  replace yW06 := tr_cell reX3 yW06
  replace yW07 := tr_cell reX3 yW07
  replace yW08 := tr_cell reX3 yW08
  replace RrowW0 := Lib.hid (tr_row reX3 RrowW0.out)
  replace yW10 := tr_cell reX3 yW10
  replace yW11 := tr_cell reX3 yW11
  replace yW12 := tr_cell reX3 yW12
  replace yW13 := tr_cell reX3 yW13
  replace RrowW1 := Lib.hid (tr_row reX3 RrowW1.out)
  replace yW20 := tr_cell reX3 yW20
  replace yW21 := tr_cell reX3 yW21
  replace RrowW2 := Lib.hid (tr_row reX3 RrowW2.out)
  replace yX00 := tr_cell reX3 yX00
  replace yX01 := tr_cell reX3 yX01
  replace yX02 := tr_cell reX3 yX02
  replace yX03 := tr_cell reX3 yX03
  replace RrowX0 := Lib.hid (tr_row reX3 RrowX0.out)
  have rowX30 : X3.heap[(ovr X2 x2).heap.size]? = some (.cells #[I c0, I c1] 23 (0, 0)) := by rw [hX3]; exact heap_last _ _ _ rfl
  have yX300 := ovr_cell (W := X3) (b := (ovr X2 x2).heap.size) (o := 0) (v := I c0) (by rw [cell_of_row _ _ _ _ _ _ rowX30]; rfl)
  have yX301 := ovr_cell (W := X3) (b := (ovr X2 x2).heap.size) (o := 1) (v := I c1) (by rw [cell_of_row _ _ _ _ _ _ rowX30]; rfl)
  have RrowX30 := Lib.hid (ovr_row rowX30)
  clear rowX30
  have HBX3 : Hid (∀ u, Below X2.heap.size X2 (ovr X3 u)) := fun u => by obtain ⟨x, hx⟩ := reX3 u; rw [hx]; exact ovr_below _ _
  have HUX3 : Hid (∀ u, Below w.heap.size w (ovr X3 u)) := fun u => by obtain ⟨x, hx⟩ := reX3 u; rw [hx]; exact HUX2.out x
  clear reX3
  have HX3 := Lib.hid hX3
  clear hX3
  have HX3u : Hid (∀ u, Below X.heap.size X (ovr X3 u)) := below_chain HX2u.out HBX3.out
  rw [← HX3.out]
  obtain ⟨x3, hx3⟩ := ovr_self X3
  rw [hx3]
  clear hx3
  go_wp2_with fail
  refine (CV1.out _ (HX3u.out _)).mono ?_
  rintro e w1 ⟨rfl, hb1⟩
  obtain ⟨x4, rfl⟩ := ovr_next hb1
  clear hb1
  go_upto_region 9 with fail
  obtain ⟨X4, hX4⟩ : ∃ X4, X4 = ((ovr X3 x4).alloc (.cells #[I vl, I vh] 23)) := ⟨_, rfl⟩
  have reX4 : ∀ v, ∃ x, ovr X4 v = ovr X3 x := fun v => ovr_re1 hX4
  replace yW00 := tr_cell reX4 yW00
  replace yW01 := tr_cell reX4 yW01
  replace yW02 := tr_cell reX4 yW02
  replace yW03 := tr_cell reX4 yW03
  replace yW04 := tr_cell reX4 yW04
  replace yW05 := tr_cell reX4 yW05
  replace yW06 := tr_cell reX4 yW06
  replace yW07 := tr_cell reX4 yW07
  replace yW08 := tr_cell reX4 yW08
  replace RrowW0 := Lib.hid (tr_row reX4 RrowW0.out)
  replace yW10 := tr_cell reX4 yW10
  replace yW11 := tr_cell reX4 yW11
  replace yW12 := tr_cell reX4 yW12
  replace yW13 := tr_cell reX4 yW13
  replace RrowW1 := Lib.hid (tr_row reX4 RrowW1.out)
  replace yW20 := tr_cell reX4 yW20
  replace yW21 := tr_cell reX4 yW21
  replace RrowW2 := Lib.hid (tr_row reX4 RrowW2.out)
  replace yX00 := tr_cell reX4 yX00
  replace yX01 := tr_cell reX4 yX01
  replace yX02 := tr_cell reX4 yX02
  replace yX03 := tr_cell reX4 yX03
  replace RrowX0 := Lib.hid (tr_row reX4 RrowX0.out)
  replace yX300 := tr_cell reX4 yX300
  replace yX301 := tr_cell reX4 yX301
  replace RrowX30 := Lib.hid (tr_row reX4 RrowX30.out)
  have rowX40 : X4.heap[(ovr X3 x4).heap.size]? = some (.cells #[I vl, I vh] 23 (0, 0)) := by rw [hX4]; exact heap_last _ _ _ rfl
  have yX400 := ovr_cell (W := X4) (b := (ovr X3 x4).heap.size) (o := 0) (v := I vl) (by rw [cell_of_row _ _ _ _ _ _ rowX40]; rfl)
  have yX401 := ovr_cell (W := X4) (b := (ovr X3 x4).heap.size) (o := 1) (v := I vh) (by rw [cell_of_row _ _ _ _ _ _ rowX40]; rfl)
  have RrowX40 := Lib.hid (ovr_row rowX40)
  clear rowX40
  have HBX4 : Hid (∀ u, Below X3.heap.size X3 (ovr X4 u)) := fun u => by obtain ⟨x, hx⟩ := reX4 u; rw [hx]; exact ovr_below _ _
  have HUX4 : Hid (∀ u, Below w.heap.size w (ovr X4 u)) := fun u => by obtain ⟨x, hx⟩ := reX4 u; rw [hx]; exact HUX3.out x
  clear reX4
  have HX4 := Lib.hid hX4
  clear hX4
  have HX4u : Hid (∀ u, Below X.heap.size X (ovr X4 u)) := below_chain HX3u.out HBX4.out
  rw [← HX4.out]
  obtain ⟨x5, hx5⟩ := ovr_self X4
  rw [hx5]
  clear hx5
  go_wp2_with fail
  refine (CV2.out _ (HX4u.out _)).mono ?_
  rintro e w1 ⟨rfl, hb1⟩
  obtain ⟨x6, rfl⟩ := ovr_next hb1
  clear hb1
  go_upto_region 10 with fail
  obtain ⟨X5, hX5⟩ : ∃ X5, X5 = ((ovr X4 x6).alloc (.cells #[I fl, I fh] 23)) := ⟨_, rfl⟩
  have reX5 : ∀ v, ∃ x, ovr X5 v = ovr X4 x := fun v => ovr_re1 hX5
  replace yW00 := tr_cell reX5 yW00
  replace yW01 := tr_cell reX5 yW01
  replace yW02 := tr_cell reX5 yW02
  replace yW03 := tr_cell reX5 yW03
  replace yW04 := tr_cell reX5 yW04
  replace yW05 := tr_cell reX5 yW05
  replace yW06 := tr_cell reX5 yW06
  replace yW07 := tr_cell reX5 yW07
  replace yW08 := tr_cell reX5 yW08
  replace RrowW0 := Lib.hid (tr_row reX5 RrowW0.out)
  replace yW10 := tr_cell reX5 yW10
  replace yW11 := tr_cell reX5 yW11
  replace yW12 := tr_cell reX5 yW12
  replace yW13 := tr_cell reX5 yW13
  replace RrowW1 := Lib.hid (tr_row reX5 RrowW1.out)
  replace yW20 := tr_cell reX5 yW20
  replace yW21 := tr_cell reX5 yW21
  replace RrowW2 := Lib.hid (tr_row reX5 RrowW2.out)
  replace yX00 := tr_cell reX5 yX00
  replace yX01 := tr_cell reX5 yX01
  replace yX02 := tr_cell reX5 yX02
  replace yX03 := tr_cell reX5 yX03
  replace RrowX0 := Lib.hid (tr_row reX5 RrowX0.out)
  replace yX300 := tr_cell reX5 yX300
  replace yX301 := tr_cell reX5 yX301
  replace RrowX30 := Lib.hid (tr_row reX5 RrowX30.out)
  replace yX400 := tr_cell reX5 yX400
  replace yX401 := tr_cell reX5 yX401
  replace RrowX40 := Lib.hid (tr_row reX5 RrowX40.out)
  have rowX50 : X5.heap[(ovr X4 x6).heap.size]? = some (.cells #[I fl, I fh] 23 (0, 0)) := by rw [hX5]; exact heap_last _ _ _ rfl
  have yX500 := ovr_cell (W := X5) (b := (ovr X4 x6).heap.size) (o := 0) (v := I fl) (by rw [cell_of_row _ _ _ _ _ _ rowX50]; rfl)
  have yX501 := ovr_cell (W := X5) (b := (ovr X4 x6).heap.size) (o := 1) (v := I fh) (by rw [cell_of_row _ _ _ _ _ _ rowX50]; rfl)
  have RrowX50 := Lib.hid (ovr_row rowX50)
  clear rowX50
  have HBX5 : Hid (∀ u, Below X4.heap.size X4 (ovr X5 u)) := fun u => by obtain ⟨x, hx⟩ := reX5 u; rw [hx]; exact ovr_below _ _
  have HUX5 : Hid (∀ u, Below w.heap.size w (ovr X5 u)) := fun u => by obtain ⟨x, hx⟩ := reX5 u; rw [hx]; exact HUX4.out x
  clear reX5
  have HX5 := Lib.hid hX5
  clear hX5
  have H25 : Hid (∀ u, Below X2.heap.size X2 (ovr X5 u)) := below_chain (below_chain HBX3.out HBX4.out) HBX5.out
  rw [← HX5.out]
  have c1' := ovr_cell (HLG.out X5 (below_self H25.out)).1
  refine wp_region_below_lit (by kernel_rfl) (by kernel_rfl) ?_
  repeat (go_big_quiet_step (fail))
  refine wpQuiet_nil ?_
  intro Y3 hY3
  obtain ⟨y3, rfl⟩ : ∃ u, Y3 = ovr X5 u := ⟨Y3, ovr_of hY3⟩
  clear hY3 c1'
  obtain ⟨bz, oz, hZZ, _, _, _⟩ := (HGI.out _ (HUX5.out y3)).z.rng (k := 0) HGO.out.z1
  subst hZZ
  obtain ⟨⟨rl, rh⟩, hR⟩ : ∃ r, rtF g ⟨c0, c1⟩ = r := ⟨_, rfl⟩
  have HRE := Lib.hid hR
  rw [hR] at PL hrt
  have kv1 : IntKind.i64.wrap (vl - g.o) = vl - g.o := IntWalk.i64_in _ (by have := HVB.out; have := HGO.out.o; omega)
  have kv2 : IntKind.i64.wrap (vh + g.o) = vh + g.o := IntWalk.i64_in _ (by have := HVB.out; have := HGO.out.o; omega)
  have CI : Hid (∀ V, Calls Try.prog 17 #[.agg #[I (vl - g.o), I (vh + g.o)], I 0, I 1000000] V fun e w' => e = .returned (.agg #[I rl, I rh]) ∧ Below V.heap.size V w') := fun V => by
    have := clipped_any ⟨vl - g.o, vh + g.o⟩ 0 1000000 (by omega) V
    rw [← hrt.out] at this
    exact this
  clear hR
  go_wp2_with fail
  go_loopw [14] (fun i wr => ∃ (n : Nat) (x : World), n ≤ g.z.length ∧ i = .int .i64 n ∧ wr = ovr X5 x) (fun i _ => g.z.length - (intOf i).toNat)
  case atStart => exact ⟨0, y3, by omega, rfl, rfl⟩
  case round =>
    as_aux_lemma =>
      obtain ⟨n, x, hnl, rfl, rfl⟩ := hrel
      have hn20 : n ≤ 20 := by have := HGO.out.z2; omega
      by_cases hlt : n < g.z.length
      · have HLT := Lib.hid hlt
        obtain ⟨⟨zl, zh⟩, hzz⟩ : ∃ z, at0 g.z n = z := ⟨_, rfl⟩
        have TMK := TM.out n hlt
        have PLK := Lib.hid (PL.out n hlt)
        rw [hzz] at TMK PLK
        obtain ⟨⟨pl, ph⟩, hp⟩ := TMK
        have GD := hgd.out ⟨zl, zh⟩
        rw [hp] at GD
        have HZZ := Lib.hid hzz
        have CT : Hid (∀ V, Calls Try.prog 16 #[.agg #[I zl, I zh], .agg #[I fl, I fh], I 10000] V fun e w' => e = .returned (.tuple #[.agg #[I pl, I ph], I 0]) ∧ Below V.heap.size V w') := fun V => by
          have := times_any ⟨zl, zh⟩ ⟨fl, fh⟩ 10000 V
          rw [hp] at this
          exact this
        clear hp hzz
        go_upto_region 15 with fail
        have hbQ := ovr_below X5 x
        obtain ⟨Q, hQ⟩ : ∃ Q, Q = ovr X5 x := ⟨_, rfl⟩
        rw [← hQ] at hbQ
        rw [← hQ]
        have hQ' := Lib.hid hQ
        clear hQ
        have hbQ' := Lib.hid hbQ
        have reQ : ∀ v, ∃ x, ovr Q v = ovr X5 x := fun v => ovr_reB hbQ v
        replace yW00 := tr_cell reQ yW00
        replace yW01 := tr_cell reQ yW01
        replace yW02 := tr_cell reQ yW02
        replace yW03 := tr_cell reQ yW03
        replace yW04 := tr_cell reQ yW04
        replace yW05 := tr_cell reQ yW05
        replace yW06 := tr_cell reQ yW06
        replace yW07 := tr_cell reQ yW07
        replace yW08 := tr_cell reQ yW08
        replace RrowW0 := Lib.hid (tr_row reQ RrowW0.out)
        replace yW10 := tr_cell reQ yW10
        replace yW11 := tr_cell reQ yW11
        replace yW12 := tr_cell reQ yW12
        replace yW13 := tr_cell reQ yW13
        replace RrowW1 := Lib.hid (tr_row reQ RrowW1.out)
        replace yW20 := tr_cell reQ yW20
        replace yW21 := tr_cell reQ yW21
        replace RrowW2 := Lib.hid (tr_row reQ RrowW2.out)
        replace yX00 := tr_cell reQ yX00
        replace yX01 := tr_cell reQ yX01
        replace yX02 := tr_cell reQ yX02
        replace yX03 := tr_cell reQ yX03
        replace RrowX0 := Lib.hid (tr_row reQ RrowX0.out)
        replace yX300 := tr_cell reQ yX300
        replace yX301 := tr_cell reQ yX301
        replace RrowX30 := Lib.hid (tr_row reQ RrowX30.out)
        replace yX400 := tr_cell reQ yX400
        replace yX401 := tr_cell reQ yX401
        replace RrowX40 := Lib.hid (tr_row reQ RrowX40.out)
        replace yX500 := tr_cell reQ yX500
        replace yX501 := tr_cell reQ yX501
        replace RrowX50 := Lib.hid (tr_row reQ RrowX50.out)
        have HUQ : Hid (∀ u, Below w.heap.size w (ovr Q u)) := fun u => by obtain ⟨x, hx⟩ := reQ u; rw [hx]; exact HUX5.out x
        clear reQ hbQ
        have H5Q := Lib.hid hbQ'.out
        obtain ⟨e0, e1⟩ := rd_at2 (HGI.out Q (below_self1 HUQ.out)).z hlt
        rw [HZZ.out] at e0 e1
        have z0 := ovr_cell e0
        have z1 := ovr_cell e1
        clear e0 e1
        refine Dl.wp_region_late 11 [9] (fun j => if j = 6 then some (fun u _ => u = .tuple #[.agg #[I pl, I ph], I 0]) else if j = 10 then some (NewAt Q #[I 0, I 0] 23) else none) (by kernel_rfl) (by kernel_rfl) (by kernel_rfl) (by kernel_rfl) [10] (E := 23)
          ⟨by kernel_rfl, alloc_rng, fun j hj => by simp only [List.mem_cons, List.not_mem_nil, or_false] at hj; rcases hj with rfl; exact ⟨_, _, _, rfl⟩⟩ (by kernel_rfl) (fun i hi => by simp only [List.mem_cons, List.not_mem_nil, or_false] at hi; rcases hi with rfl; rfl) (fun c a d v w h => by cases d <;> exact h) ?_
        simp only [List.take_succ_cons, List.take_zero, List.drop_succ_cons, List.drop_zero]
        repeat (refine Dk.wpG_one rfl rfl rfl ?_; intro K hK; go_big_quiet_op; go_big_quiet_on)
        refine Dk.wpG_make (fun u _ => u = .tuple #[.agg #[I pl, I ph], I 0]) rfl rfl (fun w' hw' _ => ?_) (fun u hu => ?_)
        · go_simp
          exact call_grow (CT.out w')
        obtain ⟨_, _, rfl⟩ := hu
        simp only [Act.put, List.setIfInBounds_toArray, List.set_cons_zero, List.set_cons_succ]
        repeat (refine Dk.wpG_one rfl rfl rfl ?_; intro K hK; go_big_quiet_op; go_big_quiet_on)
        refine Dk.wpG_make (NewAt Q #[I 0, I 0] 23) rfl rfl (fun w' hw' _ => ?_) (fun u hu => ?_)
        · go_simp
          exact new_grow hw'
        obtain ⟨_, _, PC, rfl, _, _⟩ := hu
        simp only [Act.put, List.setIfInBounds_toArray, List.set_cons_zero, List.set_cons_succ]
        refine Dk.wpG_nil (fun w5 hw5 hG => ?_)
        have hn1 := (Box.now hG.2).at
        clear hG
        refine Dl.wpTailH_cons ?_
        refine wp_store_row 23 _ _ rfl PC rfl _ _ hn1.1 #[I pl, I ph] rfl (one2 rfl rfl) rfl (by kernel_rfl) ?_
        have hc1 := below_setRow hw5.le hn1.2 #[I pl, I ph]
        refine ⟨Cl.of hc1, ?_⟩
        refine Dl.wpTailH_cons (wp_assign _ (I 0) rfl rfl ⟨Cl.of hc1, ?_⟩)
        refine Dl.wpTailH_nil ?_
        simp only [Act.put, List.setIfInBounds_toArray, List.set_cons_zero, List.set_cons_succ]
        obtain ⟨WV, hWV⟩ : ∃ WV, WV = w5.setRow PC #[I pl, I ph] := ⟨_, rfl⟩
        have rp : WV.heap[PC]? = some (.cells #[I pl, I ph] 23 (0, 0)) := by rw [hWV]; exact setRow_same hn1.1
        have hbWV : Below Q.heap.size Q WV := by rw [hWV]; exact hc1
        have H5V : Hid (Below X5.heap.size X5 WV) := H5Q.out.trans (hbWV.mono H5Q.out.size)
        rw [← hWV]
        clear hWV hn1 hw5 hc1 z0 z1
        have reWV : ∀ v, ∃ x, ovr WV v = ovr Q x := fun v => ovr_reB hbWV v
        replace yW00 := tr_cell reWV yW00
        replace yW01 := tr_cell reWV yW01
        replace yW02 := tr_cell reWV yW02
        replace yW03 := tr_cell reWV yW03
        replace yW04 := tr_cell reWV yW04
        replace yW05 := tr_cell reWV yW05
        replace yW06 := tr_cell reWV yW06
        replace yW07 := tr_cell reWV yW07
        replace yW08 := tr_cell reWV yW08
        replace RrowW0 := Lib.hid (tr_row reWV RrowW0.out)
        replace yW10 := tr_cell reWV yW10
        replace yW11 := tr_cell reWV yW11
        replace yW12 := tr_cell reWV yW12
        replace yW13 := tr_cell reWV yW13
        replace RrowW1 := Lib.hid (tr_row reWV RrowW1.out)
        replace yW20 := tr_cell reWV yW20
        replace yW21 := tr_cell reWV yW21
        replace RrowW2 := Lib.hid (tr_row reWV RrowW2.out)
        replace yX00 := tr_cell reWV yX00
        replace yX01 := tr_cell reWV yX01
        replace yX02 := tr_cell reWV yX02
        replace yX03 := tr_cell reWV yX03
        replace RrowX0 := Lib.hid (tr_row reWV RrowX0.out)
        replace yX300 := tr_cell reWV yX300
        replace yX301 := tr_cell reWV yX301
        replace RrowX30 := Lib.hid (tr_row reWV RrowX30.out)
        replace yX400 := tr_cell reWV yX400
        replace yX401 := tr_cell reWV yX401
        replace RrowX40 := Lib.hid (tr_row reWV RrowX40.out)
        replace yX500 := tr_cell reWV yX500
        replace yX501 := tr_cell reWV yX501
        replace RrowX50 := Lib.hid (tr_row reWV RrowX50.out)
        have yWV00 := ovr_cell (W := WV) (b := PC) (o := 0) (v := I pl) (by rw [cell_of_row _ _ _ _ _ _ rp]; rfl)
        have yWV01 := ovr_cell (W := WV) (b := PC) (o := 1) (v := I ph) (by rw [cell_of_row _ _ _ _ _ _ rp]; rfl)
        have RrowWV0 := Lib.hid (ovr_row rp)
        clear rp
        have HUWV : Hid (∀ u, Below w.heap.size w (ovr WV u)) := fun u => by obtain ⟨x, hx⟩ := reWV u; rw [hx]; exact HUQ.out x
        clear reWV hbWV
        obtain ⟨⟨gl, gh⟩, hG⟩ : ∃ r, gdF g ⟨c0, c1⟩ ⟨zl, zh⟩ = r := ⟨_, rfl⟩
        have hsv : slV m g ⟨c0, c1⟩ (at0 g.z n) = regK (posB m ⟨rl, rh⟩ ⟨gl, gh⟩) 5 := by rw [HZZ.out]; unfold slV; rw [HRE.out, hG]
        rw [hG] at PLK GD
        have CI2 : Hid (∀ V, Calls Try.prog 17 #[.agg #[I pl, I ph], I 1, I 1000000] V fun e w' => e = .returned (.agg #[I gl, I gh]) ∧ Below V.heap.size V w') := fun V => by
          have := clipped_any ⟨pl, ph⟩ 1 1000000 (by omega) V
          rw [← GD] at this
          exact this
        have CR : Hid (∀ V, Calls Try.prog 12 #[.agg (mdA m), .agg #[I rl, I rh], .agg #[I gl, I gh]] V fun e w' => e = .returned (.tuple #[.int .u8 (regK (posB m ⟨rl, rh⟩ ⟨gl, gh⟩) 5), I 0]) ∧ Below V.heap.size V w') := fun V => by
          have h9 := regionsX_any m ⟨rl, rh⟩ ⟨gl, gh⟩ V
          unfold rgsF at h9
          rw [HOK.out, PLK.out.r, PLK.out.g] at h9
          exact h9
        obtain ⟨q, hq⟩ : ∃ q, regK (posB m ⟨rl, rh⟩ ⟨gl, gh⟩) 5 = q := ⟨_, rfl⟩
        rw [hq] at CR hsv
        have HSV := Lib.hid hsv
        clear hq hsv hG GD
        go_upto_region 16 with fail
        refine Dl.wp_region_late 19 [18] (fun j => if j = 12 then some (fun u _ => u = .agg #[I rl, I rh]) else if j = 14 then some (fun u _ => u = .agg #[I gl, I gh]) else if j = 15 then some (fun u _ => u = .tuple #[.int .u8 q, I 0]) else none) (by kernel_rfl) (by kernel_rfl) (by kernel_rfl) (by kernel_rfl) [] (E := 23)
          ⟨by kernel_rfl, alloc_rng, fun j hj => by cases hj⟩ (by kernel_rfl) (fun i hi => by simp only [List.mem_cons, List.not_mem_nil, or_false] at hi; rcases hi with rfl; rfl) (fun c a d v w h => by cases d <;> exact h) ?_
        simp only [List.take_succ_cons, List.take_zero, List.drop_succ_cons, List.drop_zero]
        repeat (refine Dk.wpG_one rfl rfl rfl ?_; intro K hK; go_big_quiet_op; go_big_quiet_on)
        refine Dk.wpG_make (fun u _ => u = .agg #[I rl, I rh]) rfl rfl (fun w' hw' _ => ?_) (fun u hu => ?_)
        · go_simp
          exact call_grow (CI.out w')
        obtain ⟨_, _, rfl⟩ := hu
        simp only [Act.put, List.setIfInBounds_toArray, List.set_cons_zero, List.set_cons_succ]
        repeat (refine Dk.wpG_one rfl rfl rfl ?_; intro K hK; go_big_quiet_op; go_big_quiet_on)
        refine Dk.wpG_make (fun u _ => u = .agg #[I gl, I gh]) rfl rfl (fun w' hw' _ => ?_) (fun u hu => ?_)
        · go_simp
          exact call_grow (CI2.out w')
        obtain ⟨_, _, rfl⟩ := hu
        simp only [Act.put, List.setIfInBounds_toArray, List.set_cons_zero, List.set_cons_succ]
        refine Dk.wpG_make (fun u _ => u = .tuple #[.int .u8 q, I 0]) rfl rfl (fun w' hw' _ => ?_) (fun u hu => ?_)
        · go_simp
          exact call_grow (CR.out w')
        obtain ⟨_, _, rfl⟩ := hu
        simp only [Act.put, List.setIfInBounds_toArray, List.set_cons_zero, List.set_cons_succ]
        repeat (refine Dk.wpG_one rfl rfl rfl ?_; intro K hK; go_big_quiet_op; go_big_quiet_on)
        refine Dk.wpG_nil (fun w5 hw5 _ => ?_)
        refine Dl.wpTailH_cons (wp_assign _ (.int .u8 q) rfl rfl ⟨hw5, ?_⟩)
        refine Dl.wpTailH_cons (wp_assign _ (I 0) rfl rfl ⟨hw5, ?_⟩)
        refine Dl.wpTailH_nil ?_
        simp only [Act.put, List.setIfInBounds_toArray, List.set_cons_zero, List.set_cons_succ]
        obtain ⟨x7, rfl⟩ := hw5
        have H5W : Hid (Below X5.heap.size X5 (ovr WV x7)) := H5V.out.trans ((ovr_below WV x7).mono H5V.out.size)
        obtain ⟨m1, m2⟩ := HLG.out (ovr WV x7) ((below_self H25.out).trans (H5W.out.mono (below_self H25.out).size))
        have m3 := m2 n hlt
        rw [HSV.out] at m3
        clear m2
        go_wp2_with fail
        exact ⟨⟨n + 1, _, HLT.out, rfl, ovr_of H5W.out⟩, by have := HLT.out; simp [intOf]; omega⟩
      · skip
        go_wp2_with fail
        refine (KN.out _).mono ?_
        rintro e w1 ⟨rfl, hb1⟩
        obtain ⟨uk, rfl⟩ := ovr_next hb1
        clear hb1
        go_wp2_with fail
        go_ret
        exact ⟨rfl, HUX5.out _⟩
end Go.Proofs.Ytliddmhifnigdaa.Un
