/- The law DefectSlices: its walk. -/
import Derived.Test.YteibgenkklpoaaaDq
import Derived.Test.YteibgenkklpoaaaDl
import Derived.Test.YteibgenkklpoaaaDn2
import Derived.Test.YteibgenkklpoaaaDt2
import Derived.Test.YteibgenkklpoaaaWh3
namespace Go.Proofs.Yteibgenkklpoaaa.Un
open Go.RowKit
/-- A look: three places, a truth, what is wanted. -/
abbrev lkA (p0 p1 p2 : Int) (t : Nat → Int) (tr tg wn : Int) : Array Value := #[.int .u16 p0, .int .u16 p1, .int .u16 p2, .int .u16 (t 0), .int .u16 (t 1), .int .u16 (t 2), .int .u16 (t 3), .int .u16 tr, .int .u16 tg, .int .u8 wn]
/-- The answer of Usable, for a growth that is valid. -/
def UsO (l : List Rng) (V : Value) (w : World) : Prop := ∃ A c, V = .tuple #[.slice A l.length c, I 0] ∧ Rd w w.heap.size 2 A l.length (rR l)
theorem us_growO {P : Program} {f : FuncId} {args : Array Value} {w : World} {m : Mdl} {g : Gro} {v : Int} (h0 : usE m g v = 0) (h : Calls P f args w (RetU m g v w)) : Calls P f args w fun e w' => ∃ V, e = .returned V ∧ Le w w' ∧ Box (UsO (usF m g v)) V w' :=
  h.mono fun _ _ ⟨V, l, he, h1, _, ho, hb⟩ => by
    obtain ⟨A, c, rfl, _, hrd⟩ := Rd.of_rc rfl ho
    have := h1 h0
    subst this
    rw [h0] at he
    exact ⟨_, he, hb, fun _ hl => ⟨A, c, rfl, (hrd.below hl).more hl.size⟩⟩
theorem UsO.same {l : List Rng} {A : Option Addr} {n c : Nat} {e : Int} {w : World} (h : UsO l (.tuple #[.slice A n c, I e]) w) : Rd w w.heap.size 2 A l.length (rR l) := by
  obtain ⟨A', c', he, hr⟩ := h
  injection he with he
  simp at he
  obtain ⟨⟨rfl, _, _⟩, _⟩ := he
  exact hr
theorem slL_at (m : Mdl) (g : Gro) (x : Rng) {n : Nat} (hn : n < g.z.length) : at0 (slL m g x) n = slV m g x (at0 g.z n) := by
  unfold slL
  rw [at0_get (show n < (g.z.map (slV m g x)).length by simpa using hn), List.getElem_map, at0_get hn]
set_option maxRecDepth 100000 in
set_option maxHeartbeats 16000000 in
theorem defectSlices_any (m : Mdl) (g : Gro) (A Z F : Option Addr) (a c d : Nat) (p0 p1 p2 : Int) (t : Nat → Int) (tr tg wn : Int) (w : World) (hg : GroRd w w.heap.size g A Z F) (hp : (0 ≤ p0 ∧ p0 ≤ 65535) ∧ (0 ≤ p1 ∧ p1 ≤ 65535) ∧ (0 ≤ p2 ∧ p2 ≤ 65535)) (ht : TtOk t tr tg) (hwn : 0 ≤ wn ∧ wn ≤ 255) :
    Calls Try.prog 9 #[.agg (mdA m), .agg (grA g A Z F a c d), .agg (lkA p0 p1 p2 t tr tg wn)] w fun e w' => e = .returned (.bool true) ∧ Below w.heap.size w w' := by
  have KN := Lib.hid known_any
  have CWD : Hid (∀ V, Calls Try.prog 30 #[.agg (grA g A Z F a c d)] V fun e w' => e = .returned (.bool (wdB g)) ∧ Below V.heap.size V w') := fun V => wide_any g A Z F a c d V
  have HP := Lib.hid hp
  have HT := Lib.hid ht
  have HWN := Lib.hid hwn
  clear hp ht hwn
  obtain ⟨W, hW⟩ : ∃ W, W = (((w.alloc (.cells #[I m.sc, I (m.b 0).lo, I (m.b 0).hi, I (m.b 1).lo, I (m.b 1).hi, I (m.b 2).lo, I (m.b 2).hi, I (m.b 3).lo, I (m.b 3).hi] 26)).alloc (.cells #[.slice A g.r.length a, I g.o, .slice Z g.z.length c, .slice F g.f.length d] 77)).alloc (.cells #[.int .u16 p0, .int .u16 p1, .int .u16 p2, .int .u16 (t 0), .int .u16 (t 1), .int .u16 (t 2), .int .u16 (t 3), .int .u16 tr, .int .u16 tg, .int .u8 wn] 80)) := ⟨_, rfl⟩
  have rowW0 : W.heap[w.heap.size]? = some (.cells #[I m.sc, I (m.b 0).lo, I (m.b 0).hi, I (m.b 1).lo, I (m.b 1).hi, I (m.b 2).lo, I (m.b 2).hi, I (m.b 3).lo, I (m.b 3).hi] 26 (0, 0)) := by rw [hW]; exact heap_before (heap_before (heap_last _ _ _ rfl))
  have yW00 := ovr_cell (W := W) (b := w.heap.size) (o := 0) (v := I m.sc) (by rw [cell_of_row _ _ _ _ _ _ rowW0]; rfl)
  have yW01 := ovr_cell (W := W) (b := w.heap.size) (o := 1) (v := I (m.b 0).lo) (by rw [cell_of_row _ _ _ _ _ _ rowW0]; rfl)
  have yW02 := ovr_cell (W := W) (b := w.heap.size) (o := 2) (v := I (m.b 0).hi) (by rw [cell_of_row _ _ _ _ _ _ rowW0]; rfl)
  have yW03 := ovr_cell (W := W) (b := w.heap.size) (o := 3) (v := I (m.b 1).lo) (by rw [cell_of_row _ _ _ _ _ _ rowW0]; rfl)
  have yW04 := ovr_cell (W := W) (b := w.heap.size) (o := 4) (v := I (m.b 1).hi) (by rw [cell_of_row _ _ _ _ _ _ rowW0]; rfl)
  have yW05 := ovr_cell (W := W) (b := w.heap.size) (o := 5) (v := I (m.b 2).lo) (by rw [cell_of_row _ _ _ _ _ _ rowW0]; rfl)
  have yW06 := ovr_cell (W := W) (b := w.heap.size) (o := 6) (v := I (m.b 2).hi) (by rw [cell_of_row _ _ _ _ _ _ rowW0]; rfl)
  have yW07 := ovr_cell (W := W) (b := w.heap.size) (o := 7) (v := I (m.b 3).lo) (by rw [cell_of_row _ _ _ _ _ _ rowW0]; rfl)
  have yW08 := ovr_cell (W := W) (b := w.heap.size) (o := 8) (v := I (m.b 3).hi) (by rw [cell_of_row _ _ _ _ _ _ rowW0]; rfl)
  have RrowW0 := Lib.hid (ovr_row rowW0)
  clear rowW0
  have rowW1 : W.heap[w.heap.size + 1]? = some (.cells #[.slice A g.r.length a, I g.o, .slice Z g.z.length c, .slice F g.f.length d] 77 (0, 0)) := by rw [hW]; exact heap_before (heap_last _ _ _ (by simp))
  have yW10 := ovr_cell (W := W) (b := w.heap.size + 1) (o := 0) (v := .slice A g.r.length a) (by rw [cell_of_row _ _ _ _ _ _ rowW1]; rfl)
  have yW11 := ovr_cell (W := W) (b := w.heap.size + 1) (o := 1) (v := I g.o) (by rw [cell_of_row _ _ _ _ _ _ rowW1]; rfl)
  have yW12 := ovr_cell (W := W) (b := w.heap.size + 1) (o := 2) (v := .slice Z g.z.length c) (by rw [cell_of_row _ _ _ _ _ _ rowW1]; rfl)
  have yW13 := ovr_cell (W := W) (b := w.heap.size + 1) (o := 3) (v := .slice F g.f.length d) (by rw [cell_of_row _ _ _ _ _ _ rowW1]; rfl)
  have RrowW1 := Lib.hid (ovr_row rowW1)
  clear rowW1
  have rowW2 : W.heap[w.heap.size + 1 + 1]? = some (.cells #[.int .u16 p0, .int .u16 p1, .int .u16 p2, .int .u16 (t 0), .int .u16 (t 1), .int .u16 (t 2), .int .u16 (t 3), .int .u16 tr, .int .u16 tg, .int .u8 wn] 80 (0, 0)) := by rw [hW]; exact heap_last _ _ _ (by simp)
  have yW20 := ovr_cell (W := W) (b := w.heap.size + 1 + 1) (o := 0) (v := .int .u16 p0) (by rw [cell_of_row _ _ _ _ _ _ rowW2]; rfl)
  have yW21 := ovr_cell (W := W) (b := w.heap.size + 1 + 1) (o := 1) (v := .int .u16 p1) (by rw [cell_of_row _ _ _ _ _ _ rowW2]; rfl)
  have yW22 := ovr_cell (W := W) (b := w.heap.size + 1 + 1) (o := 2) (v := .int .u16 p2) (by rw [cell_of_row _ _ _ _ _ _ rowW2]; rfl)
  have yW23 := ovr_cell (W := W) (b := w.heap.size + 1 + 1) (o := 3) (v := .int .u16 (t 0)) (by rw [cell_of_row _ _ _ _ _ _ rowW2]; rfl)
  have yW24 := ovr_cell (W := W) (b := w.heap.size + 1 + 1) (o := 4) (v := .int .u16 (t 1)) (by rw [cell_of_row _ _ _ _ _ _ rowW2]; rfl)
  have yW25 := ovr_cell (W := W) (b := w.heap.size + 1 + 1) (o := 5) (v := .int .u16 (t 2)) (by rw [cell_of_row _ _ _ _ _ _ rowW2]; rfl)
  have yW26 := ovr_cell (W := W) (b := w.heap.size + 1 + 1) (o := 6) (v := .int .u16 (t 3)) (by rw [cell_of_row _ _ _ _ _ _ rowW2]; rfl)
  have yW27 := ovr_cell (W := W) (b := w.heap.size + 1 + 1) (o := 7) (v := .int .u16 tr) (by rw [cell_of_row _ _ _ _ _ _ rowW2]; rfl)
  have yW28 := ovr_cell (W := W) (b := w.heap.size + 1 + 1) (o := 8) (v := .int .u16 tg) (by rw [cell_of_row _ _ _ _ _ _ rowW2]; rfl)
  have yW29 := ovr_cell (W := W) (b := w.heap.size + 1 + 1) (o := 9) (v := .int .u8 wn) (by rw [cell_of_row _ _ _ _ _ _ rowW2]; rfl)
  have RrowW2 := Lib.hid (ovr_row rowW2)
  clear rowW2
  have HUW : Hid (∀ u, Below w.heap.size w (ovr W u)) := U3 hW
  have HW := Lib.hid hW
  clear hW
  have HWB : Hid (Below w.heap.size w W) := below_self0' HUW.out
  go_enter Try.func9, Try.ntmps9
  go_upto_region 1 with (fail)
  rw [← HW.out]
  obtain ⟨u0, hu0⟩ := ovr_self W
  rw [hu0]
  clear hu0
  rcases hwd : wdB g with _ | _ <;> rw [hwd] at CWD
  case true =>
    as_aux_lemma =>
      clear hg
      go_wp2_with fail
      refine (CWD.out _).mono ?_
      rintro e w1 ⟨rfl, hb1⟩
      obtain ⟨u1, rfl⟩ := ovr_next hb1
      clear hb1
      go_wp2_with fail
      refine (KN.out _).mono ?_
      rintro e w1 ⟨rfl, hb1⟩
      obtain ⟨uk, rfl⟩ := ovr_next hb1
      clear hb1
      go_wp2_with fail
      go_ret
      exact ⟨rfl, HUW.out _⟩
  have hl := wd_no hwd
  have HLL := Lib.hid hl
  have HGI : Hid (∀ V, Below w.heap.size w V → GroIn V w.heap.size g A Z F) := fun V hV => (hg.inn hl).below (Nat.le_refl _) hV
  have CCM : Hid (∀ V, Calls Try.prog 11 #[.agg (mdA m)] V fun e w' => e = .returned (I (erA (okMdl m))) ∧ Below V.heap.size V w') := fun V => checkModel_any m V
  have COW : Hid (∀ V, Below w.heap.size w V → Calls Try.prog 32 #[.agg (grA g A Z F a c d)] V (RetOw g V)) := fun V hV => own_any g A Z F a c d V w.heap.size hV.size (HGI.out V hV) hl
  have CCG : Hid (∀ V A' Z' F' a' c' d', GroIn V V.heap.size g A' Z' F' → Calls Try.prog 31 #[.agg (grA g A' Z' F' a' c' d')] V fun e w' => e = .returned (I (erA (okGro g))) ∧ Below V.heap.size V w') := fun V A' Z' F' a' c' d' h => checkGrowth_any g A' Z' F' a' c' d' V V.heap.size (Nat.le_refl _) h
  have CPR : Hid (∀ V cuts A' Z' F' C' a' c' d' q', GroIn V V.heap.size g A' Z' F' → Rd V V.heap.size 1 C' cuts.length (rI cuts) → cuts.length ≤ 1000 → Calls Try.prog 33 #[.agg (mdA m), .agg (grA g A' Z' F' a' c' d'), .slice C' cuts.length q'] V (RetPr m g cuts V)) := fun V cuts A' Z' F' C' a' c' d' q' h1 h2 h3 => print_any m g cuts A' Z' F' C' a' c' d' q' V V.heap.size (Nat.le_refl _) h1 h2 h3
  have CUS : Hid (∀ V v A' Z' F' a' c' d', GroIn V V.heap.size g A' Z' F' → Calls Try.prog 36 #[.agg (mdA m), .agg (grA g A' Z' F' a' c' d'), .int .u8 v] V (RetU m g v V)) := fun V v A' Z' F' a' c' d' h => usable_any m g v A' Z' F' a' c' d' V V.heap.size (Nat.le_refl _) h
  have CPL : Hid (∀ r : Rng, ∀ b, 0 ≤ b ∧ b ≤ 65535 → ∀ V, Calls Try.prog 22 #[r.val, .int .u16 b] V fun e w' => e = .returned (I (plF r b)) ∧ Below V.heap.size V w') := fun r b hb V => place_any r b hb V
  clear hg hl
  rcases hok : okMdl m with _ | _ <;> rw [hok] at CCM
  case false =>
    as_aux_lemma =>
      rw [erA_f] at CCM
      go_wp2_with fail
      refine (CWD.out _).mono ?_
      rintro e w1 ⟨rfl, hb1⟩
      obtain ⟨u1, rfl⟩ := ovr_next hb1
      clear hb1
      go_wp2_with fail
      refine (CCM.out _).mono ?_
      rintro e w1 ⟨rfl, hb1⟩
      obtain ⟨u2, rfl⟩ := ovr_next hb1
      clear hb1
      go_wp2_with fail
      refine (KN.out _).mono ?_
      rintro e w1 ⟨rfl, hb1⟩
      obtain ⟨uk, rfl⟩ := ovr_next hb1
      clear hb1
      go_wp2_with fail
      go_ret
      exact ⟨rfl, HUW.out _⟩
  rw [erA_t] at CCM
  go_wp2_with fail
  refine (CWD.out _).mono ?_
  rintro e w1 ⟨rfl, hb1⟩
  obtain ⟨u1, rfl⟩ := ovr_next hb1
  clear hb1
  go_wp2_with fail
  refine (CCM.out _).mono ?_
  rintro e w1 ⟨rfl, hb1⟩
  obtain ⟨u2, rfl⟩ := ovr_next hb1
  clear hb1
  go_wp2_with fail
  refine (COW.out _ (HUW.out _)).mono ?_
  rintro e w1 ⟨A1, Z1, F1, a1, c1, d1, rfl, hg1, hb1⟩
  have C1 := Lib.hid (CCG.out w1 A1 Z1 F1 a1 c1 d1 hg1)
  obtain ⟨u3, rfl⟩ := ovr_next hb1
  clear hg1 hb1 CWD CCM
  rcases hgo : okGro g with _ | _ <;> rw [hgo] at C1
  case false =>
    as_aux_lemma =>
      rw [erA_f] at C1
      go_wp2_with fail
      refine C1.out.mono ?_
      rintro e w1 ⟨rfl, hb1⟩
      obtain ⟨u4, rfl⟩ := ovr_next hb1
      clear hb1
      go_wp2_with fail
      refine (KN.out _).mono ?_
      rintro e w1 ⟨rfl, hb1⟩
      obtain ⟨uk, rfl⟩ := ovr_next hb1
      clear hb1
      go_wp2_with fail
      go_ret
      exact ⟨rfl, HUW.out _⟩
  rw [erA_t] at C1
  have HGO := Lib.hid (okGro_ok hgo)
  have HOK := Lib.hid hok
  have HGG := Lib.hid hgo
  have d1' : decide ((g.r.length : Int) < 2) = false := decide_eq_false (by have := HGO.out.r.n2; omega)
  have d2' : decide ((60 : Int) < (g.r.length : Int)) = false := decide_eq_false (by have := HGO.out.r.n60; omega)
  have d3' : ¬ (g.r.length : Int) < 2 := by have := HGO.out.r.n2; omega
  have d4' : ¬ (60 : Int) < (g.r.length : Int) := by have := HGO.out.r.n60; omega
  clear hok hgo
  go_wp2_with fail
  refine C1.out.mono ?_
  rintro e w1 ⟨rfl, hb1⟩
  obtain ⟨u4, rfl⟩ := ovr_next hb1
  clear hb1
  obtain ⟨f, hf⟩ : ∃ f, (at0 g.r 0).lo = f := ⟨_, rfl⟩
  obtain ⟨l, hl⟩ : ∃ l, lastX g.r = l := ⟨_, rfl⟩
  have HFL : Hid (0 ≤ f ∧ f < l ∧ l ≤ 3000) := by
    have h1 := HGO.out.lo
    have h2 := HGO.out.hi
    have h3 := tab_asc HGO.out.r
    rw [hf, hl] at h3
    rw [hf] at h1
    rw [hl] at h2
    exact ⟨h1, h3, h2⟩
  have HF := Lib.hid hf
  have HL := Lib.hid hl
  obtain ⟨k, hk⟩ : ∃ k, g.r.length = k + 1 := ⟨g.r.length - 1, by have := HGO.out.r.n2; omega⟩
  have hk60 : k ≤ 60 := by have := HGO.out.r.n60; omega
  obtain ⟨b, o, hA, _, _, _⟩ := (HGI.out _ (HUW.out u4)).r.rng (k := 0) (by omega)
  subst hA
  go_upto_region 3 with fail
  clear d1' d2' d3' d4'
  have hbY := ovr_below W u4
  obtain ⟨Y, hY⟩ : ∃ Y, Y = ovr W u4 := ⟨_, rfl⟩
  rw [← hY] at hbY
  rw [← hY]
  have hY' := Lib.hid hY
  clear hY
  have hbY' := Lib.hid hbY
  have reY : ∀ v, ∃ x, ovr Y v = ovr W x := fun v => ovr_reB hbY v
  replace yW00 := tr_cell reY yW00
  replace yW01 := tr_cell reY yW01
  replace yW02 := tr_cell reY yW02
  replace yW03 := tr_cell reY yW03
  replace yW04 := tr_cell reY yW04
  replace yW05 := tr_cell reY yW05
  replace yW06 := tr_cell reY yW06
  replace yW07 := tr_cell reY yW07
  replace yW08 := tr_cell reY yW08
  replace RrowW0 := Lib.hid (tr_row reY RrowW0.out)
  replace yW10 := tr_cell reY yW10
  replace yW11 := tr_cell reY yW11
  replace yW12 := tr_cell reY yW12
  replace yW13 := tr_cell reY yW13
  replace RrowW1 := Lib.hid (tr_row reY RrowW1.out)
  replace yW20 := tr_cell reY yW20
  replace yW21 := tr_cell reY yW21
  replace yW22 := tr_cell reY yW22
  replace yW23 := tr_cell reY yW23
  replace yW24 := tr_cell reY yW24
  replace yW25 := tr_cell reY yW25
  replace yW26 := tr_cell reY yW26
  replace yW27 := tr_cell reY yW27
  replace yW28 := tr_cell reY yW28
  replace yW29 := tr_cell reY yW29
  replace RrowW2 := Lib.hid (tr_row reY RrowW2.out)
  have HUY : Hid (∀ u, Below w.heap.size w (ovr Y u)) := fun u => by obtain ⟨x, hx⟩ := reY u; rw [hx]; exact HUW.out x
  clear reY hbY
  have hrY := (HGI.out Y (below_self0' HUY.out)).r
  obtain ⟨e0, _⟩ := rd_at2 hrY (k := 0) (by omega)
  obtain ⟨e1, _⟩ := rd_at2 hrY (k := k) (by omega)
  rw [Nat.zero_mul, Nat.add_zero, hf] at e0
  have hlk : (at0 g.r k).lo = l := by rw [← hl]; unfold lastX; rw [hk, Nat.add_sub_cancel]
  rw [hlk] at e1
  have z0 := ovr_cell e0
  have z1 := ovr_cell e1
  have kk : IntKind.i64.wrap ((k : Int) + 1 - 1) = k := by rw [show (k : Int) + 1 - 1 = k by omega]; exact IntWalk.i64_in _ (by omega)
  have HK := Lib.hid hk
  rw [hk] at yW10
  clear hk e0 e1 hrY hlk hf hl
  refine Dl.wp_region_late 16 [] (fun j => if j = 15 then some (NewAt Y #[I 0, I 0] 23) else none) (by kernel_rfl) (by kernel_rfl) (by kernel_rfl) (by kernel_rfl) [15] (E := 23)
    ⟨by kernel_rfl, alloc_rng, fun j hj => by simp only [List.mem_cons, List.not_mem_nil, or_false] at hj; rcases hj with rfl; exact ⟨_, _, _, rfl⟩⟩ (by kernel_rfl) (fun i hi => by cases hi) (fun c a d v w h => by cases d <;> exact h) ?_
  simp only [List.take_succ_cons, List.take_zero, List.drop_succ_cons, List.drop_zero]
  repeat (refine Dk.wpG_one rfl rfl rfl ?_; intro K hK; go_big_quiet_op; go_big_quiet_on)
  refine Dk.wpG_make (NewAt Y #[I 0, I 0] 23) rfl rfl (fun w' hw' _ => ?_) (fun u hu => ?_)
  · go_simp
    exact new_grow hw'
  obtain ⟨_, _, PB, rfl, _, _⟩ := hu
  simp only [Act.put, List.setIfInBounds_toArray, List.set_cons_zero, List.set_cons_succ]
  refine Dk.wpG_nil (fun w5 hw5 hG => ?_)
  have hn1 := (Box.now hG.2).at
  clear hG
  refine Dl.wpTailH_cons ?_
  refine wp_store_row 23 _ _ rfl PB rfl _ _ hn1.1 #[I f, I l] rfl (one2 rfl rfl) rfl (by kernel_rfl) ?_
  have hc1 := below_setRow hw5.le hn1.2 #[I f, I l]
  refine ⟨Cl.of hc1, ?_⟩
  refine Dl.wpTailH_nil ?_
  simp only [Act.put]
  obtain ⟨X, hX⟩ : ∃ X, X = w5.setRow PB #[I f, I l] := ⟨_, rfl⟩
  have rp : X.heap[PB]? = some (.cells #[I f, I l] 23 (0, 0)) := by rw [hX]; exact setRow_same hn1.1
  have hbX : Below Y.heap.size Y X := by rw [hX]; exact hc1
  rw [← hX]
  clear hX hn1 hw5 hc1 z0 z1 kk
  rw [← HK.out] at yW10
  have reX : ∀ v, ∃ x, ovr X v = ovr Y x := fun v => ovr_reB hbX v
  replace yW00 := tr_cell reX yW00
  replace yW01 := tr_cell reX yW01
  replace yW02 := tr_cell reX yW02
  replace yW03 := tr_cell reX yW03
  replace yW04 := tr_cell reX yW04
  replace yW05 := tr_cell reX yW05
  replace yW06 := tr_cell reX yW06
  replace yW07 := tr_cell reX yW07
  replace yW08 := tr_cell reX yW08
  replace RrowW0 := Lib.hid (tr_row reX RrowW0.out)
  replace yW10 := tr_cell reX yW10
  replace yW11 := tr_cell reX yW11
  replace yW12 := tr_cell reX yW12
  replace yW13 := tr_cell reX yW13
  replace RrowW1 := Lib.hid (tr_row reX RrowW1.out)
  replace yW20 := tr_cell reX yW20
  replace yW21 := tr_cell reX yW21
  replace yW22 := tr_cell reX yW22
  replace yW23 := tr_cell reX yW23
  replace yW24 := tr_cell reX yW24
  replace yW25 := tr_cell reX yW25
  replace yW26 := tr_cell reX yW26
  replace yW27 := tr_cell reX yW27
  replace yW28 := tr_cell reX yW28
  replace yW29 := tr_cell reX yW29
  replace RrowW2 := Lib.hid (tr_row reX RrowW2.out)
  have yX00 := ovr_cell (W := X) (b := PB) (o := 0) (v := I f) (by rw [cell_of_row _ _ _ _ _ _ rp]; rfl)
  have yX01 := ovr_cell (W := X) (b := PB) (o := 1) (v := I l) (by rw [cell_of_row _ _ _ _ _ _ rp]; rfl)
  have RrowX0 := Lib.hid (ovr_row rp)
  clear rp
  have HUX : Hid (∀ u, Below w.heap.size w (ovr X u)) := fun u => by obtain ⟨x, hx⟩ := reX u; rw [hx]; exact HUY.out x
  clear reX hbX
  have HXB : Hid (Below w.heap.size w X) := below_self0' HUX.out
  obtain ⟨x0, hx0⟩ := ovr_self X
  rw [hx0]
  clear hx0
  have kd : IntKind.i64.wrap (l - f) = l - f := IntWalk.i64_in _ (by have := HFL.out; omega)
  by_cases h300 : 300 < l - f
  · have d1 := decide_eq_true h300
    clear h300
    go_wp2_with fail
    refine (KN.out _).mono ?_
    rintro e w1 ⟨rfl, hb1⟩
    obtain ⟨uk, rfl⟩ := ovr_next hb1
    clear hb1
    go_wp2_with fail
    go_ret
    exact ⟨rfl, HUX.out _⟩
  have d1 := decide_eq_false h300
  have d2 : decide (l ≤ f) = false := decide_eq_false (by have := HFL.out; omega)
  clear h300
  have hq0 := plF_in (r := ⟨f, l⟩) HP.out.1.1 (by have := HFL.out; simp only; omega)
  have hq1 := plF_in (r := ⟨f, l⟩) HP.out.2.1.1 (by have := HFL.out; simp only; omega)
  have C0 := Lib.hid (CPL.out ⟨f, l⟩ p0 HP.out.1)
  have C1' := Lib.hid (CPL.out ⟨f, l⟩ p1 HP.out.2.1)
  obtain ⟨q0, hq0e⟩ : ∃ q, plF ⟨f, l⟩ p0 = q := ⟨_, rfl⟩
  obtain ⟨q1, hq1e⟩ : ∃ q, plF ⟨f, l⟩ p1 = q := ⟨_, rfl⟩
  rw [hq0e] at hq0 C0
  rw [hq1e] at hq1 C1'
  simp only at hq0 hq1
  have HQ0 := Lib.hid hq0
  have HQ1 := Lib.hid hq1
  clear hq0e hq1e hq0 hq1
  go_upto_region 6 with fail
  clear d1 d2 kd
  have hbX2 := ovr_below X x0
  obtain ⟨X2, hX2⟩ : ∃ X2, X2 = ovr X x0 := ⟨_, rfl⟩
  rw [← hX2] at hbX2
  rw [← hX2]
  have hX2' := Lib.hid hX2
  clear hX2
  have hbX2' := Lib.hid hbX2
  have reX2 : ∀ v, ∃ x, ovr X2 v = ovr X x := fun v => ovr_reB hbX2 v
  replace yW00 := tr_cell reX2 yW00
  replace yW01 := tr_cell reX2 yW01
  replace yW02 := tr_cell reX2 yW02
  replace yW03 := tr_cell reX2 yW03
  replace yW04 := tr_cell reX2 yW04
  replace yW05 := tr_cell reX2 yW05
  replace yW06 := tr_cell reX2 yW06
  replace yW07 := tr_cell reX2 yW07
  replace yW08 := tr_cell reX2 yW08
  replace RrowW0 := Lib.hid (tr_row reX2 RrowW0.out)
  replace yW10 := tr_cell reX2 yW10
  replace yW11 := tr_cell reX2 yW11
  replace yW12 := tr_cell reX2 yW12
  replace yW13 := tr_cell reX2 yW13
  replace RrowW1 := Lib.hid (tr_row reX2 RrowW1.out)
  replace yW20 := tr_cell reX2 yW20
  replace yW21 := tr_cell reX2 yW21
  replace yW22 := tr_cell reX2 yW22
  replace yW23 := tr_cell reX2 yW23
  replace yW24 := tr_cell reX2 yW24
  replace yW25 := tr_cell reX2 yW25
  replace yW26 := tr_cell reX2 yW26
  replace yW27 := tr_cell reX2 yW27
  replace yW28 := tr_cell reX2 yW28
  replace yW29 := tr_cell reX2 yW29
  replace RrowW2 := Lib.hid (tr_row reX2 RrowW2.out)
  replace yX00 := tr_cell reX2 yX00
  replace yX01 := tr_cell reX2 yX01
  replace RrowX0 := Lib.hid (tr_row reX2 RrowX0.out)
  have HUX2 : Hid (∀ u, Below w.heap.size w (ovr X2 u)) := fun u => by obtain ⟨x, hx⟩ := reX2 u; rw [hx]; exact HUX.out x
  clear reX2 hbX2
  refine Dl.wp_region_late 10 [5, 6, 7, 8] (fun j => if j = 4 then some (fun u _ => u = I q0) else if j = 9 then some (fun u _ => u = I q1) else none) (by kernel_rfl) (by kernel_rfl) (by kernel_rfl) (by kernel_rfl) [] (E := 23)
    ⟨by kernel_rfl, alloc_rng, fun j hj => by cases hj⟩ (by kernel_rfl) (fun i hi => by simp only [List.mem_cons, List.not_mem_nil, or_false] at hi; rcases hi with rfl | rfl | rfl | rfl <;> rfl) (fun c a d v w h => by cases d <;> exact h) ?_
  simp only [List.take_succ_cons, List.take_zero, List.drop_succ_cons, List.drop_zero]
  repeat (refine Dk.wpG_one rfl rfl rfl ?_; intro K hK; go_big_quiet_op; go_big_quiet_on)
  refine Dk.wpG_make (fun u _ => u = I q0) rfl rfl (fun w' hw' _ => ?_) (fun u hu => ?_)
  · go_simp
    exact call_grow (C0.out w')
  obtain ⟨_, _, rfl⟩ := hu
  simp only [Act.put, List.setIfInBounds_toArray, List.set_cons_zero, List.set_cons_succ]
  repeat (refine Dk.wpG_one rfl rfl rfl ?_; intro K hK; go_big_quiet_op; go_big_quiet_on)
  refine Dk.wpG_make (fun u _ => u = I q1) rfl rfl (fun w' hw' _ => ?_) (fun u hu => ?_)
  · go_simp
    exact call_grow (C1'.out w')
  obtain ⟨_, _, rfl⟩ := hu
  simp only [Act.put, List.setIfInBounds_toArray, List.set_cons_zero, List.set_cons_succ]
  refine Dk.wpG_nil (fun w5 hw5 _ => ?_)
  refine Dl.wpTailH_cons (wp_assign _ (I q0) rfl rfl ⟨hw5, ?_⟩)
  refine Dl.wpTailH_cons (wp_assign _ (I q1) rfl rfl ⟨hw5, ?_⟩)
  refine Dl.wpTailH_nil ?_
  simp only [Act.put, List.setIfInBounds_toArray, List.set_cons_zero, List.set_cons_succ]
  obtain ⟨x3, rfl⟩ := hw5
  by_cases hqq : min q0 q1 = max q0 q1
  · have hq2 : (min q0 q1 == max q0 q1) = true := by simpa using hqq
    go_wp2_with fail
    refine (KN.out _).mono ?_
    rintro e w1 ⟨rfl, hb1⟩
    obtain ⟨uk, rfl⟩ := ovr_next hb1
    clear hb1
    go_wp2_with fail
    go_ret
    exact ⟨rfl, HUX2.out _⟩
  have HFT : Hid (f ≤ min q0 q1 ∧ min q0 q1 < max q0 q1 ∧ max q0 q1 ≤ l) := by have := HQ0.out; have := HQ1.out; show _ ∧ _ ∧ _; omega
  have hq2 : (min q0 q1 == max q0 q1) = false := by simpa using hqq
  obtain ⟨fr, hfr⟩ : ∃ x, min q0 q1 = x := ⟨_, rfl⟩
  obtain ⟨tp, htp⟩ : ∃ x, max q0 q1 = x := ⟨_, rfl⟩
  rw [hfr, htp] at HFT
  rw [hfr, htp] at hq2 hqq
  go_upto_region 8 with fail
  clear hfr htp
  go_upto_region 10 with fail
  clear hq2 hqq
  have hbX4 := ovr_below X2 x3
  obtain ⟨X4, hX4⟩ : ∃ X4, X4 = ovr X2 x3 := ⟨_, rfl⟩
  rw [← hX4] at hbX4
  rw [← hX4]
  have hX4' := Lib.hid hX4
  clear hX4
  have hbX4' := Lib.hid hbX4
  have reX4 : ∀ v, ∃ x, ovr X4 v = ovr X2 x := fun v => ovr_reB hbX4 v
  replace yW00 := tr_cell reX4 yW00
  replace yW01 := tr_cell reX4 yW01
  replace yW02 := tr_cell reX4 yW02
  replace yW03 := tr_cell reX4 yW03
  replace yW04 := tr_cell reX4 yW04
  replace yW05 := tr_cell reX4 yW05
  replace yW06 := tr_cell reX4 yW06
  replace yW07 := tr_cell reX4 yW07
  replace yW08 := tr_cell reX4 yW08
  replace RrowW0 := Lib.hid (tr_row reX4 RrowW0.out)
  replace yW10 := tr_cell reX4 yW10
  replace yW11 := tr_cell reX4 yW11
  replace yW12 := tr_cell reX4 yW12
  replace yW13 := tr_cell reX4 yW13
  replace RrowW1 := Lib.hid (tr_row reX4 RrowW1.out)
  replace yW20 := tr_cell reX4 yW20
  replace yW21 := tr_cell reX4 yW21
  replace yW22 := tr_cell reX4 yW22
  replace yW23 := tr_cell reX4 yW23
  replace yW24 := tr_cell reX4 yW24
  replace yW25 := tr_cell reX4 yW25
  replace yW26 := tr_cell reX4 yW26
  replace yW27 := tr_cell reX4 yW27
  replace yW28 := tr_cell reX4 yW28
  replace yW29 := tr_cell reX4 yW29
  replace RrowW2 := Lib.hid (tr_row reX4 RrowW2.out)
  replace yX00 := tr_cell reX4 yX00
  replace yX01 := tr_cell reX4 yX01
  replace RrowX0 := Lib.hid (tr_row reX4 RrowX0.out)
  have HUX4 : Hid (∀ u, Below w.heap.size w (ovr X4 u)) := fun u => by obtain ⟨x, hx⟩ := reX4 u; rw [hx]; exact HUX2.out x
  clear reX4 hbX4
  have PEQ : Hid (prE m g [fr, tp] = 0) := pr_two HOK.out HGG.out (by rw [HF.out]; exact HFT.out.1) HFT.out.2.1 (by rw [HL.out]; exact HFT.out.2.2)
  refine Dl.wp_region_late 10 [9] (fun j => if j = 2 then some (OwB g) else if j = 5 then some (LsI fr tp) else if j = 6 then some (PrO m g ⟨fr, tp⟩) else none) (by kernel_rfl) (by kernel_rfl) (by kernel_rfl) (by kernel_rfl) [] (E := 23)
    ⟨by kernel_rfl, alloc_rng, fun j hj => by cases hj⟩ (by kernel_rfl) (fun i hi => by simp only [List.mem_cons, List.not_mem_nil, or_false] at hi; rcases hi with rfl; rfl) (fun c a d v w h => by cases d <;> exact h) ?_
  simp only [List.take_succ_cons, List.take_zero, List.drop_succ_cons, List.drop_zero]
  repeat (refine Dk.wpG_one rfl rfl rfl ?_; intro K hK; go_big_quiet_op; go_big_quiet_on)
  refine Dk.wpG_make (OwB g) rfl rfl (fun w' hw' _ => ?_) (fun u hu => ?_)
  · obtain ⟨x, rfl⟩ := hw'
    go_simp
    exact ow_grow (COW.out _ (HUX4.out x))
  obtain ⟨_, _, A2, Z2, F2, a2, c2, d2, rfl, _⟩ := hu
  simp only [Act.put, List.setIfInBounds_toArray, List.set_cons_zero, List.set_cons_succ]
  repeat (refine Dk.wpG_one rfl rfl rfl ?_; intro K hK; go_big_quiet_op; go_big_quiet_on)
  refine Dk.wpG_make (LsI fr tp) rfl rfl (fun w' hw' _ => ?_) (fun u hu => ?_)
  · go_simp
    exact lsi_grow
  obtain ⟨_, _, b3, rfl, _⟩ := hu
  simp only [Act.put, List.setIfInBounds_toArray, List.set_cons_zero, List.set_cons_succ]
  refine Dk.wpG_make (PrO m g ⟨fr, tp⟩) rfl rfl (fun w' hw' hk => ?_) (fun u hu => ?_)
  · have hk2 := hk ⟨2, .data⟩ (by simp) rfl _ 107 _ rfl rfl rfl (Nat.lt_of_lt_of_eq (by decide : 107 < 386) rfl) rfl
    have hgi := OwB.at hk2.now
    have hk3 := hk ⟨5, .data⟩ (by simp) rfl _ 110 _ rfl rfl rfl (Nat.lt_of_lt_of_eq (by decide : 110 < 386) rfl) rfl
    have hli := LsI.at hk3.now
    go_simp
    exact pr_growO PEQ.out (CPR.out w' [fr, tp] A2 Z2 F2 (some ⟨b3, 0, none⟩) a2 c2 d2 2 hgi hli (by simp))
  obtain ⟨_, _, A4, c4, rfl, _⟩ := hu
  simp only [Act.put, List.setIfInBounds_toArray, List.set_cons_zero, List.set_cons_succ]
  repeat (refine Dk.wpG_one rfl rfl rfl ?_; intro K hK; go_big_quiet_op; go_big_quiet_on)
  refine Dk.wpG_nil (fun w5 hw5 hG => ?_)
  have hon := (Box.now hG.2).same
  clear hG
  refine Dl.wpTailH_cons (wp_assign _ (.slice A4 1 c4) rfl rfl ⟨hw5, ?_⟩)
  refine Dl.wpTailH_cons (wp_assign _ (I 0) rfl rfl ⟨hw5, ?_⟩)
  refine Dl.wpTailH_nil ?_
  simp only [Act.put, List.setIfInBounds_toArray, List.set_cons_zero, List.set_cons_succ]
  obtain ⟨x5, rfl⟩ := hw5
  have hbX5 := ovr_below X4 x5
  obtain ⟨X5, hX5⟩ : ∃ X5, X5 = ovr X4 x5 := ⟨_, rfl⟩
  rw [← hX5] at hbX5
  rw [← hX5]
  have hX5' := Lib.hid hX5
  clear hX5
  have hbX5' := Lib.hid hbX5
  have reX5 : ∀ v, ∃ x, ovr X5 v = ovr X4 x := fun v => ovr_reB hbX5 v
  replace yW00 := tr_cell reX5 yW00
  replace yW01 := tr_cell reX5 yW01
  replace yW02 := tr_cell reX5 yW02
  replace yW03 := tr_cell reX5 yW03
  replace yW04 := tr_cell reX5 yW04
  replace yW05 := tr_cell reX5 yW05
  replace yW06 := tr_cell reX5 yW06
  replace yW07 := tr_cell reX5 yW07
  replace yW08 := tr_cell reX5 yW08
  replace RrowW0 := Lib.hid (tr_row reX5 RrowW0.out)
  replace yW10 := tr_cell reX5 yW10
  replace yW11 := tr_cell reX5 yW11
  replace yW12 := tr_cell reX5 yW12
  replace yW13 := tr_cell reX5 yW13
  replace RrowW1 := Lib.hid (tr_row reX5 RrowW1.out)
  replace yW20 := tr_cell reX5 yW20
  replace yW21 := tr_cell reX5 yW21
  replace yW22 := tr_cell reX5 yW22
  replace yW23 := tr_cell reX5 yW23
  replace yW24 := tr_cell reX5 yW24
  replace yW25 := tr_cell reX5 yW25
  replace yW26 := tr_cell reX5 yW26
  replace yW27 := tr_cell reX5 yW27
  replace yW28 := tr_cell reX5 yW28
  replace yW29 := tr_cell reX5 yW29
  replace RrowW2 := Lib.hid (tr_row reX5 RrowW2.out)
  replace yX00 := tr_cell reX5 yX00
  replace yX01 := tr_cell reX5 yX01
  replace RrowX0 := Lib.hid (tr_row reX5 RrowX0.out)
  have HUX5 : Hid (∀ u, Below w.heap.size w (ovr X5 u)) := fun u => by obtain ⟨x, hx⟩ := reX5 u; rw [hx]; exact HUX4.out x
  clear reX5 hbX5
  have hon' : OnU m g ⟨fr, tp⟩ A4 X5 := by rw [hX5'.out]; exact hon
  obtain ⟨b4, o4, s4, e4, hA4, hcl, hbl, hrl⟩ := hon'
  subst hA4
  have HLG : Hid (∀ V, Below X5.heap.size X5 V → V.cell? ⟨b4, o4, none⟩ = some (.slice (some ⟨s4, 0, none⟩) g.z.length e4) ∧ Rd V V.heap.size 1 (some ⟨s4, 0, none⟩) g.z.length (rU8 (slL m g ⟨fr, tp⟩))) := fun V hV => ⟨(hV.cell hbl).trans hcl, (hrl.below hV).more hV.size⟩
  clear hon hcl hbl hrl
  have hq2 := plF_in (r := ⟨fr, tp - 1⟩) HP.out.2.2.1 (by have := HFT.out; simp only; omega)
  have C2 := Lib.hid (CPL.out ⟨fr, tp - 1⟩ p2 HP.out.2.2)
  obtain ⟨q2, hq2e⟩ : ∃ q, plF ⟨fr, tp - 1⟩ p2 = q := ⟨_, rfl⟩
  rw [hq2e] at hq2 C2
  simp only at hq2
  have HQ2 : Hid (fr ≤ q2 ∧ q2 + 1 ≤ tp ∧ f ≤ q2 ∧ q2 < l) := by have := HFT.out; show _ ∧ _ ∧ _ ∧ _; omega
  have HQ3 : Hid (0 ≤ q2 ∧ q2 < 3000) := by have := HFT.out; have := HFL.out; show _ ∧ _; omega
  have kt : IntKind.i64.wrap (tp - 1) = tp - 1 := IntWalk.i64_in _ (by have := HFT.out; have := HFL.out; omega)
  clear hq2e hq2
  obtain ⟨x6, hx6⟩ := ovr_self X5
  rw [hx6]
  clear hx6
  go_wp2_with fail
  refine (C2.out _).mono ?_
  rintro e w1 ⟨rfl, hb1⟩
  obtain ⟨x7, rfl⟩ := ovr_next hb1
  clear hb1
  clear kt
  go_upto_region 12 with fail
  have hbX7 := ovr_below X5 x7
  obtain ⟨X7, hX7⟩ : ∃ X7, X7 = ovr X5 x7 := ⟨_, rfl⟩
  rw [← hX7] at hbX7
  rw [← hX7]
  have hX7' := Lib.hid hX7
  clear hX7
  have hbX7' := Lib.hid hbX7
  have reX7 : ∀ v, ∃ x, ovr X7 v = ovr X5 x := fun v => ovr_reB hbX7 v
  replace yW00 := tr_cell reX7 yW00
  replace yW01 := tr_cell reX7 yW01
  replace yW02 := tr_cell reX7 yW02
  replace yW03 := tr_cell reX7 yW03
  replace yW04 := tr_cell reX7 yW04
  replace yW05 := tr_cell reX7 yW05
  replace yW06 := tr_cell reX7 yW06
  replace yW07 := tr_cell reX7 yW07
  replace yW08 := tr_cell reX7 yW08
  replace RrowW0 := Lib.hid (tr_row reX7 RrowW0.out)
  replace yW10 := tr_cell reX7 yW10
  replace yW11 := tr_cell reX7 yW11
  replace yW12 := tr_cell reX7 yW12
  replace yW13 := tr_cell reX7 yW13
  replace RrowW1 := Lib.hid (tr_row reX7 RrowW1.out)
  replace yW20 := tr_cell reX7 yW20
  replace yW21 := tr_cell reX7 yW21
  replace yW22 := tr_cell reX7 yW22
  replace yW23 := tr_cell reX7 yW23
  replace yW24 := tr_cell reX7 yW24
  replace yW25 := tr_cell reX7 yW25
  replace yW26 := tr_cell reX7 yW26
  replace yW27 := tr_cell reX7 yW27
  replace yW28 := tr_cell reX7 yW28
  replace yW29 := tr_cell reX7 yW29
  replace RrowW2 := Lib.hid (tr_row reX7 RrowW2.out)
  replace yX00 := tr_cell reX7 yX00
  replace yX01 := tr_cell reX7 yX01
  replace RrowX0 := Lib.hid (tr_row reX7 RrowX0.out)
  have HUX7 : Hid (∀ u, Below w.heap.size w (ovr X7 u)) := fun u => by obtain ⟨x, hx⟩ := reX7 u; rw [hx]; exact HUX5.out x
  clear reX7 hbX7
  have HX57 := Lib.hid hbX7'.out
  have ka : IntKind.i64.wrap (q2 + 1) = q2 + 1 := IntWalk.i64_in _ (by have := HQ3.out; omega)
  have PEQ2 : Hid (prE m g [q2, q2 + 1] = 0) := pr_two HOK.out HGG.out (by rw [HF.out]; exact HQ2.out.2.2.1) (by omega) (by rw [HL.out]; have := HQ2.out; omega)
  refine Dl.wp_region_late 11 [10] (fun j => if j = 2 then some (OwB g) else if j = 6 then some (LsI q2 (q2 + 1)) else if j = 7 then some (PrO m g ⟨q2, (q2 + 1)⟩) else none) (by kernel_rfl) (by kernel_rfl) (by kernel_rfl) (by kernel_rfl) [] (E := 23)
    ⟨by kernel_rfl, alloc_rng, fun j hj => by cases hj⟩ (by kernel_rfl) (fun i hi => by simp only [List.mem_cons, List.not_mem_nil, or_false] at hi; rcases hi with rfl; rfl) (fun c a d v w h => by cases d <;> exact h) ?_
  simp only [List.take_succ_cons, List.take_zero, List.drop_succ_cons, List.drop_zero]
  repeat (refine Dk.wpG_one rfl rfl rfl ?_; intro K hK; go_big_quiet_op; go_big_quiet_on)
  refine Dk.wpG_make (OwB g) rfl rfl (fun w' hw' _ => ?_) (fun u hu => ?_)
  · obtain ⟨x, rfl⟩ := hw'
    go_simp
    exact ow_grow (COW.out _ (HUX7.out x))
  obtain ⟨_, _, A2, Z2, F2, a2, c2, d2, rfl, _⟩ := hu
  simp only [Act.put, List.setIfInBounds_toArray, List.set_cons_zero, List.set_cons_succ]
  repeat (refine Dk.wpG_one rfl rfl rfl ?_; intro K hK; go_big_quiet_op; go_big_quiet_on)
  refine Dk.wpG_make (LsI q2 (q2 + 1)) rfl rfl (fun w' hw' _ => ?_) (fun u hu => ?_)
  · go_simp
    exact lsi_grow
  obtain ⟨_, _, b3, rfl, _⟩ := hu
  simp only [Act.put, List.setIfInBounds_toArray, List.set_cons_zero, List.set_cons_succ]
  refine Dk.wpG_make (PrO m g ⟨q2, (q2 + 1)⟩) rfl rfl (fun w' hw' hk => ?_) (fun u hu => ?_)
  · have hk2 := hk ⟨2, .data⟩ (by simp) rfl _ 125 _ rfl rfl rfl (Nat.lt_of_lt_of_eq (by decide : 125 < 386) rfl) rfl
    have hgi := OwB.at hk2.now
    have hk3 := hk ⟨6, .data⟩ (by simp) rfl _ 129 _ rfl rfl rfl (Nat.lt_of_lt_of_eq (by decide : 129 < 386) rfl) rfl
    have hli := LsI.at hk3.now
    go_simp
    exact pr_growO PEQ2.out (CPR.out w' [q2, (q2 + 1)] A2 Z2 F2 (some ⟨b3, 0, none⟩) a2 c2 d2 2 hgi hli (by simp))
  obtain ⟨_, _, A5, c5, rfl, _⟩ := hu
  simp only [Act.put, List.setIfInBounds_toArray, List.set_cons_zero, List.set_cons_succ]
  repeat (refine Dk.wpG_one rfl rfl rfl ?_; intro K hK; go_big_quiet_op; go_big_quiet_on)
  refine Dk.wpG_nil (fun w5 hw5 hG => ?_)
  have hon2 := (Box.now hG.2).same
  clear hG
  refine Dl.wpTailH_cons (wp_assign _ (.slice A5 1 c5) rfl rfl ⟨hw5, ?_⟩)
  refine Dl.wpTailH_cons (wp_assign _ (I 0) rfl rfl ⟨hw5, ?_⟩)
  refine Dl.wpTailH_nil ?_
  simp only [Act.put, List.setIfInBounds_toArray, List.set_cons_zero, List.set_cons_succ]
  obtain ⟨x5, rfl⟩ := hw5
  have hbX8 := ovr_below X7 x5
  obtain ⟨X8, hX8⟩ : ∃ X8, X8 = ovr X7 x5 := ⟨_, rfl⟩
  rw [← hX8] at hbX8
  rw [← hX8]
  have hX8' := Lib.hid hX8
  clear hX8
  have hbX8' := Lib.hid hbX8
  have reX8 : ∀ v, ∃ x, ovr X8 v = ovr X7 x := fun v => ovr_reB hbX8 v
  replace yW00 := tr_cell reX8 yW00
  replace yW01 := tr_cell reX8 yW01
  replace yW02 := tr_cell reX8 yW02
  replace yW03 := tr_cell reX8 yW03
  replace yW04 := tr_cell reX8 yW04
  replace yW05 := tr_cell reX8 yW05
  replace yW06 := tr_cell reX8 yW06
  replace yW07 := tr_cell reX8 yW07
  replace yW08 := tr_cell reX8 yW08
  replace RrowW0 := Lib.hid (tr_row reX8 RrowW0.out)
  replace yW10 := tr_cell reX8 yW10
  replace yW11 := tr_cell reX8 yW11
  replace yW12 := tr_cell reX8 yW12
  replace yW13 := tr_cell reX8 yW13
  replace RrowW1 := Lib.hid (tr_row reX8 RrowW1.out)
  replace yW20 := tr_cell reX8 yW20
  replace yW21 := tr_cell reX8 yW21
  replace yW22 := tr_cell reX8 yW22
  replace yW23 := tr_cell reX8 yW23
  replace yW24 := tr_cell reX8 yW24
  replace yW25 := tr_cell reX8 yW25
  replace yW26 := tr_cell reX8 yW26
  replace yW27 := tr_cell reX8 yW27
  replace yW28 := tr_cell reX8 yW28
  replace yW29 := tr_cell reX8 yW29
  replace RrowW2 := Lib.hid (tr_row reX8 RrowW2.out)
  replace yX00 := tr_cell reX8 yX00
  replace yX01 := tr_cell reX8 yX01
  replace RrowX0 := Lib.hid (tr_row reX8 RrowX0.out)
  have HUX8 : Hid (∀ u, Below w.heap.size w (ovr X8 u)) := fun u => by obtain ⟨x, hx⟩ := reX8 u; rw [hx]; exact HUX7.out x
  clear reX8 hbX8
  have HX58 : Hid (Below X5.heap.size X5 X8) := HX57.out.trans (hbX8'.out.mono HX57.out.size)
  have hon' : OnU m g ⟨q2, q2 + 1⟩ A5 X8 := by rw [hX8'.out]; exact hon2
  obtain ⟨b5, o5, s5, e5, hA5, hcl, hbl, hrl⟩ := hon'
  subst hA5
  have HSH : Hid (∀ V, Below X8.heap.size X8 V → V.cell? ⟨b5, o5, none⟩ = some (.slice (some ⟨s5, 0, none⟩) g.z.length e5) ∧ Rd V V.heap.size 1 (some ⟨s5, 0, none⟩) g.z.length (rU8 (slL m g ⟨q2, q2 + 1⟩))) := fun V hV => ⟨(hV.cell hbl).trans hcl, (hrl.below hV).more hV.size⟩
  clear hon2 hcl hbl hrl ka
  obtain ⟨x9, hx9⟩ := ovr_self X8
  rw [hx9]
  clear hx9
  go_upto_region 13 with fail
  have hbX9 := ovr_below X8 x9
  obtain ⟨X9, hX9⟩ : ∃ X9, X9 = ovr X8 x9 := ⟨_, rfl⟩
  rw [← hX9] at hbX9
  rw [← hX9]
  have hX9' := Lib.hid hX9
  clear hX9
  have hbX9' := Lib.hid hbX9
  have reX9 : ∀ v, ∃ x, ovr X9 v = ovr X8 x := fun v => ovr_reB hbX9 v
  replace yW00 := tr_cell reX9 yW00
  replace yW01 := tr_cell reX9 yW01
  replace yW02 := tr_cell reX9 yW02
  replace yW03 := tr_cell reX9 yW03
  replace yW04 := tr_cell reX9 yW04
  replace yW05 := tr_cell reX9 yW05
  replace yW06 := tr_cell reX9 yW06
  replace yW07 := tr_cell reX9 yW07
  replace yW08 := tr_cell reX9 yW08
  replace RrowW0 := Lib.hid (tr_row reX9 RrowW0.out)
  replace yW10 := tr_cell reX9 yW10
  replace yW11 := tr_cell reX9 yW11
  replace yW12 := tr_cell reX9 yW12
  replace yW13 := tr_cell reX9 yW13
  replace RrowW1 := Lib.hid (tr_row reX9 RrowW1.out)
  replace yW20 := tr_cell reX9 yW20
  replace yW21 := tr_cell reX9 yW21
  replace yW22 := tr_cell reX9 yW22
  replace yW23 := tr_cell reX9 yW23
  replace yW24 := tr_cell reX9 yW24
  replace yW25 := tr_cell reX9 yW25
  replace yW26 := tr_cell reX9 yW26
  replace yW27 := tr_cell reX9 yW27
  replace yW28 := tr_cell reX9 yW28
  replace yW29 := tr_cell reX9 yW29
  replace RrowW2 := Lib.hid (tr_row reX9 RrowW2.out)
  replace yX00 := tr_cell reX9 yX00
  replace yX01 := tr_cell reX9 yX01
  replace RrowX0 := Lib.hid (tr_row reX9 RrowX0.out)
  have HUX9 : Hid (∀ u, Below w.heap.size w (ovr X9 u)) := fun u => by obtain ⟨x, hx⟩ := reX9 u; rw [hx]; exact HUX8.out x
  clear reX9 hbX9
  have HX89 := Lib.hid hbX9'.out
  have c1' := ovr_cell (HLG.out X9 (HX58.out.trans (HX89.out.mono HX58.out.size))).1
  have c2' := ovr_cell (HSH.out X9 HX89.out).1
  refine wp_region_below_lit (by kernel_rfl) (by kernel_rfl) ?_
  repeat (go_big_quiet_step (fail))
  refine wpQuiet_nil ?_
  intro Y3 hY3
  obtain ⟨y3, rfl⟩ : ∃ u, Y3 = ovr X9 u := ⟨Y3, ovr_of hY3⟩
  clear hY3 c1' c2'
  have HQI : Hid ((at0 g.r 0).lo ≤ q2 ∧ q2 ≤ q2 ∧ q2 ≤ lastX g.r) := by rw [HF.out, HL.out]; have := HQ2.out; exact ⟨by omega, by omega, by omega⟩
  have hvr := HGO.out.va_r (x := ⟨q2, q2⟩) HQI.out
  have hvf := HGO.out.va_f (x := ⟨q2, q2⟩) HQI.out
  have CV1 : Hid (∀ V, Below w.heap.size w V → Calls Try.prog 34 #[.slice (some ⟨b, o, none⟩) g.r.length a, .agg #[I q2, I q2]] V (RetRn V (vaF g.r ⟨q2, q2⟩))) := fun V hV => value2_any _ g.r.length a g.r ⟨q2, q2⟩ V w.heap.size rfl (by have := HLL.out; unfold maxLen; omega) hV.size (HGI.out V hV).r
  have CV2 : Hid (∀ V, Below w.heap.size w V → Calls Try.prog 34 #[.slice F g.f.length d, .agg #[I q2, I q2]] V (RetRn V (vaF g.f ⟨q2, q2⟩))) := fun V hV => value2_any F g.f.length d g.f ⟨q2, q2⟩ V w.heap.size rfl (by have := HLL.out; unfold maxLen; omega) hV.size (HGI.out V hV).f
  obtain ⟨⟨vl, vh⟩, hvre⟩ : ∃ r, (vaF g.r ⟨q2, q2⟩).1 = r := ⟨_, rfl⟩
  obtain ⟨⟨fl, fh⟩, hvfe⟩ : ∃ r, (vaF g.f ⟨q2, q2⟩).1 = r := ⟨_, rfl⟩
  have v1e : vaF g.r ⟨q2, q2⟩ = (⟨vl, vh⟩, 0) := by rw [← hvre]; have := congrArg Prod.snd hvr.1; exact Prod.ext rfl this
  have v2e : vaF g.f ⟨q2, q2⟩ = (⟨fl, fh⟩, 0) := by rw [← hvfe]; have := congrArg Prod.snd hvf.1; exact Prod.ext rfl this
  have hvb := hvr.2
  have hfb := hvf.2
  rw [v1e] at CV1 hvb
  rw [v2e] at CV2 hfb
  simp only at hvb hfb
  have HV1E := Lib.hid v1e
  have HV2E := Lib.hid v2e
  have HVB := Lib.hid hvb
  have HFB := Lib.hid hfb
  clear hvr hvf hvre hvfe v1e v2e hvb hfb
  go_wp2_with fail
  refine (CV1.out _ (HUX9.out _)).mono ?_
  rintro e w1 ⟨rfl, hb1⟩
  obtain ⟨y4, rfl⟩ := ovr_next hb1
  clear hb1
  go_upto_region 16 with fail
  obtain ⟨Z1, hZ1⟩ : ∃ Z1, Z1 = ((ovr X9 y4).alloc (.cells #[I vl, I vh] 23)) := ⟨_, rfl⟩
  have reZ1 : ∀ v, ∃ x, ovr Z1 v = ovr X9 x := fun v => ovr_re1 hZ1
  replace yW00 := tr_cell reZ1 yW00
  replace yW01 := tr_cell reZ1 yW01
  replace yW02 := tr_cell reZ1 yW02
  replace yW03 := tr_cell reZ1 yW03
  replace yW04 := tr_cell reZ1 yW04
  replace yW05 := tr_cell reZ1 yW05
  replace yW06 := tr_cell reZ1 yW06
  replace yW07 := tr_cell reZ1 yW07
  replace yW08 := tr_cell reZ1 yW08
  replace RrowW0 := Lib.hid (tr_row reZ1 RrowW0.out)
  replace yW10 := tr_cell reZ1 yW10
  replace yW11 := tr_cell reZ1 yW11
  replace yW12 := tr_cell reZ1 yW12
  replace yW13 := tr_cell reZ1 yW13
  replace RrowW1 := Lib.hid (tr_row reZ1 RrowW1.out)
  replace yW20 := tr_cell reZ1 yW20
  replace yW21 := tr_cell reZ1 yW21
  replace yW22 := tr_cell reZ1 yW22
  replace yW23 := tr_cell reZ1 yW23
  replace yW24 := tr_cell reZ1 yW24
  replace yW25 := tr_cell reZ1 yW25
  replace yW26 := tr_cell reZ1 yW26
  replace yW27 := tr_cell reZ1 yW27
  replace yW28 := tr_cell reZ1 yW28
  replace yW29 := tr_cell reZ1 yW29
  replace RrowW2 := Lib.hid (tr_row reZ1 RrowW2.out)
  replace yX00 := tr_cell reZ1 yX00
  replace yX01 := tr_cell reZ1 yX01
  replace RrowX0 := Lib.hid (tr_row reZ1 RrowX0.out)
  have rowZ10 : Z1.heap[(ovr X9 y4).heap.size]? = some (.cells #[I vl, I vh] 23 (0, 0)) := by rw [hZ1]; exact heap_last _ _ _ rfl
  have yZ100 := ovr_cell (W := Z1) (b := (ovr X9 y4).heap.size) (o := 0) (v := I vl) (by rw [cell_of_row _ _ _ _ _ _ rowZ10]; rfl)
  have yZ101 := ovr_cell (W := Z1) (b := (ovr X9 y4).heap.size) (o := 1) (v := I vh) (by rw [cell_of_row _ _ _ _ _ _ rowZ10]; rfl)
  have RrowZ10 := Lib.hid (ovr_row rowZ10)
  clear rowZ10
  have HBZ1 : Hid (∀ u, Below X9.heap.size X9 (ovr Z1 u)) := fun u => by obtain ⟨x, hx⟩ := reZ1 u; rw [hx]; exact ovr_below _ _
  have HUZ1 : Hid (∀ u, Below w.heap.size w (ovr Z1 u)) := fun u => by obtain ⟨x, hx⟩ := reZ1 u; rw [hx]; exact HUX9.out x
  clear reZ1
  have HZ1 := Lib.hid hZ1
  clear hZ1
  rw [← HZ1.out]
  obtain ⟨y5, hy5⟩ := ovr_self Z1
  rw [hy5]
  clear hy5
  go_wp2_with fail
  refine (CV2.out _ (HUZ1.out _)).mono ?_
  rintro e w1 ⟨rfl, hb1⟩
  obtain ⟨y6, rfl⟩ := ovr_next hb1
  clear hb1
  go_upto_region 17 with fail
  obtain ⟨Z2, hZ2⟩ : ∃ Z2, Z2 = ((ovr Z1 y6).alloc (.cells #[I fl, I fh] 23)) := ⟨_, rfl⟩
  have reZ2 : ∀ v, ∃ x, ovr Z2 v = ovr Z1 x := fun v => ovr_re1 hZ2
  replace yW00 := tr_cell reZ2 yW00
  replace yW01 := tr_cell reZ2 yW01
  replace yW02 := tr_cell reZ2 yW02
  replace yW03 := tr_cell reZ2 yW03
  replace yW04 := tr_cell reZ2 yW04
  replace yW05 := tr_cell reZ2 yW05
  replace yW06 := tr_cell reZ2 yW06
  replace yW07 := tr_cell reZ2 yW07
  replace yW08 := tr_cell reZ2 yW08
  replace RrowW0 := Lib.hid (tr_row reZ2 RrowW0.out)
  replace yW10 := tr_cell reZ2 yW10
  replace yW11 := tr_cell reZ2 yW11
  replace yW12 := tr_cell reZ2 yW12
  replace yW13 := tr_cell reZ2 yW13
  replace RrowW1 := Lib.hid (tr_row reZ2 RrowW1.out)
  replace yW20 := tr_cell reZ2 yW20
  replace yW21 := tr_cell reZ2 yW21
  replace yW22 := tr_cell reZ2 yW22
  replace yW23 := tr_cell reZ2 yW23
  replace yW24 := tr_cell reZ2 yW24
  replace yW25 := tr_cell reZ2 yW25
  replace yW26 := tr_cell reZ2 yW26
  replace yW27 := tr_cell reZ2 yW27
  replace yW28 := tr_cell reZ2 yW28
  replace yW29 := tr_cell reZ2 yW29
  replace RrowW2 := Lib.hid (tr_row reZ2 RrowW2.out)
  replace yX00 := tr_cell reZ2 yX00
  replace yX01 := tr_cell reZ2 yX01
  replace RrowX0 := Lib.hid (tr_row reZ2 RrowX0.out)
  replace yZ100 := tr_cell reZ2 yZ100
  replace yZ101 := tr_cell reZ2 yZ101
  replace RrowZ10 := Lib.hid (tr_row reZ2 RrowZ10.out)
  have rowZ20 : Z2.heap[(ovr Z1 y6).heap.size]? = some (.cells #[I fl, I fh] 23 (0, 0)) := by rw [hZ2]; exact heap_last _ _ _ rfl
  have yZ200 := ovr_cell (W := Z2) (b := (ovr Z1 y6).heap.size) (o := 0) (v := I fl) (by rw [cell_of_row _ _ _ _ _ _ rowZ20]; rfl)
  have yZ201 := ovr_cell (W := Z2) (b := (ovr Z1 y6).heap.size) (o := 1) (v := I fh) (by rw [cell_of_row _ _ _ _ _ _ rowZ20]; rfl)
  have RrowZ20 := Lib.hid (ovr_row rowZ20)
  clear rowZ20
  have HBZ2 : Hid (∀ u, Below Z1.heap.size Z1 (ovr Z2 u)) := fun u => by obtain ⟨x, hx⟩ := reZ2 u; rw [hx]; exact ovr_below _ _
  have HUZ2 : Hid (∀ u, Below w.heap.size w (ovr Z2 u)) := fun u => by obtain ⟨x, hx⟩ := reZ2 u; rw [hx]; exact HUZ1.out x
  clear reZ2
  have HZ2 := Lib.hid hZ2
  clear hZ2
  rw [← HZ2.out]
  obtain ⟨y7, hy7⟩ := ovr_self Z2
  rw [hy7]
  clear hy7
  have HGO2 := HGO.out.o
  have kv1 : IntKind.i64.wrap (vl - g.o) = vl - g.o := IntWalk.i64_in _ (by have := HVB.out; omega)
  have kv2 : IntKind.i64.wrap (vh + g.o) = vh + g.o := IntWalk.i64_in _ (by have := HVB.out; omega)
  clear HGO2
  have C3 := Lib.hid (CPL.out ⟨max 0 (vl - g.o), vh + g.o⟩ tr HT.out.r)
  obtain ⟨q3, hq3e⟩ : ∃ q, plF ⟨max 0 (vl - g.o), vh + g.o⟩ tr = q := ⟨_, rfl⟩
  rw [hq3e] at C3
  have HQ3E := Lib.hid hq3e
  clear hq3e
  go_wp2_with fail
  refine (C3.out _).mono ?_
  rintro e w1 ⟨rfl, hb1⟩
  obtain ⟨y8, rfl⟩ := ovr_next hb1
  clear hb1
  have H8Z : Hid (∀ u, Below X8.heap.size X8 (ovr Z2 u)) := fun u => HX89.out.trans ((below_chain HBZ1.out HBZ2.out u).mono HX89.out.size)
  have H8B : Hid (Below w.heap.size w X8) := below_self0' HUX8.out
  obtain ⟨bz, oz, hZZ, _, _, _⟩ := (HGI.out _ H8B.out).z.rng (k := 0) HGO.out.z1
  subst hZZ
  have HZR : Hid (∀ V, Below X8.heap.size X8 V → Rd V w.heap.size 2 (some ⟨bz, oz, none⟩) g.z.length (rR g.z)) := fun V hV => (HGI.out V (H8B.out.trans (hV.mono H8B.out.size))).z
  obtain ⟨rt, hrt⟩ : ∃ r, max 0 (min 1000000 q3) = r := ⟨_, rfl⟩
  have HRT := Lib.hid hrt
  have HRB : Hid (0 ≤ rt ∧ rt ≤ 1000000) := by show _ ∧ _; omega
  go_upto_block 0 with fail
  clear hrt
  go_wp2_with fail
  go_loopw [18] (fun i wr => ∃ (n : Nat) (x : World), n ≤ g.z.length ∧ i = .int .i64 n ∧ wr = ovr Z2 x) (fun i _ => g.z.length - (intOf i).toNat)
  case atStart => exact ⟨0, y8, by omega, rfl, rfl⟩
  case round =>
    as_aux_lemma =>
      obtain ⟨n, x, hnl, rfl, rfl⟩ := hrel
      have hn20 : n ≤ 20 := by have := HGO.out.z2; omega
      by_cases hlt : n < g.z.length
      · have HLT := Lib.hid hlt
        have hz := spanB_iff.1 (HGO.out.z n hlt)
        have hA : (at0 g.r 0).lo ≤ fr ∧ fr ≤ tp ∧ tp ≤ lastX g.r := by rw [HF.out, HL.out]; have := HFT.out; omega
        have hB : fr ≤ q2 ∧ q2 ≤ q2 + 1 ∧ q2 + 1 ≤ tp := by have := HQ2.out; omega
        have hC : (at0 g.r 0).lo ≤ q2 ∧ q2 ≤ q2 + 1 ∧ q2 + 1 ≤ lastX g.r := by rw [HF.out, HL.out]; have := HQ2.out; omega
        have hD : q2 ≤ q2 ∧ q2 ≤ q2 + 1 := by omega
        have hsub := sl_sub HGO.out HOK.out (x := ⟨q2, q2 + 1⟩) (X := ⟨fr, tp⟩) hA hB hlt
        have hq4 := plF_in (r := at0 g.z n) HT.out.g.1 hz.2.1
        obtain ⟨nn, rr, hmd, _, _⟩ := md_near (p := plF (at0 g.z n) tg) (f := fl) (by omega) (by have := HFB.out; omega)
        have htr := sl_true HGO.out HOK.out (x := ⟨q2, q2 + 1⟩) (p := q2) (j := n) (b1 := tr) (b2 := tg) (t := t) (n := nn) (r := rr) hC hD hlt HT.out.r.1 HT.out.g.1 (fun i => (HT.out.t i).1) (by rw [HV2E.out]; exact hmd)
        rw [HV1E.out, HQ3E.out, HRT.out] at htr
        obtain ⟨kx, hk5, hrk, hbit⟩ := htr
        have hgb : 1 ≤ max 1 (min 1000000 nn) ∧ max 1 (min 1000000 nn) ≤ 1000000 := by omega
        have CRR : Hid (∀ V, Calls Try.prog 25 #[.agg (mdA m), .agg (ttA t tr tg), I rt, I (max 1 (min 1000000 nn))] V fun e w' => e = .returned (I kx) ∧ Below V.heap.size V w') := fun V => by
          have h9 := region_any m HOK.out t tr tg HT.out rt (max 1 (min 1000000 nn)) HRB.out hgb V
          rw [hrk] at h9
          exact h9
        have hs5 := slL_at m g ⟨q2, q2 + 1⟩ hlt
        have hs4 := slL_at m g ⟨fr, tp⟩ hlt
        obtain ⟨S5, hS5⟩ : ∃ s, slV m g ⟨q2, q2 + 1⟩ (at0 g.z n) = s := ⟨_, rfl⟩
        obtain ⟨S4, hS4⟩ : ∃ s, slV m g ⟨fr, tp⟩ (at0 g.z n) = s := ⟨_, rfl⟩
        rw [hS5] at hsub hbit hs5
        rw [hS4] at hsub hs4
        have HS5 := Lib.hid hs5
        have HS4 := Lib.hid hs4
        have HSUB := Lib.hid hsub
        have HBIT := Lib.hid hbit
        have HK5 := Lib.hid hk5
        have CQ4 := Lib.hid (CPL.out (at0 g.z n) tg HT.out.g)
        have CMD : Hid (∀ V, Calls Try.prog 35 #[I (plF (at0 g.z n) tg), I fl, I 10000, .int .u8 3] V fun e w' => e = .returned (.tuple #[I nn, I rr, I 0]) ∧ Below V.heap.size V w') := fun V => by
          have h9 := muldiv_any (plF (at0 g.z n) tg) fl 10000 3 V (by omega) (by have := HFB.out; omega) (by omega)
          rw [hmd] at h9
          exact h9
        obtain ⟨q4, hq4e⟩ : ∃ q, plF (at0 g.z n) tg = q := ⟨_, rfl⟩
        rw [hq4e] at CQ4 CMD
        obtain ⟨⟨zl, zh⟩, hzz⟩ : ∃ z, at0 g.z n = z := ⟨_, rfl⟩
        rw [hzz] at CQ4
        have HZZ := Lib.hid hzz
        clear hA hB hC hD hz hsub hq4 hmd hk5 hrk hbit hgb hs5 hs4 hS5 hS4 hq4e hzz
        go_upto_region 23 with fail
        have hbQ := ovr_below Z2 x
        obtain ⟨Q, hQ⟩ : ∃ Q, Q = ovr Z2 x := ⟨_, rfl⟩
        rw [← hQ] at hbQ
        rw [← hQ]
        have hQ' := Lib.hid hQ
        clear hQ
        have hbQ' := Lib.hid hbQ
        have reQ : ∀ v, ∃ x, ovr Q v = ovr Z2 x := fun v => ovr_reB hbQ v
        replace yW00 := tr_cell reQ yW00
        replace yW01 := tr_cell reQ yW01
        replace yW02 := tr_cell reQ yW02
        replace yW03 := tr_cell reQ yW03
        replace yW04 := tr_cell reQ yW04
        replace yW05 := tr_cell reQ yW05
        replace yW06 := tr_cell reQ yW06
        replace yW07 := tr_cell reQ yW07
        replace yW08 := tr_cell reQ yW08
        replace RrowW0 := Lib.hid (tr_row reQ RrowW0.out)
        replace yW10 := tr_cell reQ yW10
        replace yW11 := tr_cell reQ yW11
        replace yW12 := tr_cell reQ yW12
        replace yW13 := tr_cell reQ yW13
        replace RrowW1 := Lib.hid (tr_row reQ RrowW1.out)
        replace yW20 := tr_cell reQ yW20
        replace yW21 := tr_cell reQ yW21
        replace yW22 := tr_cell reQ yW22
        replace yW23 := tr_cell reQ yW23
        replace yW24 := tr_cell reQ yW24
        replace yW25 := tr_cell reQ yW25
        replace yW26 := tr_cell reQ yW26
        replace yW27 := tr_cell reQ yW27
        replace yW28 := tr_cell reQ yW28
        replace yW29 := tr_cell reQ yW29
        replace RrowW2 := Lib.hid (tr_row reQ RrowW2.out)
        replace yX00 := tr_cell reQ yX00
        replace yX01 := tr_cell reQ yX01
        replace RrowX0 := Lib.hid (tr_row reQ RrowX0.out)
        replace yZ100 := tr_cell reQ yZ100
        replace yZ101 := tr_cell reQ yZ101
        replace RrowZ10 := Lib.hid (tr_row reQ RrowZ10.out)
        replace yZ200 := tr_cell reQ yZ200
        replace yZ201 := tr_cell reQ yZ201
        replace RrowZ20 := Lib.hid (tr_row reQ RrowZ20.out)
        have HUQ : Hid (∀ u, Below w.heap.size w (ovr Q u)) := fun u => by obtain ⟨x, hx⟩ := reQ u; rw [hx]; exact HUZ2.out x
        clear reQ hbQ
        have H8Q : Hid (Below X8.heap.size X8 Q) := by
          obtain ⟨v, hv⟩ := ovr_self Q
          show Below _ _ _
          rw [hQ'.out]
          exact H8Z.out _
        obtain ⟨e0, e1⟩ := rd_at2 (HZR.out Q H8Q.out) hlt
        rw [HZZ.out] at e0 e1
        have z0 := ovr_cell e0
        have z1 := ovr_cell e1
        clear e0 e1
        refine Dl.wp_region_late 16 [14, 15] (fun j => if j = 8 then some (fun u _ => u = I q4) else if j = 11 then some (fun u _ => u = .tuple #[I nn, I rr, I 0]) else none) (by kernel_rfl) (by kernel_rfl) (by kernel_rfl) (by kernel_rfl) [] (E := 23)
          ⟨by kernel_rfl, alloc_rng, fun j hj => by cases hj⟩ (by kernel_rfl) (fun i hi => by simp only [List.mem_cons, List.not_mem_nil, or_false] at hi; rcases hi with rfl | rfl <;> rfl) (fun c a d v w h => by cases d <;> exact h) ?_
        simp only [List.take_succ_cons, List.take_zero, List.drop_succ_cons, List.drop_zero]
        repeat (refine Dk.wpG_one rfl rfl rfl ?_; intro K hK; go_big_quiet_op; go_big_quiet_on)
        refine Dk.wpG_make (fun u _ => u = I q4) rfl rfl (fun w' hw' _ => ?_) (fun u hu => ?_)
        · go_simp
          exact call_grow (CQ4.out w')
        obtain ⟨_, _, rfl⟩ := hu
        simp only [Act.put, List.setIfInBounds_toArray, List.set_cons_zero, List.set_cons_succ]
        repeat (refine Dk.wpG_one rfl rfl rfl ?_; intro K hK; go_big_quiet_op; go_big_quiet_on)
        refine Dk.wpG_make (fun u _ => u = .tuple #[I nn, I rr, I 0]) rfl rfl (fun w' hw' _ => ?_) (fun u hu => ?_)
        · go_simp
          exact call_grow (CMD.out w')
        obtain ⟨_, _, rfl⟩ := hu
        simp only [Act.put, List.setIfInBounds_toArray, List.set_cons_zero, List.set_cons_succ]
        repeat (refine Dk.wpG_one rfl rfl rfl ?_; intro K hK; go_big_quiet_op; go_big_quiet_on)
        refine Dk.wpG_nil (fun w5 hw5 _ => ?_)
        refine Dl.wpTailH_cons (wp_assign _ (I nn) rfl rfl ⟨hw5, ?_⟩)
        refine Dl.wpTailH_cons (wp_assign _ (I rr) rfl rfl ⟨hw5, ?_⟩)
        refine Dl.wpTailH_cons (wp_assign _ (I 0) rfl rfl ⟨hw5, ?_⟩)
        refine Dl.wpTailH_nil ?_
        simp only [Act.put, List.setIfInBounds_toArray, List.set_cons_zero, List.set_cons_succ]
        obtain ⟨x5, rfl⟩ := hw5
        clear z0 z1
        go_wp2_with fail
        refine (CRR.out _).mono ?_
        rintro e w1 ⟨rfl, hb1⟩
        obtain ⟨x6, rfl⟩ := ovr_next hb1
        clear hb1
        go_upto_region 25 with fail
        have HZQ := Lib.hid hbQ'.out
        have hbQ3 := ovr_below Q x6
        obtain ⟨Q3, hQ3⟩ : ∃ Q3, Q3 = ovr Q x6 := ⟨_, rfl⟩
        rw [← hQ3] at hbQ3
        rw [← hQ3]
        have hQ3' := Lib.hid hQ3
        clear hQ3
        have hbQ3' := Lib.hid hbQ3
        have reQ3 : ∀ v, ∃ x, ovr Q3 v = ovr Q x := fun v => ovr_reB hbQ3 v
        replace yW00 := tr_cell reQ3 yW00
        replace yW01 := tr_cell reQ3 yW01
        replace yW02 := tr_cell reQ3 yW02
        replace yW03 := tr_cell reQ3 yW03
        replace yW04 := tr_cell reQ3 yW04
        replace yW05 := tr_cell reQ3 yW05
        replace yW06 := tr_cell reQ3 yW06
        replace yW07 := tr_cell reQ3 yW07
        replace yW08 := tr_cell reQ3 yW08
        replace RrowW0 := Lib.hid (tr_row reQ3 RrowW0.out)
        replace yW10 := tr_cell reQ3 yW10
        replace yW11 := tr_cell reQ3 yW11
        replace yW12 := tr_cell reQ3 yW12
        replace yW13 := tr_cell reQ3 yW13
        replace RrowW1 := Lib.hid (tr_row reQ3 RrowW1.out)
        replace yW20 := tr_cell reQ3 yW20
        replace yW21 := tr_cell reQ3 yW21
        replace yW22 := tr_cell reQ3 yW22
        replace yW23 := tr_cell reQ3 yW23
        replace yW24 := tr_cell reQ3 yW24
        replace yW25 := tr_cell reQ3 yW25
        replace yW26 := tr_cell reQ3 yW26
        replace yW27 := tr_cell reQ3 yW27
        replace yW28 := tr_cell reQ3 yW28
        replace yW29 := tr_cell reQ3 yW29
        replace RrowW2 := Lib.hid (tr_row reQ3 RrowW2.out)
        replace yX00 := tr_cell reQ3 yX00
        replace yX01 := tr_cell reQ3 yX01
        replace RrowX0 := Lib.hid (tr_row reQ3 RrowX0.out)
        replace yZ100 := tr_cell reQ3 yZ100
        replace yZ101 := tr_cell reQ3 yZ101
        replace RrowZ10 := Lib.hid (tr_row reQ3 RrowZ10.out)
        replace yZ200 := tr_cell reQ3 yZ200
        replace yZ201 := tr_cell reQ3 yZ201
        replace RrowZ20 := Lib.hid (tr_row reQ3 RrowZ20.out)
        have HUQ3 : Hid (∀ u, Below w.heap.size w (ovr Q3 u)) := fun u => by obtain ⟨x, hx⟩ := reQ3 u; rw [hx]; exact HUQ.out x
        clear reQ3 hbQ3
        have HQQ3 := Lib.hid hbQ3'.out
        have H8Q3 : Hid (Below X8.heap.size X8 Q3) := H8Q.out.trans (HQQ3.out.mono H8Q.out.size)
        have l5 := HLG.out Q3 (HX58.out.trans (H8Q3.out.mono HX58.out.size))
        have l8 := HSH.out Q3 H8Q3.out
        have m1 := ovr_cell l5.1
        have m2 := ovr_cell l8.1
        have m3 := ovr_cell (rd_one l5.2 hlt)
        have m4 := ovr_cell (rd_one l8.2 hlt)
        unfold rU8 at m3 m4
        rw [HS4.out] at m3
        rw [HS5.out] at m4
        simp only [Nat.zero_add] at m3 m4
        have hbit := HBIT.out
        have hsub := HSUB.out
        have hk5 := HK5.out
        clear l5 l8
        refine wp_region_below_lit (by kernel_rfl) (by kernel_rfl) ?_
        repeat (go_big_quiet_step (fail))
        refine wpQuiet_nil ?_
        intro Y3 hY3
        have HZY : Hid (Below Z2.heap.size Z2 Y3) := HZQ.out.trans ((HQQ3.out.trans (hY3.mono HQQ3.out.size)).mono HZQ.out.size)
        clear hY3 m1 m2 m3 m4 hbit hsub hk5
        go_wp2_with fail
        exact ⟨⟨n + 1, Y3, HLT.out, rfl, ovr_of HZY.out⟩, by have := HLT.out; simp [intOf]; omega⟩
      · obtain rfl : n = g.z.length := by omega
        obtain ⟨wv, hwv⟩ : ∃ q, bits .and .u8 wn 31 = q := ⟨_, rfl⟩
        have hwb : 0 ≤ wv ∧ wv ≤ 31 := by
          have h9 := and31 ⟨wn.toNat, by have := HWN.out; omega⟩
          simp only [show ((wn.toNat : Nat) : Int) = wn by have := HWN.out; omega] at h9
          rw [hwv] at h9
          exact h9
        go_upto_region 28 with fail
        have HWV : Hid (0 ≤ wv ∧ wv ≤ 31) := hwb
        have UEQ : Hid (usE m g wv = 0) := by
          show _ = _
          unfold usE
          rw [HOK.out, HGG.out, decide_eq_true hwb.2]
          rfl
        clear hwv hwb
        have hu1 := us_fin m g wv HGO.out.lo (tab_asc HGO.out.r)
        have hu2 := us_ok (fineG m g wv) HGO.out.lo (usM g)
        rw [← hu1] at hu2
        have hNl : f + (usM g : Int) = l := by rw [← HF.out, ← HL.out]; unfold usM; have := tab_asc HGO.out.r; omega
        rw [HF.out] at hu2
        have hfin : fineG m g wv q2 = !((slL m g ⟨q2, q2 + 1⟩).any (badS wv)) := by
          unfold fineG
          have h9 := HQ2.out
          rw [HL.out, decide_eq_true (by omega), show min (q2 + 1) l = q2 + 1 by omega]
          rfl
        obtain ⟨L, hLe⟩ : ∃ L, usF m g wv = L := ⟨_, rfl⟩
        have HUG : Hid (∀ {P : Program} {f : FuncId} {args : Array Value} {w : World}, Calls P f args w (RetU m g wv w) → Calls P f args w fun e w' => ∃ V, e = .returned V ∧ Le w w' ∧ Box (UsO L) V w') := fun h => by
          have h9 := us_growO UEQ.out h
          rw [hLe] at h9
          exact h9
        rw [hLe] at hu2
        have hlen : L.length ≤ 3001 := by
          rw [← hLe]
          have h1 := usP_len (fineG m g wv) (at0 g.r 0).lo (usN g)
          have h2 : usN g ≤ 3001 := by
            unfold usN
            have := HGO.out.lo
            have := HGO.out.hi
            omega
          unfold usF
          omega
        have HLEN := Lib.hid hlen
        have HUO := Lib.hid hu2
        have HNL := Lib.hid hNl
        have HFIN := Lib.hid hfin
        clear hu1 hu2 hNl hfin hLe hlen hlt hn20 hnl
        have hbV0 := ovr_below Z2 x
        obtain ⟨V0, hV0⟩ : ∃ V0, V0 = ovr Z2 x := ⟨_, rfl⟩
        rw [← hV0] at hbV0
        rw [← hV0]
        have hV0' := Lib.hid hV0
        clear hV0
        have hbV0' := Lib.hid hbV0
        have reV0 : ∀ v, ∃ x, ovr V0 v = ovr Z2 x := fun v => ovr_reB hbV0 v
        replace yW00 := tr_cell reV0 yW00
        replace yW01 := tr_cell reV0 yW01
        replace yW02 := tr_cell reV0 yW02
        replace yW03 := tr_cell reV0 yW03
        replace yW04 := tr_cell reV0 yW04
        replace yW05 := tr_cell reV0 yW05
        replace yW06 := tr_cell reV0 yW06
        replace yW07 := tr_cell reV0 yW07
        replace yW08 := tr_cell reV0 yW08
        replace RrowW0 := Lib.hid (tr_row reV0 RrowW0.out)
        replace yW10 := tr_cell reV0 yW10
        replace yW11 := tr_cell reV0 yW11
        replace yW12 := tr_cell reV0 yW12
        replace yW13 := tr_cell reV0 yW13
        replace RrowW1 := Lib.hid (tr_row reV0 RrowW1.out)
        replace yW20 := tr_cell reV0 yW20
        replace yW21 := tr_cell reV0 yW21
        replace yW22 := tr_cell reV0 yW22
        replace yW23 := tr_cell reV0 yW23
        replace yW24 := tr_cell reV0 yW24
        replace yW25 := tr_cell reV0 yW25
        replace yW26 := tr_cell reV0 yW26
        replace yW27 := tr_cell reV0 yW27
        replace yW28 := tr_cell reV0 yW28
        replace yW29 := tr_cell reV0 yW29
        replace RrowW2 := Lib.hid (tr_row reV0 RrowW2.out)
        replace yX00 := tr_cell reV0 yX00
        replace yX01 := tr_cell reV0 yX01
        replace RrowX0 := Lib.hid (tr_row reV0 RrowX0.out)
        replace yZ100 := tr_cell reV0 yZ100
        replace yZ101 := tr_cell reV0 yZ101
        replace RrowZ10 := Lib.hid (tr_row reV0 RrowZ10.out)
        replace yZ200 := tr_cell reV0 yZ200
        replace yZ201 := tr_cell reV0 yZ201
        replace RrowZ20 := Lib.hid (tr_row reV0 RrowZ20.out)
        have HUV0 : Hid (∀ u, Below w.heap.size w (ovr V0 u)) := fun u => by obtain ⟨x, hx⟩ := reV0 u; rw [hx]; exact HUZ2.out x
        clear reV0 hbV0
        have H8V : Hid (Below X8.heap.size X8 V0) := by
          show Below _ _ _
          rw [hV0'.out]
          exact H8Z.out _
        refine Dl.wp_region_late 8 [7] (fun j => if j = 2 then some (OwB g) else if j = 4 then some (UsO L) else none) (by kernel_rfl) (by kernel_rfl) (by kernel_rfl) (by kernel_rfl) [] (E := 23)
          ⟨by kernel_rfl, alloc_rng, fun j hj => by cases hj⟩ (by kernel_rfl) (fun i hi => by simp only [List.mem_cons, List.not_mem_nil, or_false] at hi; rcases hi with rfl; rfl) (fun c a d v w h => by cases d <;> exact h) ?_
        simp only [List.take_succ_cons, List.take_zero, List.drop_succ_cons, List.drop_zero]
        repeat (refine Dk.wpG_one rfl rfl rfl ?_; intro K hK; go_big_quiet_op; go_big_quiet_on)
        refine Dk.wpG_make (OwB g) rfl rfl (fun w' hw' _ => ?_) (fun u hu => ?_)
        · obtain ⟨x, rfl⟩ := hw'
          go_simp
          exact ow_grow (COW.out _ (HUV0.out x))
        obtain ⟨_, _, A2, Z2', F2, a2, c2, d2, rfl, _⟩ := hu
        simp only [Act.put, List.setIfInBounds_toArray, List.set_cons_zero, List.set_cons_succ]
        repeat (refine Dk.wpG_one rfl rfl rfl ?_; intro K hK; go_big_quiet_op; go_big_quiet_on)
        refine Dk.wpG_make (UsO L) rfl rfl (fun w' hw' hk => ?_) (fun u hu => ?_)
        · have hk2 := hk ⟨2, .data⟩ (by simp) rfl _ 279 _ rfl rfl rfl (Nat.lt_of_lt_of_eq (by decide : 279 < 386) rfl) rfl
          have hgi := OwB.at hk2.now
          go_simp
          exact HUG.out (CUS.out w' wv A2 Z2' F2 a2 c2 d2 hgi)
        obtain ⟨_, _, A6, c6, rfl, _⟩ := hu
        simp only [Act.put, List.setIfInBounds_toArray, List.set_cons_zero, List.set_cons_succ]
        repeat (refine Dk.wpG_one rfl rfl rfl ?_; intro K hK; go_big_quiet_op; go_big_quiet_on)
        refine Dk.wpG_nil (fun w5 hw5 hG => ?_)
        have hus := (Box.now hG.2).same
        clear hG
        refine Dl.wpTailH_cons (wp_assign _ (.slice A6 L.length c6) rfl rfl ⟨hw5, ?_⟩)
        refine Dl.wpTailH_cons (wp_assign _ (I 0) rfl rfl ⟨hw5, ?_⟩)
        refine Dl.wpTailH_nil ?_
        simp only [Act.put, List.setIfInBounds_toArray, List.set_cons_zero, List.set_cons_succ]
        obtain ⟨x5, rfl⟩ := hw5
        have hus' := Lib.hid hus
        clear hus
        have hbV1 := ovr_below V0 x5
        obtain ⟨V1, hV1⟩ : ∃ V1, V1 = ovr V0 x5 := ⟨_, rfl⟩
        rw [← hV1] at hbV1
        rw [← hV1]
        have hV1' := Lib.hid hV1
        clear hV1
        have hbV1' := Lib.hid hbV1
        have reV1 : ∀ v, ∃ x, ovr V1 v = ovr V0 x := fun v => ovr_reB hbV1 v
        replace yW00 := tr_cell reV1 yW00
        replace yW01 := tr_cell reV1 yW01
        replace yW02 := tr_cell reV1 yW02
        replace yW03 := tr_cell reV1 yW03
        replace yW04 := tr_cell reV1 yW04
        replace yW05 := tr_cell reV1 yW05
        replace yW06 := tr_cell reV1 yW06
        replace yW07 := tr_cell reV1 yW07
        replace yW08 := tr_cell reV1 yW08
        replace RrowW0 := Lib.hid (tr_row reV1 RrowW0.out)
        replace yW10 := tr_cell reV1 yW10
        replace yW11 := tr_cell reV1 yW11
        replace yW12 := tr_cell reV1 yW12
        replace yW13 := tr_cell reV1 yW13
        replace RrowW1 := Lib.hid (tr_row reV1 RrowW1.out)
        replace yW20 := tr_cell reV1 yW20
        replace yW21 := tr_cell reV1 yW21
        replace yW22 := tr_cell reV1 yW22
        replace yW23 := tr_cell reV1 yW23
        replace yW24 := tr_cell reV1 yW24
        replace yW25 := tr_cell reV1 yW25
        replace yW26 := tr_cell reV1 yW26
        replace yW27 := tr_cell reV1 yW27
        replace yW28 := tr_cell reV1 yW28
        replace yW29 := tr_cell reV1 yW29
        replace RrowW2 := Lib.hid (tr_row reV1 RrowW2.out)
        replace yX00 := tr_cell reV1 yX00
        replace yX01 := tr_cell reV1 yX01
        replace RrowX0 := Lib.hid (tr_row reV1 RrowX0.out)
        replace yZ100 := tr_cell reV1 yZ100
        replace yZ101 := tr_cell reV1 yZ101
        replace RrowZ10 := Lib.hid (tr_row reV1 RrowZ10.out)
        replace yZ200 := tr_cell reV1 yZ200
        replace yZ201 := tr_cell reV1 yZ201
        replace RrowZ20 := Lib.hid (tr_row reV1 RrowZ20.out)
        have HUV1 : Hid (∀ u, Below w.heap.size w (ovr V1 u)) := fun u => by obtain ⟨x, hx⟩ := reV1 u; rw [hx]; exact HUV0.out x
        clear reV1 hbV1
        have HRU : Hid (∀ q, Below V1.heap.size V1 q → Rd q V1.heap.size 2 A6 L.length (rR L)) := fun q hq => by
          have h9 := hus'.out
          rw [← hV1'.out] at h9
          exact h9.below hq
        clear hus'
        have H8V1 : Hid (Below X8.heap.size X8 V1) := H8V.out.trans (hbV1'.out.mono H8V.out.size)
        obtain ⟨v0, hv0⟩ := ovr_self V1
        rw [hv0]
        clear hv0
        go_wp2_with fail
        go_loopw [25, 26] (fun s i wr => ∃ (n : Nat) (x : World), n ≤ L.length ∧ i = .int .i64 n ∧ s = .bool (inB L q2 n) ∧ wr = ovr V1 x) (fun _ i _ => L.length - (intOf i).toNat)
        case atStart => exact ⟨0, v0, by omega, rfl, rfl, rfl⟩
        case round =>
          as_aux_lemma =>
            obtain ⟨n, x, hnl, rfl, rfl, rfl⟩ := hrel
            have hn3 : n ≤ 3001 := by have := HLEN.out; omega
            by_cases hlt : n < L.length
            · have HLT := Lib.hid hlt
              have hbd := HUO.out.bd n hlt
              have hins := inB_succ L q2 hlt
              have hasc : 0 < n → (at0 L (n - 1)).hi < (at0 L n).lo := fun h0 => by
                have h9 := HUO.out.asc (n - 1) (by omega)
                rw [show n - 1 + 1 = n by omega] at h9
                exact h9
              obtain ⟨b6, o6, hA6, _, _, _⟩ := (HRU.out V1 (Below.refl _ _)).rng hlt
              subst hA6
              rw [HNL.out] at hbd
              obtain ⟨⟨ra, rb⟩, hr⟩ : ∃ r, at0 L n = r := ⟨_, rfl⟩
              rw [hr] at hbd hins hasc
              simp only at hbd hins hasc
              have HR := Lib.hid hr
              have HINS := Lib.hid hins
              have d1 : decide (ra < f) = false := decide_eq_false (by omega)
              have d2 : decide (rb ≤ ra) = false := decide_eq_false (by omega)
              have d3 : decide (l < rb) = false := decide_eq_false (by omega)
              have HASC := Lib.hid hasc
              clear hr hbd hins hasc
              go_upto_region 35 with fail
              have hbQ := ovr_below V1 x
              obtain ⟨Q, hQ⟩ : ∃ Q, Q = ovr V1 x := ⟨_, rfl⟩
              rw [← hQ] at hbQ
              rw [← hQ]
              have hQ' := Lib.hid hQ
              clear hQ
              have hbQ' := Lib.hid hbQ
              have reQ : ∀ v, ∃ x, ovr Q v = ovr V1 x := fun v => ovr_reB hbQ v
              replace yW00 := tr_cell reQ yW00
              replace yW01 := tr_cell reQ yW01
              replace yW02 := tr_cell reQ yW02
              replace yW03 := tr_cell reQ yW03
              replace yW04 := tr_cell reQ yW04
              replace yW05 := tr_cell reQ yW05
              replace yW06 := tr_cell reQ yW06
              replace yW07 := tr_cell reQ yW07
              replace yW08 := tr_cell reQ yW08
              replace RrowW0 := Lib.hid (tr_row reQ RrowW0.out)
              replace yW10 := tr_cell reQ yW10
              replace yW11 := tr_cell reQ yW11
              replace yW12 := tr_cell reQ yW12
              replace yW13 := tr_cell reQ yW13
              replace RrowW1 := Lib.hid (tr_row reQ RrowW1.out)
              replace yW20 := tr_cell reQ yW20
              replace yW21 := tr_cell reQ yW21
              replace yW22 := tr_cell reQ yW22
              replace yW23 := tr_cell reQ yW23
              replace yW24 := tr_cell reQ yW24
              replace yW25 := tr_cell reQ yW25
              replace yW26 := tr_cell reQ yW26
              replace yW27 := tr_cell reQ yW27
              replace yW28 := tr_cell reQ yW28
              replace yW29 := tr_cell reQ yW29
              replace RrowW2 := Lib.hid (tr_row reQ RrowW2.out)
              replace yX00 := tr_cell reQ yX00
              replace yX01 := tr_cell reQ yX01
              replace RrowX0 := Lib.hid (tr_row reQ RrowX0.out)
              replace yZ100 := tr_cell reQ yZ100
              replace yZ101 := tr_cell reQ yZ101
              replace RrowZ10 := Lib.hid (tr_row reQ RrowZ10.out)
              replace yZ200 := tr_cell reQ yZ200
              replace yZ201 := tr_cell reQ yZ201
              replace RrowZ20 := Lib.hid (tr_row reQ RrowZ20.out)
              have HUQ : Hid (∀ u, Below w.heap.size w (ovr Q u)) := fun u => by obtain ⟨x, hx⟩ := reQ u; rw [hx]; exact HUV1.out x
              clear reQ hbQ
              have HVQ := Lib.hid hbQ'.out
              obtain ⟨e0, e1⟩ := rd_at2 (HRU.out Q HVQ.out) hlt
              rw [HR.out] at e0 e1
              have c0 := ovr_cell e0
              have c1' := ovr_cell e1
              clear e0 e1
              by_cases h0 : 0 < n
              · obtain ⟨_, e2⟩ := rd_at2 (HRU.out Q HVQ.out) (k := n - 1) (by omega)
                have hpb := HASC.out h0
                obtain ⟨⟨pa, pb⟩, hp⟩ : ∃ r, at0 L (n - 1) = r := ⟨_, rfl⟩
                rw [hp] at e2 hpb
                simp only at e2 hpb
                have c2 := ovr_cell e2
                have d4 : decide (0 < (n : Int)) = true := decide_eq_true (by omega)
                have d4' : decide (0 < n) = true := decide_eq_true h0
                have d5 : decide (ra ≤ pb) = false := decide_eq_false (by omega)
                have kk : IntKind.i64.wrap ((n : Int) - 1) = ((n - 1 : Nat) : Int) := by rw [show ((n - 1 : Nat) : Int) = (n : Int) - 1 by omega]; exact IntWalk.i64_in _ (by omega)
                have hn1 : n - 1 < L.length := by omega
                clear hp hpb e2 h0
                refine wp_region_below_lit (by kernel_rfl) (by kernel_rfl) ?_
                repeat (go_big_quiet_step (fail))
                refine wpQuiet_nil ?_
                intro Y3 hY3
                obtain ⟨y, rfl⟩ : ∃ u, Y3 = ovr Q u := ⟨Y3, ovr_of hY3⟩
                clear hY3 c2 d4 d4' d5 kk hn1 d1 d2 d3
                rcases hq : inB L q2 n with _ | _
                · by_cases g1 : ra ≤ q2
                  · have d1 := decide_eq_true g1
                    by_cases g2 : q2 < rb
                    · have d2 := decide_eq_true g2
                      have HFZ : Hid (inB L q2 (n + 1) = true) := by show _ = _; rw [HINS.out, hq, d1, d2]; rfl
                      go_wp2_with fail
                      exact ⟨⟨n + 1, _, HLT.out, rfl, by rw [HFZ.out], ovr_of (HVQ.out.trans ((ovr_below Q _).mono HVQ.out.size))⟩, by have := HLT.out; simp [intOf]; omega⟩
                    · have d2 := decide_eq_false g2
                      have HFZ : Hid (inB L q2 (n + 1) = false) := by show _ = _; rw [HINS.out, hq, d1, d2]; rfl
                      go_wp2_with fail
                      exact ⟨⟨n + 1, _, HLT.out, rfl, by rw [HFZ.out], ovr_of (HVQ.out.trans ((ovr_below Q _).mono HVQ.out.size))⟩, by have := HLT.out; simp [intOf]; omega⟩
                  · have d1 := decide_eq_false g1
                    have HFZ : Hid (inB L q2 (n + 1) = false) := by show _ = _; rw [HINS.out, hq, d1]; rfl
                    go_wp2_with fail
                    exact ⟨⟨n + 1, _, HLT.out, rfl, by rw [HFZ.out], ovr_of (HVQ.out.trans ((ovr_below Q _).mono HVQ.out.size))⟩, by have := HLT.out; simp [intOf]; omega⟩
                · skip
                  have HFZ : Hid (inB L q2 (n + 1) = true) := by show _ = _; rw [HINS.out, hq]; rfl
                  go_wp2_with fail
                  exact ⟨⟨n + 1, _, HLT.out, rfl, by rw [HFZ.out], ovr_of (HVQ.out.trans ((ovr_below Q _).mono HVQ.out.size))⟩, by have := HLT.out; simp [intOf]; omega⟩
              · have d4 : decide (0 < (n : Int)) = false := decide_eq_false (by omega)
                have d4' : decide (0 < n) = false := decide_eq_false h0
                clear h0
                refine wp_region_below_lit (by kernel_rfl) (by kernel_rfl) ?_
                repeat (go_big_quiet_step (fail))
                refine wpQuiet_nil ?_
                intro Y3 hY3
                obtain ⟨y, rfl⟩ : ∃ u, Y3 = ovr Q u := ⟨Y3, ovr_of hY3⟩
                clear hY3 d4 d4' d1 d2 d3
                rcases hq : inB L q2 n with _ | _
                · by_cases g1 : ra ≤ q2
                  · have d1 := decide_eq_true g1
                    by_cases g2 : q2 < rb
                    · have d2 := decide_eq_true g2
                      have HFZ : Hid (inB L q2 (n + 1) = true) := by show _ = _; rw [HINS.out, hq, d1, d2]; rfl
                      go_wp2_with fail
                      exact ⟨⟨n + 1, _, HLT.out, rfl, by rw [HFZ.out], ovr_of (HVQ.out.trans ((ovr_below Q _).mono HVQ.out.size))⟩, by have := HLT.out; simp [intOf]; omega⟩
                    · have d2 := decide_eq_false g2
                      have HFZ : Hid (inB L q2 (n + 1) = false) := by show _ = _; rw [HINS.out, hq, d1, d2]; rfl
                      go_wp2_with fail
                      exact ⟨⟨n + 1, _, HLT.out, rfl, by rw [HFZ.out], ovr_of (HVQ.out.trans ((ovr_below Q _).mono HVQ.out.size))⟩, by have := HLT.out; simp [intOf]; omega⟩
                  · have d1 := decide_eq_false g1
                    have HFZ : Hid (inB L q2 (n + 1) = false) := by show _ = _; rw [HINS.out, hq, d1]; rfl
                    go_wp2_with fail
                    exact ⟨⟨n + 1, _, HLT.out, rfl, by rw [HFZ.out], ovr_of (HVQ.out.trans ((ovr_below Q _).mono HVQ.out.size))⟩, by have := HLT.out; simp [intOf]; omega⟩
                · skip
                  have HFZ : Hid (inB L q2 (n + 1) = true) := by show _ = _; rw [HINS.out, hq]; rfl
                  go_wp2_with fail
                  exact ⟨⟨n + 1, _, HLT.out, rfl, by rw [HFZ.out], ovr_of (HVQ.out.trans ((ovr_below Q _).mono HVQ.out.size))⟩, by have := HLT.out; simp [intOf]; omega⟩
            · obtain rfl : n = L.length := by omega
              have hin := HUO.out.inn q2 HQ2.out.2.2.1 (by rw [HNL.out]; exact HQ2.out.2.2.2)
              have hgd : gdAll wv (slL m g ⟨q2, q2 + 1⟩) (slL m g ⟨q2, q2 + 1⟩).length = fineG m g wv q2 := by rw [gdAll_end, HFIN.out]
              obtain ⟨bb, hbb⟩ : ∃ q, fineG m g wv q2 = q := ⟨_, rfl⟩
              rw [hbb] at hin hgd
              rw [hin]
              have hsn : (slL m g ⟨q2, q2 + 1⟩).length = g.z.length := by simp [slL]
              obtain ⟨sl, hsl⟩ : ∃ s, slL m g ⟨q2, q2 + 1⟩ = s := ⟨_, rfl⟩
              rw [hsl] at hgd hsn HSH
              rw [hsn] at hgd
              have HGD := Lib.hid hgd
              have HSN := Lib.hid hsn
              clear hin hgd hbb hsn hsl hlt
              go_wp2_with fail
              go_loopw [27, 28] (fun s i wr => ∃ (j : Nat) (y : World), j ≤ g.z.length ∧ i = .int .i64 j ∧ s = .bool (gdAll wv sl j) ∧ wr = ovr V1 y) (fun _ i _ => g.z.length - (intOf i).toNat)
              case atStart => exact ⟨0, x, by omega, rfl, rfl, rfl⟩
              case round =>
                as_aux_lemma =>
                  obtain ⟨j, y, hjl, rfl, rfl, rfl⟩ := hrel
                  have hj20 : j ≤ 20 := by have := HGO.out.z2; omega
                  have l8 := HSH.out (ovr V1 y) (H8V1.out.trans ((ovr_below V1 y).mono H8V1.out.size))
                  have m1 := l8.1
                  by_cases hj : j < g.z.length
                  · have HJ := Lib.hid hj
                    have m2 := rd_one l8.2 hj
                    unfold rU8 at m2
                    rw [Nat.zero_add] at m2
                    have hgs := Lib.hid (gdAll_succ wv sl (j := j) (by rw [HSN.out]; exact hj))
                    obtain ⟨yv, hyv⟩ : ∃ q, at0 sl j = q := ⟨_, rfl⟩
                    rw [hyv] at m2 hgs
                    have hbs : Hid (badS wv yv = decide (bits .andNot .u8 yv wv ≠ 0)) := rfl
                    clear hyv l8
                    rcases hq : gdAll wv sl j with _ | _
                    · rw [hq] at hgs
                      clear hq
                      go_wp2_with fail
                      exact ⟨⟨j + 1, y, HJ.out, rfl, by rw [hgs.out]; rfl, rfl⟩, by have := HJ.out; simp [intOf]; omega⟩
                    · rw [hq] at hgs
                      clear hq
                      by_cases hz : bits .andNot .u8 yv wv = 0
                      · have hgs2 : Hid (gdAll wv sl (j + 1) = true) := by show _ = _; rw [hgs.out, hbs.out, hz]; rfl
                        go_wp2_with fail
                        exact ⟨⟨j + 1, y, HJ.out, rfl, by rw [hgs2.out], rfl⟩, by have := HJ.out; simp [intOf]; omega⟩
                      · have hgs2 : Hid (gdAll wv sl (j + 1) = false) := by show _ = _; rw [hgs.out, hbs.out, decide_eq_true hz]; rfl
                        have hz2 : (bits .andNot .u8 yv wv == 0) = false := by simpa using hz
                        go_wp2_with fail
                        exact ⟨⟨j + 1, y, HJ.out, rfl, by rw [hgs2.out], rfl⟩, by have := HJ.out; simp [intOf]; omega⟩
                  · obtain rfl : j = g.z.length := by omega
                    rw [HGD.out]
                    clear l8 hj
                    rcases bb with _ | _
                    · skip
                      go_wp2_with fail
                      refine (KN.out _).mono ?_
                      rintro e w1 ⟨rfl, hb1⟩
                      obtain ⟨uk, rfl⟩ := ovr_next hb1
                      clear hb1
                      go_wp2_with fail
                      go_ret
                      exact ⟨rfl, HUV1.out _⟩
                    · skip
                      go_wp2_with fail
                      refine (KN.out _).mono ?_
                      rintro e w1 ⟨rfl, hb1⟩
                      obtain ⟨uk, rfl⟩ := ovr_next hb1
                      clear hb1
                      go_wp2_with fail
                      go_ret
                      exact ⟨rfl, HUV1.out _⟩
end Go.Proofs.Yteibgenkklpoaaa.Un
