/- The contract of slice of package defect. -/
import Derived.Test.YtliddmhifnigdaaDp1
import Derived.Test.YtliddmhifnigdaaU5
import Derived.Test.YtliddmhifnigdaaHp
import Derived.Test.YtliddmhifnigdaaJo
import Derived.Laws.OwnMore
namespace Go.Proofs.Ytliddmhifnigdaa.Un
open Go.RowKit
/-- The row of a slice's sets while it is filled. -/
def slK (m : Mdl) (g : Gro) (x : Rng) (k : Nat) : Array Value := ((List.range g.z.length).map fun i => .int .u8 (if i < k then slV m g x (at0 g.z i) else 0)).toArray
theorem slK_size (m : Mdl) (g : Gro) (x : Rng) (k : Nat) : (slK m g x k).size = g.z.length := by simp [slK]
theorem slK_at (m : Mdl) (g : Gro) (x : Rng) {k i : Nat} (hi : i < g.z.length) : (slK m g x k)[i]? = some (.int .u8 (if i < k then slV m g x (at0 g.z i) else 0)) := by
  unfold slK
  rw [List.getElem?_toArray, List.getElem?_map, List.getElem?_range hi]
  rfl
theorem slK_zero (m : Mdl) (g : Gro) (x : Rng) : slK m g x 0 = Array.replicate g.z.length (.int .u8 0) := by
  apply Array.ext'
  apply List.ext_getElem?
  intro i
  by_cases hi : i < g.z.length
  · rw [Array.getElem?_toList, slK_at m g x hi]
    simp [hi]
  · rw [List.getElem?_eq_none (by rw [Array.length_toList, slK_size]; omega), List.getElem?_eq_none (by simp; omega)]
theorem slK_set (m : Mdl) (g : Gro) (x : Rng) {k : Nat} (hk : k < g.z.length) : (slK m g x k).setIfInBounds k (.int .u8 (slV m g x (at0 g.z k))) = slK m g x (k + 1) := by
  apply Array.ext'
  apply List.ext_getElem?
  intro i
  rw [Array.getElem?_toList, Array.getElem?_toList, Array.getElem?_setIfInBounds]
  by_cases hi : i < g.z.length
  · by_cases h : k = i
    · subst h
      rw [if_pos rfl, if_pos (by rw [slK_size]; exact hk), slK_at m g x hk, if_pos (by omega)]
    · rw [if_neg h, slK_at m g x hi, slK_at m g x hi]
      by_cases h2 : i < k
      · rw [if_pos h2, if_pos (by omega)]
      · rw [if_neg h2, if_neg (by omega)]
  · have e1 : (slK m g x k)[i]? = none := by rw [Array.getElem?_eq_none_iff, slK_size]; omega
    have e2 : (slK m g x (k + 1))[i]? = none := by rw [Array.getElem?_eq_none_iff, slK_size]; omega
    rw [e1, e2, if_neg (by omega)]
theorem set_info : (Try.prog.info? 46).map (fun i => (i.zero, i.size, i.bytes)) = some (some (.int .u8 0), 1, 1) := by kernel_rfl
theorem make_sets (n : Nat) (hn : n ≤ 1000000) (w : World) : (Instr.makeSlice 76 (.int .i64 (n : Int)) (.int .i64 (n : Int))).run Try.prog w = .ok (.slice (some ⟨w.heap.size, 0, none⟩) n n) (w.alloc (.cells (Array.replicate n (.int .u8 0)) 46)) := by
  obtain ⟨i, hi, iz0, iz1, iz2⟩ := info_parts set_info
  rw [run_make w 76 46 i _ Try.underlying76 hi iz0 .i64 .i64 n n (by omega) (Int.le_refl _) (by rw [iz2]; omega) (by omega)]
  rw [Int.toNat_natCast, iz1, Nat.mul_one]
  have e : madeCells (.int .u8 0 : Value).cells n = Array.replicate n (.int .u8 0) := by
    apply Array.ext'
    show (madeCells #[.int .u8 0] n).toList = _
    rw [toList_madeCells_one]
    simp
  rw [e]
theorem wp_store_one {P : Program} {o : Oper} {a : Act} {w : World} {K : Act → World → Prop} {Q : Exit → Act → World → Prop} (ty : TypeId) (x y : Operand) (ho : o.op = .store ty x y)
    (g i : Nat) (hx : a.eval x = .pointer (some ⟨g, i, none⟩)) (cs : Array Value) (t : TypeId) (hg : w.heap[g]? = some (.cells cs t (0, 0))) (v : Value) (hy : a.eval y = v) (hv : v.cells = #[v]) (h1 : v.oneCell' = true) (hs : i + 1 ≤ cs.size) (hi : (P.info? ty).map (·.size) = some 1)
    (cs' : Array Value) (hcs : (cs.toList.take i ++ [v] ++ cs.toList.drop (i + 1)).toArray = cs') (h : K (a.put o.dst undef) (w.setRow g cs')) : o.wp P a w K Q := by
  subst hcs
  have hst := run_storeCells_at P g i t [v] 0 cs w hg (by simpa using hs) (by intro u hu; rw [List.mem_singleton.1 hu]; exact h1)
  simp only [Nat.add_zero] at hst
  have hrun : (storeVar ty ⟨g, i, none⟩ v).run P w = .ok () (w.setRow g (cs.toList.take i ++ [v] ++ cs.toList.drop (i + 1)).toArray) := by
    cases hq : P.info? ty with
    | none => simp [hq] at hi
    | some q =>
      have hs' : q.size = 1 := by simpa [hq] using hi
      simp [storeVar, Sem.run_bind, sizeOf, typeInfo, hq, hs', hv, hst]
  unfold Oper.wp execOp
  simp only [ho, hx, hy, Instr.storeAt, Instr.sureAddr, Sem.run_bind, Sem.run_pure, Result.andThen_ok, hrun]
  exact h
theorem slK_put (m : Mdl) (g : Gro) (x : Rng) {k : Nat} (hk : k < g.z.length) {q : Int} (hq : slV m g x (at0 g.z k) = q) : ((slK m g x k).toList.take k ++ [Value.int .u8 q] ++ (slK m g x k).toList.drop (k + 1)).toArray = slK m g x (k + 1) := by
  rw [← slK_set m g x hk, hq]
  apply Array.ext'
  rw [Array.toList_setIfInBounds, List.set_eq_take_append_cons_drop, if_pos (by rw [Array.length_toList, slK_size]; exact hk), List.append_assoc]
  rfl
def RetSl (m : Mdl) (g : Gro) (x : Rng) (w : World) (e : Ending) (w' : World) : Prop :=
  ∃ b, e = .returned (.slice (some ⟨b, 0, none⟩) g.z.length g.z.length) ∧ w.heap.size ≤ b ∧ w'.heap[b]? = some (.cells (slK m g x g.z.length) 46 (0, 0)) ∧ Below w.heap.size w w'
set_option maxRecDepth 100000 in
set_option maxHeartbeats 4000000 in
theorem slice_any (m : Mdl) (g : Gro) (fr tp : Int) (A Z F : Option Addr) (a c d : Nat) (w : World) (B : Nat) (hB : B ≤ w.heap.size) (hg : GroIn w B g A Z F) (hm : okMdl m = true) (ho : okGro g = true) (hx : (at0 g.r 0).lo ≤ fr ∧ fr ≤ tp ∧ tp ≤ lastX g.r) :
    Calls Try.prog 36 #[.agg (mdA m), .agg (grA g A Z F a c d), I fr, I tp] w (RetSl m g ⟨fr, tp⟩ w) := by
  have HG : Hid (∀ V, Below w.heap.size w V → GroIn V B g A Z F ∧ B ≤ V.heap.size) := fun V hV => ⟨hg.below hB hV, Nat.le_trans hB hV.size⟩
  have hgo := okGro_ok ho
  have hv := hgo.va_r (x := ⟨fr, tp⟩) hx
  have hf := hgo.va_f (x := ⟨fr, tp⟩) hx
  have PL : Hid (∀ j, j < g.z.length → PlOk m (rtF g ⟨fr, tp⟩) (gdF g ⟨fr, tp⟩ (at0 g.z j))) := fun j hj => hgo.pl hm hx hj
  have TM : Hid (∀ j, j < g.z.length → ∃ p, tmF (at0 g.z j) (vaF g.f ⟨fr, tp⟩).1 10000 = (p, 0)) := fun j hj => ⟨_, tm_pos (spanB_iff.1 (hgo.z j hj)) hf.2⟩
  have V1 : Hid (∀ V, Below w.heap.size w V → Calls Try.prog 15 #[.slice A g.r.length a, .agg #[I fr, I tp]] V (RetRn V (vaF g.r ⟨fr, tp⟩))) := fun V hV => value2_any A g.r.length a g.r ⟨fr, tp⟩ V B rfl (by have := hg.lr; unfold maxLen; omega) (HG.out V hV).2 (HG.out V hV).1.r
  have V2 : Hid (∀ V, Below w.heap.size w V → Calls Try.prog 15 #[.slice F g.f.length d, .agg #[I fr, I tp]] V (RetRn V (vaF g.f ⟨fr, tp⟩))) := fun V hV => value2_any F g.f.length d g.f ⟨fr, tp⟩ V B rfl (by have := hg.lf; unfold maxLen; omega) (HG.out V hV).2 (HG.out V hV).1.f
  have hrt : Hid (rtF g ⟨fr, tp⟩ = insF ⟨(vaF g.r ⟨fr, tp⟩).1.lo - g.o, (vaF g.r ⟨fr, tp⟩).1.hi + g.o⟩ 0 1000000) := rfl
  have hgd : Hid (∀ z, gdF g ⟨fr, tp⟩ z = insF (tmF z (vaF g.f ⟨fr, tp⟩).1 10000).1 1 1000000) := fun z => rfl
  have HO := hgo.o
  have HLZ := Lib.hid hgo.z2
  obtain ⟨⟨vl, vh⟩, hvr⟩ : ∃ r, (vaF g.r ⟨fr, tp⟩).1 = r := ⟨_, rfl⟩
  obtain ⟨⟨fl, fh⟩, hfr⟩ : ∃ r, (vaF g.f ⟨fr, tp⟩).1 = r := ⟨_, rfl⟩
  have v1e : vaF g.r ⟨fr, tp⟩ = (⟨vl, vh⟩, 0) := by rw [← hvr]; have := congrArg Prod.snd hv.1; exact Prod.ext rfl this
  have v2e : vaF g.f ⟨fr, tp⟩ = (⟨fl, fh⟩, 0) := by rw [← hfr]; have := congrArg Prod.snd hf.1; exact Prod.ext rfl this
  have b1 := hv.2
  rw [v1e] at V1 b1 hrt
  rw [v2e] at V2 hgd TM
  simp only at b1
  have k1 : IntKind.i64.wrap (vl - g.o) = vl - g.o := IntWalk.i64_in _ (by omega)
  have k2 : IntKind.i64.wrap (vh + g.o) = vh + g.o := IntWalk.i64_in _ (by omega)
  clear hg hB hgo hv hf hvr hfr v1e v2e b1 hx ho hm HO
  obtain ⟨W, hW⟩ : ∃ W, W = ((w.alloc (.cells #[I m.sc, I (m.b 0).lo, I (m.b 0).hi, I (m.b 1).lo, I (m.b 1).hi, I (m.b 2).lo, I (m.b 2).hi, I (m.b 3).lo, I (m.b 3).hi] 33)).alloc (.cells #[.slice A g.r.length a, I g.o, .slice Z g.z.length c, .slice F g.f.length d] 68)) := ⟨_, rfl⟩
  have rowW0 : W.heap[w.heap.size]? = some (.cells #[I m.sc, I (m.b 0).lo, I (m.b 0).hi, I (m.b 1).lo, I (m.b 1).hi, I (m.b 2).lo, I (m.b 2).hi, I (m.b 3).lo, I (m.b 3).hi] 33 (0, 0)) := by rw [hW]; exact heap_before (heap_last _ _ _ rfl)
  have yW00 := ovr_cell (W := W) (b := w.heap.size) (o := 0) (v := I m.sc) (by rw [cell_of_row _ _ _ _ _ _ rowW0]; rfl)
  have yW01 := ovr_cell (W := W) (b := w.heap.size) (o := 1) (v := I (m.b 0).lo) (by rw [cell_of_row _ _ _ _ _ _ rowW0]; rfl)
  have yW02 := ovr_cell (W := W) (b := w.heap.size) (o := 2) (v := I (m.b 0).hi) (by rw [cell_of_row _ _ _ _ _ _ rowW0]; rfl)
  have yW03 := ovr_cell (W := W) (b := w.heap.size) (o := 3) (v := I (m.b 1).lo) (by rw [cell_of_row _ _ _ _ _ _ rowW0]; rfl)
  have yW04 := ovr_cell (W := W) (b := w.heap.size) (o := 4) (v := I (m.b 1).hi) (by rw [cell_of_row _ _ _ _ _ _ rowW0]; rfl)
  have yW05 := ovr_cell (W := W) (b := w.heap.size) (o := 5) (v := I (m.b 2).lo) (by rw [cell_of_row _ _ _ _ _ _ rowW0]; rfl)
  have yW06 := ovr_cell (W := W) (b := w.heap.size) (o := 6) (v := I (m.b 2).hi) (by rw [cell_of_row _ _ _ _ _ _ rowW0]; rfl)
  have yW07 := ovr_cell (W := W) (b := w.heap.size) (o := 7) (v := I (m.b 3).lo) (by rw [cell_of_row _ _ _ _ _ _ rowW0]; rfl)
  have yW08 := ovr_cell (W := W) (b := w.heap.size) (o := 8) (v := I (m.b 3).hi) (by rw [cell_of_row _ _ _ _ _ _ rowW0]; rfl)
  have RrowW0 := Lib.hid (ovr_row rowW0)
  clear rowW0
  have rowW1 : W.heap[w.heap.size + 1]? = some (.cells #[.slice A g.r.length a, I g.o, .slice Z g.z.length c, .slice F g.f.length d] 68 (0, 0)) := by rw [hW]; exact heap_last _ _ _ (by simp)
  have yW10 := ovr_cell (W := W) (b := w.heap.size + 1) (o := 0) (v := .slice A g.r.length a) (by rw [cell_of_row _ _ _ _ _ _ rowW1]; rfl)
  have yW11 := ovr_cell (W := W) (b := w.heap.size + 1) (o := 1) (v := I g.o) (by rw [cell_of_row _ _ _ _ _ _ rowW1]; rfl)
  have yW12 := ovr_cell (W := W) (b := w.heap.size + 1) (o := 2) (v := .slice Z g.z.length c) (by rw [cell_of_row _ _ _ _ _ _ rowW1]; rfl)
  have yW13 := ovr_cell (W := W) (b := w.heap.size + 1) (o := 3) (v := .slice F g.f.length d) (by rw [cell_of_row _ _ _ _ _ _ rowW1]; rfl)
  have RrowW1 := Lib.hid (ovr_row rowW1)
  clear rowW1
  have HUW : Hid (∀ u, Below w.heap.size w (ovr W u)) := U2 hW
  have HW := Lib.hid hW
  clear hW
  go_enter Try.func36, Try.ntmps36
  go_upto_region 1 with (fail)
  rw [← HW.out]
  obtain ⟨u0, hu0⟩ := ovr_self W
  rw [hu0]
  clear hu0
  go_upto_region 2 with (fail)
  obtain ⟨X1, hX1⟩ : ∃ X1, X1 = ((ovr W u0).alloc (.cells #[I fr, I tp] 23)) := ⟨_, rfl⟩
  have reX1 : ∀ v, ∃ x, ovr X1 v = ovr W x := fun v => ovr_re1 hX1
  replace yW00 := tr_cell reX1 yW00
  replace yW01 := tr_cell reX1 yW01
  replace yW02 := tr_cell reX1 yW02
  replace yW03 := tr_cell reX1 yW03
  replace yW04 := tr_cell reX1 yW04
  replace yW05 := tr_cell reX1 yW05
  replace yW06 := tr_cell reX1 yW06
  replace yW07 := tr_cell reX1 yW07
  replace yW08 := tr_cell reX1 yW08
  replace RrowW0 := Lib.hid (tr_row reX1 RrowW0.out)
  replace yW10 := tr_cell reX1 yW10
  replace yW11 := tr_cell reX1 yW11
  replace yW12 := tr_cell reX1 yW12
  replace yW13 := tr_cell reX1 yW13
  replace RrowW1 := Lib.hid (tr_row reX1 RrowW1.out)
  have rowX10 : X1.heap[(ovr W u0).heap.size]? = some (.cells #[I fr, I tp] 23 (0, 0)) := by rw [hX1]; exact heap_last _ _ _ rfl
  have yX100 := ovr_cell (W := X1) (b := (ovr W u0).heap.size) (o := 0) (v := I fr) (by rw [cell_of_row _ _ _ _ _ _ rowX10]; rfl)
  have yX101 := ovr_cell (W := X1) (b := (ovr W u0).heap.size) (o := 1) (v := I tp) (by rw [cell_of_row _ _ _ _ _ _ rowX10]; rfl)
  have RrowX10 := Lib.hid (ovr_row rowX10)
  clear rowX10
  have HBX1 : Hid (∀ u, Below W.heap.size W (ovr X1 u)) := fun u => by obtain ⟨x, hx⟩ := reX1 u; rw [hx]; exact ovr_below _ _
  have HUX1 : Hid (∀ u, Below w.heap.size w (ovr X1 u)) := fun u => by obtain ⟨x, hx⟩ := reX1 u; rw [hx]; exact HUW.out x
  clear reX1
  have HX1 := Lib.hid hX1
  clear hX1
  rw [← HX1.out]
  obtain ⟨u1, hu1⟩ := ovr_self X1
  rw [hu1]
  clear hu1
  go_wp2_with fail
  refine (V1.out _ (HUX1.out u1)).mono ?_
  rintro e w1 ⟨rfl, hb1⟩
  obtain ⟨u2, rfl⟩ := ovr_next hb1
  clear hb1
  go_upto_region 3 with (fail)
  obtain ⟨X2, hX2⟩ : ∃ X2, X2 = ((ovr X1 u2).alloc (.cells #[I vl, I vh] 23)) := ⟨_, rfl⟩
  have reX2 : ∀ v, ∃ x, ovr X2 v = ovr X1 x := fun v => ovr_re1 hX2
  replace yW00 := tr_cell reX2 yW00
  replace yW01 := tr_cell reX2 yW01
  replace yW02 := tr_cell reX2 yW02
  replace yW03 := tr_cell reX2 yW03
  replace yW04 := tr_cell reX2 yW04
  replace yW05 := tr_cell reX2 yW05
  replace yW06 := tr_cell reX2 yW06
  replace yW07 := tr_cell reX2 yW07
  replace yW08 := tr_cell reX2 yW08
  replace RrowW0 := Lib.hid (tr_row reX2 RrowW0.out)
  replace yW10 := tr_cell reX2 yW10
  replace yW11 := tr_cell reX2 yW11
  replace yW12 := tr_cell reX2 yW12
  replace yW13 := tr_cell reX2 yW13
  replace RrowW1 := Lib.hid (tr_row reX2 RrowW1.out)
  replace yX100 := tr_cell reX2 yX100
  replace yX101 := tr_cell reX2 yX101
  replace RrowX10 := Lib.hid (tr_row reX2 RrowX10.out)
  have rowX20 : X2.heap[(ovr X1 u2).heap.size]? = some (.cells #[I vl, I vh] 23 (0, 0)) := by rw [hX2]; exact heap_last _ _ _ rfl
  have yX200 := ovr_cell (W := X2) (b := (ovr X1 u2).heap.size) (o := 0) (v := I vl) (by rw [cell_of_row _ _ _ _ _ _ rowX20]; rfl)
  have yX201 := ovr_cell (W := X2) (b := (ovr X1 u2).heap.size) (o := 1) (v := I vh) (by rw [cell_of_row _ _ _ _ _ _ rowX20]; rfl)
  have RrowX20 := Lib.hid (ovr_row rowX20)
  clear rowX20
  have HBX2 : Hid (∀ u, Below X1.heap.size X1 (ovr X2 u)) := fun u => by obtain ⟨x, hx⟩ := reX2 u; rw [hx]; exact ovr_below _ _
  have HUX2 : Hid (∀ u, Below w.heap.size w (ovr X2 u)) := fun u => by obtain ⟨x, hx⟩ := reX2 u; rw [hx]; exact HUX1.out x
  clear reX2
  have HX2 := Lib.hid hX2
  clear hX2
  rw [← HX2.out]
  obtain ⟨u3, hu3⟩ := ovr_self X2
  rw [hu3]
  clear hu3
  go_wp2_with fail
  refine (V2.out _ (HUX2.out u3)).mono ?_
  rintro e w1 ⟨rfl, hb1⟩
  obtain ⟨u4, rfl⟩ := ovr_next hb1
  clear hb1
  go_upto_region 4 with (fail)
  obtain ⟨X3, hX3⟩ : ∃ X3, X3 = ((ovr X2 u4).alloc (.cells #[I fl, I fh] 23)) := ⟨_, rfl⟩
  have reX3 : ∀ v, ∃ x, ovr X3 v = ovr X2 x := fun v => ovr_re1 hX3
  replace yW00 := tr_cell reX3 yW00
  replace yW01 := tr_cell reX3 yW01
  replace yW02 := tr_cell reX3 yW02
  replace yW03 := tr_cell reX3 yW03
  replace yW04 := tr_cell reX3 yW04
  replace yW05 := tr_cell reX3 yW05
  replace yW06 := tr_cell reX3 yW06
  replace yW07 := tr_cell reX3 yW07
  replace yW08 := tr_cell reX3 yW08
  replace RrowW0 := Lib.hid (tr_row reX3 RrowW0.out)
  replace yW10 := tr_cell reX3 yW10
  replace yW11 := tr_cell reX3 yW11
  replace yW12 := tr_cell reX3 yW12
  replace yW13 := tr_cell reX3 yW13
  replace RrowW1 := Lib.hid (tr_row reX3 RrowW1.out)
  replace yX100 := tr_cell reX3 yX100
  replace yX101 := tr_cell reX3 yX101
  replace RrowX10 := Lib.hid (tr_row reX3 RrowX10.out)
  replace yX200 := tr_cell reX3 yX200
  replace yX201 := tr_cell reX3 yX201
  replace RrowX20 := Lib.hid (tr_row reX3 RrowX20.out)
  have rowX30 : X3.heap[(ovr X2 u4).heap.size]? = some (.cells #[I fl, I fh] 23 (0, 0)) := by rw [hX3]; exact heap_last _ _ _ rfl
  have yX300 := ovr_cell (W := X3) (b := (ovr X2 u4).heap.size) (o := 0) (v := I fl) (by rw [cell_of_row _ _ _ _ _ _ rowX30]; rfl)
  have yX301 := ovr_cell (W := X3) (b := (ovr X2 u4).heap.size) (o := 1) (v := I fh) (by rw [cell_of_row _ _ _ _ _ _ rowX30]; rfl)
  have RrowX30 := Lib.hid (ovr_row rowX30)
  clear rowX30
  have HBX3 : Hid (∀ u, Below X2.heap.size X2 (ovr X3 u)) := fun u => by obtain ⟨x, hx⟩ := reX3 u; rw [hx]; exact ovr_below _ _
  have HUX3 : Hid (∀ u, Below w.heap.size w (ovr X3 u)) := fun u => by obtain ⟨x, hx⟩ := reX3 u; rw [hx]; exact HUX2.out x
  clear reX3
  have HX3 := Lib.hid hX3
  clear hX3
  rw [← HX3.out]
  obtain ⟨u5, hu5⟩ := ovr_self X3
  rw [hu5]
  clear hu5
  have CI := Lib.hid (inside_any ⟨vl - g.o, vh + g.o⟩ 0 1000000 (ovr X3 u5))
  rw [← hrt.out] at CI
  obtain ⟨⟨rl, rh⟩, hR⟩ : ∃ r, rtF g ⟨fr, tp⟩ = r := ⟨_, rfl⟩
  rw [hR] at CI PL
  go_wp2_with fail
  refine CI.out.mono ?_
  rintro e w1 ⟨rfl, hb1⟩
  obtain ⟨u6, rfl⟩ := ovr_next hb1
  clear hb1
  go_upto_region 5 with (fail)
  obtain ⟨X4, hX4⟩ : ∃ X4, X4 = ((ovr X3 u6).alloc (.cells #[I rl, I rh] 23)) := ⟨_, rfl⟩
  have reX4 : ∀ v, ∃ x, ovr X4 v = ovr X3 x := fun v => ovr_re1 hX4
  replace yW00 := tr_cell reX4 yW00
  replace yW01 := tr_cell reX4 yW01
  replace yW02 := tr_cell reX4 yW02
  replace yW03 := tr_cell reX4 yW03
  replace yW04 := tr_cell reX4 yW04
  replace yW05 := tr_cell reX4 yW05
  replace yW06 := tr_cell reX4 yW06
  replace yW07 := tr_cell reX4 yW07
  replace yW08 := tr_cell reX4 yW08
  replace RrowW0 := Lib.hid (tr_row reX4 RrowW0.out)
  replace yW10 := tr_cell reX4 yW10
  replace yW11 := tr_cell reX4 yW11
  replace yW12 := tr_cell reX4 yW12
  replace yW13 := tr_cell reX4 yW13
  replace RrowW1 := Lib.hid (tr_row reX4 RrowW1.out)
  replace yX100 := tr_cell reX4 yX100
  replace yX101 := tr_cell reX4 yX101
  replace RrowX10 := Lib.hid (tr_row reX4 RrowX10.out)
  replace yX200 := tr_cell reX4 yX200
  replace yX201 := tr_cell reX4 yX201
  replace RrowX20 := Lib.hid (tr_row reX4 RrowX20.out)
  replace yX300 := tr_cell reX4 yX300
  replace yX301 := tr_cell reX4 yX301
  replace RrowX30 := Lib.hid (tr_row reX4 RrowX30.out)
  have rowX40 : X4.heap[(ovr X3 u6).heap.size]? = some (.cells #[I rl, I rh] 23 (0, 0)) := by rw [hX4]; exact heap_last _ _ _ rfl
  have yX400 := ovr_cell (W := X4) (b := (ovr X3 u6).heap.size) (o := 0) (v := I rl) (by rw [cell_of_row _ _ _ _ _ _ rowX40]; rfl)
  have yX401 := ovr_cell (W := X4) (b := (ovr X3 u6).heap.size) (o := 1) (v := I rh) (by rw [cell_of_row _ _ _ _ _ _ rowX40]; rfl)
  have RrowX40 := Lib.hid (ovr_row rowX40)
  clear rowX40
  have HBX4 : Hid (∀ u, Below X3.heap.size X3 (ovr X4 u)) := fun u => by obtain ⟨x, hx⟩ := reX4 u; rw [hx]; exact ovr_below _ _
  have HUX4 : Hid (∀ u, Below w.heap.size w (ovr X4 u)) := fun u => by obtain ⟨x, hx⟩ := reX4 u; rw [hx]; exact HUX3.out x
  clear reX4
  have HX4 := Lib.hid hX4
  clear hX4
  rw [← HX4.out]
  obtain ⟨u7, hu7⟩ := ovr_self X4
  rw [hu7]
  clear hu7
  have hmk := make_sets g.z.length (by have := HLZ.out; omega)
  go_upto_region 6 with (fail)
  clear hmk
  refine name_w fun V hV => ?_
  obtain ⟨bs, hbs⟩ : ∃ x, x = (ovr X4 u7).heap.size := ⟨_, rfl⟩
  have rV : V.heap[bs]? = some (.cells (slK m g ⟨fr, tp⟩ 0) 46 (0, 0)) := by rw [hV, hbs, slK_zero]; exact heap_last _ _ _ rfl
  have bV : Below X4.heap.size X4 V := by rw [hV]; exact (ovr_below X4 u7).alloc (ovr_below X4 u7).size _
  have sB : X4.heap.size ≤ bs := by rw [hbs]; exact (ovr_below X4 u7).size
  rw [← hbs]
  have RV := Lib.hid rV
  have BV := Lib.hid bV
  have SB := Lib.hid sB
  have HWX : Hid (Below w.heap.size w X4) := below_self HUX4.out
  clear hV hbs rV sB
  have reV : ∀ v, ∃ x, ovr V v = ovr X4 x := fun v => ovr_reB bV v
  have SX4_yW00 := Lib.hid yW00
  replace yW00 := tr_cell reV yW00
  have SX4_yW01 := Lib.hid yW01
  replace yW01 := tr_cell reV yW01
  have SX4_yW02 := Lib.hid yW02
  replace yW02 := tr_cell reV yW02
  have SX4_yW03 := Lib.hid yW03
  replace yW03 := tr_cell reV yW03
  have SX4_yW04 := Lib.hid yW04
  replace yW04 := tr_cell reV yW04
  have SX4_yW05 := Lib.hid yW05
  replace yW05 := tr_cell reV yW05
  have SX4_yW06 := Lib.hid yW06
  replace yW06 := tr_cell reV yW06
  have SX4_yW07 := Lib.hid yW07
  replace yW07 := tr_cell reV yW07
  have SX4_yW08 := Lib.hid yW08
  replace yW08 := tr_cell reV yW08
  have SX4_RrowW0 := Lib.hid RrowW0.out
  replace RrowW0 := Lib.hid (tr_row reV RrowW0.out)
  have SX4_yW10 := Lib.hid yW10
  replace yW10 := tr_cell reV yW10
  have SX4_yW11 := Lib.hid yW11
  replace yW11 := tr_cell reV yW11
  have SX4_yW12 := Lib.hid yW12
  replace yW12 := tr_cell reV yW12
  have SX4_yW13 := Lib.hid yW13
  replace yW13 := tr_cell reV yW13
  have SX4_RrowW1 := Lib.hid RrowW1.out
  replace RrowW1 := Lib.hid (tr_row reV RrowW1.out)
  have SX4_yX100 := Lib.hid yX100
  replace yX100 := tr_cell reV yX100
  have SX4_yX101 := Lib.hid yX101
  replace yX101 := tr_cell reV yX101
  have SX4_RrowX10 := Lib.hid RrowX10.out
  replace RrowX10 := Lib.hid (tr_row reV RrowX10.out)
  have SX4_yX200 := Lib.hid yX200
  replace yX200 := tr_cell reV yX200
  have SX4_yX201 := Lib.hid yX201
  replace yX201 := tr_cell reV yX201
  have SX4_RrowX20 := Lib.hid RrowX20.out
  replace RrowX20 := Lib.hid (tr_row reV RrowX20.out)
  have SX4_yX300 := Lib.hid yX300
  replace yX300 := tr_cell reV yX300
  have SX4_yX301 := Lib.hid yX301
  replace yX301 := tr_cell reV yX301
  have SX4_RrowX30 := Lib.hid RrowX30.out
  replace RrowX30 := Lib.hid (tr_row reV RrowX30.out)
  have SX4_yX400 := Lib.hid yX400
  replace yX400 := tr_cell reV yX400
  have SX4_yX401 := Lib.hid yX401
  replace yX401 := tr_cell reV yX401
  have SX4_RrowX40 := Lib.hid RrowX40.out
  replace RrowX40 := Lib.hid (tr_row reV RrowX40.out)
  have HUV : Hid (∀ u, Below w.heap.size w (ovr V u)) := fun u => by obtain ⟨x, hx⟩ := reV u; rw [hx]; exact HUX4.out x
  clear reV bV
  obtain ⟨uv, huv⟩ := ovr_self V
  rw [huv]
  have BVV : Hid (Below X4.heap.size X4 (ovr V uv)) := by rw [← huv]; exact BV.out
  have RVV : Hid ((ovr V uv).heap[bs]? = some (.cells (slK m g ⟨fr, tp⟩ 0) 46 (0, 0))) := by rw [← huv]; exact RV.out
  clear huv
  go_wp2_with fail
  go_loopw [56] (fun i wr => ∃ k : Nat, k ≤ g.z.length ∧ i = .int .i64 k ∧ wr.heap[bs]? = some (.cells (slK m g ⟨fr, tp⟩ k) 46 (0, 0)) ∧ Below X4.heap.size X4 wr) (fun i _ => g.z.length - (intOf i).toNat)
  case atStart => exact ⟨0, by omega, rfl, RVV.out, BVV.out⟩
  case round =>
    obtain ⟨k, hk, rfl, hr, hb⟩ := hrel
    rename World => Y
    have HBY := Lib.hid hb
    have HR := Lib.hid hr
    clear hr
    by_cases hlt : k < g.z.length
    · skip
      have reY : ∀ v, ∃ x, ovr Y v = ovr X4 x := fun v => ovr_reB hb v
      have yW00 := SX4_yW00.out
      replace yW00 := tr_cell reY yW00
      have yW01 := SX4_yW01.out
      replace yW01 := tr_cell reY yW01
      have yW02 := SX4_yW02.out
      replace yW02 := tr_cell reY yW02
      have yW03 := SX4_yW03.out
      replace yW03 := tr_cell reY yW03
      have yW04 := SX4_yW04.out
      replace yW04 := tr_cell reY yW04
      have yW05 := SX4_yW05.out
      replace yW05 := tr_cell reY yW05
      have yW06 := SX4_yW06.out
      replace yW06 := tr_cell reY yW06
      have yW07 := SX4_yW07.out
      replace yW07 := tr_cell reY yW07
      have yW08 := SX4_yW08.out
      replace yW08 := tr_cell reY yW08
      have RrowW0 := SX4_RrowW0
      replace RrowW0 := Lib.hid (tr_row reY RrowW0.out)
      have yW10 := SX4_yW10.out
      replace yW10 := tr_cell reY yW10
      have yW11 := SX4_yW11.out
      replace yW11 := tr_cell reY yW11
      have yW12 := SX4_yW12.out
      replace yW12 := tr_cell reY yW12
      have yW13 := SX4_yW13.out
      replace yW13 := tr_cell reY yW13
      have RrowW1 := SX4_RrowW1
      replace RrowW1 := Lib.hid (tr_row reY RrowW1.out)
      have yX100 := SX4_yX100.out
      replace yX100 := tr_cell reY yX100
      have yX101 := SX4_yX101.out
      replace yX101 := tr_cell reY yX101
      have RrowX10 := SX4_RrowX10
      replace RrowX10 := Lib.hid (tr_row reY RrowX10.out)
      have yX200 := SX4_yX200.out
      replace yX200 := tr_cell reY yX200
      have yX201 := SX4_yX201.out
      replace yX201 := tr_cell reY yX201
      have RrowX20 := SX4_RrowX20
      replace RrowX20 := Lib.hid (tr_row reY RrowX20.out)
      have yX300 := SX4_yX300.out
      replace yX300 := tr_cell reY yX300
      have yX301 := SX4_yX301.out
      replace yX301 := tr_cell reY yX301
      have RrowX30 := SX4_RrowX30
      replace RrowX30 := Lib.hid (tr_row reY RrowX30.out)
      have yX400 := SX4_yX400.out
      replace yX400 := tr_cell reY yX400
      have yX401 := SX4_yX401.out
      replace yX401 := tr_cell reY yX401
      have RrowX40 := SX4_RrowX40
      replace RrowX40 := Lib.hid (tr_row reY RrowX40.out)
      have HUY : Hid (∀ u, Below w.heap.size w (ovr Y u)) := fun u => by obtain ⟨x, hx⟩ := reY u; rw [hx]; exact HUX4.out x
      clear reY hb
      obtain ⟨u8, hu8⟩ := ovr_self Y
      obtain ⟨b, o, rfl, _, e0, e1⟩ := (HG.out _ (HUY.out u8)).1.z.rng hlt
      rw [hu8]
      clear hu8
      have HLT := Lib.hid hlt
      obtain ⟨zz, hzz⟩ : ∃ z, at0 g.z k = z := ⟨_, rfl⟩
      have TMK := TM.out k hlt
      have PLK := Lib.hid (PL.out k hlt)
      rw [hzz] at e0 e1 TMK PLK
      obtain ⟨p, hp⟩ := TMK
      have GD := hgd.out zz
      rw [hp] at GD
      go_upto_region 9 with (fail)
      clear e0 e1
      obtain ⟨Z1, hZ1⟩ : ∃ Z1, Z1 = ((ovr Y u8).alloc (.cells #[I zz.lo, I zz.hi] 23)) := ⟨_, rfl⟩
      have reZ1 : ∀ v, ∃ x, ovr Z1 v = ovr Y x := fun v => ovr_re1 hZ1
      replace yW00 := tr_cell reZ1 yW00
      replace yW01 := tr_cell reZ1 yW01
      replace yW02 := tr_cell reZ1 yW02
      replace yW03 := tr_cell reZ1 yW03
      replace yW04 := tr_cell reZ1 yW04
      replace yW05 := tr_cell reZ1 yW05
      replace yW06 := tr_cell reZ1 yW06
      replace yW07 := tr_cell reZ1 yW07
      replace yW08 := tr_cell reZ1 yW08
      replace RrowW0 := Lib.hid (tr_row reZ1 RrowW0.out)
      replace yW10 := tr_cell reZ1 yW10
      replace yW11 := tr_cell reZ1 yW11
      replace yW12 := tr_cell reZ1 yW12
      replace yW13 := tr_cell reZ1 yW13
      replace RrowW1 := Lib.hid (tr_row reZ1 RrowW1.out)
      replace yX100 := tr_cell reZ1 yX100
      replace yX101 := tr_cell reZ1 yX101
      replace RrowX10 := Lib.hid (tr_row reZ1 RrowX10.out)
      replace yX200 := tr_cell reZ1 yX200
      replace yX201 := tr_cell reZ1 yX201
      replace RrowX20 := Lib.hid (tr_row reZ1 RrowX20.out)
      replace yX300 := tr_cell reZ1 yX300
      replace yX301 := tr_cell reZ1 yX301
      replace RrowX30 := Lib.hid (tr_row reZ1 RrowX30.out)
      replace yX400 := tr_cell reZ1 yX400
      replace yX401 := tr_cell reZ1 yX401
      replace RrowX40 := Lib.hid (tr_row reZ1 RrowX40.out)
      have rowZ10 : Z1.heap[(ovr Y u8).heap.size]? = some (.cells #[I zz.lo, I zz.hi] 23 (0, 0)) := by rw [hZ1]; exact heap_last _ _ _ rfl
      have yZ100 := ovr_cell (W := Z1) (b := (ovr Y u8).heap.size) (o := 0) (v := I zz.lo) (by rw [cell_of_row _ _ _ _ _ _ rowZ10]; rfl)
      have yZ101 := ovr_cell (W := Z1) (b := (ovr Y u8).heap.size) (o := 1) (v := I zz.hi) (by rw [cell_of_row _ _ _ _ _ _ rowZ10]; rfl)
      have RrowZ10 := Lib.hid (ovr_row rowZ10)
      clear rowZ10
      have HBZ1 : Hid (∀ u, Below Y.heap.size Y (ovr Z1 u)) := fun u => by obtain ⟨x, hx⟩ := reZ1 u; rw [hx]; exact ovr_below _ _
      have HUZ1 : Hid (∀ u, Below w.heap.size w (ovr Z1 u)) := fun u => by obtain ⟨x, hx⟩ := reZ1 u; rw [hx]; exact HUY.out x
      clear reZ1
      have HZ1 := Lib.hid hZ1
      clear hZ1
      rw [← HZ1.out]
      obtain ⟨u9, hu9⟩ := ovr_self Z1
      rw [hu9]
      clear hu9
      have CT := Lib.hid (times_any zz ⟨fl, fh⟩ 10000 (ovr Z1 u9))
      rw [hp] at CT
      clear hp
      go_wp2_with fail
      refine CT.out.mono ?_
      rintro e w1 ⟨rfl, hb1⟩
      obtain ⟨u10, rfl⟩ := ovr_next hb1
      clear hb1
      go_upto_region 10 with (fail)
      obtain ⟨Z2, hZ2⟩ : ∃ Z2, Z2 = ((ovr Z1 u10).alloc (.cells #[I p.lo, I p.hi] 23)) := ⟨_, rfl⟩
      have reZ2 : ∀ v, ∃ x, ovr Z2 v = ovr Z1 x := fun v => ovr_re1 hZ2
      replace yW00 := tr_cell reZ2 yW00
      replace yW01 := tr_cell reZ2 yW01
      replace yW02 := tr_cell reZ2 yW02
      replace yW03 := tr_cell reZ2 yW03
      replace yW04 := tr_cell reZ2 yW04
      replace yW05 := tr_cell reZ2 yW05
      replace yW06 := tr_cell reZ2 yW06
      replace yW07 := tr_cell reZ2 yW07
      replace yW08 := tr_cell reZ2 yW08
      replace RrowW0 := Lib.hid (tr_row reZ2 RrowW0.out)
      replace yW10 := tr_cell reZ2 yW10
      replace yW11 := tr_cell reZ2 yW11
      replace yW12 := tr_cell reZ2 yW12
      replace yW13 := tr_cell reZ2 yW13
      replace RrowW1 := Lib.hid (tr_row reZ2 RrowW1.out)
      replace yX100 := tr_cell reZ2 yX100
      replace yX101 := tr_cell reZ2 yX101
      replace RrowX10 := Lib.hid (tr_row reZ2 RrowX10.out)
      replace yX200 := tr_cell reZ2 yX200
      replace yX201 := tr_cell reZ2 yX201
      replace RrowX20 := Lib.hid (tr_row reZ2 RrowX20.out)
      replace yX300 := tr_cell reZ2 yX300
      replace yX301 := tr_cell reZ2 yX301
      replace RrowX30 := Lib.hid (tr_row reZ2 RrowX30.out)
      replace yX400 := tr_cell reZ2 yX400
      replace yX401 := tr_cell reZ2 yX401
      replace RrowX40 := Lib.hid (tr_row reZ2 RrowX40.out)
      replace yZ100 := tr_cell reZ2 yZ100
      replace yZ101 := tr_cell reZ2 yZ101
      replace RrowZ10 := Lib.hid (tr_row reZ2 RrowZ10.out)
      have rowZ20 : Z2.heap[(ovr Z1 u10).heap.size]? = some (.cells #[I p.lo, I p.hi] 23 (0, 0)) := by rw [hZ2]; exact heap_last _ _ _ rfl
      have yZ200 := ovr_cell (W := Z2) (b := (ovr Z1 u10).heap.size) (o := 0) (v := I p.lo) (by rw [cell_of_row _ _ _ _ _ _ rowZ20]; rfl)
      have yZ201 := ovr_cell (W := Z2) (b := (ovr Z1 u10).heap.size) (o := 1) (v := I p.hi) (by rw [cell_of_row _ _ _ _ _ _ rowZ20]; rfl)
      have RrowZ20 := Lib.hid (ovr_row rowZ20)
      clear rowZ20
      have HBZ2 : Hid (∀ u, Below Z1.heap.size Z1 (ovr Z2 u)) := fun u => by obtain ⟨x, hx⟩ := reZ2 u; rw [hx]; exact ovr_below _ _
      have HUZ2 : Hid (∀ u, Below w.heap.size w (ovr Z2 u)) := fun u => by obtain ⟨x, hx⟩ := reZ2 u; rw [hx]; exact HUZ1.out x
      clear reZ2
      have HZ2 := Lib.hid hZ2
      clear hZ2
      have HYZ2 : Hid (∀ u, Below Y.heap.size Y (ovr Z2 u)) := below_chain HBZ1.out HBZ2.out
      rw [← HZ2.out]
      obtain ⟨⟨gl, gh⟩, hG⟩ : ∃ r, gdF g ⟨fr, tp⟩ zz = r := ⟨_, rfl⟩
      have hsv : slV m g ⟨fr, tp⟩ (at0 g.z k) = regK (posB m ⟨rl, rh⟩ ⟨gl, gh⟩) 5 := by rw [hzz]; unfold slV; rw [hR, hG]
      rw [hG] at PLK GD
      have CI2 : Hid (∀ V, Calls Try.prog 62 #[.agg #[I p.lo, I p.hi], I 1, I 1000000] V fun e w' => e = .returned (.agg #[I gl, I gh]) ∧ Below V.heap.size V w') := fun V => by
        have := inside_any p 1 1000000 V
        rw [← GD] at this
        exact this
      have CR : Hid (∀ V, Calls Try.prog 33 #[.agg (mdA m), .agg #[I rl, I rh], .agg #[I gl, I gh]] V fun e w' => e = .returned (.int .u8 (regK (posB m ⟨rl, rh⟩ ⟨gl, gh⟩) 5)) ∧ Below V.heap.size V w') := fun V => regions_any m ⟨rl, rh⟩ ⟨gl, gh⟩ PLK.out V
      obtain ⟨q, hq⟩ : ∃ q, regK (posB m ⟨rl, rh⟩ ⟨gl, gh⟩) 5 = q := ⟨_, rfl⟩
      rw [hq] at CR hsv
      have HSV := Lib.hid hsv
      have HRZ : Hid (∀ u, (ovr Z2 u).heap[bs]? = some (.cells (slK m g ⟨fr, tp⟩ k) 46 (0, 0))) := fun u => ((HYZ2.out u).block bs (Array.getElem?_eq_some_iff.1 HR.out).1).trans HR.out
      clear hq hsv hG GD hzz
      refine wp_region_below_tail (by kernel_rfl) (by kernel_rfl) (by kernel_rfl) ?_
      simp only [skipLast_two, skipLast_one]
      repeat (go_big_quiet_step (fail))
      go_big_quiet_step ((go_at_call 62; exact call_below (CI2.out _)))
      go_big_quiet_step ((go_at_call 33; exact call_below (CR.out _)))
      repeat (go_big_quiet_step (fail))
      refine wpQuiet_nil ?_
      intro w3 hb3 o3 ho3
      obtain rfl := Option.some.inj ho3
      obtain ⟨u3', rfl⟩ : ∃ u, w3 = ovr Z2 u := ⟨w3, ovr_of hb3⟩
      clear hb3
      refine wp_store_one 46 _ _ rfl bs k rfl _ _ (HRZ.out u3') (.int .u8 q) rfl rfl rfl (by rw [slK_size]; exact HLT.out) (by kernel_rfl) (slK m g ⟨fr, tp⟩ (k + 1)) (slK_put m g _ HLT.out HSV.out) ?_
      have hfin : Hid (((ovr Z2 u3').setRow bs (slK m g ⟨fr, tp⟩ (k + 1))).heap[bs]? = some (.cells (slK m g ⟨fr, tp⟩ (k + 1)) 46 (0, 0))) := setRow_same (HRZ.out u3')
      have hbel : Hid (Below X4.heap.size X4 ((ovr Z2 u3').setRow bs (slK m g ⟨fr, tp⟩ (k + 1)))) := below_setRow (HBY.out.trans ((HYZ2.out u3').mono HBY.out.size)) SB.out _
      generalize (ovr Z2 u3').setRow bs (slK m g ⟨fr, tp⟩ (k + 1)) = W9 at *
      have hkm : k < 9223372036854775807 := by have h1 : k < g.z.length := HLT.out; have h2 : g.z.length ≤ 20 := HLZ.out; omega
      go_wp2_with fail
      go_roundw
      case rel => exact ⟨k + 1, HLT.out, by go_num, hfin.out, hbel.out⟩
      case measure => have := HLT.out; simp [intOf]; omega
    · obtain rfl : k = g.z.length := by omega
      have hbf := Lib.hid (HWX.out.trans (HBY.out.mono HWX.out.size))
      go_wp2_with fail
      go_ret
      exact ⟨bs, rfl, Nat.le_trans HWX.out.size SB.out, HR.out, hbf.out⟩
end Go.Proofs.Ytliddmhifnigdaa.Un
