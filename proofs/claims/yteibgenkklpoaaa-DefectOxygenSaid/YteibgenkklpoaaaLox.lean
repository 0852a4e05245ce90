/- The law DefectOxygen: its walk. -/
import Derived.Test.YteibgenkklpoaaaDn2
import Derived.Test.YteibgenkklpoaaaDv1
import Derived.Test.YteibgenkklpoaaaDt2
import Derived.Test.YteibgenkklpoaaaRo
import Derived.Test.YteibgenkklpoaaaDl
namespace Go.Proofs.Yteibgenkklpoaaa.Un
open Go.RowKit
theorem hst_info' : (Try.prog.info? 66).map (fun i => (i.zero, i.size, i.bytes)) = some (some (.agg #[I 0, I 0, I 0, I 0, I 0, I 0, I 0, I 0, I 0, I 0, I 0]), 11, 88) := by kernel_rfl
theorem ae_no {l : List Hst} {ox : Rng} {v : Int} (hl : OkAll l) (ho : spanB ox 0 1000000 = true) (h3 : l.length ≤ 30) (hv : 0 < v ∧ v ≤ 31) : anE l ox v = 0 := by
  have h1 : l.any notSt = false := by
    rw [List.any_eq_false]
    intro x hx
    obtain ⟨j, hj, rfl⟩ := at0_mem hx
    unfold notSt
    rw [hl j hj]
    decide
  unfold anE
  rw [if_neg (by omega), h1, ho, decide_eq_false (by omega : ¬ 31 < v), if_neg (by decide), if_neg (by omega)]
theorem ae_two {l : List Hst} {ox : Rng} {v : Int} (h3 : l.length ≤ 30) (hv : 0 < v ∧ v ≤ 31) (h : anE l ox v ≠ 0) : anE l ox v = 2 := by
  unfold anE at h ⊢
  rw [if_neg (by omega)] at h ⊢
  split
  · rfl
  · rename_i h1
    rw [if_neg h1, if_neg (by omega)] at h
    exact absurd rfl h
theorem ae_ok {l : List Hst} {ox : Rng} {v : Int} (h3 : l.length ≤ 30) (h : anE l ox v = 0) : OkAll l ∧ spanB ox 0 1000000 = true := by
  unfold anE at h
  rw [if_neg (by omega)] at h
  split at h
  · cases h
  · rename_i h1
    simp only [Bool.or_eq_true, not_or, List.any_eq_true, not_exists, not_and, Bool.not_eq_true', Bool.not_eq_false] at h1
    refine ⟨fun i hi => ?_, ?_⟩
    · have h5 := h1.1 (at0 l i) (by rw [at0_get hi]; exact List.getElem_mem hi)
      unfold notSt at h5
      simpa using h5
    · simpa using h1.2.1
theorem an_one {l : List Hst} {ox : Rng} {k : Nat} (hk : k < 5) (hl : OkAll l) (ho : spanB ox 0 1000000 = true) (h3 : l.length ≤ 30) : anF l ox (2 ^ k) = (anX l ox k, anY l ox k, 0) := by
  have hp : (0 : Int) < 2 ^ k ∧ (2 : Int) ^ k ≤ 31 := by
    have : ∀ q : Fin 5, (0 : Int) < 2 ^ (q : Nat) ∧ (2 : Int) ^ (q : Nat) ≤ 31 := by decide
    exact this ⟨k, hk⟩
  unfold anF
  rw [if_pos (ae_no hl ho h3 hp), fo_one (fun j hj => (an_ok hl ho hj).1) hk, fo_one (fun j hj => (an_ok hl ho hj).2) hk]
theorem an_all {l : List Hst} {ox : Rng} (hl : OkAll l) (ho : spanB ox 0 1000000 = true) (h3 : l.length ≤ 30) : ∃ p q, anF l ox 31 = (p, q, 0) ∧ ∀ k, k < 5 → subR (anX l ox k) p ∧ subR (anY l ox k) q := by
  refine ⟨(foF huF (anL 31 (anX l ox) 5)).1, (foF huF (anL 31 (anY l ox) 5)).1, ?_, fun k hk => ?_⟩
  · unfold anF
    rw [if_pos (ae_no hl ho h3 (by omega))]
  · exact ⟨(fo_an (by omega) (fun j hj => (an_ok hl ho hj).1)).2 k hk (unw_all ⟨k, hk⟩), (fo_an (by omega) (fun j hj => (an_ok hl ho hj).2)).2 k hk (unw_all ⟨k, hk⟩)⟩
theorem an_err {l : List Hst} {ox : Rng} {v : Int} (h : anE l ox v ≠ 0) : anF l ox v = (⟨0, 0⟩, ⟨0, 0⟩, anE l ox v) := by
  unfold anF
  rw [if_neg h]
theorem quiet_slice_hi {P : Program} {o : Oper} {a : Act} {C : World → Prop} {K : Act → Prop} (t e : TypeId) (x h : Operand) (ho : o.op = .slice t x none (some h) none) (ht : P.underlying t = some (.slice e)) {sz : Nat} (hs : ∀ w, (sizeOf e).run P w = .ok sz w) (b off n c m : Nat) (hx : a.eval x = .slice (some ⟨b, off, none⟩) n c) (hh : a.eval h = .int .i64 (m : Int)) (hm : m ≤ c)
    (hK : K (a.put o.dst (.slice (some ⟨b, off, none⟩) m c))) : o.quiet P a C K := by
  refine ⟨_, fun w _ => ?_, hK⟩
  have he : P.elem t = e := by simp [Program.elem, ht]
  unfold Oper.quietAt execOp
  rw [ho]
  simp only [Option.map_some, Option.map_none, hx, hh]
  have h1 := run_slice_h (P := P) w t (some ⟨b, off, none⟩) n c (by rw [he]; exact ht) .i64 (m : Int) (by omega) (by omega)
  rw [he, hs w] at h1
  have h2 : sliced (some ⟨b, off, none⟩) 0 ((m : Int).toNat) c sz = .slice (some ⟨b, off, none⟩) m c := by
    unfold sliced
    split <;> simp [Addr.add]
  simp only [Result.andThen, h2] at h1
  rw [Sem.run_bind, run_sliceAt_slice (P := P) w t _ _ _ _ (by rw [he]; exact ht), h1]
  exact ⟨rfl, rfl⟩
theorem rd_take {w : World} {B : Nat} {A : Option Addr} {l : List Hst} {m : Nat} (h : Rd w B 11 A l.length (rH l)) (hm : m ≤ l.length) : Rd w B 11 A m (rH (l.take m)) := fun h0 => by
  obtain ⟨b, o, hA, hlt, hc⟩ := h (by omega)
  refine ⟨b, o, hA, hlt, fun k hk j hj => ?_⟩
  rw [hc k (by omega) j hj]
  unfold rH
  rw [at0_get (by omega), at0_get (by rw [List.length_take]; omega), List.getElem_take]
set_option maxRecDepth 100000 in
set_option maxHeartbeats 8000000 in
theorem defectOxygen_any (A : Option Addr) (c : Nat) (l : List Hst) (ox : Rng) (og gg : Int) (PA : Option Addr) (pn pc : Nat) (pv : Nat → Int) (w : World) (_ : l.length ≤ c) (_ : c ≤ maxLen) (hx : Rd w w.heap.size 11 A l.length (rH l)) (hog : 0 ≤ og ∧ og ≤ 65535) (hgg : 0 ≤ gg ∧ gg ≤ 255) (hpn : pn ≤ maxLen) (hpx : Rd w w.heap.size 1 PA pn (fun i _ => .int .u16 (pv i))) (hpv : ∀ i, i < pn → 0 ≤ pv i ∧ pv i ≤ 65535) :
    Calls Try.prog 6 #[.slice A l.length c, ox.val, .agg #[.int .u16 og, .int .u8 gg, .slice PA pn pc]] w fun e w' => e = .returned (.bool true) ∧ Below w.heap.size w w' := by
  have KN := Lib.hid known_any
  obtain ⟨xl, xh⟩ := ox
  have HX : Hid (∀ V, Below w.heap.size w V → Rd V w.heap.size 11 A l.length (rH l)) := fun V hV => hx.below hV
  have HP : Hid (∀ V, Below w.heap.size w V → Rd V w.heap.size 1 PA pn (fun i _ => .int .u16 (pv i))) := fun V hV => hpx.below hV
  have HPV := Lib.hid hpv
  have HOG := Lib.hid hog
  have HPN := Lib.hid hpn
  clear hx hpx hpv hog hpn
  obtain ⟨k, hk, hgk⟩ : ∃ k : Nat, k < 5 ∧ gg.tmod 5 = k := ⟨(gg.tmod 5).toNat, by rw [Int.tmod_eq_emod_of_nonneg hgg.1]; omega, by rw [Int.tmod_eq_emod_of_nonneg hgg.1]; omega⟩
  have HK := Lib.hid hk
  have H2K : Hid ((0 : Int) < 2 ^ k ∧ (2 : Int) ^ k ≤ 31) := by
    have : ∀ q : Fin 5, (0 : Int) < 2 ^ (q : Nat) ∧ (2 : Int) ^ (q : Nat) ≤ 31 := by decide
    exact this ⟨k, hk⟩
  have CP := Lib.hid fun r b (hb : 0 ≤ b ∧ b ≤ 65535) V => place_any r b hb V
  obtain ⟨W, hW⟩ : ∃ W, W = ((w.alloc (.cells #[I xl, I xh] 23)).alloc (.cells #[.int .u16 og, .int .u8 gg, .slice PA pn pc] 63)) := ⟨_, rfl⟩
  have rowW0 : W.heap[w.heap.size]? = some (.cells #[I xl, I xh] 23 (0, 0)) := by rw [hW]; exact heap_before (heap_last _ _ _ rfl)
  have yW00 := ovr_cell (W := W) (b := w.heap.size) (o := 0) (v := I xl) (by rw [cell_of_row _ _ _ _ _ _ rowW0]; rfl)
  have yW01 := ovr_cell (W := W) (b := w.heap.size) (o := 1) (v := I xh) (by rw [cell_of_row _ _ _ _ _ _ rowW0]; rfl)
  have RrowW0 := Lib.hid (ovr_row rowW0)
  clear rowW0
  have rowW1 : W.heap[w.heap.size + 1]? = some (.cells #[.int .u16 og, .int .u8 gg, .slice PA pn pc] 63 (0, 0)) := by rw [hW]; exact heap_last _ _ _ (by simp)
  have yW10 := ovr_cell (W := W) (b := w.heap.size + 1) (o := 0) (v := .int .u16 og) (by rw [cell_of_row _ _ _ _ _ _ rowW1]; rfl)
  have yW11 := ovr_cell (W := W) (b := w.heap.size + 1) (o := 1) (v := .int .u8 gg) (by rw [cell_of_row _ _ _ _ _ _ rowW1]; rfl)
  have yW12 := ovr_cell (W := W) (b := w.heap.size + 1) (o := 2) (v := .slice PA pn pc) (by rw [cell_of_row _ _ _ _ _ _ rowW1]; rfl)
  have RrowW1 := Lib.hid (ovr_row rowW1)
  clear rowW1
  have HUW : Hid (∀ u, Below w.heap.size w (ovr W u)) := U2 hW
  have HW := Lib.hid hW
  clear hW
  go_enter Try.func6, Try.ntmps6
  go_upto_region 1 with (fail)
  rw [← HW.out]
  obtain ⟨u0, hu0⟩ := ovr_self W
  rw [hu0]
  clear hu0
  by_cases h1 : 30 < l.length
  · have d1 : decide ((30 : Int) < (l.length : Int)) = true := decide_eq_true (by omega)
    go_wp2_with fail
    refine (KN.out _).mono ?_
    rintro e w1 ⟨rfl, hb1⟩
    obtain ⟨uk, rfl⟩ := ovr_next hb1
    clear hb1
    go_wp2_with fail
    go_ret
    exact ⟨rfl, HUW.out _⟩
  have d1 : decide ((30 : Int) < (l.length : Int)) = false := decide_eq_false (by omega)
  have HL : Hid (l.length ≤ 30) := by show _ ≤ _; omega
  clear h1
  obtain ⟨⟨⟨a1, a2⟩, ⟨b1, b2⟩, er⟩, hq⟩ : ∃ q, anF l ⟨xl, xh⟩ (2 ^ k) = q := ⟨_, rfl⟩
  have HQ := Lib.hid hq
  have CA : Hid (∀ V A' c', Rd V V.heap.size 11 A' l.length (rH l) → Calls Try.prog 18 #[.slice A' l.length c', .agg #[I xl, I xh], .int .u8 (2 ^ k)] V fun e w' => e = .returned (.tuple #[.agg #[I a1, I a2], .agg #[I b1, I b2], I er]) ∧ Below V.heap.size V w') := fun V A' c' h => by
    have := anneal_any A' c' l ⟨xl, xh⟩ (2 ^ k) V V.heap.size (by have := HL.out; omega) (Nat.le_refl _) h (Int.le_of_lt H2K.out.1)
    rw [hq] at this
    exact this
  obtain ⟨i3, hi3, jz0, jz1, jz2⟩ := info_parts hst_info'
  clear hq
  go_upto_region 4 with (fail)
  have K2 : (2 : Int) ^ k % 256 = 2 ^ k := by have := H2K.out; omega
  have HK2 := Lib.hid K2
  clear K2
  have hbY := ovr_below W u0
  obtain ⟨Y, hY⟩ : ∃ Y, Y = ovr W u0 := ⟨_, rfl⟩
  rw [← hY] at hbY
  rw [← hY]
  have hY' := Lib.hid hY
  clear hY
  have hbY' := Lib.hid hbY
  have reY : ∀ v, ∃ x, ovr Y v = ovr W x := fun v => ovr_reB hbY v
  replace yW00 := tr_cell reY yW00
  replace yW01 := tr_cell reY yW01
  replace RrowW0 := Lib.hid (tr_row reY RrowW0.out)
  replace yW10 := tr_cell reY yW10
  replace yW11 := tr_cell reY yW11
  replace yW12 := tr_cell reY yW12
  replace RrowW1 := Lib.hid (tr_row reY RrowW1.out)
  have HUY : Hid (∀ u, Below w.heap.size w (ovr Y u)) := fun u => by obtain ⟨x, hx⟩ := reY u; rw [hx]; exact HUW.out x
  clear reY hbY
  refine Dl.wp_region_late 14 [10, 11] (fun j => if j = 0 then some Emp else if j = 2 then some (SlAt Y.heap.size 11 l.length (rH l)) else if j = 7 then some (fun u _ => u = .tuple #[.agg #[I a1, I a2], .agg #[I b1, I b2], I er]) else if j = 12 then some (NewAt Y #[I 0, I 0] 23) else if j = 13 then some (NewAt Y #[I 0, I 0] 23) else none) (by kernel_rfl) (by kernel_rfl) (by kernel_rfl) (by kernel_rfl) [12, 13] (E := 23)
    ⟨by kernel_rfl, alloc_rng, fun j hj => by simp only [List.mem_cons, List.not_mem_nil, or_false] at hj; rcases hj with rfl | rfl <;> exact ⟨_, _, _, rfl⟩⟩ (by kernel_rfl) (fun i hi => by simp only [List.mem_cons, List.not_mem_nil, or_false] at hi; rcases hi with rfl | rfl <;> rfl) (fun c a d v w h => by cases d <;> exact h) ?_
  simp only [List.take_succ_cons, List.take_zero, List.drop_succ_cons, List.drop_zero]
  refine Dk.wpG_make Emp rfl rfl (fun w' hw' _ => ?_) (fun u hu => ?_)
  · go_simp
    exact emp_grow w'
  obtain ⟨_, _, b0, rfl⟩ := hu
  simp only [Act.put, List.setIfInBounds_toArray, List.set_cons_zero, List.set_cons_succ]
  repeat (refine Dk.wpG_one rfl rfl rfl ?_; intro K hK; go_big_quiet_op; go_big_quiet_on)
  skip
  refine Dk.wpG_make (SlAt Y.heap.size 11 l.length (rH l)) rfl rfl (fun w' hw' _ => ?_) (fun u hu => ?_)
  · obtain ⟨x, rfl⟩ := hw'
    exact app_grow _ _ 37 rfl 66 i3 _ 11 88 Try.underlying37 hi3 jz0 jz1 jz2 rfl (by decide) b0 rfl A l.length c rfl (rH l) ((HX.out _ (HUY.out x)).more (HUY.out x).size) (by have := HL.out; omega) (by decide) (ovr_below Y x).size
  obtain ⟨_, _, A2, c2, rfl, _, _, _⟩ := hu
  simp only [Act.put, List.setIfInBounds_toArray, List.set_cons_zero, List.set_cons_succ]
  repeat (refine Dk.wpG_one rfl rfl rfl ?_; intro K hK; go_big_quiet_op; go_big_quiet_on)
  rw [HK2.out]
  refine Dk.wpG_make (fun u _ => u = .tuple #[.agg #[I a1, I a2], .agg #[I b1, I b2], I er]) rfl rfl (fun w' hw' hk => ?_) (fun u hu => ?_)
  · have hk2 := hk ⟨2, .data⟩ (by simp) rfl _ 35 _ rfl rfl rfl (Nat.lt_of_lt_of_eq (by decide : 35 < 287) rfl) rfl
    obtain ⟨A3, c3, he, _, hr, _⟩ := hk2.now
    obtain ⟨rfl, rfl⟩ : A2 = A3 ∧ c2 = c3 := by
      injection he with e1 e2 e3
      exact ⟨e1, e3⟩
    go_simp
    exact call_grow (CA.out w' A2 c2 hr)
  obtain ⟨_, _, rfl⟩ := hu
  simp only [Act.put, List.setIfInBounds_toArray, List.set_cons_zero, List.set_cons_succ]
  repeat (refine Dk.wpG_one rfl rfl rfl ?_; intro K hK; go_big_quiet_op; go_big_quiet_on)
  refine Dk.wpG_make (NewAt Y #[I 0, I 0] 23) rfl rfl (fun w' hw' _ => ?_) (fun u hu => ?_)
  · go_simp
    exact new_grow hw'
  obtain ⟨_, _, pb, rfl, _, _⟩ := hu
  simp only [Act.put, List.setIfInBounds_toArray, List.set_cons_zero, List.set_cons_succ]
  refine Dk.wpG_new (NewAt Y #[I 0, I 0] 23) rfl rfl (by simp) ⟨_, _, rfl, rfl, by simp⟩ (fun w' hw' _ => ?_) (fun u hu hne => ?_)
  · go_simp
    exact new_grow hw'
  obtain ⟨_, _, qb, rfl, _, _⟩ := hu
  have hpq := Dk.ptr_ne (hne 12 _ 8 (by omega) rfl (by simp) rfl (by simp))
  simp only [Act.put, List.setIfInBounds_toArray, List.set_cons_zero, List.set_cons_succ]
  refine Dk.wpG_nil (fun w5 hw5 hG => ?_)
  have hn1 := (Box.now hG.1.2).at
  have hn2 := (Box.now hG.2).at
  clear hG hne
  refine Dl.wpTailH_cons ?_
  refine wp_store_row 23 _ _ rfl pb rfl _ _ hn1.1 #[I a1, I a2] rfl (one2 rfl rfl) rfl (by kernel_rfl) ?_
  have hc1 := below_setRow hw5.le hn1.2 #[I a1, I a2]
  refine ⟨Cl.of hc1, ?_⟩
  refine Dl.wpTailH_cons ?_
  refine wp_store_row 23 _ _ rfl qb rfl _ _ ((setRow_other (Ne.symm hpq)).trans hn2.1) #[I b1, I b2] rfl (one2 rfl rfl) rfl (by kernel_rfl) ?_
  have hc2 := below_setRow hc1 hn2.2 #[I b1, I b2]
  refine ⟨Cl.of hc2, ?_⟩
  refine Dl.wpTailH_cons ?_
  refine wp_assign _ (I er) rfl rfl ?_
  refine ⟨Cl.of hc2, ?_⟩
  refine Dl.wpTailH_nil ?_
  simp only [Act.put]
  obtain ⟨V, hV⟩ : ∃ V, V = (w5.setRow pb #[I a1, I a2]).setRow qb #[I b1, I b2] := ⟨_, rfl⟩
  have rq : V.heap[qb]? = some (.cells #[I b1, I b2] 23 (0, 0)) := by rw [hV]; exact setRow_same ((setRow_other (Ne.symm hpq)).trans hn2.1)
  have rp : V.heap[pb]? = some (.cells #[I a1, I a2] 23 (0, 0)) := by rw [hV, setRow_other hpq]; exact setRow_same hn1.1
  have hbV : Below Y.heap.size Y V := by rw [hV]; exact hc2
  rw [← hV]
  clear hV hn1 hn2 hw5 hpq hc1 hc2
  have reV : ∀ v, ∃ x, ovr V v = ovr Y x := fun v => ovr_reB hbV v
  replace yW00 := tr_cell reV yW00
  replace yW01 := tr_cell reV yW01
  replace RrowW0 := Lib.hid (tr_row reV RrowW0.out)
  replace yW10 := tr_cell reV yW10
  replace yW11 := tr_cell reV yW11
  replace yW12 := tr_cell reV yW12
  replace RrowW1 := Lib.hid (tr_row reV RrowW1.out)
  have yV00 := ovr_cell (W := V) (b := pb) (o := 0) (v := I a1) (by rw [cell_of_row _ _ _ _ _ _ rp]; rfl)
  have yV01 := ovr_cell (W := V) (b := pb) (o := 1) (v := I a2) (by rw [cell_of_row _ _ _ _ _ _ rp]; rfl)
  have RrowV0 := Lib.hid (ovr_row rp)
  clear rp
  have yV10 := ovr_cell (W := V) (b := qb) (o := 0) (v := I b1) (by rw [cell_of_row _ _ _ _ _ _ rq]; rfl)
  have yV11 := ovr_cell (W := V) (b := qb) (o := 1) (v := I b2) (by rw [cell_of_row _ _ _ _ _ _ rq]; rfl)
  have RrowV1 := Lib.hid (ovr_row rq)
  clear rq
  have HUV : Hid (∀ u, Below w.heap.size w (ovr V u)) := fun u => by obtain ⟨x, hx⟩ := reV u; rw [hx]; exact HUY.out x
  clear reV hbV
  obtain ⟨v0, hv0⟩ := ovr_self V
  rw [hv0]
  clear hv0
  by_cases he : anE l ⟨xl, xh⟩ (2 ^ k) = 0
  case neg =>
    have h2 := an_err he
    rw [HQ.out, ae_two HL.out H2K.out he] at h2
    injection h2 with h3 h4
    injection h4 with h4 h5
    injection h3 with h3 h6
    injection h4 with h4 h7
    subst h3 h4 h5 h6 h7
    clear he
    go_wp2_with fail
    refine (KN.out _).mono ?_
    rintro e w1 ⟨rfl, hb1⟩
    obtain ⟨vk, rfl⟩ := ovr_next hb1
    clear hb1
    go_wp2_with fail
    go_ret
    exact ⟨rfl, HUV.out _⟩
  obtain ⟨hall, hspan⟩ := ae_ok HL.out he
  have HALL := Lib.hid hall
  have HSP := Lib.hid hspan
  have HAN : Hid (anX l ⟨xl, xh⟩ k = ⟨a1, a2⟩ ∧ anY l ⟨xl, xh⟩ k = ⟨b1, b2⟩ ∧ er = 0) := by
    have h2 := an_one HK.out hall hspan HL.out
    rw [HQ.out] at h2
    injection h2 with h3 h4
    injection h4 with h4 h5
    exact ⟨h3.symm, h4.symm, h5⟩
  have her := HAN.out.2.2
  subst her
  clear he hall hspan
  obtain ⟨x, hx⟩ : ∃ x, plF ⟨xl, xh⟩ og = x := ⟨_, rfl⟩
  have HXI : Hid (xl ≤ x ∧ x ≤ xh ∧ 0 ≤ x ∧ x ≤ 1000000) := by
    have h1 := spanB_iff.1 HSP.out
    have h2 := plF_in (r := ⟨xl, xh⟩) HOG.out.1 h1.2.1
    rw [hx] at h2
    exact ⟨h2.1, h2.2, by simp only at h1 h2; omega, by simp only at h1 h2; omega⟩
  have CX := Lib.hid fun V => CP.out ⟨xl, xh⟩ og HOG.out V
  rw [hx] at CX
  have HPX := Lib.hid hx
  clear hx
  go_wp2_with fail
  refine (CX.out _).mono ?_
  rintro e w1 ⟨rfl, hb1⟩
  obtain ⟨v1, rfl⟩ := ovr_next hb1
  clear hb1
  go_upto_block 0 with (fail)
  obtain ⟨pf, hpf⟩ : ∃ pf : Nat → Int, pf = fun i => if i < pn then pv i else 0 := ⟨_, rfl⟩
  have hp : ∀ i, pf i = if i < pn then pv i else 0 := fun i => by rw [hpf]
  have HPF : Hid (∀ i, (0 ≤ pf i ∧ pf i ≤ 65535) ∧ (i < pn → pf i = pv i) ∧ (pn ≤ i → pf i = 0)) := fun i => by
    by_cases h : i < pn
    · have h5 := hp i
      rw [if_pos h] at h5
      exact ⟨by rw [h5]; exact HPV.out i h, fun _ => h5, fun h' => absurd h (by omega)⟩
    · have h5 := hp i
      rw [if_neg h] at h5
      exact ⟨by rw [h5]; exact ⟨by omega, by omega⟩, fun h' => absurd h' h, fun _ => h5⟩
  clear hp
  clear hpf
  have HTB : Hid (∀ n, n ≤ l.length → 0 ≤ trK l pf x k n ∧ trK l pf x k n ≤ 1000000) := fun n hn => tr_bd HALL.out (fun i => (HPF.out i).1.1) HK.out HXI.out.2.2 hn
  go_wp2_with fail
  go_loopw [12, 13] (fun o i wr => ∃ (n : Nat) (u : World), n ≤ l.length ∧ i = .int .i64 n ∧ o = I (trK l pf x k n) ∧ wr = ovr V u) (fun _ i _ => l.length - (intOf i).toNat)
  case atStart => exact ⟨0, v1, by omega, rfl, rfl, rfl⟩
  case round =>
    obtain ⟨n, u, hnl, rfl, rfl, rfl⟩ := hrel
    have hln : n ≤ 30 := by have := HL.out; omega
    by_cases hlt : n < l.length
    · obtain ⟨b, o, rfl, _, hc⟩ := rd_hst (HX.out _ (HUV.out u)) hlt
      have htr : Hid (trK l pf x k (n + 1) = if trK l pf x k n - (at0 l n).d ≤ 0 then trK l pf x k n else trK l pf x k n - plF ⟨leP (trK l pf x k n - (at0 l n).d) ((at0 l n).s k), moP (trK l pf x k n - (at0 l n).d) ((at0 l n).s k)⟩ (pf n)) := rfl
      obtain ⟨h, hh⟩ : ∃ h, h = at0 l n := ⟨_, rfl⟩
      have hs := HALL.out.sp hlt HK.out
      have hd := (stOk_iff.1 (HALL.out n hlt)).2.1
      rw [← hh] at hc hs htr hd
      have e0 : (ovr V u).cell? ⟨b, o + n * 11, none⟩ = some (I h.d) := hc 0 (by omega)
      have e1 : (ovr V u).cell? ⟨b, o + n * 11 + 1 + k * 2, none⟩ = some (I (h.s k).lo) := by rw [Nat.add_assoc, hc (1 + k * 2) (by have := HK.out; omega), hc_lo]
      have e2 : (ovr V u).cell? ⟨b, o + n * 11 + 1 + k * 2 + 1, none⟩ = some (I (h.s k).hi) := by rw [show o + n * 11 + 1 + k * 2 + 1 = o + n * 11 + (1 + k * 2 + 1) by omega, hc (1 + k * 2 + 1) (by have := HK.out; omega), hc_hi]
      obtain ⟨⟨sl, sh⟩, hsr⟩ : ∃ r, h.s k = r := ⟨_, rfl⟩
      have hb := HTB.out n (by omega)
      have hb1 := HTB.out (n + 1) hlt
      rw [hsr] at hs e1 e2 htr
      have HLT := Lib.hid hlt
      have hk5 := HK.out
      obtain ⟨z, hz⟩ : ∃ z, trK l pf x k n = z := ⟨_, rfl⟩
      rw [hz] at hb htr
      rw [hz]
      obtain ⟨a, ha⟩ : ∃ a, z - h.d = a := ⟨_, rfl⟩
      rw [ha] at htr
      have k1 : IntKind.i64.wrap (z - h.d) = a := by rw [ha]; exact IntWalk.i64_in _ (by omega)
      clear hc hh hsr hz
      by_cases hpos : a ≤ 0
      · rw [if_pos hpos] at htr
        clear ha hb hb1 hs hd
        go_wp2_with fail
        exact ⟨⟨n + 1, u, HLT.out, rfl, by rw [htr.out], rfl⟩, by have := HLT.out; simp [intOf]; omega⟩
      · rw [if_neg hpos] at htr
        have bdl := leP_bd (a := a) (r := ⟨sl, sh⟩) ⟨by omega, by omega⟩ hs.1
        have bdm := moP_bd (a := a) (r := ⟨sl, sh⟩) ⟨by omega, by omega⟩ hs.1
        simp only at bdl bdm
        have HTR : Hid (trK l pf x k (n + 1) = z - plF ⟨leP a ⟨sl, sh⟩, moP a ⟨sl, sh⟩⟩ (pf n)) := htr.out
        obtain ⟨y1, hy1⟩ : ∃ y, leP a ⟨sl, sh⟩ = y := ⟨_, rfl⟩
        obtain ⟨y2, hy2⟩ : ∃ y, moP a ⟨sl, sh⟩ = y := ⟨_, rfl⟩
        rw [hy1, hy2] at HTR
        rw [hy1] at bdl
        rw [hy2] at bdm
        unfold leP at hy1
        unfold moP at hy2
        simp only at hy1 hy2
        have k2 : IntKind.i64.wrap (a * sl) = a * sl := IntWalk.i64_in _ (by omega)
        have k3 : IntKind.i64.wrap (a * sh) = a * sh := IntWalk.i64_in _ (by omega)
        have k3' : IntKind.i64.wrap (a * sh + 9999) = a * sh + 9999 := IntWalk.i64_in _ (by omega)
        have k4 : IntKind.i64.wrap ((a * sl).tdiv 10000) = y1 := by rw [hy1]; exact IntWalk.i64_in _ (by omega)
        have k5 : IntKind.i64.wrap ((a * sh + 9999).tdiv 10000) = y2 := by rw [hy2]; exact IntWalk.i64_in _ (by omega)
        obtain ⟨y, hy⟩ : ∃ y, plF ⟨y1, y2⟩ (pf n) = y := ⟨_, rfl⟩
        have CY := Lib.hid fun V => CP.out ⟨y1, y2⟩ (pf n) (HPF.out n).1 V
        rw [hy] at HTR CY
        have k6 : IntKind.i64.wrap (z - y) = z - y := by
          have h9 := HTR.out
          exact IntWalk.i64_in _ (by omega)
        clear ha hb hb1 hs hd bdl bdm hy hy1 hy2 htr
        by_cases hpp : n < pn
        · obtain ⟨pb2, po2, rfl, _, hpc⟩ := HP.out _ (HUV.out u) (by omega)
          have e3 : (ovr V u).cell? ⟨pb2, po2 + n, none⟩ = some (.int .u16 (pf n)) := by
            have h9 := hpc n hpp 0 (by omega)
            rw [(HPF.out n).2.1 hpp]
            simpa using h9
          have HPP := Lib.hid hpp
          clear hpc
          go_upto_region 18 with fail
          refine name_w fun T' hT' => ?_
          obtain ⟨T, hT⟩ : ∃ T, T = (ovr V u).heap.size := ⟨_, rfl⟩
          have rV : T'.heap[T]? = some (.cells #[I sl, I sh] 23 (0, 0)) := by rw [hT']; exact heap_last _ _ _ hT
          have bV : Below V.heap.size V T' := by rw [hT']; exact (ovr_below V u).alloc (ovr_below V u).size _
          rw [← hT]
          have c0 : T'.cell? ⟨T, 0, none⟩ = some (I sl) := by rw [cell_of_row _ _ _ _ _ _ rV]; rfl
          have c1 : T'.cell? ⟨T, 1, none⟩ = some (I sh) := by rw [cell_of_row _ _ _ _ _ _ rV]; rfl
          have BV := Lib.hid bV
          clear hT' hT rV bV e0 e1 e2
          go_wp2_with fail
          refine (CY.out _).mono ?_
          rintro _ X9 ⟨rfl, hb9⟩
          have BZ : Hid (Below V.heap.size V X9) := BV.out.trans (hb9.mono BV.out.size)
          clear hb9
          go_wp2_with fail
          exact ⟨⟨n + 1, X9, HLT.out, rfl, by rw [HTR.out], ovr_of BZ.out⟩, by have := HLT.out; simp [intOf]; omega⟩
        · have e3 := (HPF.out n).2.2 (by omega)
          rw [e3] at CY
          clear e3
          go_upto_region 18 with fail
          refine name_w fun T' hT' => ?_
          obtain ⟨T, hT⟩ : ∃ T, T = (ovr V u).heap.size := ⟨_, rfl⟩
          have rV : T'.heap[T]? = some (.cells #[I sl, I sh] 23 (0, 0)) := by rw [hT']; exact heap_last _ _ _ hT
          have bV : Below V.heap.size V T' := by rw [hT']; exact (ovr_below V u).alloc (ovr_below V u).size _
          rw [← hT]
          have c0 : T'.cell? ⟨T, 0, none⟩ = some (I sl) := by rw [cell_of_row _ _ _ _ _ _ rV]; rfl
          have c1 : T'.cell? ⟨T, 1, none⟩ = some (I sh) := by rw [cell_of_row _ _ _ _ _ _ rV]; rfl
          have BV := Lib.hid bV
          clear hT' hT rV bV e0 e1 e2
          go_wp2_with fail
          refine (CY.out _).mono ?_
          rintro _ X9 ⟨rfl, hb9⟩
          have BZ : Hid (Below V.heap.size V X9) := BV.out.trans (hb9.mono BV.out.size)
          clear hb9
          go_wp2_with fail
          exact ⟨⟨n + 1, X9, HLT.out, rfl, by rw [HTR.out], ovr_of BZ.out⟩, by have := HLT.out; simp [intOf]; omega⟩
    · have hn : n = l.length := by omega
      subst hn
      obtain ⟨z, hz⟩ : ∃ z, trK l pf x k l.length = z := ⟨_, rfl⟩
      have HZI : Hid (a1 ≤ z ∧ z ≤ a2 ∧ b1 ≤ x - z ∧ x - z ≤ b2) := by
        have h9 := ox_true HALL.out (fun i => (HPF.out i).1.1) HK.out HSP.out (x := x) ⟨HXI.out.1, HXI.out.2.1⟩
        rw [HAN.out.1, HAN.out.2.1, hz] at h9
        exact ⟨h9.1.1, h9.1.2, h9.2.1, h9.2.2⟩
      have k1 : IntKind.i64.wrap (x - z) = x - z := by
        have h1 := HTB.out l.length (Nat.le_refl _)
        rw [hz] at h1
        have h2 := HXI.out
        exact IntWalk.i64_in _ (by omega)
      rw [hz]
      clear hz hnl hlt hln
      have d1 : decide (z < a1) = false := decide_eq_false (by have := HZI.out; omega)
      have d2 : decide (a2 < z) = false := decide_eq_false (by have := HZI.out; omega)
      have d3 : decide (x - z < b1) = false := decide_eq_false (by have := HZI.out; omega)
      have d4 : decide (b2 < x - z) = false := decide_eq_false (by have := HZI.out; omega)
      go_upto_region 21 with fail
      clear d1 d2 d3 d4 k1
      obtain ⟨⟨p1, p2⟩, ⟨q1, q2⟩, hpq31, hsub⟩ := an_all (ox := ⟨xl, xh⟩) HALL.out HSP.out HL.out
      have HSB : Hid (p1 ≤ a1 ∧ a2 ≤ p2 ∧ q1 ≤ b1 ∧ b2 ≤ q2) := by
        have h9 := hsub k HK.out
        rw [HAN.out.1, HAN.out.2.1] at h9
        exact ⟨h9.1.1, h9.1.2, h9.2.1, h9.2.2⟩
      have CB : Hid (∀ V A' c', Rd V V.heap.size 11 A' l.length (rH l) → Calls Try.prog 18 #[.slice A' l.length c', .agg #[I xl, I xh], .int .u8 31] V fun e w' => e = .returned (.tuple #[.agg #[I p1, I p2], .agg #[I q1, I q2], I 0]) ∧ Below V.heap.size V w') := fun V A' c' h => by
        have := anneal_any A' c' l ⟨xl, xh⟩ 31 V V.heap.size (by have := HL.out; omega) (Nat.le_refl _) h (by omega)
        rw [hpq31] at this
        exact this
      clear hpq31 hsub
      have hbY2 := ovr_below V u
      obtain ⟨Y2, hY2⟩ : ∃ Y2, Y2 = ovr V u := ⟨_, rfl⟩
      rw [← hY2] at hbY2
      rw [← hY2]
      have hY2' := Lib.hid hY2
      clear hY2
      have hbY2' := Lib.hid hbY2
      have reY2 : ∀ v, ∃ x, ovr Y2 v = ovr V x := fun v => ovr_reB hbY2 v
      replace yW00 := tr_cell reY2 yW00
      replace yW01 := tr_cell reY2 yW01
      replace RrowW0 := Lib.hid (tr_row reY2 RrowW0.out)
      replace yW10 := tr_cell reY2 yW10
      replace yW11 := tr_cell reY2 yW11
      replace yW12 := tr_cell reY2 yW12
      replace RrowW1 := Lib.hid (tr_row reY2 RrowW1.out)
      replace yV00 := tr_cell reY2 yV00
      replace yV01 := tr_cell reY2 yV01
      replace RrowV0 := Lib.hid (tr_row reY2 RrowV0.out)
      replace yV10 := tr_cell reY2 yV10
      replace yV11 := tr_cell reY2 yV11
      replace RrowV1 := Lib.hid (tr_row reY2 RrowV1.out)
      have HUY2 : Hid (∀ u, Below w.heap.size w (ovr Y2 u)) := fun u => by obtain ⟨x, hx⟩ := reY2 u; rw [hx]; exact HUV.out x
      clear reY2 hbY2
      refine Dl.wp_region_late 11 [7, 8] (fun j => if j = 0 then some Emp else if j = 2 then some (SlAt Y2.heap.size 11 l.length (rH l)) else if j = 4 then some (fun u _ => u = .tuple #[.agg #[I p1, I p2], .agg #[I q1, I q2], I 0]) else if j = 9 then some (NewAt Y2 #[I 0, I 0] 23) else if j = 10 then some (NewAt Y2 #[I 0, I 0] 23) else none) (by kernel_rfl) (by kernel_rfl) (by kernel_rfl) (by kernel_rfl) [9, 10] (E := 23)
        ⟨by kernel_rfl, alloc_rng, fun j hj => by simp only [List.mem_cons, List.not_mem_nil, or_false] at hj; rcases hj with rfl | rfl <;> exact ⟨_, _, _, rfl⟩⟩ (by kernel_rfl) (fun i hi => by simp only [List.mem_cons, List.not_mem_nil, or_false] at hi; rcases hi with rfl | rfl <;> rfl) (fun c a d v w h => by cases d <;> exact h) ?_
      simp only [List.take_succ_cons, List.take_zero, List.drop_succ_cons, List.drop_zero]
      refine Dk.wpG_make Emp rfl rfl (fun w' hw' _ => ?_) (fun u hu => ?_)
      · go_simp
        exact emp_grow w'
      obtain ⟨_, _, b0, rfl⟩ := hu
      simp only [Act.put, List.setIfInBounds_toArray, List.set_cons_zero, List.set_cons_succ]
      repeat (refine Dk.wpG_one rfl rfl rfl ?_; intro K hK; go_big_quiet_op; go_big_quiet_on)
      skip
      refine Dk.wpG_make (SlAt Y2.heap.size 11 l.length (rH l)) rfl rfl (fun w' hw' _ => ?_) (fun u hu => ?_)
      · obtain ⟨x, rfl⟩ := hw'
        exact app_grow _ _ 37 rfl 66 i3 _ 11 88 Try.underlying37 hi3 jz0 jz1 jz2 rfl (by decide) b0 rfl A l.length c rfl (rH l) ((HX.out _ (HUY2.out x)).more (HUY2.out x).size) (by have := HL.out; omega) (by decide) (ovr_below Y2 x).size
      obtain ⟨_, _, A2, c2, rfl, _, _, _⟩ := hu
      simp only [Act.put, List.setIfInBounds_toArray, List.set_cons_zero, List.set_cons_succ]
      repeat (refine Dk.wpG_one rfl rfl rfl ?_; intro K hK; go_big_quiet_op; go_big_quiet_on)
      skip
      refine Dk.wpG_make (fun u _ => u = .tuple #[.agg #[I p1, I p2], .agg #[I q1, I q2], I 0]) rfl rfl (fun w' hw' hk => ?_) (fun u hu => ?_)
      · have hk2 := hk ⟨2, .data⟩ (by simp) rfl _ 143 _ rfl rfl rfl (Nat.lt_of_lt_of_eq (by decide : 143 < 287) rfl) rfl
        obtain ⟨A3, c3, he, _, hr, _⟩ := hk2.now
        obtain ⟨rfl, rfl⟩ : A2 = A3 ∧ c2 = c3 := by
          injection he with e1 e2 e3
          exact ⟨e1, e3⟩
        go_simp
        exact call_grow (CB.out w' A2 c2 hr)
      obtain ⟨_, _, rfl⟩ := hu
      simp only [Act.put, List.setIfInBounds_toArray, List.set_cons_zero, List.set_cons_succ]
      repeat (refine Dk.wpG_one rfl rfl rfl ?_; intro K hK; go_big_quiet_op; go_big_quiet_on)
      refine Dk.wpG_make (NewAt Y2 #[I 0, I 0] 23) rfl rfl (fun w' hw' _ => ?_) (fun u hu => ?_)
      · go_simp
        exact new_grow hw'
      obtain ⟨_, _, pb3, rfl, _, _⟩ := hu
      simp only [Act.put, List.setIfInBounds_toArray, List.set_cons_zero, List.set_cons_succ]
      refine Dk.wpG_new (NewAt Y2 #[I 0, I 0] 23) rfl rfl (by simp) ⟨_, _, rfl, rfl, by simp⟩ (fun w' hw' _ => ?_) (fun u hu hne => ?_)
      · go_simp
        exact new_grow hw'
      obtain ⟨_, _, qb3, rfl, _, _⟩ := hu
      have hpq := Dk.ptr_ne (hne 9 _ 17 (by omega) rfl (by simp) rfl (by simp))
      simp only [Act.put, List.setIfInBounds_toArray, List.set_cons_zero, List.set_cons_succ]
      refine Dk.wpG_nil (fun w5 hw5 hG => ?_)
      have hn1 := (Box.now hG.1.2).at
      have hn2 := (Box.now hG.2).at
      clear hG hne
      refine Dl.wpTailH_cons ?_
      refine wp_store_row 23 _ _ rfl pb3 rfl _ _ hn1.1 #[I p1, I p2] rfl (one2 rfl rfl) rfl (by kernel_rfl) ?_
      have hc1 := below_setRow hw5.le hn1.2 #[I p1, I p2]
      refine ⟨Cl.of hc1, ?_⟩
      refine Dl.wpTailH_cons ?_
      refine wp_store_row 23 _ _ rfl qb3 rfl _ _ ((setRow_other (Ne.symm hpq)).trans hn2.1) #[I q1, I q2] rfl (one2 rfl rfl) rfl (by kernel_rfl) ?_
      have hc2 := below_setRow hc1 hn2.2 #[I q1, I q2]
      refine ⟨Cl.of hc2, ?_⟩
      refine Dl.wpTailH_cons ?_
      refine wp_assign _ (I 0) rfl rfl ?_
      refine ⟨Cl.of hc2, ?_⟩
      refine Dl.wpTailH_nil ?_
      simp only [Act.put]
      obtain ⟨V2, hV2⟩ : ∃ V2, V2 = (w5.setRow pb3 #[I p1, I p2]).setRow qb3 #[I q1, I q2] := ⟨_, rfl⟩
      have rq : V2.heap[qb3]? = some (.cells #[I q1, I q2] 23 (0, 0)) := by rw [hV2]; exact setRow_same ((setRow_other (Ne.symm hpq)).trans hn2.1)
      have rp : V2.heap[pb3]? = some (.cells #[I p1, I p2] 23 (0, 0)) := by rw [hV2, setRow_other hpq]; exact setRow_same hn1.1
      have hbV2 : Below Y2.heap.size Y2 V2 := by rw [hV2]; exact hc2
      rw [← hV2]
      clear hV2 hn1 hn2 hw5 hpq hc1 hc2
      have reV2 : ∀ v, ∃ x, ovr V2 v = ovr Y2 x := fun v => ovr_reB hbV2 v
      replace yW00 := tr_cell reV2 yW00
      replace yW01 := tr_cell reV2 yW01
      replace RrowW0 := Lib.hid (tr_row reV2 RrowW0.out)
      replace yW10 := tr_cell reV2 yW10
      replace yW11 := tr_cell reV2 yW11
      replace yW12 := tr_cell reV2 yW12
      replace RrowW1 := Lib.hid (tr_row reV2 RrowW1.out)
      replace yV00 := tr_cell reV2 yV00
      replace yV01 := tr_cell reV2 yV01
      replace RrowV0 := Lib.hid (tr_row reV2 RrowV0.out)
      replace yV10 := tr_cell reV2 yV10
      replace yV11 := tr_cell reV2 yV11
      replace RrowV1 := Lib.hid (tr_row reV2 RrowV1.out)
      have yV200 := ovr_cell (W := V2) (b := pb3) (o := 0) (v := I p1) (by rw [cell_of_row _ _ _ _ _ _ rp]; rfl)
      have yV201 := ovr_cell (W := V2) (b := pb3) (o := 1) (v := I p2) (by rw [cell_of_row _ _ _ _ _ _ rp]; rfl)
      have RrowV20 := Lib.hid (ovr_row rp)
      clear rp
      have yV210 := ovr_cell (W := V2) (b := qb3) (o := 0) (v := I q1) (by rw [cell_of_row _ _ _ _ _ _ rq]; rfl)
      have yV211 := ovr_cell (W := V2) (b := qb3) (o := 1) (v := I q2) (by rw [cell_of_row _ _ _ _ _ _ rq]; rfl)
      have RrowV21 := Lib.hid (ovr_row rq)
      clear rq
      have HUV2 : Hid (∀ u, Below w.heap.size w (ovr V2 u)) := fun u => by obtain ⟨x, hx⟩ := reV2 u; rw [hx]; exact HUY2.out x
      clear reV2 hbV2
      obtain ⟨v2, hv2⟩ := ovr_self V2
      rw [hv2]
      clear hv2
      go_upto_region 22 with fail
      have hxx : spanB (⟨x, x⟩ : Rng) 0 1000000 = true := spanB_iff.2 ⟨HXI.out.2.2.1, Int.le_refl _, HXI.out.2.2.2⟩
      obtain ⟨⟨⟨x1, x2⟩, ⟨z1, z2⟩, er3⟩, hq3⟩ : ∃ q, anF l ⟨x, x⟩ (2 ^ k) = q := ⟨_, rfl⟩
      have HSX : Hid (anX l ⟨x, x⟩ k = ⟨x1, x2⟩ ∧ anY l ⟨x, x⟩ k = ⟨z1, z2⟩ ∧ er3 = 0) := by
        have h9 := an_one HK.out HALL.out hxx HL.out
        rw [hq3] at h9
        injection h9 with h3 h4
        injection h4 with h4 h5
        exact ⟨h3.symm, h4.symm, h5⟩
      have her := HSX.out.2.2
      subst her
      have HLS : Hid (a1 ≤ x1 ∧ x2 ≤ a2 ∧ b1 ≤ z1 ∧ z2 ≤ b2 ∧ x1 + z2 = x ∧ x2 + z1 = x) := by
        have h9 := ox_less HALL.out HK.out HSP.out (x := x) ⟨HXI.out.1, HXI.out.2.1⟩
        rw [HAN.out.1, HAN.out.2.1, HSX.out.1, HSX.out.2.1] at h9
        exact ⟨h9.1.1, h9.1.2, h9.2.1.1, h9.2.1.2, h9.2.2.1, h9.2.2.2⟩
      have CS : Hid (∀ V A' c', Rd V V.heap.size 11 A' l.length (rH l) → Calls Try.prog 18 #[.slice A' l.length c', .agg #[I x, I x], .int .u8 (2 ^ k)] V fun e w' => e = .returned (.tuple #[.agg #[I x1, I x2], .agg #[I z1, I z2], I 0]) ∧ Below V.heap.size V w') := fun V A' c' h => by
        have := anneal_any A' c' l ⟨x, x⟩ (2 ^ k) V V.heap.size (by have := HL.out; omega) (Nat.le_refl _) h (Int.le_of_lt H2K.out.1)
        rw [hq3] at this
        exact this
      clear hxx hq3
      go_wp2_with (with_reducible show wpList _ _ _ _ _ _; refine wpList_app_lit rfl _ _ 37 rfl 66 i3 _ 11 88 Try.underlying37 hi3 jz0 jz1 jz2 rfl (by decide) _ rfl A l.length c rfl (rH l) ((HX.out _ ((HUV2.out v2).alloc (HUV2.out v2).size _)).more ((HUV2.out v2).alloc (HUV2.out v2).size _).size) (by have := HL.out; omega) (by decide) ?_; intro A3 c3 W3 _ _ hr3 hb3; refine Hid.out ?_)
      refine Lib.hid ?_
      have hbW3 : Below V2.heap.size V2 W3 := ((ovr_below V2 v2).alloc (ovr_below V2 v2).size _).trans (hb3.mono ((ovr_below V2 v2).alloc (ovr_below V2 v2).size _).size)
      have HR3 : Hid (∀ u, Rd (ovr W3 u) (ovr W3 u).heap.size 11 A3 l.length (rH l)) := fun u => (hr3.below (ovr_below W3 u)).more (ovr_below W3 u).size
      clear hr3 hb3
      have reW3 : ∀ v, ∃ x, ovr W3 v = ovr V2 x := fun v => ovr_reB hbW3 v
      replace yW00 := tr_cell reW3 yW00
      replace yW01 := tr_cell reW3 yW01
      replace RrowW0 := Lib.hid (tr_row reW3 RrowW0.out)
      replace yW10 := tr_cell reW3 yW10
      replace yW11 := tr_cell reW3 yW11
      replace yW12 := tr_cell reW3 yW12
      replace RrowW1 := Lib.hid (tr_row reW3 RrowW1.out)
      replace yV00 := tr_cell reW3 yV00
      replace yV01 := tr_cell reW3 yV01
      replace RrowV0 := Lib.hid (tr_row reW3 RrowV0.out)
      replace yV10 := tr_cell reW3 yV10
      replace yV11 := tr_cell reW3 yV11
      replace RrowV1 := Lib.hid (tr_row reW3 RrowV1.out)
      replace yV200 := tr_cell reW3 yV200
      replace yV201 := tr_cell reW3 yV201
      replace RrowV20 := Lib.hid (tr_row reW3 RrowV20.out)
      replace yV210 := tr_cell reW3 yV210
      replace yV211 := tr_cell reW3 yV211
      replace RrowV21 := Lib.hid (tr_row reW3 RrowV21.out)
      have HUW3 : Hid (∀ u, Below w.heap.size w (ovr W3 u)) := fun u => by obtain ⟨x, hx⟩ := reW3 u; rw [hx]; exact HUV2.out x
      clear reW3 hbW3
      obtain ⟨v3, hv3⟩ := ovr_self W3
      rw [hv3]
      clear hv3
      go_wp2_with fail
      rw [HK2.out]
      refine (CS.out _ A3 c3 (HR3.out v3)).mono ?_
      rintro e w1 ⟨rfl, hb1⟩
      obtain ⟨v4, rfl⟩ := ovr_next hb1
      clear hb1
      go_upto_region 23 with fail
      obtain ⟨T, hT⟩ : ∃ T, T = (((ovr W3 v4).alloc (.cells #[I x1, I x2] 23)).alloc (.cells #[I z1, I z2] 23)) := ⟨_, rfl⟩
      have reT : ∀ v, ∃ x, ovr T v = ovr W3 x := fun v => ovr_re2 hT
      replace yW00 := tr_cell reT yW00
      replace yW01 := tr_cell reT yW01
      replace RrowW0 := Lib.hid (tr_row reT RrowW0.out)
      replace yW10 := tr_cell reT yW10
      replace yW11 := tr_cell reT yW11
      replace yW12 := tr_cell reT yW12
      replace RrowW1 := Lib.hid (tr_row reT RrowW1.out)
      replace yV00 := tr_cell reT yV00
      replace yV01 := tr_cell reT yV01
      replace RrowV0 := Lib.hid (tr_row reT RrowV0.out)
      replace yV10 := tr_cell reT yV10
      replace yV11 := tr_cell reT yV11
      replace RrowV1 := Lib.hid (tr_row reT RrowV1.out)
      replace yV200 := tr_cell reT yV200
      replace yV201 := tr_cell reT yV201
      replace RrowV20 := Lib.hid (tr_row reT RrowV20.out)
      replace yV210 := tr_cell reT yV210
      replace yV211 := tr_cell reT yV211
      replace RrowV21 := Lib.hid (tr_row reT RrowV21.out)
      have rowT0 : T.heap[(ovr W3 v4).heap.size]? = some (.cells #[I x1, I x2] 23 (0, 0)) := by rw [hT]; exact heap_before (heap_last _ _ _ rfl)
      have yT00 := ovr_cell (W := T) (b := (ovr W3 v4).heap.size) (o := 0) (v := I x1) (by rw [cell_of_row _ _ _ _ _ _ rowT0]; rfl)
      have yT01 := ovr_cell (W := T) (b := (ovr W3 v4).heap.size) (o := 1) (v := I x2) (by rw [cell_of_row _ _ _ _ _ _ rowT0]; rfl)
      have RrowT0 := Lib.hid (ovr_row rowT0)
      clear rowT0
      have rowT1 : T.heap[(ovr W3 v4).heap.size + 1]? = some (.cells #[I z1, I z2] 23 (0, 0)) := by rw [hT]; exact heap_last _ _ _ (by simp)
      have yT10 := ovr_cell (W := T) (b := (ovr W3 v4).heap.size + 1) (o := 0) (v := I z1) (by rw [cell_of_row _ _ _ _ _ _ rowT1]; rfl)
      have yT11 := ovr_cell (W := T) (b := (ovr W3 v4).heap.size + 1) (o := 1) (v := I z2) (by rw [cell_of_row _ _ _ _ _ _ rowT1]; rfl)
      have RrowT1 := Lib.hid (ovr_row rowT1)
      clear rowT1
      have HBT : Hid (∀ u, Below W3.heap.size W3 (ovr T u)) := fun u => by obtain ⟨x, hx⟩ := reT u; rw [hx]; exact ovr_below _ _
      have HUT : Hid (∀ u, Below w.heap.size w (ovr T u)) := fun u => by obtain ⟨x, hx⟩ := reT u; rw [hx]; exact HUW3.out x
      clear reT
      have HT := Lib.hid hT
      clear hT
      rw [← HT.out]
      obtain ⟨v5, hv5⟩ := ovr_self T
      rw [hv5]
      clear hv5
      have d1 : decide (a1 < p1) = false := decide_eq_false (by have := HSB.out; omega)
      have d2 : decide (p2 < a2) = false := decide_eq_false (by have := HSB.out; omega)
      have d3 : decide (b1 < q1) = false := decide_eq_false (by have := HSB.out; omega)
      have d4 : decide (q2 < b2) = false := decide_eq_false (by have := HSB.out; omega)
      have d5 : decide (x1 < a1) = false := decide_eq_false (by have := HLS.out; omega)
      have d6 : decide (a2 < x2) = false := decide_eq_false (by have := HLS.out; omega)
      have d7 : decide (z1 < b1) = false := decide_eq_false (by have := HLS.out; omega)
      have d8 : decide (b2 < z2) = false := decide_eq_false (by have := HLS.out; omega)
      have k1 : IntKind.i64.wrap (x1 + z2) = x := by
        have h1 := HLS.out
        have h2 := HXI.out
        rw [h1.2.2.2.2.1]
        exact IntWalk.i64_in _ (by omega)
      have k2 : IntKind.i64.wrap (x2 + z1) = x := by
        have h1 := HLS.out
        have h2 := HXI.out
        rw [h1.2.2.2.2.2]
        exact IntWalk.i64_in _ (by omega)
      go_upto_region 27 with fail
      clear d1 d2 d3 d4 d5 d6 d7 d8 k1 k2
      by_cases h0 : l.length = 0
      · have hxe : x1 = x ∧ x2 = x := by
          have h1 := HSX.out.1
          have hn : l = [] := List.eq_nil_of_length_eq_zero h0
          rw [hn, anX_cu] at h1
          injection h1 with h2 h3
          exact ⟨h2.symm, h3.symm⟩
        have hx1 := hxe.1
        have hx2 := hxe.2
        subst hx1
        subst hx2
        have dl : ((l.length : Int) == 0) = true := beq_iff_eq.2 (by omega)
        clear h0
        go_wp2_with fail
        refine (KN.out _).mono ?_
        rintro e w1 ⟨rfl, hb1⟩
        obtain ⟨v6, rfl⟩ := ovr_next hb1
        clear hb1
        go_wp2_with fail
        go_ret
        exact ⟨rfl, HUT.out _⟩
      · have dl : ((l.length : Int) == 0) = false := beq_eq_false_iff_ne.2 (by omega)
        have HPOS : Hid (0 < l.length) := by show 0 < _; omega
        clear h0
        go_upto_region 29 with fail
        clear dl
        obtain ⟨⟨⟨f1, f2⟩, ⟨g1, g2⟩, er4⟩, hq4⟩ : ∃ q, anF (l.take (l.length - 1)) ⟨xl, xh⟩ (2 ^ k) = q := ⟨_, rfl⟩
        have hlt1 : (l.take (l.length - 1)).length = l.length - 1 := by rw [List.length_take]; omega
        have hall4 : OkAll (l.take (l.length - 1)) := fun i hi => by
          rw [hlt1] at hi
          rw [at0_get (by rw [hlt1]; exact hi), List.getElem_take, ← at0_get (by omega)]
          exact HALL.out i (by omega)
        have HBF : Hid (a1 ≤ f1 ∧ a2 ≤ f2 ∧ er4 = 0) := by
          have h9 := an_one HK.out hall4 HSP.out (by rw [hlt1]; have := HL.out; omega)
          rw [hq4] at h9
          injection h9 with h3 h4
          injection h4 with h4 h5
          have h8 := ox_before HALL.out HK.out HSP.out HPOS.out
          rw [HAN.out.1, ← h3] at h8
          exact ⟨h8.1, h8.2, h5⟩
        have her := HBF.out.2.2
        subst her
        obtain ⟨m, hm⟩ : ∃ m, l.length - 1 = m := ⟨_, rfl⟩
        have hlm : l.length = m + 1 := by have := HPOS.out; omega
        rw [hm] at hq4 hlt1
        have HM : Hid (m ≤ 30 ∧ l.length = m + 1) := ⟨by have := HL.out; omega, hlm⟩
        have CF : Hid (∀ V A' c', Rd V V.heap.size 11 A' m (rH (l.take m)) → Calls Try.prog 18 #[.slice A' m c', .agg #[I xl, I xh], .int .u8 (2 ^ k)] V fun e w' => e = .returned (.tuple #[.agg #[I f1, I f2], .agg #[I g1, I g2], I 0]) ∧ Below V.heap.size V w') := fun V A' c' h => by
          have := anneal_any A' c' (l.take m) ⟨xl, xh⟩ (2 ^ k) V V.heap.size (by rw [hlt1]; have := HM.out.1; omega) (Nat.le_refl _) (by rw [hlt1]; exact h) (Int.le_of_lt H2K.out.1)
          rw [hq4, hlt1] at this
          exact this
        clear hq4 hall4 hm hlt1 hlm
        obtain ⟨bA, oA, hA⟩ : ∃ b o, A = some ⟨b, o, none⟩ := by
          obtain ⟨bA, oA, hA, _, _⟩ := HX.out (ovr T v5) (HUT.out v5) HPOS.out
          exact ⟨bA, oA, hA⟩
        have HA := Lib.hid hA
        have HRD : Hid (∀ V, Below w.heap.size w V → Rd V w.heap.size 11 (some ⟨bA, oA, none⟩) m (rH (l.take m))) := fun V hV => by
          have h9 := rd_take (m := m) (HX.out V hV) (by have := HM.out.2; omega)
          rw [hA] at h9
          exact h9
        clear hA
        rw [HA.out]
        have hbY5 := ovr_below T v5
        obtain ⟨Y5, hY5⟩ : ∃ Y5, Y5 = ovr T v5 := ⟨_, rfl⟩
        rw [← hY5] at hbY5
        rw [← hY5]
        have hY5' := Lib.hid hY5
        clear hY5
        have hbY5' := Lib.hid hbY5
        have reY5 : ∀ v, ∃ x, ovr Y5 v = ovr T x := fun v => ovr_reB hbY5 v
        replace yW00 := tr_cell reY5 yW00
        replace yW01 := tr_cell reY5 yW01
        replace RrowW0 := Lib.hid (tr_row reY5 RrowW0.out)
        replace yW10 := tr_cell reY5 yW10
        replace yW11 := tr_cell reY5 yW11
        replace yW12 := tr_cell reY5 yW12
        replace RrowW1 := Lib.hid (tr_row reY5 RrowW1.out)
        replace yV00 := tr_cell reY5 yV00
        replace yV01 := tr_cell reY5 yV01
        replace RrowV0 := Lib.hid (tr_row reY5 RrowV0.out)
        replace yV10 := tr_cell reY5 yV10
        replace yV11 := tr_cell reY5 yV11
        replace RrowV1 := Lib.hid (tr_row reY5 RrowV1.out)
        replace yV200 := tr_cell reY5 yV200
        replace yV201 := tr_cell reY5 yV201
        replace RrowV20 := Lib.hid (tr_row reY5 RrowV20.out)
        replace yV210 := tr_cell reY5 yV210
        replace yV211 := tr_cell reY5 yV211
        replace RrowV21 := Lib.hid (tr_row reY5 RrowV21.out)
        replace yT00 := tr_cell reY5 yT00
        replace yT01 := tr_cell reY5 yT01
        replace RrowT0 := Lib.hid (tr_row reY5 RrowT0.out)
        replace yT10 := tr_cell reY5 yT10
        replace yT11 := tr_cell reY5 yT11
        replace RrowT1 := Lib.hid (tr_row reY5 RrowT1.out)
        have HUY5 : Hid (∀ u, Below w.heap.size w (ovr Y5 u)) := fun u => by obtain ⟨x, hx⟩ := reY5 u; rw [hx]; exact HUT.out x
        clear reY5 hbY5
        refine Dl.wp_region_late 18 [14, 15] (fun j => if j = 0 then some Emp else if j = 6 then some (SlAt Y5.heap.size 11 m (rH (l.take m))) else if j = 11 then some (fun u _ => u = .tuple #[.agg #[I f1, I f2], .agg #[I g1, I g2], I 0]) else if j = 16 then some (NewAt Y5 #[I 0, I 0] 23) else if j = 17 then some (NewAt Y5 #[I 0, I 0] 23) else none) (by kernel_rfl) (by kernel_rfl) (by kernel_rfl) (by kernel_rfl) [16, 17] (E := 23)
          ⟨by kernel_rfl, alloc_rng, fun j hj => by simp only [List.mem_cons, List.not_mem_nil, or_false] at hj; rcases hj with rfl | rfl <;> exact ⟨_, _, _, rfl⟩⟩ (by kernel_rfl) (fun i hi => by simp only [List.mem_cons, List.not_mem_nil, or_false] at hi; rcases hi with rfl | rfl <;> rfl) (fun c a d v w h => by cases d <;> exact h) ?_
        simp only [List.take_succ_cons, List.take_zero, List.drop_succ_cons, List.drop_zero]
        refine Dk.wpG_make Emp rfl rfl (fun w' hw' _ => ?_) (fun u hu => ?_)
        · go_simp
          exact emp_grow w'
        obtain ⟨_, _, b0, rfl⟩ := hu
        simp only [Act.put, List.setIfInBounds_toArray, List.set_cons_zero, List.set_cons_succ]
        have k1 : IntKind.i64.wrap ((l.length : Int) - 1) = (m : Int) := by
          rw [show (l.length : Int) - 1 = (m : Int) by have := HM.out.2; omega]
          exact IntWalk.i64_in _ (by have := HM.out.1; omega)
        refine Dk.wpG_one rfl rfl rfl ?_; intro K hK; go_big_quiet_op; go_big_quiet_on
        refine Dk.wpG_one rfl rfl rfl ?_; intro K hK; go_big_quiet_op; go_big_quiet_on
        refine Dk.wpG_one rfl rfl rfl ?_; intro K hK; go_big_quiet_op; go_big_quiet_on
        refine Dk.wpG_one rfl rfl rfl ?_; intro K hK; go_big_quiet_op; go_big_quiet_on
        have HC : Hid (m ≤ c) := by show m ≤ c; have := HM.out.2; omega
        refine Dk.wpG_one rfl rfl rfl ?_
        intro K hK
        refine quiet_slice_hi 37 66 _ _ rfl Try.underlying37 (fun w => by kernel_rfl) (sz := 11) bA oA l.length c m rfl rfl HC.out (hK _ ?_)
        simp only [Act.put, List.setIfInBounds_toArray, List.set_cons_zero, List.set_cons_succ]
        refine Dk.wpG_make (SlAt Y5.heap.size 11 m (rH (l.take m))) rfl rfl (fun w' hw' _ => ?_) (fun u hu => ?_)
        · obtain ⟨x, rfl⟩ := hw'
          exact app_grow _ _ 37 rfl 66 i3 _ 11 88 Try.underlying37 hi3 jz0 jz1 jz2 rfl (by decide) b0 rfl (some ⟨bA, oA, none⟩) m c rfl (rH (l.take m)) ((HRD.out _ (HUY5.out x)).more (HUY5.out x).size) (by have := HM.out.1; omega) (by decide) (ovr_below Y5 x).size
        obtain ⟨_, _, A2, c2, rfl, _, _, _⟩ := hu
        simp only [Act.put, List.setIfInBounds_toArray, List.set_cons_zero, List.set_cons_succ]
        repeat (refine Dk.wpG_one rfl rfl rfl ?_; intro K hK; go_big_quiet_op; go_big_quiet_on)
        rw [HK2.out]
        refine Dk.wpG_make (fun u _ => u = .tuple #[.agg #[I f1, I f2], .agg #[I g1, I g2], I 0]) rfl rfl (fun w' hw' hk => ?_) (fun u hu => ?_)
        · have hk2 := hk ⟨6, .data⟩ (by simp) rfl _ 259 _ rfl rfl rfl (Nat.lt_of_lt_of_eq (by decide : 259 < 287) rfl) rfl
          obtain ⟨A3, c3, he, _, hr, _⟩ := hk2.now
          obtain ⟨rfl, rfl⟩ : A2 = A3 ∧ c2 = c3 := by
            injection he with e1 e2 e3
            exact ⟨e1, e3⟩
          go_simp
          exact call_grow (CF.out w' A2 c2 hr)
        obtain ⟨_, _, rfl⟩ := hu
        simp only [Act.put, List.setIfInBounds_toArray, List.set_cons_zero, List.set_cons_succ]
        repeat (refine Dk.wpG_one rfl rfl rfl ?_; intro K hK; go_big_quiet_op; go_big_quiet_on)
        refine Dk.wpG_make (NewAt Y5 #[I 0, I 0] 23) rfl rfl (fun w' hw' _ => ?_) (fun u hu => ?_)
        · go_simp
          exact new_grow hw'
        obtain ⟨_, _, pb5, rfl, _, _⟩ := hu
        simp only [Act.put, List.setIfInBounds_toArray, List.set_cons_zero, List.set_cons_succ]
        refine Dk.wpG_new (NewAt Y5 #[I 0, I 0] 23) rfl rfl (by simp) ⟨_, _, rfl, rfl, by simp⟩ (fun w' hw' _ => ?_) (fun u hu hne => ?_)
        · go_simp
          exact new_grow hw'
        obtain ⟨_, _, qb5, rfl, _, _⟩ := hu
        have hpq := Dk.ptr_ne (hne 16 _ 22 (by omega) rfl (by simp) rfl (by simp))
        simp only [Act.put, List.setIfInBounds_toArray, List.set_cons_zero, List.set_cons_succ]
        refine Dk.wpG_nil (fun w5 hw5 hG => ?_)
        have hn1 := (Box.now hG.1.2).at
        have hn2 := (Box.now hG.2).at
        clear hG hne
        refine Dl.wpTailH_cons ?_
        refine wp_store_row 23 _ _ rfl pb5 rfl _ _ hn1.1 #[I f1, I f2] rfl (one2 rfl rfl) rfl (by kernel_rfl) ?_
        have hc1 := below_setRow hw5.le hn1.2 #[I f1, I f2]
        refine ⟨Cl.of hc1, ?_⟩
        refine Dl.wpTailH_cons ?_
        refine wp_store_row 23 _ _ rfl qb5 rfl _ _ ((setRow_other (Ne.symm hpq)).trans hn2.1) #[I g1, I g2] rfl (one2 rfl rfl) rfl (by kernel_rfl) ?_
        have hc2 := below_setRow hc1 hn2.2 #[I g1, I g2]
        refine ⟨Cl.of hc2, ?_⟩
        refine Dl.wpTailH_cons ?_
        refine wp_assign _ (I 0) rfl rfl ?_
        refine ⟨Cl.of hc2, ?_⟩
        refine Dl.wpTailH_nil ?_
        simp only [Act.put]
        obtain ⟨V5, hV5⟩ : ∃ V5, V5 = (w5.setRow pb5 #[I f1, I f2]).setRow qb5 #[I g1, I g2] := ⟨_, rfl⟩
        have rq : V5.heap[qb5]? = some (.cells #[I g1, I g2] 23 (0, 0)) := by rw [hV5]; exact setRow_same ((setRow_other (Ne.symm hpq)).trans hn2.1)
        have rp : V5.heap[pb5]? = some (.cells #[I f1, I f2] 23 (0, 0)) := by rw [hV5, setRow_other hpq]; exact setRow_same hn1.1
        have hbV5 : Below Y5.heap.size Y5 V5 := by rw [hV5]; exact hc2
        rw [← hV5]
        clear hV5 hn1 hn2 hw5 hpq hc1 hc2
        have reV5 : ∀ v, ∃ x, ovr V5 v = ovr Y5 x := fun v => ovr_reB hbV5 v
        replace yW00 := tr_cell reV5 yW00
        replace yW01 := tr_cell reV5 yW01
        replace RrowW0 := Lib.hid (tr_row reV5 RrowW0.out)
        replace yW10 := tr_cell reV5 yW10
        replace yW11 := tr_cell reV5 yW11
        replace yW12 := tr_cell reV5 yW12
        replace RrowW1 := Lib.hid (tr_row reV5 RrowW1.out)
        replace yV00 := tr_cell reV5 yV00
        replace yV01 := tr_cell reV5 yV01
        replace RrowV0 := Lib.hid (tr_row reV5 RrowV0.out)
        replace yV10 := tr_cell reV5 yV10
        replace yV11 := tr_cell reV5 yV11
        replace RrowV1 := Lib.hid (tr_row reV5 RrowV1.out)
        replace yV200 := tr_cell reV5 yV200
        replace yV201 := tr_cell reV5 yV201
        replace RrowV20 := Lib.hid (tr_row reV5 RrowV20.out)
        replace yV210 := tr_cell reV5 yV210
        replace yV211 := tr_cell reV5 yV211
        replace RrowV21 := Lib.hid (tr_row reV5 RrowV21.out)
        replace yT00 := tr_cell reV5 yT00
        replace yT01 := tr_cell reV5 yT01
        replace RrowT0 := Lib.hid (tr_row reV5 RrowT0.out)
        replace yT10 := tr_cell reV5 yT10
        replace yT11 := tr_cell reV5 yT11
        replace RrowT1 := Lib.hid (tr_row reV5 RrowT1.out)
        have yV500 := ovr_cell (W := V5) (b := pb5) (o := 0) (v := I f1) (by rw [cell_of_row _ _ _ _ _ _ rp]; rfl)
        have yV501 := ovr_cell (W := V5) (b := pb5) (o := 1) (v := I f2) (by rw [cell_of_row _ _ _ _ _ _ rp]; rfl)
        have RrowV50 := Lib.hid (ovr_row rp)
        clear rp
        have yV510 := ovr_cell (W := V5) (b := qb5) (o := 0) (v := I g1) (by rw [cell_of_row _ _ _ _ _ _ rq]; rfl)
        have yV511 := ovr_cell (W := V5) (b := qb5) (o := 1) (v := I g2) (by rw [cell_of_row _ _ _ _ _ _ rq]; rfl)
        have RrowV51 := Lib.hid (ovr_row rq)
        clear rq
        have HUV5 : Hid (∀ u, Below w.heap.size w (ovr V5 u)) := fun u => by obtain ⟨x, hx⟩ := reV5 u; rw [hx]; exact HUY5.out x
        clear reV5 hbV5
        obtain ⟨v7, hv7⟩ := ovr_self V5
        rw [hv7]
        clear hv7
        have d1 : decide (a1 ≤ f1) = true := decide_eq_true HBF.out.1
        have d2 : decide (a2 ≤ f2) = true := decide_eq_true HBF.out.2.1
        go_wp2_with fail
        refine (KN.out _).mono ?_
        rintro e w1 ⟨rfl, hb1⟩
        obtain ⟨v8, rfl⟩ := ovr_next hb1
        clear hb1
        go_wp2_with fail
        go_ret
        exact ⟨rfl, HUV5.out _⟩
end Go.Proofs.Yteibgenkklpoaaa.Un
