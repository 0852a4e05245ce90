/- The walk of the law MeltNarrows. -/
import Derived.Test.YtfifdfagikbahaaDoorNn
namespace Go.Proofs.YtfifdfagikbahaaDoor
open Go.RowKit
attribute [local go_sem] Oper.semAt_some
/-- Steps of one's own, in a region that draws. -/
def OrF (B n : Nat) (g : Nat → Nat → Value) (u : Value) (w : World) : Prop := ∃ A c, u = .slice A n c ∧ n ≤ c ∧ c ≤ maxLen ∧ StIn B w u n g
theorem OrF.le {B n : Nat} {g : Nat → Nat → Value} {u : Value} {w w' : World} (h : OrF B n g u w) (hl : Le w w') : OrF B n g u w' := by
  obtain ⟨A, c, h1, h2, h3, h4⟩ := h
  exact ⟨A, c, h1, h2, h3, h4.row fun b o _ ho _ => (Below.block hl b (Array.getElem?_eq_some_iff.1 ho).1).trans ho⟩
theorem StIn.base {B B' : Nat} {w : World} {sl : Value} {n : Nat} {f : Nat → Nat → Value} (h : StIn B w sl n f) (hb : B' ≤ B) : StIn B' w sl n f := by
  rcases h with h | ⟨b, c, cs, e, h1, h2, h3⟩
  · exact .inl h
  · exact .inr ⟨b, c, cs, e, by omega, h2, h3⟩
theorem orF_grow (A : Option Addr) (n c : Nat) (g : Nat → Nat → Value) (w : World) (B B' : Nat) (hn : n ≤ 1000) (hB : B ≤ w.heap.size) (hB' : B' ≤ w.heap.size) (hx : Rd w B 8 A n g) : Calls Tryd.prog 13 #[.slice A n c] w fun e w' => ∃ u, e = .returned u ∧ Le w w' ∧ Box (OrF B' n g) u w' :=
  (ownSteps_row A n c g w B hn hB hx).mono fun _ _ ⟨A, c, he, h1, h2, h3, h4⟩ => ⟨_, he, h4, fun _ hl => OrF.le ⟨A, c, rfl, h1, h2, h3.base hB'⟩ hl⟩
/-- A run that is cut in two, and what is told of its parts. -/
structure Cutd (m : Mlt) (l : List Stp) (c : Nat) (l1 l2 : List Stp) (m2 : Mlt) : Prop where
  n1 : l1.length = c
  n2 : l2.length = l.length - c
  a1 : ∀ k j, k < c → rT l1 k j = rT l k j
  a2 : ∀ k j, k < l.length - c → rT l2 k j = rT l (c + k) j
  k1 : ∀ k, k < c → 0 ≤ (at0 l1 k).kd ∧ (at0 l1 k).kd ≤ 255
  k2 : ∀ k, k < l.length - c → 0 ≤ (at0 l2 k).kd ∧ (at0 l2 k).kd ≤ 255
  e1 : ckF m l1 = 0
  e2 : ckF m2 l2 ≠ 0 → ckF m2 l2 = 2
  me : m2.ms = prR m l1 1 ∧ ∀ j, m2.ct j = prR m l1 (2 + j)
  fz : fzK l1 l1.length + fzK l2 l2.length = fzK l l.length
  en : ∀ j, 1 ≤ j → j ≤ 7 → prR m2 l2 j = prR m l j
  s1 : ∀ i, i < fzK l1 l1.length → ∀ j, j < 7 → prS m l1 i j = prS m l i j
  s2 : ∀ i, i < fzK l2 l2.length → ∀ j, j < 7 → prS m2 l2 i j = prS m l (fzK l1 l1.length + i) j
theorem cutd {m : Mlt} {l : List Stp} {c : Nat} (h : ckF m l = 0) (hc : c ≤ l.length) : ∃ l1 l2 m2, Cutd m l c l1 l2 m2 := by
  have hv := vld_of h
  have hA := cut_all m hc
  have e1 : ∀ k, k < c → at0 (l.take c) k = at0 l k := fun k hk => at0_take hk hc
  refine ⟨l.take c, l.drop c, mEnd m (l.take c), by rw [List.length_take]; omega, by rw [List.length_drop], fun k j hk => ?_, fun k j hk => ?_, fun k hk => ?_, fun k hk => ?_, cut_ok h hc, cut_or h hc, ⟨rfl, fun _ => rfl⟩, hA.fz, hA.en, hA.s1, hA.s2⟩
  · unfold rT; rw [e1 k hk]
  · unfold rT; rw [at0_drop]
  · rw [e1 k hk]
    have := isS_kd (hv.isS (show k < l.length by omega))
    omega
  · rw [at0_drop]
    have := isS_kd (hv.isS (show c + k < l.length by omega))
    omega
theorem rd_front {w : World} {B q n : Nat} {A : Option Addr} {f g : Nat → Nat → Value} (h : Rd w B 8 A n f) (hq : q ≤ n) (he : ∀ k j, k < q → g k j = f k j) : Rd w B 8 A q g := fun h0 => by
  obtain ⟨b, o, e, hb, hc⟩ := h (by omega)
  exact ⟨b, o, e, hb, fun k hk j hj => by rw [he k j hk]; exact hc k (by omega) j hj⟩
theorem rd_behind {w : World} {B q n c : Nat} {A : Option Addr} {f g : Nat → Nat → Value} (h : Rd w B 8 A n f) (hn : n ≤ c) (hq : q ≤ n) (he : ∀ k j, k < n - q → g k j = f (q + k) j) : Rd w B 8 (if c = q then A else A.map fun x => x.add (q * 8)) (n - q) g := fun h0 => by
  obtain ⟨b, o, e, hb, hc⟩ := h (by omega)
  have e2 : (⟨b, o, none⟩ : Addr).add (q * 8) = ⟨b, o + q * 8, none⟩ := by
    unfold Addr.add
    split
    · rename_i h0
      rw [h0, Nat.add_zero]
    · rfl
  rw [if_neg (by omega), e]
  refine ⟨b, o + q * 8, by simp only [Option.map_some, e2], hb, fun k hk j hj => ?_⟩
  rw [he k j hk, show o + q * 8 + k * 8 + j = o + (q + k) * 8 + j by omega]
  exact hc (q + k) (by omega) j hj
/-- From which end, and where a run is cut. -/
abbrev nwArr (by' ct : Int) : Array Value := #[.int .u8 by', .int .u8 ct]
theorem par2 (k : Nat) : ((k : Int) % 2 == 0) = (k % 2 == 0) := by
  rw [Bool.eq_iff_iff, beq_iff_eq, beq_iff_eq]
  omega
theorem bd_row1 {W : World} {q : Nat} {t : TypeId} {m : Mlt} (h : W.heap[q]? = some (.cells (mltArr m) t (0, 0))) {s : Nat} (hs : s < 3) : W.cell? ⟨q, 1 + s * 2, none⟩ = some (I (m.ct (s * 2))) ∧ W.cell? ⟨q, 1 + s * 2 + 1, none⟩ = some (I (m.ct (s * 2 + 1))) := by
  rw [cell_of_row _ _ _ _ _ _ h, cell_of_row _ _ _ _ _ _ h]
  match s, hs with
  | 0, _ => exact ⟨rfl, rfl⟩
  | 1, _ => exact ⟨rfl, rfl⟩
  | 2, _ => exact ⟨rfl, rfl⟩
set_option maxRecDepth 100000 in
set_option maxHeartbeats 8000000 in
theorem meltNarrows_any (m : Mlt) (A : Option Addr) (c : Nat) (l : List Stp) (by' ct : Int) (w : World) (hG : Glob w) (hx : Rd w w.heap.size 8 A l.length (rT l)) (hk : ∀ j, j < l.length → 0 ≤ (at0 l j).kd ∧ (at0 l j).kd ≤ 255) (hn : l.length ≤ maxLen) (hcap : l.length ≤ c) (hb : 0 ≤ by' ∧ by' ≤ 255) (hc : 0 ≤ ct ∧ ct ≤ 255) :
    Calls Tryd.prog 5 #[.agg (mltArr m), .slice A l.length c, .agg (nwArr by' ct)] w fun e w' => e = .returned (.bool true) ∧ Below w.heap.size w w' := by
  obtain ⟨W, hW⟩ : ∃ W, W = (w.alloc (.cells (mltArr m) 27)).alloc (.cells (nwArr by' ct) 53) := ⟨_, rfl⟩
  have hb0 : Below w.heap.size w W := by rw [hW]; exact ((Below.refl _ _).alloc (Nat.le_refl _) _).alloc (by simp) _
  have r0 : W.heap[w.heap.size]? = some (.cells (mltArr m) 27 (0, 0)) := by rw [hW]; exact heap_before (heap_last _ _ _ rfl)
  have r1 : W.heap[w.heap.size + 1]? = some (.cells (nwArr by' ct) 53 (0, 0)) := by rw [hW]; exact heap_last _ _ _ (by simp)
  have sW : w.heap.size + 2 = W.heap.size := by rw [hW]; simp
  have HW := Lib.hid hW
  have HY : Hid (∀ W', Below W.heap.size W W' → W'.heap[w.heap.size]? = some (.cells (mltArr m) 27 (0, 0)) ∧ W'.heap[w.heap.size + 1]? = some (.cells (nwArr by' ct) 53 (0, 0)) ∧ Rd W' w.heap.size 8 A l.length (rT l) ∧ Glob W' ∧ Below w.heap.size w W') := fun W' h => by
    have h' := hb0.trans (h.mono hb0.size)
    exact ⟨(h.block _ (by omega)).trans r0, (h.block _ (by omega)).trans r1, hx.below h', hG.below h', h'⟩
  have Hk := Lib.hid hk
  have Hn := Lib.hid hn
  have Hb := Lib.hid hb
  have Hc := Lib.hid hc
  have H0 : Hid (Below W.heap.size W W) := Below.refl _ _
  clear hW hb0 r0 r1 hG hx hk hn hb hc
  go_enter Tryd.func5, Tryd.ntmps5
  go_upto_region 1 with (fail)
  rw [← HW.out]
  by_cases h60 : 60 < l.length
  · as_aux_lemma =>
      have d1 : decide (60 < (l.length : Int)) = true := decide_eq_true (by omega)
      clear h60
      go_wp2_with fail
      refine (known_any W (HY.out W H0.out).2.2.2.1).mono ?_
      rintro e wk ⟨rfl, hbk⟩
      have HK : Hid (Below W.heap.size W wk) := Below.trans H0.out (hbk.mono (Below.size H0.out))
      clear hbk
      go_wp2_with fail
      go_ret
      exact ⟨rfl, (HY.out wk HK.out).2.2.2.2⟩
  have d1 : decide (60 < (l.length : Int)) = false := decide_eq_false (by omega)
  have hl60 : l.length ≤ 60 := by omega
  clear h60
  by_cases h0 : ckF m l = 0
  case neg =>
    as_aux_lemma =>
      obtain ⟨er, her⟩ : ∃ q, ckF m l = q := ⟨_, rfl⟩
      rw [her] at h0
      go_upto_region 3 with (fail)
      have y := fun k v h => ovr_cell (row_cell (HY.out W H0.out).1 k v h)
      have y0 := y 0 _ rfl
      have y1 := y 1 _ rfl
      have y2 := y 2 _ rfl
      have y3 := y 3 _ rfl
      have y4 := y 4 _ rfl
      have y5 := y 5 _ rfl
      have y6 := y 6 _ rfl
      clear y
      refine wp_region_make_two (fun j => if j = 2 then some (OlF 8 l.length (rT l)) else if j = 3 then some (PrdF m l) else if j = 7 then some (NewAt W (runArr (.slice none 0 0) fun _ => 0) 35) else none) [6] (by kernel_rfl) (by kernel_rfl) (by kernel_rfl) (by kernel_rfl) (by kernel_rfl) (by intro i hi; simp at hi; subst hi; rfl) ⟨rfl, rfl⟩ (fun c a d v w h => by cases d <;> exact h) ?_
      simp only [sleepTwo_cons, sleepTwo_two]
      repeat (refine wpG_one rfl rfl rfl ?_; intro K hK; go_big_quiet_op; go_big_quiet_on)
      refine wpG_make (OlF 8 l.length (rT l)) rfl rfl (fun w' hw' _ => ?_) (fun u hu => ?_)
      · go_simp
        exact olF_grow (ownSteps_any A l.length c (rT l) w' w.heap.size (by omega) (by have := hw'.le.size; omega) (HY.out w' hw'.le).2.2.1)
      obtain ⟨_, _, A1, c1, rfl, _, _, _⟩ := hu
      simp only [Act.put, List.setIfInBounds_toArray, List.set_cons_zero, List.set_cons_succ]
      refine wpG_make (PrdF m l) rfl rfl (fun w' hw' hk => ?_) (fun u hu => ?_)
      · obtain ⟨b1, e1, he1, _, _, hr1⟩ := (hk ⟨2, .data⟩ (by simp) rfl _ _ _ rfl rfl rfl (by simp) rfl).now
        obtain ⟨rfl, rfl⟩ : A1 = b1 ∧ c1 = e1 := by simp at he1; exact he1
        go_simp
        exact predict_grow m A1 c1 l w' (HY.out w' hw'.le).2.2.2.1 hr1 Hk.out Hn.out
      obtain ⟨_, _, hu⟩ := hu
      (rcases hu with ⟨_, rfl⟩ | ⟨h1, _⟩; rotate_left; · exact absurd (her.symm.trans h1) h0)
      simp only [Act.put, List.setIfInBounds_toArray, List.set_cons_zero, List.set_cons_succ]
      repeat (refine wpG_one rfl rfl rfl ?_; intro K hK; go_big_quiet_op; go_big_quiet_on)
      refine wpG_make (NewAt W (runArr (.slice none 0 0) fun _ => 0) 35) rfl rfl (fun w' hw' _ => ?_) (fun u hu => ?_)
      · go_simp
        exact new_grow hw'
      obtain ⟨_, _, rb, rfl, _, hrb⟩ := hu
      simp only [Act.put, List.setIfInBounds_toArray, List.set_cons_zero, List.set_cons_succ]
      repeat (refine wpG_one rfl rfl rfl ?_; intro K hK; go_big_quiet_op; go_big_quiet_on)
      refine wpG_nil (fun w5 hw5 hG5 => ?_)
      have hx5 := (Box.now hG5.2).at.1
      skip
      clear hG5
      intro s t hs ht
      obtain rfl := Option.some.inj hs
      obtain rfl := Option.some.inj ht
      clear hs ht
      refine wp_store_row 35 _ _ rfl rb rfl _ _ hx5 (runArr (.slice none 0 0) fun _ => 0) rfl (run_one rfl) rfl (by kernel_rfl) ?_
      refine ⟨hw5.set hrb _, ?_⟩
      refine wp_assign _ (I er) rfl rfl ?_
      refine ⟨hw5.set hrb _, ?_⟩
      simp only [Act.put, List.setIfInBounds_toArray, List.set_cons_zero, List.set_cons_succ]
      obtain ⟨Z, hZ⟩ : ∃ Z, Z = w5.setRow rb (runArr (.slice none 0 0) fun _ => 0) := ⟨_, rfl⟩
      have rZ : Z.heap[rb]? = some (.cells (runArr (.slice none 0 0) fun _ => 0) 35 (0, 0)) := by rw [hZ]; exact setRow_same hx5
      have HrZ := Lib.hid rZ
      have bZ : Below W.heap.size W Z := by rw [hZ]; exact below_setRow hw5.le hrb _
      have HZ := Lib.hid bZ
      clear y0 y1 y2 y3 y4 y5 y6
      rw [← hZ]
      have e1 : (er != 0) = true := by simp; omega
      clear hZ rZ bZ hx5 hw5 her h0
      go_upto_region 5 with (fail)
      go_wp2_with (refine wpList_load_row rfl 35 _ rfl rb rfl _ _ _ _ HrZ.out Tryd.underlying35 rfl (by kernel_rfl) ?_)
      refine (sameRun_any none none 0 0 0 (fun _ => 0) (fun _ _ => 0) Z (by omega) Rd.nil Rd.nil).mono ?_
      rintro e w6 ⟨rfl, hb6⟩
      have H6 : Hid (Below W.heap.size W w6) := HZ.out.trans (hb6.mono HZ.out.size)
      clear hb6
      go_wp2_with fail
      refine (known_any w6 (HY.out w6 H6.out).2.2.2.1).mono ?_
      rintro e wk ⟨rfl, hbk⟩
      have HK : Hid (Below W.heap.size W wk) := Below.trans H6.out (hbk.mono (Below.size H6.out))
      clear hbk
      go_wp2_with fail
      go_ret
      exact ⟨rfl, (HY.out wk HK.out).2.2.2.2⟩
  go_upto_region 3 with (fail)
  have y := fun k v h => ovr_cell (row_cell (HY.out W H0.out).1 k v h)
  have y0 := y 0 _ rfl
  have y1 := y 1 _ rfl
  have y2 := y 2 _ rfl
  have y3 := y 3 _ rfl
  have y4 := y 4 _ rfl
  have y5 := y 5 _ rfl
  have y6 := y 6 _ rfl
  clear y
  refine wp_region_make_two (fun j => if j = 2 then some (OlF 8 l.length (rT l)) else if j = 3 then some (PrdF m l) else if j = 7 then some (NewAt W (runArr (.slice none 0 0) fun _ => 0) 35) else none) [6] (by kernel_rfl) (by kernel_rfl) (by kernel_rfl) (by kernel_rfl) (by kernel_rfl) (by intro i hi; simp at hi; subst hi; rfl) ⟨rfl, rfl⟩ (fun c a d v w h => by cases d <;> exact h) ?_
  simp only [sleepTwo_cons, sleepTwo_two]
  repeat (refine wpG_one rfl rfl rfl ?_; intro K hK; go_big_quiet_op; go_big_quiet_on)
  refine wpG_make (OlF 8 l.length (rT l)) rfl rfl (fun w' hw' _ => ?_) (fun u hu => ?_)
  · go_simp
    exact olF_grow (ownSteps_any A l.length c (rT l) w' w.heap.size (by omega) (by have := hw'.le.size; omega) (HY.out w' hw'.le).2.2.1)
  obtain ⟨_, _, A1, c1, rfl, _, _, _⟩ := hu
  simp only [Act.put, List.setIfInBounds_toArray, List.set_cons_zero, List.set_cons_succ]
  refine wpG_make (PrdF m l) rfl rfl (fun w' hw' hk => ?_) (fun u hu => ?_)
  · obtain ⟨b1, e1, he1, _, _, hr1⟩ := (hk ⟨2, .data⟩ (by simp) rfl _ _ _ rfl rfl rfl (by simp) rfl).now
    obtain ⟨rfl, rfl⟩ : A1 = b1 ∧ c1 = e1 := by simp at he1; exact he1
    go_simp
    exact predict_grow m A1 c1 l w' (HY.out w' hw'.le).2.2.2.1 hr1 Hk.out Hn.out
  obtain ⟨_, _, hu⟩ := hu
  (rcases hu with ⟨h1, _⟩ | ⟨_, S, d, rfl, hd3, hd4, _⟩; · exact absurd h0 h1)
  simp only [Act.put, List.setIfInBounds_toArray, List.set_cons_zero, List.set_cons_succ]
  repeat (refine wpG_one rfl rfl rfl ?_; intro K hK; go_big_quiet_op; go_big_quiet_on)
  refine wpG_make (NewAt W (runArr (.slice none 0 0) fun _ => 0) 35) rfl rfl (fun w' hw' _ => ?_) (fun u hu => ?_)
  · go_simp
    exact new_grow hw'
  obtain ⟨_, _, rb, rfl, _, hrb⟩ := hu
  simp only [Act.put, List.setIfInBounds_toArray, List.set_cons_zero, List.set_cons_succ]
  repeat (refine wpG_one rfl rfl rfl ?_; intro K hK; go_big_quiet_op; go_big_quiet_on)
  refine wpG_nil (fun w5 hw5 hG5 => ?_)
  have hx5 := (Box.now hG5.2).at.1
  (have hP := (Box.now hG5.1.2).sl h0)
  clear hG5
  intro s t hs ht
  obtain rfl := Option.some.inj hs
  obtain rfl := Option.some.inj ht
  clear hs ht
  refine wp_store_row 35 _ _ rfl rb rfl _ _ hx5 (runArr (.slice S (fzK l l.length) d) (prR m l)) rfl (run_one rfl) rfl (by kernel_rfl) ?_
  refine ⟨hw5.set hrb _, ?_⟩
  refine wp_assign _ (I 0) rfl rfl ?_
  refine ⟨hw5.set hrb _, ?_⟩
  simp only [Act.put, List.setIfInBounds_toArray, List.set_cons_zero, List.set_cons_succ]
  obtain ⟨Z, hZ⟩ : ∃ Z, Z = w5.setRow rb (runArr (.slice S (fzK l l.length) d) (prR m l)) := ⟨_, rfl⟩
  have rZ : Z.heap[rb]? = some (.cells (runArr (.slice S (fzK l l.length) d) (prR m l)) 35 (0, 0)) := by rw [hZ]; exact setRow_same hx5
  have HrZ := Lib.hid rZ
  have bZ : Below W.heap.size W Z := by rw [hZ]; exact below_setRow hw5.le hrb _
  have HZ := Lib.hid bZ
  clear y0 y1 y2 y3 y4 y5 y6
  have sZ : SlIn 0 Z (.slice S (fzK l l.length) d) (fzK l l.length) (prS m l) := by
    rw [hZ]
    rcases hP.2 with h | ⟨b, c, cs, h0, _, h2, h3⟩
    · exact .inl h
    · refine .inr ⟨b, c, cs, h0, Nat.zero_le _, ?_, h3⟩
      rw [setRow_other]
      · exact h2
      · rintro rfl
        rw [hx5] at h2
        injection h2 with h2
        injection h2 with _ ht _
        exact absurd ht (by decide)
  have HsZ := Lib.hid sZ.rd
  have hsZ := bZ.size
  rw [← hZ]
  have Hck : Hid (ckF m l = 0) := h0
  have Hv : Hid (Vld m l) := vld_of h0
  clear hZ rZ bZ sZ hP hx5 hw5 h0
  obtain ⟨fz, hfz⟩ : ∃ q, fzK l l.length = q := ⟨_, rfl⟩
  have Hfz := Lib.hid hfz
  have hfl : fz ≤ 60 := by have := fzK_le l l.length; omega
  rw [hfz] at HrZ HsZ ⊢
  clear hfz
  go_upto_region 6 with (fail)
  have y := fun k v h => ovr_cell (row_cell (HY.out Z HZ.out).1 k v h)
  have y0 := y 0 _ rfl
  have y1 := y 1 _ rfl
  have y2 := y 2 _ rfl
  have y3 := y 3 _ rfl
  have y4 := y 4 _ rfl
  have y5 := y 5 _ rfl
  have y6 := y 6 _ rfl
  clear y
  refine wp_region_make_two (fun j => if j = 2 then some (OrF Z.heap.size l.length (rT l)) else if j = 3 then some (NewAt Z #[I 0, I 0, I 0, I 0, I 0, I 0, I 0] 27) else none) [1] (by kernel_rfl) (by kernel_rfl) (by kernel_rfl) (by kernel_rfl) (by kernel_rfl) (by intro i hi; simp at hi; subst hi; rfl) ⟨rfl, rfl⟩ (fun c a d v w h => by cases d <;> exact h) ?_
  simp only [sleepTwo_cons, sleepTwo_two]
  repeat (refine wpG_one rfl rfl rfl ?_; intro K hK; go_big_quiet_op; go_big_quiet_on)
  refine wpG_make (OrF Z.heap.size l.length (rT l)) rfl rfl (fun w' hw' _ => ?_) (fun u hu => ?_)
  · go_simp
    exact orF_grow A l.length c (rT l) w' w.heap.size Z.heap.size (by omega) (by have := hw'.le.size; omega) hw'.le.size (HY.out w' (HZ.out.trans (hw'.le.mono hsZ))).2.2.1
  obtain ⟨_, _, A2, c2, rfl, hc2, hc3, _⟩ := hu
  simp only [Act.put, List.setIfInBounds_toArray, List.set_cons_zero, List.set_cons_succ]
  refine wpG_make (NewAt Z #[I 0, I 0, I 0, I 0, I 0, I 0, I 0] 27) rfl rfl (fun w' hw' _ => ?_) (fun u hu => ?_)
  · go_simp
    exact new_grow hw'
  obtain ⟨_, _, lb, rfl, _, hlb⟩ := hu
  simp only [Act.put, List.setIfInBounds_toArray, List.set_cons_zero, List.set_cons_succ]
  repeat (refine wpG_one rfl rfl rfl ?_; intro K hK; go_big_quiet_op; go_big_quiet_on)
  refine wpG_nil (fun w5 hw5 hG5 => ?_)
  have hx5 := (Box.now hG5.2).at.1
  have hP : StIn Z.heap.size w5 (.slice A2 l.length c2) l.length (rT l) := by
    obtain ⟨_, _, _, _, _, h⟩ := Box.now hG5.1.2
    exact h
  clear hG5
  intro s t hs ht
  obtain rfl := Option.some.inj hs
  obtain rfl := Option.some.inj ht
  clear hs ht
  refine wp_store_row 27 _ _ rfl lb rfl _ _ hx5 (mltArr m) rfl (by intro v hv; simp at hv; rcases hv with rfl | rfl | rfl | rfl | rfl | rfl | rfl <;> rfl) rfl (by kernel_rfl) ?_
  refine ⟨hw5.set hlb _, ?_⟩
  refine wp_assign _ (.slice A2 l.length c2) rfl rfl ?_
  refine ⟨hw5.set hlb _, ?_⟩
  simp only [Act.put, List.setIfInBounds_toArray, List.set_cons_zero, List.set_cons_succ]
  obtain ⟨Y, hY⟩ : ∃ Y, Y = w5.setRow lb (mltArr m) := ⟨_, rfl⟩
  have rY : Y.heap[lb]? = some (.cells (mltArr m) 27 (0, 0)) := by rw [hY]; exact setRow_same hx5
  have bY : Below Z.heap.size Z Y := by rw [hY]; exact below_setRow hw5.le hlb _
  have sY : StIn Z.heap.size Y (.slice A2 l.length c2) l.length (rT l) := by
    refine hP.row fun b o _ ho ht => ?_
    rw [hY, setRow_other]
    · exact ho
    · rintro rfl
      rw [hx5] at ho
      obtain ⟨cs, fr, rfl⟩ := ht
      injection ho with ho
      injection ho with _ ht _
      exact absurd ht (by decide)
  rw [← hY]
  have HrY := Lib.hid rY
  have HsY := Lib.hid sY
  have HbY := Lib.hid bY
  have hsY := bY.size
  clear hY rY bY sY hP hx5 hw5 y0 y1 y2 y3 y4 y5 y6
  obtain ⟨low, hlow⟩ : ∃ q : Bool, (bits BinOp.and IntKind.u8 by' 1 == 1) = q := ⟨_, rfl⟩
  have Hlow := Lib.hid hlow
  clear hlow
  obtain ⟨bit, hbit⟩ : ∃ q : Nat → Bool, ∀ k : Nat, (bits BinOp.and IntKind.u8 (by' / 2 ^ (1 + k % 7)) 1 == 1) = q k := ⟨_, fun _ => rfl⟩
  have Hbit := Lib.hid hbit
  clear hbit
  go_wp2_with fail
  go_loopw [11] (fun i wr => ∃ s : Nat, s ≤ 3 ∧ i = .int .i64 s ∧ wr.heap[lb]? = some (.cells (mltArr (nrM m low s)) 27 (0, 0)) ∧ StIn Z.heap.size wr (.slice A2 l.length c2) l.length (rT (nrA bit l s 0)) ∧ Below Z.heap.size Z wr) (fun i _ => 3 - (intOf i).toNat)
  case atStart =>
    refine ⟨0, by omega, rfl, ?_, ?_, HbY.out⟩
    · rw [show nrM m low 0 = m by unfold nrM; rw [nrK_zero]]; exact HrY.out
    · rcases HsY.out with h | ⟨b, c, cs, e1, e2, e3, e4⟩
      · exact .inl h
      · exact .inr ⟨b, c, cs, e1, e2, e3, fun k j hk hj => by rw [nrA_zero hk]; exact e4 k j hk hj⟩
  case round =>
    rename World => X
    obtain ⟨s, hs, rfl, hrX, hstX, hbX⟩ := hrel
    have HrX := Lib.hid hrX
    have HstX := Lib.hid hstX
    have HbX := Lib.hid hbX
    have HX : Hid (Below W.heap.size W X) := HZ.out.trans (hbX.mono hsZ)
    have hsX := hbX.size
    clear hrX hstX hbX
    by_cases hs3 : s < 3
    · have hsi : decide ((s : Int) < 3) = true := decide_eq_true (by omega)
      have hsn : decide (s < 3) = true := decide_eq_true hs3
      have hs0 : decide (0 ≤ (s : Int)) = true := decide_eq_true (by omega)
      have hct := Hv.out.ct hs3
      have z0 := ovr_cell (row_cell (HY.out X HX.out).2.1 0 _ rfl)
      have z12 := bd_row1 HrX.out hs3
      have z1 := ovr_cell z12.1
      have z2 := ovr_cell z12.2
      rw [nrM_at.1] at z1
      rw [nrM_at.2] at z2
      clear z12
      obtain ⟨x1, hx1⟩ : ∃ q, m.ct (s * 2) = q := ⟨_, rfl⟩
      obtain ⟨x2, hx2⟩ : ∃ q, m.ct (s * 2 + 1) = q := ⟨_, rfl⟩
      rw [hx1] at z1 hct
      rw [hx2] at z2 hct
      go_upto_region 10 with (fail)
      refine wp_region_seq2 12 (fun j => if j = 9 then some (fun u _ => u = .agg #[I (nrL x1 x2 low), I (nrH x1 x2 low)]) else none) (by kernel_rfl) (by kernel_rfl) (by kernel_rfl) (by kernel_rfl) (by kernel_rfl) ?_
      simp only [List.take_succ_cons, List.take_zero, List.drop_succ_cons, List.drop_zero]
      repeat (refine wpG_one rfl rfl rfl ?_; intro K hK; go_big_quiet_op; go_big_quiet_on)
      refine wpG_make (fun u _ => u = .agg #[I (nrL x1 x2 low), I (nrH x1 x2 low)]) rfl rfl (fun w' hw' _ => ?_) (fun u hu => ?_)
      · go_simp
        rw [Hlow.out]
        exact call_grow (narrowed_any x1 x2 low w' (by omega))
      obtain ⟨_, _, rfl⟩ := hu
      simp only [Act.put, List.setIfInBounds_toArray, List.set_cons_zero, List.set_cons_succ]
      repeat (refine wpG_one rfl rfl rfl ?_; intro K hK; go_big_quiet_op; go_big_quiet_on)
      refine wpG_nil (fun w5 hw5 hG => ?_)
      clear hG z0 z1 z2
      have b5 := hw5.le
      have r5 := (b5.block lb (Array.getElem?_eq_some_iff.1 HrX.out).1).trans HrX.out
      refine wpTailIn_cons Wd.wide (by intro c h; cases h) ?_
      refine wp_store2 _ _ rfl lb (1 + s * 2) (by simp [Act.eval]) _ _ rfl _ _ r5 (by simp; omega) ?_
      refine wpTailIn_nil ?_
      simp only [Act.put]
      obtain ⟨X2, hX2⟩ : ∃ Z, Z = (w5.setCell ⟨lb, 1 + s * 2, none⟩ (I (nrL x1 x2 low))).setCell ⟨lb, 1 + s * 2 + 1, none⟩ (I (nrH x1 x2 low)) := ⟨_, rfl⟩
      have oX : ∀ k, k ≠ lb → X2.heap[k]? = w5.heap[k]? := fun k hk => by rw [hX2]; exact (heap_setCell_other _ _ _ _ hk).trans (heap_setCell_other _ _ _ _ hk)
      have rX2 : X2.heap[lb]? = some (.cells (mltArr (nrM m low (s + 1))) 27 (0, 0)) := by
        have r6 := rs (rs r5 (1 + s * 2) (I (nrL x1 x2 low))) (1 + s * 2 + 1) (I (nrH x1 x2 low))
        rw [← hx1, ← hx2, nrM_set hs3] at r6
        rw [hX2, ← hx1, ← hx2]
        exact r6
      have HrX2 := Lib.hid rX2
      have HbX2 : Hid (Below Z.heap.size Z X2) := by
        show Below _ _ _
        rw [hX2]
        exact ((HbX.out.trans (b5.mono hsX)).setCell (p := ⟨lb, _, none⟩) hlb _).setCell (p := ⟨lb, _, none⟩) hlb _
      have HstX2 : Hid (StIn Z.heap.size X2 (.slice A2 l.length c2) l.length (rT (nrA bit l s 0))) := HstX.out.row fun b o _ ho ht => by
        rw [oX b (by
          rintro rfl
          rw [HrX.out] at ho
          obtain ⟨cs, fr, rfl⟩ := ht
          injection ho with ho
          injection ho with _ ht _
          exact absurd ht (by decide))]
        exact (b5.block b (Array.getElem?_eq_some_iff.1 ho).1).trans ho
      rw [← hX2]
      clear hX2 oX rX2 r5 b5 hw5 hx1 hx2 hct
      go_wp2_with fail
      go_loopw [12] (fun i wr => ∃ k : Nat, k ≤ l.length ∧ i = .int .i64 k ∧ wr.heap[lb]? = some (.cells (mltArr (nrM m low (s + 1))) 27 (0, 0)) ∧ StIn Z.heap.size wr (.slice A2 l.length c2) l.length (rT (nrA bit l s k)) ∧ Below Z.heap.size Z wr) (fun i _ => l.length - (intOf i).toNat)
      case atStart => exact ⟨0, by omega, rfl, HrX2.out, HstX2.out, HbX2.out⟩
      case round =>
        rename World => X3
        obtain ⟨k, hk, rfl, hrX, hstX, hbX⟩ := hrel
        have HrX3 := Lib.hid hrX
        have HstX3 := Lib.hid hstX
        have HbX3 := Lib.hid hbX
        have HX3 : Hid (Below W.heap.size W X3) := HZ.out.trans (hbX.mono hsZ)
        have hsX3 := hbX.size
        clear hrX hstX hbX
        by_cases hlt : k < l.length
        · have hki : decide ((k : Int) < (l.length : Int)) = true := decide_eq_true (by omega)
          have hkn : decide (k < l.length) = true := decide_eq_true hlt
          have hk0 : decide (0 ≤ (k : Int)) = true := decide_eq_true (by omega)
          have z0 := row_cell (HY.out X3 HX3.out).2.1 0 _ rfl
          go_upto_region 14 with (fail)
          go_wp2_with fail
          · rename_i hb1
            have hbk : bit k = true := (Hbit.out k).symm.trans hb1
            have hst := HstX3.out
            rcases hst with h | ⟨sb, c3, cs, e1, e2, e3, e4⟩
            · exact absurd hlt (by omega)
            cases e1
            have hb := isS_by (Hv.out.isS hlt) hs3
            have z1 : X3.cell? ⟨sb, k * 8 + 2 + s * 2, none⟩ = some (I ((at0 l k).b (s * 2))) := by
              rw [cell_of_row _ _ _ _ _ _ e3, show k * 8 + 2 + s * 2 = k * 8 + (s * 2 + 2) by omega, e4 k (s * 2 + 2) hlt (by omega)]
              show some (I ((at0 (nrA bit l s k) k).b (s * 2))) = _
              rw [nrA_b hlt |>.1]
            have z2 : X3.cell? ⟨sb, k * 8 + 2 + s * 2 + 1, none⟩ = some (I ((at0 l k).b (s * 2 + 1))) := by
              rw [cell_of_row _ _ _ _ _ _ e3, show k * 8 + 2 + s * 2 + 1 = k * 8 + (s * 2 + 1 + 2) by omega, e4 k (s * 2 + 1 + 2) hlt (by omega)]
              show some (I ((at0 (nrA bit l s k) k).b (s * 2 + 1))) = _
              rw [nrA_b hlt |>.2]
            have z1 := ovr_cell z1
            have z2 := ovr_cell z2
            obtain ⟨v1, hv1⟩ : ∃ q, (at0 l k).b (s * 2) = q := ⟨_, rfl⟩
            obtain ⟨v2, hv2⟩ : ∃ q, (at0 l k).b (s * 2 + 1) = q := ⟨_, rfl⟩
            rw [hv1] at z1 hb
            rw [hv2] at z2 hb
            clear z0 hb1
            refine wp_region_seq2 17 (fun j => if j = 13 then some (fun u _ => u = .agg #[I (nrL v1 v2 (k % 2 == 0)), I (nrH v1 v2 (k % 2 == 0))]) else none) (by kernel_rfl) (by kernel_rfl) (by kernel_rfl) (by kernel_rfl) (by kernel_rfl) ?_
            simp only [List.take_succ_cons, List.take_zero, List.drop_succ_cons, List.drop_zero]
            repeat (refine wpG_one rfl rfl rfl ?_; intro K hK; go_big_quiet_op; go_big_quiet_on)
            refine wpG_make (fun u _ => u = .agg #[I (nrL v1 v2 (k % 2 == 0)), I (nrH v1 v2 (k % 2 == 0))]) rfl rfl (fun w' hw' _ => ?_) (fun u hu => ?_)
            · go_simp
              rw [par2]
              exact call_grow (narrowed_any v1 v2 (k % 2 == 0) w' (by omega))
            obtain ⟨_, _, rfl⟩ := hu
            simp only [Act.put, List.setIfInBounds_toArray, List.set_cons_zero, List.set_cons_succ]
            repeat (refine wpG_one rfl rfl rfl ?_; intro K hK; go_big_quiet_op; go_big_quiet_on)
            refine wpG_nil (fun w5 hw5 hG => ?_)
            clear hG z1 z2
            have b5 := hw5.le
            have r5 := (b5.block sb (Array.getElem?_eq_some_iff.1 e3).1).trans e3
            have hcs : k * 8 + 2 + s * 2 + 1 < cs.size := by
              have := (Array.getElem?_eq_some_iff.1 (e4 k (s * 2 + 1 + 2) hlt (by omega))).1
              omega
            refine wpTailIn_cons Wd.wide (by intro c h; cases h) ?_
            refine wp_store2 _ _ rfl sb (k * 8 + 2 + s * 2) (by simp [Act.eval]) _ _ rfl _ _ r5 hcs ?_
            refine wpTailIn_nil ?_
            simp only [Act.put]
            obtain ⟨X4, hX4⟩ : ∃ Z, Z = (w5.setCell ⟨sb, k * 8 + 2 + s * 2, none⟩ (I (nrL v1 v2 (k % 2 == 0)))).setCell ⟨sb, k * 8 + 2 + s * 2 + 1, none⟩ (I (nrH v1 v2 (k % 2 == 0))) := ⟨_, rfl⟩
            have oX : ∀ k, k ≠ sb → X4.heap[k]? = w5.heap[k]? := fun k hk => by rw [hX4]; exact (heap_setCell_other _ _ _ _ hk).trans (heap_setCell_other _ _ _ _ hk)
            have hne : lb ≠ sb := by
              rintro rfl
              have := HrX3.out.symm.trans e3
              injection this with ho
              injection ho with _ ht _
              exact absurd ht (by decide)
            have HrX4 : Hid (X4.heap[lb]? = some (.cells (mltArr (nrM m low (s + 1))) 27 (0, 0))) := by
              show X4.heap[lb]? = _
              rw [oX lb hne]
              exact (b5.block lb (Array.getElem?_eq_some_iff.1 HrX3.out).1).trans HrX3.out
            have HbX4 : Hid (Below Z.heap.size Z X4) := by
              show Below _ _ _
              rw [hX4]
              exact ((HbX3.out.trans (b5.mono hsX3)).setCell (p := ⟨sb, _, none⟩) e2 _).setCell (p := ⟨sb, _, none⟩) e2 _
            have HstX4 : Hid (StIn Z.heap.size X4 (.slice (some ⟨sb, 0, none⟩) l.length c2) l.length (rT (nrA bit l s (k + 1)))) := by
              show StIn _ _ _ _ _
              rw [hX4]
              refine StIn.set2 e2 r5 e4 hlt hs3 _ _ ?_
              rw [← hv1, ← hv2]
              exact nrA_step hbk hlt hs3
            rw [← hX4]
            clear hX4 oX r5 b5 hw5 hv1 hv2 hb e3 e4 hcs hne
            go_wp2_with fail
            exact ⟨⟨k + 1, hlt, by go_num, HrX4.out, HstX4.out, HbX4.out⟩, by simp [intOf]; omega⟩
          · rename_i hb1
            have hbk : bit k = false := (Hbit.out k).symm.trans hb1
            exact ⟨⟨k + 1, hlt, by go_num, HrX3.out, by rw [nrA_skip hbk]; exact HstX3.out, HbX3.out⟩, by simp [intOf]; omega⟩
        · obtain rfl : k = l.length := by omega
          have hki : decide ((l.length : Int) < (l.length : Int)) = false := decide_eq_false (by omega)
          go_wp2_with fail
          exact ⟨⟨s + 1, hs3, by go_num, HrX3.out, by rw [← nrA_full]; exact HstX3.out, HbX3.out⟩, by simp [intOf]; omega⟩
    · have hsi : decide ((s : Int) < 3) = false := decide_eq_false (by omega)
      have hv' : ckF (nrM m low s) (nrA bit l s 0) = 0 := nrw_ok Hck.out
      have hN : Nrwd (nrM m low s) (nrA bit l s 0) m l := nrw_all Hck.out
      have hl' : (nrA bit l s 0).length = l.length := nrA_len _ _ _ _
      have hkd' : ∀ j, j < l.length → 0 ≤ (at0 (nrA bit l s 0) j).kd ∧ (at0 (nrA bit l s 0) j).kd ≤ 255 := fun j hj => by
        rw [nrA_at hj]
        have := Hk.out j hj
        unfold nrS
        split <;> exact this
      obtain ⟨m', hm'⟩ : ∃ q, nrM m low s = q := ⟨_, rfl⟩
      obtain ⟨l', hl''⟩ : ∃ q, nrA bit l s 0 = q := ⟨_, rfl⟩
      rw [hm', hl''] at hv' hN
      rw [hl''] at hl' hkd'
      rw [hm'] at HrX
      rw [hl''] at HstX
      have Hv' := Lib.hid hv'
      have HN := Lib.hid hN
      have Hl' := Lib.hid hl'
      have Hkd' := Lib.hid hkd'
      clear hm' hl'' hv' hN hl' hkd'
      have y := fun k v h => row_cell HrX.out k v h
      have y0 := y 0 _ rfl
      have y1 := y 1 _ rfl
      have y2 := y 2 _ rfl
      have y3 := y 3 _ rfl
      have y4 := y 4 _ rfl
      have y5 := y 5 _ rfl
      have y6 := y 6 _ rfl
      clear y
      go_wp2_with fail
      have hp := predict_grow m' A2 c2 l' X (HY.out X HX.out).2.2.2.1 (by rw [Hl'.out]; exact HstX.out.rd) (by rw [Hl'.out]; exact Hkd'.out) (by rw [Hl'.out]; exact Hn.out)
      rw [Hl'.out] at hp
      refine hp.mono ?_
      clear hp y0 y1 y2 y3 y4 y5 y6
      rintro e X5 ⟨u, rfl, hb5, hu⟩
      rcases hu.now with ⟨h1, _⟩ | ⟨_, S2, d2, rfl, hd5, hd6, hsl⟩
      · exact absurd Hv'.out h1
      have hf2 : fzK l' l'.length = fz := HN.out.fz.trans Hfz.out
      rw [hf2] at hsl hd5 ⊢
      have HX5 : Hid (Below Z.heap.size Z X5) := HbX.out.trans (Below.mono hb5 hsX)
      have Hsl5 := Lib.hid hsl.rd
      have hs5 := HX5.out.size
      clear hb5 hu hsl hf2
      go_upto_region 17 with (refine wpList_store_row rfl 35 _ _ rfl X5.heap.size rfl _ _ (heap_last X5 (.cells (runArr (.slice none 0 0) fun _ => 0) 35) _ rfl) (runArr (.slice S2 fz d2) (prR m' l')) rfl (run_one rfl) rfl (by kernel_rfl) ?_)
      refine name_w fun V hV => ?_
      try simp only [Act.put]
      obtain ⟨xb, hxb⟩ : ∃ q, X5.heap.size = q := ⟨_, rfl⟩
      have rV : V.heap[xb]? = some (.cells (runArr (.slice S2 fz d2) (prR m' l')) 35 (0, 0)) := by rw [hV, ← hxb]; exact setRow_same (heap_last _ _ _ rfl)
      have b5 : Below X5.heap.size X5 V := by rw [hV]; exact below_setRow ((Below.refl _ _).alloc (Nat.le_refl _) _) (Nat.le_refl _) _
      have HbV : Hid (Below Z.heap.size Z V) := HX5.out.trans (b5.mono hs5)
      have HrV := Lib.hid rV
      have HsV := Lib.hid ((Hsl5.out.below b5).more b5.size)
      have hsV := HbV.out.size
      rw [hxb]
      clear hV rV b5 hxb HX5 Hsl5 hs5 HX HbX hsX HrX HstX HrY HsY HbY hsY
      have HV : Hid (Below W.heap.size W V) := HZ.out.trans (HbV.out.mono hsZ)
      have hrl := (Array.getElem?_eq_some_iff.1 HrZ.out).1
      have HQ : Hid (∀ X', Below V.heap.size V X' → X'.heap[xb]? = some (.cells (runArr (.slice S2 fz d2) (prR m' l')) 35 (0, 0)) ∧ X'.heap[rb]? = some (.cells (runArr (.slice S fz d) (prR m l)) 35 (0, 0)) ∧ Rd X' X'.heap.size 7 S2 fz (fun i j => I (prS m' l' i j)) ∧ Rd X' X'.heap.size 7 S fz (fun i j => I (prS m l i j)) ∧ Below W.heap.size W X') := fun X' h =>
        ⟨(h.block xb (Array.getElem?_eq_some_iff.1 HrV.out).1).trans HrV.out, (h.block rb (by omega)).trans ((HbV.out.block rb hrl).trans HrZ.out), (HsV.out.below h).more h.size, ((HsZ.out.below HbV.out).below (h.mono hsV)).more (by have := h.size; omega), HV.out.trans (h.mono HV.out.size)⟩
      have HV0 : Hid (Below V.heap.size V V) := Below.refl _ _
      have s0 := row_cell (HQ.out V HV0.out).1 0 _ rfl
      have t0 := row_cell (HQ.out V HV0.out).2.1 0 _ rfl
      clear HrV HsV HV hrl
      have q := HQ.out V HV0.out
      have z0 := runRow' q.1 (j := 2) (by omega) (by omega)
      have z1 := runRow' q.1 (j := 3) (by omega) (by omega)
      have z2 := runRow' q.1 (j := 4) (by omega) (by omega)
      have z3 := runRow' q.1 (j := 5) (by omega) (by omega)
      have z4 := runRow' q.1 (j := 6) (by omega) (by omega)
      have z5 := runRow' q.1 (j := 7) (by omega) (by omega)
      have x0 := runRow' q.2.1 (j := 2) (by omega) (by omega)
      have x1 := runRow' q.2.1 (j := 3) (by omega) (by omega)
      have x2 := runRow' q.2.1 (j := 4) (by omega) (by omega)
      have x3 := runRow' q.2.1 (j := 5) (by omega) (by omega)
      have x4 := runRow' q.2.1 (j := 6) (by omega) (by omega)
      have x5 := runRow' q.2.1 (j := 7) (by omega) (by omega)
      clear q
      go_wp2_with fail
      refine (inside12 _ _ _ _ _ _ _ _ _ _ _ _ (HN.out.en 0 (by omega)) (HN.out.en 1 (by omega)) (HN.out.en 2 (by omega)) V).mono ?_
      clear z0 z1 z2 z3 z4 z5 x0 x1 x2 x3 x4 x5
      rintro e V1 ⟨rfl, hbq⟩
      have HV1 : Hid (Below V.heap.size V V1) := Below.trans HV0.out (hbq.mono (Below.size HV0.out))
      clear hbq
      have q := HQ.out V1 HV1.out
      have z0 := runRow' q.1 (j := 8) (by omega) (by omega)
      have z1 := runRow' q.1 (j := 9) (by omega) (by omega)
      have z2 := runRow' q.1 (j := 10) (by omega) (by omega)
      have z3 := runRow' q.1 (j := 11) (by omega) (by omega)
      have z4 := runRow' q.1 (j := 12) (by omega) (by omega)
      have z5 := runRow' q.1 (j := 13) (by omega) (by omega)
      have x0 := runRow' q.2.1 (j := 8) (by omega) (by omega)
      have x1 := runRow' q.2.1 (j := 9) (by omega) (by omega)
      have x2 := runRow' q.2.1 (j := 10) (by omega) (by omega)
      have x3 := runRow' q.2.1 (j := 11) (by omega) (by omega)
      have x4 := runRow' q.2.1 (j := 12) (by omega) (by omega)
      have x5 := runRow' q.2.1 (j := 13) (by omega) (by omega)
      clear q
      go_wp2_with fail
      refine (inside12 _ _ _ _ _ _ _ _ _ _ _ _ (HN.out.ad 0 (by omega)) (HN.out.ad 1 (by omega)) (HN.out.ad 2 (by omega)) V1).mono ?_
      clear z0 z1 z2 z3 z4 z5 x0 x1 x2 x3 x4 x5
      rintro e V2 ⟨rfl, hbq⟩
      have HV2 : Hid (Below V.heap.size V V2) := Below.trans HV1.out (hbq.mono (Below.size HV1.out))
      clear hbq
      have q := HQ.out V2 HV2.out
      have z0 := runRow' q.1 (j := 14) (by omega) (by omega)
      have z1 := runRow' q.1 (j := 15) (by omega) (by omega)
      have z2 := runRow' q.1 (j := 16) (by omega) (by omega)
      have z3 := runRow' q.1 (j := 17) (by omega) (by omega)
      have z4 := runRow' q.1 (j := 18) (by omega) (by omega)
      have z5 := runRow' q.1 (j := 19) (by omega) (by omega)
      have x0 := runRow' q.2.1 (j := 14) (by omega) (by omega)
      have x1 := runRow' q.2.1 (j := 15) (by omega) (by omega)
      have x2 := runRow' q.2.1 (j := 16) (by omega) (by omega)
      have x3 := runRow' q.2.1 (j := 17) (by omega) (by omega)
      have x4 := runRow' q.2.1 (j := 18) (by omega) (by omega)
      have x5 := runRow' q.2.1 (j := 19) (by omega) (by omega)
      clear q
      go_wp2_with fail
      refine (inside12 _ _ _ _ _ _ _ _ _ _ _ _ (HN.out.so 0 (by omega)) (HN.out.so 1 (by omega)) (HN.out.so 2 (by omega)) V2).mono ?_
      clear z0 z1 z2 z3 z4 z5 x0 x1 x2 x3 x4 x5
      rintro e V3 ⟨rfl, hbq⟩
      have HV3 : Hid (Below V.heap.size V V3) := Below.trans HV2.out (hbq.mono (Below.size HV2.out))
      clear hbq
      have q := HQ.out V3 HV3.out
      have z0 := runRow' q.1 (j := 20) (by omega) (by omega)
      have z1 := runRow' q.1 (j := 21) (by omega) (by omega)
      have z2 := runRow' q.1 (j := 22) (by omega) (by omega)
      have z3 := runRow' q.1 (j := 23) (by omega) (by omega)
      have z4 := runRow' q.1 (j := 24) (by omega) (by omega)
      have z5 := runRow' q.1 (j := 25) (by omega) (by omega)
      have x0 := runRow' q.2.1 (j := 20) (by omega) (by omega)
      have x1 := runRow' q.2.1 (j := 21) (by omega) (by omega)
      have x2 := runRow' q.2.1 (j := 22) (by omega) (by omega)
      have x3 := runRow' q.2.1 (j := 23) (by omega) (by omega)
      have x4 := runRow' q.2.1 (j := 24) (by omega) (by omega)
      have x5 := runRow' q.2.1 (j := 25) (by omega) (by omega)
      clear q
      go_wp2_with fail
      refine (inside12 _ _ _ _ _ _ _ _ _ _ _ _ (HN.out.va 0 (by omega)) (HN.out.va 1 (by omega)) (HN.out.va 2 (by omega)) V3).mono ?_
      clear z0 z1 z2 z3 z4 z5 x0 x1 x2 x3 x4 x5
      rintro e V4 ⟨rfl, hbq⟩
      have HV4 : Hid (Below V.heap.size V V4) := Below.trans HV3.out (hbq.mono (Below.size HV3.out))
      clear hbq
      clear s0 t0
      go_wp2_with fail
      go_loopw [14] (fun i wr => ∃ j : Nat, j ≤ fz ∧ i = .int .i64 j ∧ Below V.heap.size V wr) (fun i _ => fz - (intOf i).toNat)
      case atStart => exact ⟨0, by omega, rfl, HV4.out⟩
      case round =>
        rename World => X6
        obtain ⟨j, hj, rfl, hb6⟩ := hrel
        have H6 := Lib.hid hb6
        clear hb6
        have q := HQ.out X6 H6.out
        have s0 := row_cell q.1 0 _ rfl
        have t0 := row_cell q.2.1 0 _ rfl
        have Hrd := Lib.hid (And.intro q.2.2.1 q.2.2.2.1)
        clear q
        by_cases hjf : j < fz
        · have hji : decide ((j : Int) < (fz : Int)) = true := decide_eq_true (by omega)
          have hjn : decide (j < fz) = true := decide_eq_true hjf
          have hj0 : decide (0 ≤ (j : Int)) = true := decide_eq_true (by omega)
          go_upto_region 22 with (fail)
          obtain ⟨sb, so, rfl, _, hsc⟩ := Hrd.out.1 (by omega)
          obtain ⟨ab, ao, rfl, _, hac⟩ := Hrd.out.2 (by omega)
          have z0 := ovr_cell (show X6.cell? ⟨sb, so + j * 7, none⟩ = some (I (prS m' l' j 0)) from hsc j hjf 0 (by omega))
          have z1 := ovr_cell (show X6.cell? ⟨sb, so + j * 7 + 1, none⟩ = some (I (prS m' l' j 1)) from hsc j hjf 1 (by omega))
          have z2 := ovr_cell (show X6.cell? ⟨sb, so + j * 7 + 2, none⟩ = some (I (prS m' l' j 2)) from hsc j hjf 2 (by omega))
          have z3 := ovr_cell (show X6.cell? ⟨sb, so + j * 7 + 3, none⟩ = some (I (prS m' l' j 3)) from hsc j hjf 3 (by omega))
          have z4 := ovr_cell (show X6.cell? ⟨sb, so + j * 7 + 4, none⟩ = some (I (prS m' l' j 4)) from hsc j hjf 4 (by omega))
          have z5 := ovr_cell (show X6.cell? ⟨sb, so + j * 7 + 5, none⟩ = some (I (prS m' l' j 5)) from hsc j hjf 5 (by omega))
          have z6 := ovr_cell (show X6.cell? ⟨sb, so + j * 7 + 6, none⟩ = some (I (prS m' l' j 6)) from hsc j hjf 6 (by omega))
          have x0 := ovr_cell (show X6.cell? ⟨ab, ao + j * 7, none⟩ = some (I (prS m l j 0)) from hac j hjf 0 (by omega))
          have x1 := ovr_cell (show X6.cell? ⟨ab, ao + j * 7 + 1, none⟩ = some (I (prS m l j 1)) from hac j hjf 1 (by omega))
          have x2 := ovr_cell (show X6.cell? ⟨ab, ao + j * 7 + 2, none⟩ = some (I (prS m l j 2)) from hac j hjf 2 (by omega))
          have x3 := ovr_cell (show X6.cell? ⟨ab, ao + j * 7 + 3, none⟩ = some (I (prS m l j 3)) from hac j hjf 3 (by omega))
          have x4 := ovr_cell (show X6.cell? ⟨ab, ao + j * 7 + 4, none⟩ = some (I (prS m l j 4)) from hac j hjf 4 (by omega))
          have x5 := ovr_cell (show X6.cell? ⟨ab, ao + j * 7 + 5, none⟩ = some (I (prS m l j 5)) from hac j hjf 5 (by omega))
          have x6 := ovr_cell (show X6.cell? ⟨ab, ao + j * 7 + 6, none⟩ = some (I (prS m l j 6)) from hac j hjf 6 (by omega))
          have ss0 := ovr_cell s0
          have tt0 := ovr_cell t0
          have em := HN.out.ms j (by rw [Hfz.out]; exact hjf)
          have i0 : InR (prS m' l' j 1) (prS m' l' j 2) (prS m l j 1) (prS m l j 2) := HN.out.sl j (by rw [Hfz.out]; exact hjf) 0 (by omega)
          have i1 : InR (prS m' l' j 3) (prS m' l' j 4) (prS m l j 3) (prS m l j 4) := HN.out.sl j (by rw [Hfz.out]; exact hjf) 1 (by omega)
          have i2 : InR (prS m' l' j 5) (prS m' l' j 6) (prS m l j 5) (prS m l j 6) := HN.out.sl j (by rw [Hfz.out]; exact hjf) 2 (by omega)
          rw [em] at z0
          have eq0 : (prS m l j 0 != prS m l j 0) = false := by simp
          clear hsc hac em s0 t0
          generalize prS m l j 0 = r0 at *
          generalize prS m l j 1 = r1 at *
          generalize prS m l j 2 = r2 at *
          generalize prS m l j 3 = r3 at *
          generalize prS m l j 4 = r4 at *
          generalize prS m l j 5 = r5 at *
          generalize prS m l j 6 = r6 at *
          generalize prS m' l' j 1 = p1 at *
          generalize prS m' l' j 2 = p2 at *
          generalize prS m' l' j 3 = p3 at *
          generalize prS m' l' j 4 = p4 at *
          generalize prS m' l' j 5 = p5 at *
          generalize prS m' l' j 6 = p6 at *
          refine wp_region_below_lit (by kernel_rfl) (by kernel_rfl) ?_
          repeat (go_big_quiet_step ((go_at_call 26; exact call_below (inside12 _ _ _ _ _ _ _ _ _ _ _ _ (by assumption) (by assumption) (by assumption) _))))
          refine wpQuiet_nil ?_
          intro X7 hb7
          have H7 : Hid (Below V.heap.size V X7) := H6.out.trans (hb7.mono H6.out.size)
          clear hb7 z0 z1 z2 z3 z4 z5 z6 x0 x1 x2 x3 x4 x5 x6 ss0 tt0 i0 i1 i2 eq0
          go_wp2_with fail
          exact ⟨⟨j + 1, hjf, by go_num, H7.out⟩, by simp [intOf]; omega⟩
        · obtain rfl : j = fz := by omega
          have hji : decide ((j : Int) < (j : Int)) = false := decide_eq_false (by omega)
          have H6W := Lib.hid (HQ.out X6 H6.out).2.2.2.2
          go_upto_region 25 with (fail)
          clear hji s0 t0
          obtain ⟨bz, hbz⟩ : ∃ b, decide (0 < l.length) = b := ⟨_, rfl⟩
          have hbi : decide (0 < (l.length : Int)) = bz := by rw [← hbz]; exact decide_eq_decide.2 (by omega)
          have Hbz := Lib.hid hbz
          have z1 := row_cell (HY.out X6 H6W.out).2.1 1 _ rfl
          go_upto_if 179 with (fail)
          go_cut [15] (fun s15 wx => (∃ q : Nat, s15 = I (q : Int) ∧ q ≤ l.length) ∧ wx = X6)
          case first =>
            rcases bz with _ | _
            · go_wp2_with fail
              go_meet
              case rel => exact ⟨⟨0, rfl, Nat.zero_le _⟩, rfl⟩
            · have hl0 : 0 < l.length := by have := of_decide_eq_true Hbz.out; omega
              have hcc := Hc.out
              have w1 : IntKind.i64.wrap ct = ct := IntWalk.i64_in _ (by omega)
              have hq : Hid (∃ q : Nat, ct % ((l.length : Int) + 1) = (q : Int) ∧ q ≤ l.length) := by
                refine ⟨(ct % ((l.length : Int) + 1)).toNat, (Int.toNat_of_nonneg (Int.emod_nonneg _ (by omega))).symm, ?_⟩
                have h1 := Int.emod_lt_of_pos ct (show (0 : Int) < (l.length : Int) + 1 by omega)
                have h2 := Int.emod_nonneg ct (show (l.length : Int) + 1 ≠ 0 by omega)
                omega
              obtain ⟨q, hq1, hq2⟩ := hq.out
              have Hq2 := Lib.hid hq2
              have Hq1 := Lib.hid hq1
              clear hl0 hq2 hq1 hq
              go_wp2_with fail
              rw [Hq1.out]
              clear hcc w1
              go_meet
              case rel => exact ⟨⟨q, rfl, Hq2.out⟩, rfl⟩
          obtain ⟨⟨q, rfl, hql⟩, hwc⟩ := hcut
          rw [hwc]
          clear hwc hbz hbi z1
          go_upto_region 27 with (fail)
          obtain ⟨l1, l2, m2, hCd⟩ := cutd Hck.out hql
          have HCd := Lib.hid hCd
          have HN1 := Lib.hid hCd.n1
          have HN2 := Lib.hid hCd.n2
          clear hCd
          have hqc : q ≤ c := by omega
          have hb1 : decide ((q : Int) ≤ (l.length : Int)) = true := decide_eq_true (by omega)
          have hb2 : decide (0 ≤ (q : Int)) = true := decide_eq_true (by omega)
          have hb3 : decide (q ≤ l.length) = true := decide_eq_true (by omega)
          have hs6 := H6W.out.size
          have y := fun k v h => ovr_cell (row_cell (HY.out X6 H6W.out).1 k v h)
          have y0 := y 0 _ rfl
          have y1 := y 1 _ rfl
          have y2 := y 2 _ rfl
          have y3 := y 3 _ rfl
          have y4 := y 4 _ rfl
          have y5 := y 5 _ rfl
          have y6 := y 6 _ rfl
          clear y
          refine wp_region_make_two (fun j => if j = 4 then some (OlF 8 q (rT l1)) else if j = 5 then some (PrdF m l1) else if j = 9 then some (NewAt X6 (runArr (.slice none 0 0) fun _ => 0) 35) else none) [8] (by kernel_rfl) (by kernel_rfl) (by kernel_rfl) (by kernel_rfl) (by kernel_rfl) (by intro i hi; simp at hi; subst hi; rfl) ⟨rfl, rfl⟩ (fun c a d v w h => by cases d <;> exact h) ?_
          simp only [sleepTwo_cons, sleepTwo_two]
          repeat (refine wpG_one rfl rfl rfl ?_; intro K hK; go_big_quiet_op; go_big_quiet_on)
          refine wpG_make (OlF 8 q (rT l1)) rfl rfl (fun w' hw' _ => ?_) (fun u hu => ?_)
          · go_simp
            exact olF_grow (ownSteps_any A q c (rT l1) w' w.heap.size (by omega) (by have := hw'.le.size; omega) (rd_front (HY.out w' (H6W.out.trans (hw'.le.mono hs6))).2.2.1 hql HCd.out.a1))
          obtain ⟨_, _, A3, c3, rfl, _, _, _⟩ := hu
          simp only [Act.put, List.setIfInBounds_toArray, List.set_cons_zero, List.set_cons_succ]
          refine wpG_make (PrdF m l1) rfl rfl (fun w' hw' hk => ?_) (fun u hu => ?_)
          · obtain ⟨b1, e1, he1, _, _, hr1⟩ := (hk ⟨4, .data⟩ (by simp) rfl _ _ _ rfl rfl rfl (by simp) rfl).now
            obtain ⟨rfl, rfl⟩ : A3 = b1 ∧ c3 = e1 := by simp at he1; exact he1
            go_simp
            have hp := predict_grow m A3 c3 l1 w' (HY.out w' (H6W.out.trans (hw'.le.mono hs6))).2.2.2.1 (by rw [HN1.out]; exact hr1) (by rw [HN1.out]; exact HCd.out.k1) (by rw [HN1.out]; have := Hn.out; omega)
            rw [HN1.out] at hp
            exact hp
          obtain ⟨_, _, hu⟩ := hu
          rcases hu with ⟨h1, _⟩ | ⟨_, S3, d3, rfl, hd3', hd4', _⟩
          · exact absurd HCd.out.e1 h1
          simp only [Act.put, List.setIfInBounds_toArray, List.set_cons_zero, List.set_cons_succ]
          repeat (refine wpG_one rfl rfl rfl ?_; intro K hK; go_big_quiet_op; go_big_quiet_on)
          refine wpG_make (NewAt X6 (runArr (.slice none 0 0) fun _ => 0) 35) rfl rfl (fun w' hw' _ => ?_) (fun u hu => ?_)
          · go_simp
            exact new_grow hw'
          obtain ⟨_, _, eb, rfl, _, heb⟩ := hu
          simp only [Act.put, List.setIfInBounds_toArray, List.set_cons_zero, List.set_cons_succ]
          repeat (refine wpG_one rfl rfl rfl ?_; intro K hK; go_big_quiet_op; go_big_quiet_on)
          refine wpG_nil (fun w5 hw5 hG5 => ?_)
          have hx5 := (Box.now hG5.2).at.1
          have hP := (Box.now hG5.1.2).sl HCd.out.e1
          clear hG5
          intro s' t' hs' ht'
          obtain rfl := Option.some.inj hs'
          obtain rfl := Option.some.inj ht'
          clear hs' ht'
          refine wp_store_row 35 _ _ rfl eb rfl _ _ hx5 (runArr (.slice S3 (fzK l1 l1.length) d3) (prR m l1)) rfl (run_one rfl) rfl (by kernel_rfl) ?_
          refine ⟨hw5.set heb _, ?_⟩
          refine wp_assign _ (I 0) rfl rfl ?_
          refine ⟨hw5.set heb _, ?_⟩
          simp only [Act.put, List.setIfInBounds_toArray, List.set_cons_zero, List.set_cons_succ]
          obtain ⟨U, hU⟩ : ∃ U, U = w5.setRow eb (runArr (.slice S3 (fzK l1 l1.length) d3) (prR m l1)) := ⟨_, rfl⟩
          have rU : U.heap[eb]? = some (.cells (runArr (.slice S3 (fzK l1 l1.length) d3) (prR m l1)) 35 (0, 0)) := by rw [hU]; exact setRow_same hx5
          have bU : Below X6.heap.size X6 U := by rw [hU]; exact below_setRow hw5.le heb _
          have sU : SlIn 0 U (.slice S3 (fzK l1 l1.length) d3) (fzK l1 l1.length) (prS m l1) := by
            rw [hU]
            rcases hP.2 with h | ⟨b, c, cs, h0, _, h2, h3⟩
            · exact .inl h
            · refine .inr ⟨b, c, cs, h0, Nat.zero_le _, ?_, h3⟩
              rw [setRow_other]
              · exact h2
              · rintro rfl
                rw [hx5] at h2
                injection h2 with h2
                injection h2 with _ ht _
                exact absurd ht (by decide)
          have HrU := Lib.hid rU
          have HsU := Lib.hid sU.rd
          have HbU : Hid (Below V.heap.size V U) := H6.out.trans (bU.mono H6.out.size)
          have hsU := bU.size
          have HUW : Hid (Below W.heap.size W U) := H6W.out.trans (bU.mono hs6)
          have hsUW := HUW.out.size
          rw [← hU]
          obtain ⟨f1, hf1⟩ : ∃ q, fzK l1 l1.length = q := ⟨_, rfl⟩
          have Hf1 := Lib.hid hf1
          rw [hf1] at HrU HsU hd3' ⊢
          clear hU rU bU sU hP hx5 hw5 hf1 y0 y1 y2 y3 y4 y5 y6
          have yU := fun k v h => ovr_cell (row_cell HrU.out k v h)
          have b0 := yU 1 (I m2.ms) (by rw [HCd.out.me.1]; rfl)
          have b1 := yU 2 (I (m2.ct 0)) (by rw [HCd.out.me.2]; rfl)
          have b2 := yU 3 (I (m2.ct 1)) (by rw [HCd.out.me.2]; rfl)
          have b3 := yU 4 (I (m2.ct 2)) (by rw [HCd.out.me.2]; rfl)
          have b4 := yU 5 (I (m2.ct 3)) (by rw [HCd.out.me.2]; rfl)
          have b5 := yU 6 (I (m2.ct 4)) (by rw [HCd.out.me.2]; rfl)
          have b6 := yU 7 (I (m2.ct 5)) (by rw [HCd.out.me.2]; rfl)
          clear yU
          go_upto_region 28 with (fail)
          refine wp_region_make_two (fun j => if j = 5 then some (OlF 8 (l.length - q) (rT l2)) else if j = 6 then some (PrdF m2 l2) else if j = 10 then some (NewAt U (runArr (.slice none 0 0) fun _ => 0) 35) else none) [9] (by kernel_rfl) (by kernel_rfl) (by kernel_rfl) (by kernel_rfl) (by kernel_rfl) (by intro i hi; simp at hi; subst hi; rfl) ⟨rfl, rfl⟩ (fun c a d v w h => by cases d <;> exact h) ?_
          simp only [sleepTwo_cons, sleepTwo_two]
          repeat (refine wpG_one rfl rfl rfl ?_; intro K hK; go_big_quiet_op; go_big_quiet_on)
          refine wpG_make (OlF 8 (l.length - q) (rT l2)) rfl rfl (fun w' hw' _ => ?_) (fun u hu => ?_)
          · go_simp
            exact olF_grow (ownSteps_any _ (l.length - q) _ (rT l2) w' w.heap.size (by omega) (by have := hw'.le.size; omega) (rd_behind (HY.out w' (HUW.out.trans (hw'.le.mono hsUW))).2.2.1 hcap hql HCd.out.a2))
          obtain ⟨_, _, A4, c4, rfl, _, _, _⟩ := hu
          simp only [Act.put, List.setIfInBounds_toArray, List.set_cons_zero, List.set_cons_succ]
          refine wpG_make (PrdF m2 l2) rfl rfl (fun w' hw' hk => ?_) (fun u hu => ?_)
          · obtain ⟨b1, e1, he1, _, _, hr1⟩ := (hk ⟨5, .data⟩ (by simp) rfl _ _ _ rfl rfl rfl (by simp) rfl).now
            obtain ⟨rfl, rfl⟩ : A4 = b1 ∧ c4 = e1 := by simp at he1; exact he1
            go_simp
            have hp := predict_grow m2 A4 c4 l2 w' (HY.out w' (HUW.out.trans (hw'.le.mono hsUW))).2.2.2.1 (by rw [HN2.out]; exact hr1) (by rw [HN2.out]; exact HCd.out.k2) (by rw [HN2.out]; have := Hn.out; omega)
            rw [HN2.out] at hp
            exact hp
          obtain ⟨_, _, hu⟩ := hu
          by_cases hk2 : ckF m2 l2 = 0
          case neg =>
            as_aux_lemma =>
              rcases hu with ⟨_, rfl⟩ | ⟨h1, _⟩
              rotate_left
              · exact absurd h1 hk2
              have he2 := HCd.out.e2 hk2
              rw [he2]
              clear hk2 he2
              simp only [Act.put, List.setIfInBounds_toArray, List.set_cons_zero, List.set_cons_succ]
              repeat (refine wpG_one rfl rfl rfl ?_; intro K hK; go_big_quiet_op; go_big_quiet_on)
              refine wpG_make (NewAt U (runArr (.slice none 0 0) fun _ => 0) 35) rfl rfl (fun w' hw' _ => ?_) (fun u hu => ?_)
              · go_simp
                exact new_grow hw'
              obtain ⟨_, _, fb, rfl, _, hfb⟩ := hu
              simp only [Act.put, List.setIfInBounds_toArray, List.set_cons_zero, List.set_cons_succ]
              repeat (refine wpG_one rfl rfl rfl ?_; intro K hK; go_big_quiet_op; go_big_quiet_on)
              refine wpG_nil (fun w5 hw5 hG5 => ?_)
              have hx5 := (Box.now hG5.2).at.1
              skip
              clear hG5
              intro s' t' hs' ht'
              obtain rfl := Option.some.inj hs'
              obtain rfl := Option.some.inj ht'
              clear hs' ht'
              refine wp_store_row 35 _ _ rfl fb rfl _ _ hx5 (runArr (.slice none 0 0) fun _ => 0) rfl (run_one rfl) rfl (by kernel_rfl) ?_
              refine ⟨hw5.set hfb _, ?_⟩
              refine wp_assign _ (I 2) rfl rfl ?_
              refine ⟨hw5.set hfb _, ?_⟩
              simp only [Act.put, List.setIfInBounds_toArray, List.set_cons_zero, List.set_cons_succ]
              generalize (if c = q then A else Option.map (fun x => x.add (q * 8)) A) = A9
              obtain ⟨O, hO⟩ : ∃ O, O = w5.setRow fb (runArr (.slice none 0 0) fun _ => 0) := ⟨_, rfl⟩
              have rO : O.heap[fb]? = some (.cells (runArr (.slice none 0 0) fun _ => 0) 35 (0, 0)) := by rw [hO]; exact setRow_same hx5
              have bO : Below U.heap.size U O := by rw [hO]; exact below_setRow hw5.le hfb _
              rw [← hO]
              clear b0 b1 b2 b3 b4 b5 b6
              have HOW : Hid (Below W.heap.size W O) := HUW.out.trans (bO.mono hsUW)
              clear hO rO bO hx5 hw5
              go_wp2_with fail
              refine (known_any O (HY.out O HOW.out).2.2.2.1).mono ?_
              rintro e wk ⟨rfl, hbk⟩
              have HK : Hid (Below W.heap.size W wk) := Below.trans HOW.out (hbk.mono (Below.size HOW.out))
              clear hbk
              go_wp2_with fail
              go_ret
              exact ⟨rfl, (HY.out wk HK.out).2.2.2.2⟩
          rcases hu with ⟨h1, _⟩ | ⟨_, S4, d4, rfl, hd5', hd6', _⟩
          · exact absurd hk2 h1
          simp only [Act.put, List.setIfInBounds_toArray, List.set_cons_zero, List.set_cons_succ]
          repeat (refine wpG_one rfl rfl rfl ?_; intro K hK; go_big_quiet_op; go_big_quiet_on)
          refine wpG_make (NewAt U (runArr (.slice none 0 0) fun _ => 0) 35) rfl rfl (fun w' hw' _ => ?_) (fun u hu => ?_)
          · go_simp
            exact new_grow hw'
          obtain ⟨_, _, fb, rfl, _, hfb⟩ := hu
          simp only [Act.put, List.setIfInBounds_toArray, List.set_cons_zero, List.set_cons_succ]
          repeat (refine wpG_one rfl rfl rfl ?_; intro K hK; go_big_quiet_op; go_big_quiet_on)
          refine wpG_nil (fun w5 hw5 hG5 => ?_)
          have hx5 := (Box.now hG5.2).at.1
          (have hP := (Box.now hG5.1.2).sl hk2)
          clear hG5
          intro s' t' hs' ht'
          obtain rfl := Option.some.inj hs'
          obtain rfl := Option.some.inj ht'
          clear hs' ht'
          refine wp_store_row 35 _ _ rfl fb rfl _ _ hx5 (runArr (.slice S4 (fzK l2 l2.length) d4) (prR m2 l2)) rfl (run_one rfl) rfl (by kernel_rfl) ?_
          refine ⟨hw5.set hfb _, ?_⟩
          refine wp_assign _ (I 0) rfl rfl ?_
          refine ⟨hw5.set hfb _, ?_⟩
          simp only [Act.put, List.setIfInBounds_toArray, List.set_cons_zero, List.set_cons_succ]
          generalize (if c = q then A else Option.map (fun x => x.add (q * 8)) A) = A9
          obtain ⟨O, hO⟩ : ∃ O, O = w5.setRow fb (runArr (.slice S4 (fzK l2 l2.length) d4) (prR m2 l2)) := ⟨_, rfl⟩
          have rO : O.heap[fb]? = some (.cells (runArr (.slice S4 (fzK l2 l2.length) d4) (prR m2 l2)) 35 (0, 0)) := by rw [hO]; exact setRow_same hx5
          have bO : Below U.heap.size U O := by rw [hO]; exact below_setRow hw5.le hfb _
          rw [← hO]
          clear b0 b1 b2 b3 b4 b5 b6
          have sO : SlIn 0 O (.slice S4 (fzK l2 l2.length) d4) (fzK l2 l2.length) (prS m2 l2) := by
            rw [hO]
            rcases hP.2 with h | ⟨b, c, cs, h0, _, h2, h3⟩
            · exact .inl h
            · refine .inr ⟨b, c, cs, h0, Nat.zero_le _, ?_, h3⟩
              rw [setRow_other]
              · exact h2
              · rintro rfl
                rw [hx5] at h2
                injection h2 with h2
                injection h2 with _ ht _
                exact absurd ht (by decide)
          have HsO := Lib.hid sO.rd
          have HrO := Lib.hid rO
          have HbO := Lib.hid bO
          have zO := bO.size
          clear hO rO bO sO hP hx5 hw5
          obtain ⟨f2, hf2⟩ : ∃ q, fzK l2 l2.length = q := ⟨_, rfl⟩
          have Hf2 := Lib.hid hf2
          rw [hf2] at HrO HsO hd5' ⊢
          clear hf2
          have hsum : f1 + f2 = j := by rw [← Hf1.out, ← Hf2.out, ← Hfz.out]; exact HCd.out.fz
          have hel := (Array.getElem?_eq_some_iff.1 HrU.out).1
          have hfl' := (Array.getElem?_eq_some_iff.1 HrO.out).1
          have HK : Hid (∀ X', Below O.heap.size O X' → X'.heap[eb]? = some (.cells (runArr (.slice S3 f1 d3) (prR m l1)) 35 (0, 0)) ∧ X'.heap[fb]? = some (.cells (runArr (.slice S4 f2 d4) (prR m2 l2)) 35 (0, 0)) ∧ X'.heap[rb]? = some (.cells (runArr (.slice S j d) (prR m l)) 35 (0, 0)) ∧ Rd X' X'.heap.size 7 S3 f1 (fun i j => I (prS m l1 i j)) ∧ Rd X' X'.heap.size 7 S4 f2 (fun i j => I (prS m2 l2 i j)) ∧ Rd X' X'.heap.size 7 S j (fun i j => I (prS m l i j)) ∧ Below W.heap.size W X') := fun X' h => by
            have hUX := HbO.out.trans (h.mono zO)
            have hVX := HbU.out.trans (hUX.mono HbU.out.size)
            have hq := HQ.out X' hVX
            exact ⟨(hUX.block eb hel).trans HrU.out, (h.block fb hfl').trans HrO.out, hq.2.1, (HsU.out.below hUX).more hUX.size, (HsO.out.below h).more h.size, hq.2.2.2.1, hq.2.2.2.2⟩
          have HO0 : Hid (Below O.heap.size O O) := Below.refl _ _
          have q := HK.out O HO0.out
          have e0 := row_cell q.1 0 _ rfl
          have g0 := row_cell q.2.1 0 _ rfl
          have r0 := row_cell q.2.2.1 0 _ rfl
          have g1 := row_cell q.2.1 1 (I (prR m l 1)) (by rw [← HCd.out.en 1 (by omega) (by omega)]; rfl)
          have g2 := row_cell q.2.1 2 (I (prR m l 2)) (by rw [← HCd.out.en 2 (by omega) (by omega)]; rfl)
          have g3 := row_cell q.2.1 3 (I (prR m l 3)) (by rw [← HCd.out.en 3 (by omega) (by omega)]; rfl)
          have g4 := row_cell q.2.1 4 (I (prR m l 4)) (by rw [← HCd.out.en 4 (by omega) (by omega)]; rfl)
          have g5 := row_cell q.2.1 5 (I (prR m l 5)) (by rw [← HCd.out.en 5 (by omega) (by omega)]; rfl)
          have g6 := row_cell q.2.1 6 (I (prR m l 6)) (by rw [← HCd.out.en 6 (by omega) (by omega)]; rfl)
          have g7 := row_cell q.2.1 7 (I (prR m l 7)) (by rw [← HCd.out.en 7 (by omega) (by omega)]; rfl)
          have r1 := row_cell q.2.2.1 1 (I (prR m l 1)) rfl
          have r2 := row_cell q.2.2.1 2 (I (prR m l 2)) rfl
          have r3 := row_cell q.2.2.1 3 (I (prR m l 3)) rfl
          have r4 := row_cell q.2.2.1 4 (I (prR m l 4)) rfl
          have r5 := row_cell q.2.2.1 5 (I (prR m l 5)) rfl
          have r6 := row_cell q.2.2.1 6 (I (prR m l 6)) rfl
          have r7 := row_cell q.2.2.1 7 (I (prR m l 7)) rfl
          have eM := eqM_R (prR m l)
          have ws : IntKind.i64.wrap ((f1 : Int) + (f2 : Int)) = (j : Int) := by rw [IntWalk.i64_in _ (by omega)]; omega
          clear q
          go_upto_region 33 with (fail)
          go_wp2_with fail
          clear e0 g0 r0 g1 g2 g3 g4 g5 g6 g7 r1 r2 r3 r4 r5 r6 r7 eM ws
          go_loopw [19] (fun i wr => ∃ k : Nat, k ≤ j ∧ i = .int .i64 k ∧ Below O.heap.size O wr) (fun i _ => j - (intOf i).toNat)
          case atStart => exact ⟨0, by omega, rfl, HO0.out⟩
          case round =>
            rename World => X8
            obtain ⟨k, hk, rfl, hb8⟩ := hrel
            have H8 := Lib.hid hb8
            have z8 := hb8.size
            clear hb8
            have q := HK.out X8 H8.out
            have r0 := row_cell q.2.2.1 0 _ rfl
            have HW8 := Lib.hid q.2.2.2.2.2.2
            by_cases hkf : k < j
            · have hji : decide ((k : Int) < (j : Int)) = true := decide_eq_true (by omega)
              have hjn : decide (k < j) = true := decide_eq_true hkf
              have hj0 : decide (0 ≤ (k : Int)) = true := decide_eq_true (by omega)
              have e0 := ovr_cell (row_cell q.1 0 _ rfl)
              have g0 := ovr_cell (row_cell q.2.1 0 _ rfl)
              go_upto_region 38 with (fail)
              have rr0 := ovr_cell r0
              clear r0
              obtain ⟨rs', ro, rfl, rx0, hrx⟩ := q.2.2.2.2.2.1.frz hkf
              have x0 := ovr_cell rx0
              have x1 := ovr_cell (hrx 1 (by omega))
              have x2 := ovr_cell (hrx 2 (by omega))
              have x3 := ovr_cell (hrx 3 (by omega))
              have x4 := ovr_cell (hrx 4 (by omega))
              have x5 := ovr_cell (hrx 5 (by omega))
              have x6 := ovr_cell (hrx 6 (by omega))
              have heq := eqF_g (prS m l k)
              by_cases hf : k < f1
              · have f1' : decide ((k : Int) < (f1 : Int)) = true := decide_eq_true (by omega)
                have f2' : decide (k < f1) = true := decide_eq_true hf
                have f3' : decide ((f1 : Int) ≤ (k : Int)) = false := decide_eq_false (by omega)
                have f4' : decide (f1 ≤ k) = false := decide_eq_false (by omega)
                obtain ⟨sb, so, rfl, sx0, hsx⟩ := q.2.2.2.1.frz hf
                have hs1 := HCd.out.s1 k (by rw [Hf1.out]; exact hf)
                have z0 := ovr_cell (hs1 0 (by omega) ▸ sx0)
                have z1 := ovr_cell (hs1 1 (by omega) ▸ hsx 1 (by omega))
                have z2 := ovr_cell (hs1 2 (by omega) ▸ hsx 2 (by omega))
                have z3 := ovr_cell (hs1 3 (by omega) ▸ hsx 3 (by omega))
                have z4 := ovr_cell (hs1 4 (by omega) ▸ hsx 4 (by omega))
                have z5 := ovr_cell (hs1 5 (by omega) ▸ hsx 5 (by omega))
                have z6 := ovr_cell (hs1 6 (by omega) ▸ hsx 6 (by omega))
                clear hrx rx0 hsx sx0 hs1 q
                refine wp_region_below_lit (by kernel_rfl) (by kernel_rfl) ?_
                repeat (go_big_quiet_step (fail))
                refine wpQuiet_nil ?_
                intro X9 hb9
                have H9 : Hid (Below O.heap.size O X9) := H8.out.trans (hb9.mono z8)
                clear hb9 x0 x1 x2 x3 x4 x5 x6 z0 z1 z2 z3 z4 z5 z6 heq e0 g0 rr0
                go_wp2_with fail
                exact ⟨⟨k + 1, hkf, by go_num, H9.out⟩, by simp [intOf]; omega⟩
              · have f1' : decide ((k : Int) < (f1 : Int)) = false := decide_eq_false (by omega)
                have f2' : decide (k < f1) = false := decide_eq_false hf
                have f3' : decide ((f1 : Int) ≤ (k : Int)) = true := decide_eq_true (by omega)
                have f4' : decide (f1 ≤ k) = true := decide_eq_true (by omega)
                obtain ⟨e, he⟩ : ∃ e, k = f1 + e := ⟨k - f1, by omega⟩
                have hef : e < f2 := by omega
                have we : IntKind.i64.wrap ((k : Int) - (f1 : Int)) = (e : Int) := by rw [IntWalk.i64_in _ (by omega)]; omega
                have v1' : decide ((e : Int) < (f2 : Int)) = true := decide_eq_true (by omega)
                have v2' : decide (e < f2) = true := decide_eq_true hef
                have v3' : decide (0 ≤ (e : Int)) = true := decide_eq_true (by omega)
                obtain ⟨sb, so, rfl, sx0, hsx⟩ := q.2.2.2.2.1.frz hef
                have hs2 : ∀ i, i < 7 → prS m2 l2 e i = prS m l k i := fun i hi => by
                  rw [he, ← Hf1.out]
                  exact HCd.out.s2 e (by rw [Hf2.out]; exact hef) i hi
                have z0 := ovr_cell (hs2 0 (by omega) ▸ sx0)
                have z1 := ovr_cell (hs2 1 (by omega) ▸ hsx 1 (by omega))
                have z2 := ovr_cell (hs2 2 (by omega) ▸ hsx 2 (by omega))
                have z3 := ovr_cell (hs2 3 (by omega) ▸ hsx 3 (by omega))
                have z4 := ovr_cell (hs2 4 (by omega) ▸ hsx 4 (by omega))
                have z5 := ovr_cell (hs2 5 (by omega) ▸ hsx 5 (by omega))
                have z6 := ovr_cell (hs2 6 (by omega) ▸ hsx 6 (by omega))
                clear hrx rx0 hsx sx0 hs2 q he
                refine wp_region_below_lit (by kernel_rfl) (by kernel_rfl) ?_
                repeat (go_big_quiet_step (fail))
                refine wpQuiet_nil ?_
                intro X9 hb9
                have H9 : Hid (Below O.heap.size O X9) := H8.out.trans (hb9.mono z8)
                clear hb9 x0 x1 x2 x3 x4 x5 x6 z0 z1 z2 z3 z4 z5 z6 heq e0 g0 rr0
                go_wp2_with fail
                exact ⟨⟨k + 1, hkf, by go_num, H9.out⟩, by simp [intOf]; omega⟩
            · obtain rfl : k = j := by omega
              have hji : decide ((k : Int) < (k : Int)) = false := decide_eq_false (by omega)
              clear q
              go_wp2_with fail
              refine (known_any X8 (HY.out X8 HW8.out).2.2.2.1).mono ?_
              rintro e wk ⟨rfl, hbk⟩
              have HK : Hid (Below W.heap.size W wk) := Below.trans HW8.out (hbk.mono (Below.size HW8.out))
              clear hbk
              go_wp2_with fail
              go_ret
              exact ⟨rfl, (HY.out wk HK.out).2.2.2.2⟩
end Go.Proofs.YtfifdfagikbahaaDoor
