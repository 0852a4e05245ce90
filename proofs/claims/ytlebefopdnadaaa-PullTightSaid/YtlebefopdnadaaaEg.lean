/- The contracts of Top and Between of the reference. -/
import Derived.Test.YtlebefopdnadaaaDg
namespace Go.Proofs.Ytlebefopdnadaaa
open Go.RowKit
theorem peakR_bd {a up b dn : Int} (h1 : -200000000000 ≤ a ∧ a ≤ 200000000000) (h2 : -200000000000 ≤ b ∧ b ≤ 200000000000) (h3 : 0 ≤ up ∧ up ≤ 1000000) (h4 : 0 ≤ dn ∧ dn ≤ 1000000) :
    (-1000000000000000000 ≤ (peakR a up b dn).1 ∧ (peakR a up b dn).1 ≤ 1000000000000000000) ∧ 1 ≤ (peakR a up b dn).2 ∧ (peakR a up b dn).2 ≤ 2000000 := by
  have hd := peakR_den (a := a) (up := up) (b := b) (dn := dn)
  refine ⟨?_, hd, ?_⟩
  · unfold peakR
    split
    · simp only; omega
    · split
      · simp only; omega
      · obtain ⟨m1, m2⟩ := mul_ab h1.1 h1.2 h4.1 h4.2
        obtain ⟨m3, m4⟩ := mul_ab (x := b + dn) (M := 200001000000) (by omega) (by omega) h3.1 h3.2
        simp only; omega
  · unfold peakR
    split
    · simp only; omega
    · split
      · simp only; omega
      · simp only; omega
theorem fOne (a b : Int) : ∀ v ∈ (#[I a, I b] : Array Value).toList, v.oneCell' = true := by intro v hv; simp at hv; rcases hv with rfl | rfl <;> rfl
set_option maxRecDepth 100000 in
set_option maxHeartbeats 2000000 in
theorem refTop_any (A1 A2 A3 : Option Addr) (c1 c2 c3 : Nat) (p : Vec) (R : Run) (t : Nat) (w : World) (h : RunIn w A1 A2 A3 R) (hv : VRun R) (hp : VPul p) (ht : (t : Int) + 1 ≤ R.e) (a b : Kn) (ha : sdA p R (t : Int) R.ms.length = a) (hb : sdB p R ((t : Int) + 1) R.ms.length = b) :
    Calls Try.prog 65 #[.agg (ia 117 p), runV A1 A2 A3 c1 c2 c3 R, I t] w fun e w' => e = .returned (.tuple #[.agg #[I (topR p a b).1.1, I (topR p a b).1.2], .agg #[I (topR p a b).2.1, I (topR p a b).2.2]]) ∧ Below w.heap.size w w' := by
  obtain ⟨W2, hW2⟩ : ∃ W2, W2 = ((w.alloc (.cells (ia 117 p) 30)).alloc (.cells #[.slice A1 R.ss.length c1, I R.e, .slice A2 R.ms.length c2, .slice A3 R.es.length c3] 35)) := ⟨_, rfl⟩
  have T : Hid (Two w A1 A2 A3 c1 c2 c3 p R W2) := hW2 ▸ two_mk h c1 c2 c3 p
  obtain ⟨W3, hW3⟩ : ∃ W3, W3 = (W2.alloc (.cells #[I 0, I 0] 126)).alloc (.cells #[I 0, I 0] 126) := ⟨_, rfl⟩
  have B23 : Hid (Below W2.heap.size W2 W3) := by show Below _ _ _; rw [hW3]; exact ((Below.refl _ _).alloc (Nat.le_refl _) _).alloc (by simp) _
  have HW : Hid (W3 = (((w.alloc (.cells (ia 117 p) 30)).alloc (.cells #[.slice A1 R.ss.length c1, I R.e, .slice A2 R.ms.length c2, .slice A3 R.es.length c3] 35)).alloc (.cells #[I 0, I 0] 126)).alloc (.cells #[I 0, I 0] 126)) := by show _ = _; rw [hW3, hW2]
  have HR : Hid (∀ W, Le W3 W → W.heap[w.heap.size + 2]? = some (.cells #[I 0, I 0] 126 (0, 0)) ∧ W.heap[w.heap.size + 3]? = some (.cells #[I 0, I 0] 126 (0, 0))) := fun W hW =>
    ⟨(Below.block hW _ (by rw [hW3]; simp [T.out.size])).trans (by rw [hW3]; exact heap_before (heap_last _ _ _ T.out.size.symm)), (Below.block hW _ (by rw [hW3]; simp [T.out.size])).trans (by rw [hW3]; exact heap_last _ _ _ (by simp [T.out.size]))⟩
  have HU : Hid (∀ W, Le W3 W → Below w.heap.size w W ∧ w.heap.size + 4 ≤ W.heap.size) := fun W hW => ⟨T.out.up _ (B23.out.trans (Below.mono hW B23.out.size)), by have := Below.size hW; rw [hW3, World.size_alloc, World.size_alloc, T.out.size] at this; omega⟩
  have HP : Hid (∀ W, Le W3 W → ∀ j, j < 117 → W.cell? ⟨w.heap.size, j, none⟩ = some (I (p j))) := fun W hW j hj => by have := T.out.pul _ (B23.out.trans (Below.mono hW B23.out.size)) j hj; rwa [Nat.zero_add] at this
  have last := hv.last
  have hsd := sides_any A1 A2 A3 c1 c2 c3 p R (t : Int) ((t : Int) + 1) W3 (T.out.run.below B23.out) hv hp ⟨by omega, by omega⟩ ⟨by omega, by omega⟩
  rw [ha, hb] at hsd
  have Hsd := Lib.hid hsd
  have bdA := (sd_bd hv hp (t := t) (by omega)).1
  have bdB := (sd_bd hv hp (t := t + 1) (by omega)).2
  rw [ha] at bdA
  rw [show ((t + 1 : Nat) : Int) = (t : Int) + 1 by omega, hb] at bdB
  obtain ⟨⟨al1, al2⟩, ah1, ah2⟩ := bdA
  obtain ⟨⟨bl1, bl2⟩, bh1, bh2⟩ := bdB
  obtain ⟨gr1, gr2⟩ := hp.grow
  obtain ⟨sh1, sh2⟩ := hp.shrink
  have ht1 : (t : Int) ≤ 100000 := by omega
  have ht0 : (0 : Int) ≤ (t : Int) := by omega
  clear h hv hp ha hb hsd hW2 hW3 last ht
  go_enter Try.func65, Try.ntmps65
  go_wp2_with (refine wpList_load_ia rfl 30 _ rfl w.heap.size 0 rfl 117 p _ (by rw [← HW.out]; exact T.out.pul _ B23.out) Try.underlying30 rfl (by kernel_rfl) ?_)
  rw [← HW.out]
  refine Hsd.out.mono ?_
  rintro e w4 ⟨rfl, hb4⟩
  have L4 : Hid (Le W3 w4) := hb4
  clear hb4 Hsd
  obtain ⟨W5, hW5⟩ : ∃ W5, W5 = (w4.alloc (.cells (sdArr a) 122)).alloc (.cells (sdArr b) 122) := ⟨_, rfl⟩
  have L5 : Hid (Le W3 W5) := by show Le _ _; rw [hW5]; exact L4.out.trans (((Below.refl _ _).alloc (Nat.le_refl _) _).alloc (by simp) _)
  have HA : Hid (∀ W, Le W5 W → ∀ j v, (sdArr a)[j]? = some v → W.cell? ⟨w4.heap.size, j, none⟩ = some v) := fun W hW j v hj => by
    rw [Below.cell (p := ⟨_, _, none⟩) hW (by rw [hW5]; simp; omega), hW5, cell_of_row _ _ _ _ _ _ (heap_before (heap_last _ _ _ rfl))]; exact hj
  have HBc : Hid (∀ W, Le W5 W → ∀ j v, (sdArr b)[j]? = some v → W.cell? ⟨w4.heap.size + 1, j, none⟩ = some v) := fun W hW j v hj => by
    rw [Below.cell (p := ⟨_, _, none⟩) hW (by rw [hW5]; simp), hW5, cell_of_row _ _ _ _ _ _ (heap_last _ _ _ (by simp))]; exact hj
  have R5 := Lib.hid (HR.out _ L5.out)
  obtain ⟨U5, Z5⟩ := HU.out _ L5.out
  have HU5 := Lib.hid U5
  have z4 : w.heap.size + 4 ≤ w4.heap.size := (HU.out _ L4.out).2
  have HW5 := Lib.hid hW5
  have x1 := HP.out _ L5.out 110 (by omega)
  have x2 := HP.out _ L5.out 111 (by omega)
  have a0 : W5.cell? ⟨w4.heap.size, 0, none⟩ = some (.bool a.some) := HA.out _ (Le.refl _) 0 _ rfl
  have a1 : W5.cell? ⟨w4.heap.size, 1, none⟩ = some (I a.lo) := HA.out _ (Le.refl _) 1 _ rfl
  have a2 : W5.cell? ⟨w4.heap.size, 2, none⟩ = some (I a.hi) := HA.out _ (Le.refl _) 2 _ rfl
  have b0 : W5.cell? ⟨w4.heap.size + 1, 0, none⟩ = some (.bool b.some) := HBc.out _ (Le.refl _) 0 _ rfl
  have b1 : W5.cell? ⟨w4.heap.size + 1, 1, none⟩ = some (I b.lo) := HBc.out _ (Le.refl _) 1 _ rfl
  have b2 : W5.cell? ⟨w4.heap.size + 1, 2, none⟩ = some (I b.hi) := HBc.out _ (Le.refl _) 2 _ rfl
  have n1 : ¬ (fun k => k = w.heap.size + 2 ∨ k = w.heap.size + 3) w.heap.size := by show ¬ (_ ∨ _); omega
  have n2 : ¬ (fun k => k = w.heap.size + 2 ∨ k = w.heap.size + 3) w4.heap.size := by show ¬ (_ ∨ _); omega
  have n3 : ¬ (fun k => k = w.heap.size + 2 ∨ k = w.heap.size + 3) (w4.heap.size + 1) := by show ¬ (_ ∨ _); omega
  have htp : Hid (topR p a b = if a.some = false then ((b.hi + p 111, 1), (b.lo - p 110, 1)) else if b.some = false then ((a.hi + p 110, 1), (a.lo - p 111, 1))
      else (peakR a.hi (p 110) b.hi (p 111), (-(peakR (-a.lo) (p 111) (-b.lo) (p 110)).1, (peakR (-a.lo) (p 111) (-b.lo) (p 110)).2))) := rfl
  clear hW5 U5
  go_upto_region 2 with (fail)
  rw [← HW5.out]
  rcases hs : a.some with _ | _
  · have ht : Hid (topR p a b = ((b.hi + p 111, 1), (b.lo - p 110, 1))) := by show _ = _; rw [htp.out, if_pos hs]
    rw [hs] at a0
    clear hs
    have HBW := HU5
    go_wp2_with fail
    have y1 := Ex.ovx_cell (X := fun k => k = w.heap.size + 2 ∨ k = w.heap.size + 3) n1 x1
    have y2 := Ex.ovx_cell (X := fun k => k = w.heap.size + 2 ∨ k = w.heap.size + 3) n1 x2
    have u1 := Ex.ovx_cell (X := fun k => k = w.heap.size + 2 ∨ k = w.heap.size + 3) n2 a1
    have u2 := Ex.ovx_cell (X := fun k => k = w.heap.size + 2 ∨ k = w.heap.size + 3) n2 a2
    have v1 := Ex.ovx_cell (X := fun k => k = w.heap.size + 2 ∨ k = w.heap.size + 3) n3 b1
    have v2 := Ex.ovx_cell (X := fun k => k = w.heap.size + 2 ∨ k = w.heap.size + 3) n3 b2
    refine Ex.wp_region_make_two (fun k => k = w.heap.size + 2 ∨ k = w.heap.size + 3) (fun _ => none) [6, 7, 8, 9, 10, 11] (by kernel_rfl) (by kernel_rfl) (by kernel_rfl) (by kernel_rfl) (by kernel_rfl) (by intro i hi; rfl) ⟨rfl, rfl⟩ (fun c a d v w h => by cases d <;> exact h) ?_
    simp only [Ex.sleepTwo_cons, Ex.sleepTwo_two]
    repeat (refine Ex.wpG_one rfl rfl rfl ?_; intro K hK; go_big_quiet_op; go_big_quiet_on)
    refine Ex.wpG_nil (fun w5 hw5 _ => ?_)
    clear y1 y2 u1 u2 v1 v2
    obtain ⟨q8, hq8, h8⟩ := hw5.bx.shape _ _ _ _ R5.out.1
    obtain ⟨q9, hq9, h9⟩ := hw5.bx.shape _ _ _ _ R5.out.2
    intro s t hs ht
    obtain rfl := Option.some.inj hs
    obtain rfl := Option.some.inj ht
    clear hs ht
    have h9' : (w5.setRow (w.heap.size + 2) #[I (b.hi + p 111), I (1)]).heap[w.heap.size + 3]? = some (.cells q9 126 (0, 0)) := (setRow_other (by omega)).trans h9
    have hc1 := hw5.set (k := w.heap.size + 2) (Or.inl (Or.inl rfl)) h8 (cs := #[I (b.hi + p 111), I (1)]) hq8.symm
    have hc2 := hc1.set (k := w.heap.size + 3) (Or.inl (Or.inr rfl)) h9' (cs := #[I (b.lo - p 110), I (1)]) hq9.symm
    refine wp_store_row 126 _ _ rfl (w.heap.size + 2) rfl q8 _ h8 #[I (b.hi + p 111), I (1)] rfl (fOne _ _) hq8.symm (by rw [hq8]; kernel_rfl) ?_
    refine ⟨hc1, ?_⟩
    refine wp_store_row 126 _ _ rfl (w.heap.size + 3) rfl q9 _ h9' #[I (b.lo - p 110), I (1)] rfl (fOne _ _) hq9.symm (by rw [hq9]; kernel_rfl) ?_
    refine ⟨hc2, ?_⟩
    have HE8 : Hid (((w5.setRow (w.heap.size + 2) #[I (b.hi + p 111), I (1)]).setRow (w.heap.size + 3) #[I (b.lo - p 110), I (1)]).heap[w.heap.size + 2]? = some (.cells #[I (b.hi + p 111), I (1)] 126 (0, 0))) := (setRow_other (by omega)).trans (setRow_same h8)
    have HE9 : Hid (((w5.setRow (w.heap.size + 2) #[I (b.hi + p 111), I (1)]).setRow (w.heap.size + 3) #[I (b.lo - p 110), I (1)]).heap[w.heap.size + 3]? = some (.cells #[I (b.lo - p 110), I (1)] 126 (0, 0))) := setRow_same h9'
    have HEB : Hid (Below w.heap.size w ((w5.setRow (w.heap.size + 2) #[I (b.hi + p 111), I (1)]).setRow (w.heap.size + 3) #[I (b.lo - p 110), I (1)])) := hc2.bx.below HBW.out (fun k hk => by rcases hk with rfl | rfl <;> omega)
    clear hc1 hc2 h8 h9 h9' hq8 hq9 hw5
    simp only [Act.put]
    generalize (w5.setRow (w.heap.size + 2) #[I (b.hi + p 111), I (1)]).setRow (w.heap.size + 3) #[I (b.lo - p 110), I (1)] = W9 at *
    go_wp2_with fail
    refine bodyPost_ret (results_two_cells rfl _ _ (w.heap.size + 2) (w.heap.size + 3) 126 126 #[I (b.hi + p 111), I (1)] #[I (b.lo - p 110), I (1)] (0, 0) (0, 0) _ _ rfl HE8.out Try.underlying126 rfl (by kernel_rfl) rfl HE9.out Try.underlying126 rfl (by kernel_rfl)) rfl ?_
    exact ⟨by rw [ht.out], HEB.out⟩
  · have Hs := Lib.hid hs
    rw [hs] at a0
    clear hs
    rcases hs2 : b.some with _ | _
    · have ht : Hid (topR p a b = ((a.hi + p 110, 1), (a.lo - p 111, 1))) := by show _ = _; rw [htp.out, if_neg (by rw [Hs.out]; decide), if_pos hs2]
      rw [hs2] at b0
      clear hs2
      have HBW := HU5
      go_wp2_with fail
      have y1 := Ex.ovx_cell (X := fun k => k = w.heap.size + 2 ∨ k = w.heap.size + 3) n1 x1
      have y2 := Ex.ovx_cell (X := fun k => k = w.heap.size + 2 ∨ k = w.heap.size + 3) n1 x2
      have u1 := Ex.ovx_cell (X := fun k => k = w.heap.size + 2 ∨ k = w.heap.size + 3) n2 a1
      have u2 := Ex.ovx_cell (X := fun k => k = w.heap.size + 2 ∨ k = w.heap.size + 3) n2 a2
      have v1 := Ex.ovx_cell (X := fun k => k = w.heap.size + 2 ∨ k = w.heap.size + 3) n3 b1
      have v2 := Ex.ovx_cell (X := fun k => k = w.heap.size + 2 ∨ k = w.heap.size + 3) n3 b2
      refine Ex.wp_region_make_two (fun k => k = w.heap.size + 2 ∨ k = w.heap.size + 3) (fun _ => none) [6, 7, 8, 9, 10, 11] (by kernel_rfl) (by kernel_rfl) (by kernel_rfl) (by kernel_rfl) (by kernel_rfl) (by intro i hi; rfl) ⟨rfl, rfl⟩ (fun c a d v w h => by cases d <;> exact h) ?_
      simp only [Ex.sleepTwo_cons, Ex.sleepTwo_two]
      repeat (refine Ex.wpG_one rfl rfl rfl ?_; intro K hK; go_big_quiet_op; go_big_quiet_on)
      refine Ex.wpG_nil (fun w5 hw5 _ => ?_)
      clear y1 y2 u1 u2 v1 v2
      obtain ⟨q8, hq8, h8⟩ := hw5.bx.shape _ _ _ _ R5.out.1
      obtain ⟨q9, hq9, h9⟩ := hw5.bx.shape _ _ _ _ R5.out.2
      intro s t hs ht
      obtain rfl := Option.some.inj hs
      obtain rfl := Option.some.inj ht
      clear hs ht
      have h9' : (w5.setRow (w.heap.size + 2) #[I (a.hi + p 110), I (1)]).heap[w.heap.size + 3]? = some (.cells q9 126 (0, 0)) := (setRow_other (by omega)).trans h9
      have hc1 := hw5.set (k := w.heap.size + 2) (Or.inl (Or.inl rfl)) h8 (cs := #[I (a.hi + p 110), I (1)]) hq8.symm
      have hc2 := hc1.set (k := w.heap.size + 3) (Or.inl (Or.inr rfl)) h9' (cs := #[I (a.lo - p 111), I (1)]) hq9.symm
      refine wp_store_row 126 _ _ rfl (w.heap.size + 2) rfl q8 _ h8 #[I (a.hi + p 110), I (1)] rfl (fOne _ _) hq8.symm (by rw [hq8]; kernel_rfl) ?_
      refine ⟨hc1, ?_⟩
      refine wp_store_row 126 _ _ rfl (w.heap.size + 3) rfl q9 _ h9' #[I (a.lo - p 111), I (1)] rfl (fOne _ _) hq9.symm (by rw [hq9]; kernel_rfl) ?_
      refine ⟨hc2, ?_⟩
      have HE8 : Hid (((w5.setRow (w.heap.size + 2) #[I (a.hi + p 110), I (1)]).setRow (w.heap.size + 3) #[I (a.lo - p 111), I (1)]).heap[w.heap.size + 2]? = some (.cells #[I (a.hi + p 110), I (1)] 126 (0, 0))) := (setRow_other (by omega)).trans (setRow_same h8)
      have HE9 : Hid (((w5.setRow (w.heap.size + 2) #[I (a.hi + p 110), I (1)]).setRow (w.heap.size + 3) #[I (a.lo - p 111), I (1)]).heap[w.heap.size + 3]? = some (.cells #[I (a.lo - p 111), I (1)] 126 (0, 0))) := setRow_same h9'
      have HEB : Hid (Below w.heap.size w ((w5.setRow (w.heap.size + 2) #[I (a.hi + p 110), I (1)]).setRow (w.heap.size + 3) #[I (a.lo - p 111), I (1)])) := hc2.bx.below HBW.out (fun k hk => by rcases hk with rfl | rfl <;> omega)
      clear hc1 hc2 h8 h9 h9' hq8 hq9 hw5
      simp only [Act.put]
      generalize (w5.setRow (w.heap.size + 2) #[I (a.hi + p 110), I (1)]).setRow (w.heap.size + 3) #[I (a.lo - p 111), I (1)] = W9 at *
      go_wp2_with fail
      refine bodyPost_ret (results_two_cells rfl _ _ (w.heap.size + 2) (w.heap.size + 3) 126 126 #[I (a.hi + p 110), I (1)] #[I (a.lo - p 111), I (1)] (0, 0) (0, 0) _ _ rfl HE8.out Try.underlying126 rfl (by kernel_rfl) rfl HE9.out Try.underlying126 rfl (by kernel_rfl)) rfl ?_
      exact ⟨by rw [ht.out], HEB.out⟩
    · have ht : Hid (topR p a b = (peakR a.hi (p 110) b.hi (p 111), (-(peakR (-a.lo) (p 111) (-b.lo) (p 110)).1, (peakR (-a.lo) (p 111) (-b.lo) (p 110)).2))) := by show _ = _; rw [htp.out, if_neg (by rw [Hs.out]; decide), if_neg (by rw [hs2]; decide)]
      rw [hs2] at b0
      clear hs2
      have HP1 : Hid (∀ W, Calls Try.prog 90 #[I (-a.lo), I (p 111), I (-b.lo), I (p 110)] W fun e w' => e = .returned (.agg #[I (peakR (-a.lo) (p 111) (-b.lo) (p 110)).1, I (peakR (-a.lo) (p 111) (-b.lo) (p 110)).2]) ∧ Below W.heap.size W w') := fun W => refPeak_any _ _ _ _ W ⟨by omega, by omega⟩ ⟨by omega, by omega⟩ ⟨sh1, sh2⟩ ⟨gr1, gr2⟩
      have HP2 : Hid (∀ W, Calls Try.prog 90 #[I a.hi, I (p 110), I b.hi, I (p 111)] W fun e w' => e = .returned (.agg #[I (peakR a.hi (p 110) b.hi (p 111)).1, I (peakR a.hi (p 110) b.hi (p 111)).2]) ∧ Below W.heap.size W w') := fun W => refPeak_any _ _ _ _ W ⟨by omega, by omega⟩ ⟨by omega, by omega⟩ ⟨gr1, gr2⟩ ⟨sh1, sh2⟩
      have hpb := peakR_bd (a := -a.lo) (up := p 111) (b := -b.lo) (dn := p 110) ⟨by omega, by omega⟩ ⟨by omega, by omega⟩ ⟨sh1, sh2⟩ ⟨gr1, gr2⟩
      generalize peakR (-a.lo) (p 111) (-b.lo) (p 110) = pl at *
      generalize peakR a.hi (p 110) b.hi (p 111) = ph at *
      obtain ⟨⟨pl1, pl2⟩, _, _⟩ := hpb
      go_wp2_with fail
      refine (HP1.out W5).mono ?_
      rintro e w6 ⟨rfl, hb6⟩
      have L6 : Hid (Le W5 w6) := hb6
      clear hb6 x1 x2 a0 a1 a2 b0 b1 b2 HP1
      obtain ⟨W7, hW7⟩ : ∃ W7, W7 = w6.alloc (.cells #[I pl.1, I pl.2] 126) := ⟨_, rfl⟩
      have L7 : Hid (Le W5 W7) := by show Le _ _; rw [hW7]; exact L6.out.trans ((Below.refl _ _).alloc (Nat.le_refl _) _)
      have c0 : W7.cell? ⟨w6.heap.size, 0, none⟩ = some (I pl.1) := by rw [hW7, cell_of_row _ _ _ _ _ _ (heap_last _ _ _ rfl)]; rfl
      have c1' : W7.cell? ⟨w6.heap.size, 1, none⟩ = some (I pl.2) := by rw [hW7, cell_of_row _ _ _ _ _ _ (heap_last _ _ _ rfl)]; rfl
      have HW7 := Lib.hid hW7
      have z6 : w.heap.size + 4 ≤ w6.heap.size := (HU.out _ (L5.out.trans L6.out)).2
      have n4 : ¬ (fun k => k = w.heap.size + 2 ∨ k = w.heap.size + 3) w6.heap.size := by show ¬ (_ ∨ _); omega
      have x1 := HP.out _ (L5.out.trans L7.out) 110 (by omega)
      have x2 := HP.out _ (L5.out.trans L7.out) 111 (by omega)
      have a1 : W7.cell? ⟨w4.heap.size, 1, none⟩ = some (I a.lo) := HA.out _ L7.out 1 _ rfl
      have a2 : W7.cell? ⟨w4.heap.size, 2, none⟩ = some (I a.hi) := HA.out _ L7.out 2 _ rfl
      have b1 : W7.cell? ⟨w4.heap.size + 1, 1, none⟩ = some (I b.lo) := HBc.out _ L7.out 1 _ rfl
      have b2 : W7.cell? ⟨w4.heap.size + 1, 2, none⟩ = some (I b.hi) := HBc.out _ L7.out 2 _ rfl
      have R5 := Lib.hid (HR.out _ (L5.out.trans L7.out))
      have HBW := Lib.hid (HU.out _ (L5.out.trans L7.out)).1
      clear hW7
      go_upto_region 7 with (fail)
      rw [← HW7.out]
      have y1 := Ex.ovx_cell (X := fun k => k = w.heap.size + 2 ∨ k = w.heap.size + 3) n1 x1
      have y2 := Ex.ovx_cell (X := fun k => k = w.heap.size + 2 ∨ k = w.heap.size + 3) n1 x2
      have u1 := Ex.ovx_cell (X := fun k => k = w.heap.size + 2 ∨ k = w.heap.size + 3) n2 a1
      have u2 := Ex.ovx_cell (X := fun k => k = w.heap.size + 2 ∨ k = w.heap.size + 3) n2 a2
      have v1 := Ex.ovx_cell (X := fun k => k = w.heap.size + 2 ∨ k = w.heap.size + 3) n3 b1
      have v2 := Ex.ovx_cell (X := fun k => k = w.heap.size + 2 ∨ k = w.heap.size + 3) n3 b2
      have t1 := Ex.ovx_cell (X := fun k => k = w.heap.size + 2 ∨ k = w.heap.size + 3) n4 c0
      have t2 := Ex.ovx_cell (X := fun k => k = w.heap.size + 2 ∨ k = w.heap.size + 3) n4 c1'
      refine Ex.wp_region_make_two (fun k => k = w.heap.size + 2 ∨ k = w.heap.size + 3) (fun j => if j = 8 then some (fun u _ => u = .agg #[I ph.1, I ph.2]) else none) [9, 10, 11, 12, 13, 14] (by kernel_rfl) (by kernel_rfl) (by kernel_rfl) (by kernel_rfl) (by kernel_rfl) (by intro i hi; simp at hi; rcases hi with rfl | rfl | rfl | rfl | rfl | rfl <;> rfl) ⟨rfl, rfl⟩ (fun c a d v w h => by cases d <;> exact h) ?_
      simp only [Ex.sleepTwo_cons, Ex.sleepTwo_two]
      repeat (refine Ex.wpG_one rfl rfl rfl ?_; intro K hK; go_big_quiet_op; go_big_quiet_on)
      refine Ex.wpG_make (fun u _ => u = .agg #[I ph.1, I ph.2]) rfl rfl (fun w' hw' _ => ?_) (fun u hu => ?_)
      · go_simp
        exact call_grow (HP2.out w')
      obtain ⟨_, _, rfl⟩ := hu
      simp only [Act.put, List.setIfInBounds_toArray, List.set_cons_zero, List.set_cons_succ]
      repeat (refine Ex.wpG_one rfl rfl rfl ?_; intro K hK; go_big_quiet_op; go_big_quiet_on)
      refine Ex.wpG_nil (fun w5 hw5 _ => ?_)
      clear y1 y2 u1 u2 v1 v2 t1 t2
      obtain ⟨q8, hq8, h8⟩ := hw5.bx.shape _ _ _ _ R5.out.1
      obtain ⟨q9, hq9, h9⟩ := hw5.bx.shape _ _ _ _ R5.out.2
      intro s t hs ht
      obtain rfl := Option.some.inj hs
      obtain rfl := Option.some.inj ht
      clear hs ht
      have h9' : (w5.setRow (w.heap.size + 2) #[I (ph.1), I (ph.2)]).heap[w.heap.size + 3]? = some (.cells q9 126 (0, 0)) := (setRow_other (by omega)).trans h9
      have hc1 := hw5.set (k := w.heap.size + 2) (Or.inl (Or.inl rfl)) h8 (cs := #[I (ph.1), I (ph.2)]) hq8.symm
      have hc2 := hc1.set (k := w.heap.size + 3) (Or.inl (Or.inr rfl)) h9' (cs := #[I (-pl.1), I (pl.2)]) hq9.symm
      refine wp_store_row 126 _ _ rfl (w.heap.size + 2) rfl q8 _ h8 #[I (ph.1), I (ph.2)] rfl (fOne _ _) hq8.symm (by rw [hq8]; kernel_rfl) ?_
      refine ⟨hc1, ?_⟩
      refine wp_store_row 126 _ _ rfl (w.heap.size + 3) rfl q9 _ h9' #[I (-pl.1), I (pl.2)] rfl (fOne _ _) hq9.symm (by rw [hq9]; kernel_rfl) ?_
      refine ⟨hc2, ?_⟩
      have HE8 : Hid (((w5.setRow (w.heap.size + 2) #[I (ph.1), I (ph.2)]).setRow (w.heap.size + 3) #[I (-pl.1), I (pl.2)]).heap[w.heap.size + 2]? = some (.cells #[I (ph.1), I (ph.2)] 126 (0, 0))) := (setRow_other (by omega)).trans (setRow_same h8)
      have HE9 : Hid (((w5.setRow (w.heap.size + 2) #[I (ph.1), I (ph.2)]).setRow (w.heap.size + 3) #[I (-pl.1), I (pl.2)]).heap[w.heap.size + 3]? = some (.cells #[I (-pl.1), I (pl.2)] 126 (0, 0))) := setRow_same h9'
      have HEB : Hid (Below w.heap.size w ((w5.setRow (w.heap.size + 2) #[I (ph.1), I (ph.2)]).setRow (w.heap.size + 3) #[I (-pl.1), I (pl.2)])) := hc2.bx.below HBW.out (fun k hk => by rcases hk with rfl | rfl <;> omega)
      clear hc1 hc2 h8 h9 h9' hq8 hq9 hw5
      simp only [Act.put]
      generalize (w5.setRow (w.heap.size + 2) #[I (ph.1), I (ph.2)]).setRow (w.heap.size + 3) #[I (-pl.1), I (pl.2)] = W9 at *
      go_wp2_with fail
      refine bodyPost_ret (results_two_cells rfl _ _ (w.heap.size + 2) (w.heap.size + 3) 126 126 #[I (ph.1), I (ph.2)] #[I (-pl.1), I (pl.2)] (0, 0) (0, 0) _ _ rfl HE8.out Try.underlying126 rfl (by kernel_rfl) rfl HE9.out Try.underlying126 rfl (by kernel_rfl)) rfl ?_
      exact ⟨by rw [ht.out], HEB.out⟩
theorem topR_bd {p : Vec} {a b : Kn} (hp : VPul p) (ha : knIn 200000000000 a) (hb : knIn 200000000000 b) : ((-1000000000000000000 ≤ (topR p a b).1.1 ∧ (topR p a b).1.1 ≤ 1000000000000000000) ∧ 1 ≤ (topR p a b).1.2 ∧ (topR p a b).1.2 ≤ 2000000) ∧ ((-1000000000000000000 ≤ (topR p a b).2.1 ∧ (topR p a b).2.1 ≤ 1000000000000000000) ∧ 1 ≤ (topR p a b).2.2 ∧ (topR p a b).2.2 ≤ 2000000) := by
  obtain ⟨⟨al1, al2⟩, ah1, ah2⟩ := ha
  obtain ⟨⟨bl1, bl2⟩, bh1, bh2⟩ := hb
  have g := hp.grow
  have s := hp.shrink
  unfold topR
  split
  · simp only; omega
  · split
    · simp only; omega
    · have h1 := peakR_bd (a := a.hi) (up := p 110) (b := b.hi) (dn := p 111) ⟨ah1, ah2⟩ ⟨bh1, bh2⟩ g s
      have h2 := peakR_bd (a := -a.lo) (up := p 111) (b := -b.lo) (dn := p 110) ⟨by omega, by omega⟩ ⟨by omega, by omega⟩ s g
      simp only
      omega
theorem div_bd {n d M : Int} (h1 : 1 ≤ d) (h2 : -M ≤ n) (h3 : n ≤ M) : -M ≤ n / d ∧ n / d ≤ M := by
  have a1 := Int.mul_ediv_self_le (x := n) (k := d) (by omega)
  have a2 := Int.lt_mul_ediv_self_add (x := n) (k := d) (by omega)
  constructor
  · rcases Int.lt_or_le n 0 with hq | hq
    · rcases Int.lt_or_le (n / d) n with hr | hr
      · have := Int.mul_le_mul_of_nonneg_right h1 (show 0 ≤ -(n / d) - 1 by omega)
        rw [Int.one_mul, Int.mul_sub, Int.mul_neg, Int.mul_one] at this
        omega
      · omega
    · have := Int.ediv_nonneg hq (show 0 ≤ d by omega)
      omega
  · rcases Int.lt_or_le n 0 with hq | hq
    · have := Int.ediv_neg_of_neg_of_pos hq (show 0 < d by omega)
      omega
    · have := Int.ediv_le_self d hq
      omega
set_option maxRecDepth 100000 in
set_option maxHeartbeats 2000000 in
theorem refBet_any (A1 A2 A3 : Option Addr) (c1 c2 c3 : Nat) (p : Vec) (R : Run) (t : Nat) (w : World) (h : RunIn w A1 A2 A3 R) (hv : VRun R) (hp : VPul p) (ht : (t : Int) + 1 ≤ R.e) :
    Calls Try.prog 32 #[.agg (ia 117 p), runV A1 A2 A3 c1 c2 c3 R, I t] w fun e w' => e = .returned (.agg #[I (fromK p R t).lo, I (fromK p R t).hi]) ∧ Below w.heap.size w w' := by
  obtain ⟨W2, hW2⟩ : ∃ W2, W2 = ((w.alloc (.cells (ia 117 p) 30)).alloc (.cells #[.slice A1 R.ss.length c1, I R.e, .slice A2 R.ms.length c2, .slice A3 R.es.length c3] 35)) := ⟨_, rfl⟩
  have T : Hid (Two w A1 A2 A3 c1 c2 c3 p R W2) := hW2 ▸ two_mk h c1 c2 c3 p
  obtain ⟨W3, hW3⟩ : ∃ W3, W3 = W2.alloc (.cells #[I 0, I 0] 23) := ⟨_, rfl⟩
  have B23 : Hid (Below W2.heap.size W2 W3) := by show Below _ _ _; rw [hW3]; exact (Below.refl _ _).alloc (Nat.le_refl _) _
  have HW : Hid (W3 = ((w.alloc (.cells (ia 117 p) 30)).alloc (.cells #[.slice A1 R.ss.length c1, I R.e, .slice A2 R.ms.length c2, .slice A3 R.es.length c3] 35)).alloc (.cells #[I 0, I 0] 23)) := by show _ = _; rw [hW3, hW2]
  have HR : Hid (∀ W, Le W3 W → W.heap[w.heap.size + 2]? = some (.cells #[I 0, I 0] 23 (0, 0))) := fun W hW => (Below.block hW _ (by rw [hW3]; simp [T.out.size])).trans (by rw [hW3]; exact heap_last _ _ _ T.out.size.symm)
  have HU : Hid (∀ W, Le W3 W → Below w.heap.size w W) := fun W hW => T.out.up _ (B23.out.trans (Below.mono hW B23.out.size))
  have htop := refTop_any A1 A2 A3 c1 c2 c3 p R t W3 (T.out.run.below B23.out) hv hp ht _ _ rfl rfl
  have hbet := bet_ref hv hp ht
  have bdA := (sd_bd hv hp (t := t) (by omega)).1
  have bdB := (sd_bd hv hp (t := t + 1) (by omega)).2
  rw [show ((t + 1 : Nat) : Int) = (t : Int) + 1 by omega] at bdB
  have htb := topR_bd hp bdA bdB
  generalize sdA p R (t : Int) R.ms.length = a at *
  generalize sdB p R ((t : Int) + 1) R.ms.length = b at *
  have Hlo : Hid ((topR p a b).2.1 / (topR p a b).2.2 = (fromK p R t).lo) := by show _ = _; exact congrArg Rng.lo hbet
  have Hhi : Hid (-((-(topR p a b).1.1) / (topR p a b).1.2) = (fromK p R t).hi) := by show _ = _; exact congrArg Rng.hi hbet
  have Htop := Lib.hid htop
  generalize topR p a b = tp at *
  obtain ⟨⟨hn, hd⟩, ln, ld⟩ := tp
  simp only at htb Hlo Hhi Htop
  obtain ⟨⟨⟨q1, q2⟩, q3, q4⟩, ⟨q5, q6⟩, q7, q8⟩ := htb
  obtain ⟨m1, m2⟩ := div_bd (M := 1000000000000000000) q7 q5 q6
  obtain ⟨m3, m4⟩ := div_bd (M := 1000000000000000000) q3 (show -1000000000000000000 ≤ -hn by omega) (show -hn ≤ 1000000000000000000 by omega)
  clear h hv hp ht htop hbet bdA bdB hW2 hW3
  go_enter Try.func32, Try.ntmps32
  go_wp2_with (refine wpList_load_ia rfl 30 _ rfl w.heap.size 0 rfl 117 p _ (by rw [← HW.out]; exact T.out.pul _ B23.out) Try.underlying30 rfl (by kernel_rfl) ?_)
  rw [← HW.out]
  refine Htop.out.mono ?_
  rintro e w4 ⟨rfl, hb4⟩
  have L4 : Hid (Le W3 w4) := hb4
  clear hb4 Htop
  obtain ⟨W5, hW5⟩ : ∃ W5, W5 = (w4.alloc (.cells #[I hn, I hd] 126)).alloc (.cells #[I ln, I ld] 126) := ⟨_, rfl⟩
  have L5 : Hid (Le W3 W5) := by show Le _ _; rw [hW5]; exact L4.out.trans (((Below.refl _ _).alloc (Nat.le_refl _) _).alloc (by simp) _)
  have a0 : W5.cell? ⟨w4.heap.size, 0, none⟩ = some (I hn) := by rw [hW5, cell_of_row _ _ _ _ _ _ (heap_before (heap_last _ _ _ rfl))]; rfl
  have a1 : W5.cell? ⟨w4.heap.size, 1, none⟩ = some (I hd) := by rw [hW5, cell_of_row _ _ _ _ _ _ (heap_before (heap_last _ _ _ rfl))]; rfl
  have b0 : W5.cell? ⟨w4.heap.size + 1, 0, none⟩ = some (I ln) := by rw [hW5, cell_of_row _ _ _ _ _ _ (heap_last _ _ _ (by simp))]; rfl
  have b1 : W5.cell? ⟨w4.heap.size + 1, 1, none⟩ = some (I ld) := by rw [hW5, cell_of_row _ _ _ _ _ _ (heap_last _ _ _ (by simp))]; rfl
  have HW5 := Lib.hid hW5
  clear hW5
  go_upto_region 2 with (fail)
  rw [← HW5.out]
  have y0 := ovr_cell a0
  have y1 := ovr_cell a1
  have y2 := ovr_cell b0
  have y3 := ovr_cell b1
  refine wp_region_below_last (by kernel_rfl) (by kernel_rfl) (by kernel_rfl) ?_
  simp only [skipLast_two, skipLast_one, lastOf_two, lastOf_one]
  repeat (go_big_quiet_step ((go_at_call 66; exact call_below (down_any _ _ _ ⟨by omega, by omega⟩ ⟨by omega, by omega⟩))))
  refine wpQuiet_nil ?_
  intro w6 hb6
  have hr6 := HR.out _ (L5.out.trans hb6)
  have Hr6 := Lib.hid hr6
  have HU6 := Lib.hid (HU.out _ (L5.out.trans hb6))
  clear y0 y1 y2 y3 a0 a1 b0 b1 hb6 hr6
  refine wp_store_row 23 _ _ rfl (w.heap.size + 2) rfl _ _ Hr6.out #[I (ln / ld), I (-(-hn / hd))] rfl (two2 _ _) rfl (by kernel_rfl) ?_
  go_wp2
  refine bodyPost_ret (results_cell_only rfl _ _ (w.heap.size + 2) 23 #[I (ln / ld), I (-(-hn / hd))] (0, 0) _ rfl (setRow_same Hr6.out) Try.underlying23 rfl (by kernel_rfl)) rfl ?_
  exact ⟨ret2_eq Hlo.out Hhi.out, below_setRow HU6.out (by omega) _⟩
end Go.Proofs.Ytlebefopdnadaaa
