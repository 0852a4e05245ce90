/- The contracts of stopped and Obeys of package pull. -/
import Derived.Test.YtbojgcaehlapiaaPha
namespace Go.Proofs.Ytbojgcaehlapiaa
open Go.RowKit
def stB (at_ gr : Int) (q : Pce) : Bool := decide (0 < q.s.v 0) && decide (at_ + gr < q.e)
set_option maxHeartbeats 400000 in
theorem stopped1_any (q : Pce) (at_ gr : Int) (ab pb : Nat) (w : World) (ha : w.cell? ⟨ab, 0, none⟩ = some (I at_)) (hg : w.cell? ⟨pb, 116, none⟩ = some (I gr)) (h1 : -10 ≤ at_ ∧ at_ ≤ 10000000) (h2 : 0 ≤ gr ∧ gr ≤ 10000000) :
    Calls Try.prog 59 #[q.val, .pointer (some ⟨ab, 0, none⟩), .pointer (some ⟨pb, 0, none⟩)] w fun e w' => e = .returned (.bool (stB at_ gr q)) ∧ Below w.heap.size w w' := by
  have hfin : Hid (stB at_ gr q = (decide (0 < q.s.v 0) && decide (at_ + gr < q.e))) := rfl
  have hal := block_lt_of_cell ha
  have hgl := block_lt_of_cell hg
  obtain ⟨g1, g2⟩ := h1
  obtain ⟨g3, g4⟩ := h2
  go_enter Try.func59, Try.ntmps59
  go_wp2_with fail
  refine (rate_any q _).mono ?_
  rintro e w1 ⟨rfl, hb1⟩
  have x0 : w1.cell? ⟨ab, 0, none⟩ = some (I at_) := (hb1.cell (p := ⟨_, _, none⟩) (by simp; omega)).trans (by rw [World.cell?_alloc_past _ _ _ hal]; exact ha)
  have x1 : w1.cell? ⟨pb, 116, none⟩ = some (I gr) := (hb1.cell (p := ⟨_, _, none⟩) (by simp; omega)).trans (by rw [World.cell?_alloc_past _ _ _ hgl]; exact hg)
  have x2 : w1.cell? ⟨w.heap.size, 8, none⟩ = some (I q.e) := (hb1.cell (p := ⟨_, _, none⟩) (by simp)).trans (by simp)
  clear ha hg
  go_wp2_with fail
  all_goals
    go_ret
    exact ⟨bor (by rw [hfin.out]; first | (simp [*]; done) | (simp [*]; omega)), under2 hb1⟩
/-- A call that hands back whether there is a breach, and which. -/
def RetB2 (w : World) (o : Option Brk) (e : Ending) (w' : World) : Prop := ∃ b : Brk, e = .returned (.tuple #[b.val, .bool o.isSome]) ∧ (∀ x, o = some x → b = x) ∧ Below w.heap.size w w'
theorem RetB2.of {w w' : World} {o : Option Brk} {e : Ending} (h : RetB w o e w') : RetB2 w o e w' := ⟨brOf o, h.1, fun x hx => by rw [hx]; rfl, h.2⟩
def stopBr (p : Vec) (R : Run) : Option Brk :=
  if (stopF p R).2 = 0 then none else if 0 ≤ ixOf (stB (stopF p R).1 (p 116)) (pcs R) then some ⟨6, ixOf (stB (stopF p R).1 (p 116)) (pcs R), 0⟩ else none
theorem stopF_bd {p : Vec} {R : Run} (hv : VRun R) (hp : VPul p) : -1 ≤ (stopF p R).1 ∧ (stopF p R).1 ≤ 200000 := by
  have h0 : -1 ≤ (stop0 R).1 ∧ (stop0 R).1 ≤ 100000 := by
    unfold stop0
    split
    · rename_i h
      have h2 := ixOf_lt lostB R.es
      have := hv.et (ixOf lostB R.es).toNat (by omega)
      have := hv.last
      simp; omega
    · simp
  unfold stopF
  simp only
  split
  · rename_i h
    split
    · have h2 := ixOf_lt (longB (p 115)) (strs R 4 5)
      have hin := at0_in (l := strs R 4 5) (k := (ixOf (longB (p 115)) (strs R 4 5)).toNat) (by omega)
      have := strs_bd hv 4 5 _ hin
      have := strs_lo hv 4 5 _ hin
      have := hv.last
      have := hp.hold
      simp; omega
    · omega
  · omega
theorem ix_pc2' (A : Option Addr) (n c : Nat) (a1 a2 : Value) (xs : List Pce) (f : Pce → Bool) (w : World) (hn : n = xs.length) (hm : n ≤ maxLen) (hx : Rd w w.heap.size 10 A n (rP xs))
    (hf : ∀ k, k < xs.length → ∀ W, Below w.heap.size w W → Calls Try.prog 59 #[(at0 xs k).val, a1, a2] W fun e w' => e = .returned (.bool (f (at0 xs k))) ∧ Below W.heap.size W w') :
    Calls Try.prog 56 #[.slice A n c, .func (Fn.func 59) #[] #[a1, a2]] w fun e w' => e = .returned (.int .i64 (ixOf f xs)) ∧ Below w.heap.size w w' := by
  subst hn
  exact ix_pc2 A c a1 a2 xs f w hm hx hf
set_option maxRecDepth 100000 in
set_option maxHeartbeats 1000000 in
theorem stopped_any (A1 A2 A3 A : Option Addr) (c1 c2 c3 n c : Nat) (p : Vec) (R : Run) (w : World) (h : RunIn w A1 A2 A3 R) (hv : VRun R) (hp : VPul p) (hn : n = R.ss.length) (hx : Rd w w.heap.size 10 A n (rP (pcs R))) :
    Calls Try.prog 29 #[.agg (ia 117 p), runV A1 A2 A3 c1 c2 c3 R, .slice A n c] w (RetB2 w (stopBr p R)) := by
  obtain ⟨W2, hW2⟩ : ∃ W2, W2 = ((w.alloc (.cells (ia 117 p) 30)).alloc (.cells #[.slice A1 R.ss.length c1, I R.e, .slice A2 R.ms.length c2, .slice A3 R.es.length c3] 48)) := ⟨_, rfl⟩
  have T : Hid (Two w A1 A2 A3 c1 c2 c3 p R W2) := hW2 ▸ two_mk h c1 c2 c3 p
  have HW := Lib.hid hW2
  have Hv := Lib.hid hv
  have Hp := Lib.hid hp
  have Hn := Lib.hid hn
  have Hx := Lib.hid hx
  have hbd := stopF_bd hv hp
  have hgr := hp.grace
  have hn60 : n ≤ 60 := by rw [hn]; exact hv.n60
  obtain ⟨W3, hW3⟩ : ∃ W3, W3 = W2.alloc (.cells #[I 0, I 0, I 0] 53) := ⟨_, rfl⟩
  have B23 : Below W2.heap.size W2 W3 := by rw [hW3]; exact (Below.refl _ _).alloc (Nat.le_refl _) _
  have HR3 : Hid (RunIn W3 A1 A2 A3 R) := T.out.run.below B23
  have HRes : Hid (W3.heap[w.heap.size + 2]? = some (.cells #[I 0, I 0, I 0] 53 (0, 0))) := by show W3.heap[_]? = _; rw [hW3]; exact heap_last _ _ _ T.out.size.symm
  have HP3 : Hid (∀ j, j < 117 → W3.cell? ⟨w.heap.size, 0 + j, none⟩ = some (I (p j))) := T.out.pul _ B23
  have x0 := T.out.r0 _ B23
  have x1 := T.out.r1 _ B23
  have x2 := T.out.r2 _ B23
  have x3 := T.out.r3 _ B23
  have hz3 : W3.heap.size = w.heap.size + 3 := by rw [hW3, World.size_alloc, T.out.size]
  have Hz3 := Lib.hid hz3
  have HW3 := Lib.hid hW3
  have HB23 := Lib.hid B23
  clear h hv hp hn hx hW2 hW3 hz3 B23
  go_enter Try.func29, Try.ntmps29
  go_wp2_with (refine wpList_load_ia rfl 30 _ rfl w.heap.size 0 rfl 117 p _ (by rw [← HW.out, ← HW3.out]; exact HP3.out) Try.underlying30 rfl (by kernel_rfl) ?_)
  rw [← HW.out, ← HW3.out]
  go_wp2_with fail
  simp only [show w.heap.size + 1 + 1 = w.heap.size + 2 from rfl]
  refine (stop_any A1 A2 A3 c1 c2 c3 p R _ HR3.out Hv.out Hp.out.hold).mono ?_
  rintro e w4 ⟨rfl, hb4⟩
  have hz4 : w.heap.size + 3 ≤ w4.heap.size := by have := hb4.size; rw [Hz3.out] at this; exact this
  have hres4 : w4.heap[w.heap.size + 2]? = some (.cells #[I 0, I 0, I 0] 53 (0, 0)) := (hb4.block _ (by rw [Hz3.out]; omega)).trans HRes.out
  have Hres4 := Lib.hid hres4
  have hB4 : Below W2.heap.size W2 w4 := HB23.out.trans (hb4.mono HB23.out.size)
  clear x0 x1 x2 x3 hres4
  obtain ⟨s1, s2⟩ := hbd
  by_cases hk : (stopF p R).2 = 0
  · have hk' : ((stopF p R).2 == 0) = true := by simpa using hk
    have hnone : Hid (stopBr p R = none) := by show _ = _; rw [stopBr, if_pos hk]
    clear hk
    go_wp2_with (refine wpList_store_row rfl 53 _ _ rfl (w.heap.size + 2) rfl #[I 0, I 0, I 0] _ (heap_before Hres4.out) #[I 0, I 0, I 0] rfl (one3 _ _ _) rfl (by kernel_rfl) ?_)
    refine bodyPost_ret (results_cell_tmp rfl _ _ (w.heap.size + 2) 53 #[I 0, I 0, I 0] (0, 0) _ rfl (setRow_same (heap_before Hres4.out)) Try.underlying53 rfl (by kernel_rfl)) rfl ?_
    exact ⟨⟨0, 0, 0⟩, by rw [hnone.out]; rfl, fun x hx => (by rw [hnone.out] at hx; cases hx), below_setRow ((T.out.up _ hB4).alloc (by omega) _) (by omega) _⟩
  · have hk' : ((stopF p R).2 == 0) = false := by simpa using hk
    go_wp2_with fail
    refine (ix_pc2' _ _ _ _ _ (pcs R) (stB (stopF p R).1 (p 116)) _ (by rw [pcs_len]; exact Hn.out) (by unfold maxLen; omega) ((Hx.out.below ((T.out.up _ hB4).alloc (T.out.up _ hB4).size _)).more (by simp; omega)) ?_).mono ?_
    · intro k _ W hW
      refine stopped1_any _ _ _ w4.heap.size w.heap.size W ?_ ?_ ⟨by omega, by omega⟩ ⟨hgr.1, by omega⟩
      · exact (hW.cell (p := ⟨_, _, none⟩) (by simp)).trans (by simp)
      · have := T.out.pul W (hB4.trans (((Below.refl _ _).alloc (Nat.le_refl _) _).trans (hW.mono (by simp)) |>.mono hB4.size)) 116 (by omega)
        rwa [Nat.zero_add] at this
    rintro e w5 ⟨rfl, hb5⟩
    have hB5 : Below W2.heap.size W2 w5 := hB4.trans (((Below.refl _ _).alloc (Nat.le_refl _) _).trans (hb5.mono (by simp)) |>.mono hB4.size)
    have hres5 : w5.heap[w.heap.size + 2]? = some (.cells #[I 0, I 0, I 0] 53 (0, 0)) := (hb5.block _ (by simp; omega)).trans (heap_before Hres4.out)
    have Hres5 := Lib.hid hres5
    clear hres5
    have hsb : Hid (stopBr p R = if 0 ≤ ixOf (stB (stopF p R).1 (p 116)) (pcs R) then some ⟨6, ixOf (stB (stopF p R).1 (p 116)) (pcs R), 0⟩ else none) := by show _ = _; rw [stopBr, if_neg hk]
    generalize ixOf (stB (stopF p R).1 (p 116)) (pcs R) = ix at *
    go_wp2_with (refine wpList_store_row rfl 53 _ _ rfl (w.heap.size + 2) rfl #[I 0, I 0, I 0] _ Hres5.out #[I 6, I ix, I 0] rfl (one3 _ _ _) rfl (by kernel_rfl) ?_)
    refine bodyPost_ret (results_cell_tmp rfl _ _ (w.heap.size + 2) 53 #[I 6, I ix, I 0] (0, 0) _ rfl (setRow_same Hres5.out) Try.underlying53 rfl (by kernel_rfl)) rfl ?_
    refine ⟨⟨6, ix, 0⟩, ?_, ?_, below_setRow (T.out.up _ hB5) (by omega) _⟩
    · rw [hsb.out]; by_cases h : 0 ≤ ix <;> simp [h] <;> rfl
    · intro x hx; rw [hsb.out] at hx; by_cases h : 0 ≤ ix <;> simp [h] at hx; exact hx
/-- The first breach of a valid run by a valid puller, or a breach of no rule. -/
def obB (p : Vec) (R : Run) : Brk :=
  if okPuller p && okRun R then brOf (match setBrs p R with | some b => some b | none => match phBrs p R R.ss.length 0 with | some b => some b | none => stopBr p R) else ⟨0, 0, 0⟩
theorem vPul_of {p : Vec} (h : okPuller p = true) : VPul p := by
  unfold okPuller at h
  rw [Bool.and_eq_true, List.all_eq_true] at h
  obtain ⟨h1, h2⟩ := h
  have hr : ∀ r, r < 5 → ruleB p r = true := fun r hr => h1 r (by simpa using hr)
  simp only [ruleB, Bool.and_eq_true, rangeB_iff, inB_iff] at hr
  simp only [restB, Bool.and_eq_true, rangeB_iff, inB_iff] at h2
  obtain ⟨⟨⟨a1, a2⟩, a3⟩, a4⟩ := h2
  refine ⟨fun r hr5 g hg => ?_, fun r hr5 g hg => ?_, fun r hr5 => ?_, fun r hr5 => ?_, a1 _ (by simp), a1 _ (by simp), a2 ⟨p 112, p 113⟩ (by simp), a3 _ (by simp), a4 _ (by simp), a4 _ (by simp)⟩
  · have := (hr r hr5).1.1.1
    have e : ∀ g, g < 6 → (⟨p (r * 22 + g * 2), p (r * 22 + g * 2 + 1)⟩ : Rng) ∈ bnds p (r * 22) := all6 (by simp [bnds]) (by simp [bnds]) (by simp [bnds]) (by simp [bnds]) (by simp [bnds]) (by simp [bnds])
    exact this _ (e g hg)
  · have := (hr r hr5).1.1.2
    have e : ∀ g, g < 6 → p (r * 22 + 12 + g) ∈ rmps p (r * 22) := all6 (by simp [rmps]) (by simp [rmps]) (by simp [rmps]) (by simp [rmps]) (by simp [rmps]) (by simp [rmps])
    exact this _ (e g hg)
  · exact (hr r hr5).1.2 ⟨p (r * 22 + 18), p (r * 22 + 19)⟩ (by simp)
  · exact (hr r hr5).2 ⟨p (r * 22 + 20), p (r * 22 + 21)⟩ (by simp)
set_option maxRecDepth 100000 in
set_option maxHeartbeats 1000000 in
theorem obeys_any (A1 A2 A3 : Option Addr) (c1 c2 c3 : Nat) (p : Vec) (R : Run) (w : World) (h : RunIn w A1 A2 A3 R) :
    Calls Try.prog 9 #[.agg (ia 117 p), runV A1 A2 A3 c1 c2 c3 R] w fun e w' => e = .returned (.tuple #[(obB p R).val, I (er (okPuller p && okRun R))]) ∧ Below w.heap.size w w' := by
  obtain ⟨W2, hW2⟩ : ∃ W2, W2 = ((w.alloc (.cells (ia 117 p) 30)).alloc (.cells #[.slice A1 R.ss.length c1, I R.e, .slice A2 R.ms.length c2, .slice A3 R.es.length c3] 48)) := ⟨_, rfl⟩
  have T : Hid (Two w A1 A2 A3 c1 c2 c3 p R W2) := hW2 ▸ two_mk h c1 c2 c3 p
  have HW := Lib.hid hW2
  obtain ⟨W3, hW3⟩ : ∃ W3, W3 = W2.alloc (.cells #[I 0, I 0, I 0] 53) := ⟨_, rfl⟩
  have B23 : Below W2.heap.size W2 W3 := by rw [hW3]; exact (Below.refl _ _).alloc (Nat.le_refl _) _
  have HR3 : Hid (RunIn W3 A1 A2 A3 R) := T.out.run.below B23
  have HRes : Hid (∀ W, Below W3.heap.size W3 W → W.heap[w.heap.size + 2]? = some (.cells #[I 0, I 0, I 0] 53 (0, 0))) := fun W hW => (hW.block _ (by rw [hW3, World.size_alloc, T.out.size]; omega)).trans (by rw [hW3]; exact heap_last _ _ _ T.out.size.symm)
  have HP3 : Hid (∀ W, Below W3.heap.size W3 W → ∀ j, j < 117 → W.cell? ⟨w.heap.size, 0 + j, none⟩ = some (I (p j))) := fun W hW => T.out.pul _ (B23.trans (hW.mono B23.size))
  have HX : Hid (∀ W, Below W3.heap.size W3 W → Below w.heap.size w W) := fun W hW => T.out.up _ (B23.trans (hW.mono B23.size))
  have Hc : Hid (∀ W, Below W3.heap.size W3 W → W.cell? ⟨w.heap.size + 1, 0, none⟩ = some (.slice A1 R.ss.length c1) ∧ W.cell? ⟨w.heap.size + 1, 1, none⟩ = some (I R.e) ∧ W.cell? ⟨w.heap.size + 1, 2, none⟩ = some (.slice A2 R.ms.length c2) ∧ W.cell? ⟨w.heap.size + 1, 3, none⟩ = some (.slice A3 R.es.length c3)) := fun W hW => by
    have hq := B23.trans (hW.mono B23.size)
    exact ⟨T.out.r0 _ hq, T.out.r1 _ hq, T.out.r2 _ hq, T.out.r3 _ hq⟩
  have hz3 : W3.heap.size = w.heap.size + 3 := by rw [hW3, World.size_alloc, T.out.size]
  have Hz3 := Lib.hid hz3
  have HW3 := Lib.hid hW3
  clear h hW2 hW3 hz3 B23
  go_enter Try.func9, Try.ntmps9
  go_wp2_with (refine wpList_load_ia rfl 30 _ rfl w.heap.size 0 rfl 117 p _ (by rw [← HW.out, ← HW3.out]; exact HP3.out _ (Below.refl _ _)) Try.underlying30 rfl (by kernel_rfl) ?_)
  rw [← HW.out, ← HW3.out]
  go_wp2_with fail
  simp only [show w.heap.size + 1 + 1 = w.heap.size + 2 from rfl]
  refine (both_any A1 A2 A3 c1 c2 c3 p R _ HR3.out).mono ?_
  rintro e w1 ⟨rfl, hb1⟩
  have zz1 : w.heap.size + 3 ≤ w1.heap.size := by have := hb1.size; rw [Hz3.out] at this; exact this
  have hres1 := HRes.out _ hb1
  rcases hok : (okPuller p && okRun R) with _ | _
  · have hob : Hid (obB p R = ⟨0, 0, 0⟩) := by show _ = _; rw [obB, hok]; rfl
    have Hres1 := Lib.hid hres1
    clear hres1
    rw [show er false = 2 from rfl]
    go_wp2_with (refine wpList_store_row rfl 53 _ _ rfl (w.heap.size + 2) rfl #[I 0, I 0, I 0] _ Hres1.out #[I 0, I 0, I 0] rfl (one3 _ _ _) rfl (by kernel_rfl) ?_)
    refine bodyPost_ret (results_cell_tmp rfl _ _ (w.heap.size + 2) 53 #[I 0, I 0, I 0] (0, 0) _ rfl (setRow_same Hres1.out) Try.underlying53 rfl (by kernel_rfl)) rfl ?_
    exact ⟨by rw [hob.out, hok]; rfl, below_setRow (HX.out _ hb1) (by omega) _⟩
  rw [show er true = 0 from rfl]
  rw [Bool.and_eq_true] at hok
  have Hok := Lib.hid hok
  have Hv := Lib.hid ((vRun_iff R).1 hok.2)
  have Hp := Lib.hid (vPul_of hok.1)
  obtain ⟨x0, x1, x2, x3⟩ := Hc.out _ hb1
  clear hok hres1
  go_wp2_with fail
  refine (pieces_any _ _ _ _ _ _ R _ (HR3.out.below hb1) (by have := Hv.out.n60; omega) Hv.out.pcb).mono ?_
  rintro e w2 ⟨A, n, c, rfl, hn, hx, hb2, hcap⟩
  have Hn := Lib.hid hn
  have Hx := Lib.hid hx
  have hB2 : Below W3.heap.size W3 w2 := hb1.trans (hb2.mono hb1.size)
  clear hn hx x0 x1 x2 x3
  have hob : Hid (obB p R = brOf (match setBrs p R with | some b => some b | none => match phBrs p R n 0 with | some b => some b | none => stopBr p R)) := by show _ = _; rw [obB, if_pos (by rw [Bool.and_eq_true]; exact Hok.out), Hn.out]
  go_wp2_with fail
  go_loopw [22] (fun i wr => ∃ k : Nat, k ≤ 3 ∧ i = .int .i64 k ∧ (1 ≤ k → setBrs p R = none) ∧ (2 ≤ k → phBrs p R n 0 = none) ∧ (3 ≤ k → stopBr p R = none) ∧ Below w2.heap.size w2 wr) (fun i _ => 3 - (intOf i).toNat)
  case atStart => exact ⟨0, by omega, rfl, by omega, by omega, by omega, Below.refl _ _⟩
  case round =>
    obtain ⟨k, hk, rfl, hk1, hk2, hk3, hbw⟩ := hrel
    have Hk1 := Lib.hid hk1
    have Hk2 := Lib.hid hk2
    have Hk3 := Lib.hid hk3
    clear hk1 hk2 hk3
    have hbW : Below W3.heap.size W3 wr := hB2.trans (hbw.mono hB2.size)
    have zzr := hbW.size
    rw [Hz3.out] at zzr
    obtain ⟨x0, x1, x2, x3⟩ := Hc.out _ hbW
    have Hr := Lib.hid ((Hx.out.below hbw).more hbw.size)
    have HRr := Lib.hid (HR3.out.below hbW)
    have hokb : Hid ((okPuller p && okRun R) = true) := by show _ = _; rw [Bool.and_eq_true]; exact Hok.out
    rcases (show k = 0 ∨ k = 1 ∨ k = 2 ∨ k = 3 by omega) with rfl | rfl | rfl | rfl
    · go_wp2_with (first | (refine wpList_index_one rfl 92 _ _ rfl _ rfl 0 rfl 3 _ _ Try.underlying92 (by decide) Try.underlying91 rfl (by kernel_rfl) _ rfl ?_) | (refine wpList_load_ia rfl 30 _ rfl w.heap.size 0 rfl 117 p _ (HP3.out _ hbW) Try.underlying30 rfl (by kernel_rfl) ?_))
      refine (settings_any A1 A2 A3 _ c1 c2 c3 _ _ p R _ HRr.out Hv.out Hp.out Hn.out Hr.out).mono ?_
      intro e w4 hret
      obtain ⟨b, rfl, hbs, hb4⟩ := RetB2.of hret
      have hB4 : Below W3.heap.size W3 w4 := hbW.trans (hb4.mono hbW.size)
      have hbw4 : Below w2.heap.size w2 w4 := hbw.trans (hb4.mono hbw.size)
      have zz4 := hB4.size
      rw [Hz3.out] at zz4
      have Hres4 := Lib.hid (HRes.out _ hB4)
      have Hbs := Lib.hid hbs
      clear x0 x1 x2 x3 hbs hret
      rcases ho : setBrs p R with _ | x
      · have Ho := Lib.hid ho
        clear ho
        go_wp2_with fail
        go_roundw
        case rel => exact ⟨1, by omega, rfl, fun _ => Ho.out, by omega, by omega, hbw4.alloc hbw4.size _⟩
        case measure => simp [intOf]
      · have hbx : Hid (b = x) := Hbs.out x ho
        have Ho := Lib.hid ho
        clear ho
        go_wp2_with (refine wpList_store_row rfl 53 _ _ rfl (w.heap.size + 2) rfl #[I 0, I 0, I 0] _ (heap_before Hres4.out) #[I b.rule, I b.at_, I b.g] rfl (one3 _ _ _) rfl (by kernel_rfl) ?_)
        refine bodyPost_ret (results_cell_tmp rfl _ _ (w.heap.size + 2) 53 #[I b.rule, I b.at_, I b.g] (0, 0) _ rfl (setRow_same (heap_before Hres4.out)) Try.underlying53 rfl (by kernel_rfl)) rfl ?_
        exact ⟨by rw [hob.out, Ho.out, hokb.out, hbx.out]; rfl, below_setRow (HX.out _ (hB4.alloc hB4.size _)) (by omega) _⟩
    · go_wp2_with (first | (refine wpList_index_one rfl 92 _ _ rfl _ rfl 1 rfl 3 _ _ Try.underlying92 (by decide) Try.underlying91 rfl (by kernel_rfl) _ rfl ?_) | (refine wpList_load_ia rfl 30 _ rfl w.heap.size 0 rfl 117 p _ (HP3.out _ hbW) Try.underlying30 rfl (by kernel_rfl) ?_))
      refine (phases_any A1 A2 A3 _ c1 c2 c3 _ _ p R _ HRr.out Hv.out Hp.out Hn.out hcap Hr.out).mono ?_
      intro e w4 hret
      obtain ⟨b, rfl, hbs, hb4⟩ := RetB2.of hret
      have hB4 : Below W3.heap.size W3 w4 := hbW.trans (hb4.mono hbW.size)
      have hbw4 : Below w2.heap.size w2 w4 := hbw.trans (hb4.mono hbw.size)
      have zz4 := hB4.size
      rw [Hz3.out] at zz4
      have Hres4 := Lib.hid (HRes.out _ hB4)
      have Hbs := Lib.hid hbs
      clear x0 x1 x2 x3 hbs hret
      rcases ho : phBrs p R n 0 with _ | x
      · have Ho := Lib.hid ho
        clear ho
        go_wp2_with fail
        go_roundw
        case rel => exact ⟨2, by omega, rfl, fun _ => Hk1.out (by omega), fun _ => Ho.out, by omega, hbw4.alloc hbw4.size _⟩
        case measure => simp [intOf]
      · have hbx : Hid (b = x) := Hbs.out x ho
        have Ho := Lib.hid ho
        clear ho
        go_wp2_with (refine wpList_store_row rfl 53 _ _ rfl (w.heap.size + 2) rfl #[I 0, I 0, I 0] _ (heap_before Hres4.out) #[I b.rule, I b.at_, I b.g] rfl (one3 _ _ _) rfl (by kernel_rfl) ?_)
        refine bodyPost_ret (results_cell_tmp rfl _ _ (w.heap.size + 2) 53 #[I b.rule, I b.at_, I b.g] (0, 0) _ rfl (setRow_same (heap_before Hres4.out)) Try.underlying53 rfl (by kernel_rfl)) rfl ?_
        exact ⟨by rw [hob.out, Hk1.out (by omega), Ho.out, hokb.out, hbx.out]; rfl, below_setRow (HX.out _ (hB4.alloc hB4.size _)) (by omega) _⟩
    · go_wp2_with (first | (refine wpList_index_one rfl 92 _ _ rfl _ rfl 2 rfl 3 _ _ Try.underlying92 (by decide) Try.underlying91 rfl (by kernel_rfl) _ rfl ?_) | (refine wpList_load_ia rfl 30 _ rfl w.heap.size 0 rfl 117 p _ (HP3.out _ hbW) Try.underlying30 rfl (by kernel_rfl) ?_))
      refine (stopped_any A1 A2 A3 _ c1 c2 c3 _ _ p R _ HRr.out Hv.out Hp.out Hn.out Hr.out).mono ?_
      intro e w4 hret
      obtain ⟨b, rfl, hbs, hb4⟩ := hret
      have hB4 : Below W3.heap.size W3 w4 := hbW.trans (hb4.mono hbW.size)
      have hbw4 : Below w2.heap.size w2 w4 := hbw.trans (hb4.mono hbw.size)
      have zz4 := hB4.size
      rw [Hz3.out] at zz4
      have Hres4 := Lib.hid (HRes.out _ hB4)
      have Hbs := Lib.hid hbs
      clear x0 x1 x2 x3 hbs
      rcases ho : stopBr p R with _ | x
      · have Ho := Lib.hid ho
        clear ho
        go_wp2_with fail
        go_roundw
        case rel => exact ⟨3, by omega, rfl, fun _ => Hk1.out (by omega), fun _ => Hk2.out (by omega), fun _ => Ho.out, hbw4.alloc hbw4.size _⟩
        case measure => simp [intOf]
      · have hbx : Hid (b = x) := Hbs.out x ho
        have Ho := Lib.hid ho
        clear ho
        go_wp2_with (refine wpList_store_row rfl 53 _ _ rfl (w.heap.size + 2) rfl #[I 0, I 0, I 0] _ (heap_before Hres4.out) #[I b.rule, I b.at_, I b.g] rfl (one3 _ _ _) rfl (by kernel_rfl) ?_)
        refine bodyPost_ret (results_cell_tmp rfl _ _ (w.heap.size + 2) 53 #[I b.rule, I b.at_, I b.g] (0, 0) _ rfl (setRow_same (heap_before Hres4.out)) Try.underlying53 rfl (by kernel_rfl)) rfl ?_
        exact ⟨by rw [hob.out, Hk1.out (by omega), Hk2.out (by omega), Ho.out, hokb.out, hbx.out]; rfl, below_setRow (HX.out _ (hB4.alloc hB4.size _)) (by omega) _⟩
    · have Hres4 := Lib.hid (HRes.out _ hbW)
      clear x0 x1 x2 x3
      go_wp2_with (refine wpList_store_row rfl 53 _ _ rfl (w.heap.size + 2) rfl #[I 0, I 0, I 0] _ Hres4.out #[I 0, I 0, I 0] rfl (one3 _ _ _) rfl (by kernel_rfl) ?_)
      refine bodyPost_ret (results_cell_tmp rfl _ _ (w.heap.size + 2) 53 #[I 0, I 0, I 0] (0, 0) _ rfl (setRow_same Hres4.out) Try.underlying53 rfl (by kernel_rfl)) rfl ?_
      exact ⟨by rw [hob.out, Hk1.out (by omega), Hk2.out (by omega), Hk3.out (by omega), hokb.out]; rfl, below_setRow (HX.out _ hbW) (by omega) _⟩
end Go.Proofs.Ytbojgcaehlapiaa
/- The contracts of Stop and Conflict of package pull. -/
namespace Go.Proofs.Ytbojgcaehlapiaa
open Go.RowKit
def stopS (p : Vec) (R : Run) : Int × Int := if okPuller p && okRun R then stopF p R else (0, 0)
theorem Two.keep3 {w W2 : World} {A1 A2 A3 : Option Addr} {c1 c2 c3 : Nat} {p : Vec} {R : Run} (T : Two w A1 A2 A3 c1 c2 c3 p R W2) {W : World} (hW : Below W2.heap.size W2 W) : RunIn W A1 A2 A3 R := T.run.below hW
set_option maxHeartbeats 1000000 in
theorem stopX_any (A1 A2 A3 : Option Addr) (c1 c2 c3 : Nat) (p : Vec) (R : Run) (w : World) (h : RunIn w A1 A2 A3 R) :
    Calls Try.prog 17 #[.agg (ia 117 p), runV A1 A2 A3 c1 c2 c3 R] w fun e w' => e = .returned (.tuple #[I (stopS p R).1, I (stopS p R).2, I (er (okPuller p && okRun R))]) ∧ Below w.heap.size w w' := by
  obtain ⟨W2, hW2⟩ : ∃ W2, W2 = ((w.alloc (.cells (ia 117 p) 30)).alloc (.cells #[.slice A1 R.ss.length c1, I R.e, .slice A2 R.ms.length c2, .slice A3 R.es.length c3] 48)) := ⟨_, rfl⟩
  have T : Hid (Two w A1 A2 A3 c1 c2 c3 p R W2) := hW2 ▸ two_mk h c1 c2 c3 p
  have HW := Lib.hid hW2
  clear h hW2
  go_enter Try.func17, Try.ntmps17
  go_wp2_with (refine wpList_load_ia rfl 30 _ rfl w.heap.size 0 rfl 117 p _ (by rw [← HW.out]; exact T.out.pul _ (Below.refl _ _)) Try.underlying30 rfl (by kernel_rfl) ?_)
  rw [← HW.out]
  refine (both_any A1 A2 A3 c1 c2 c3 p R _ T.out.run).mono ?_
  rintro e w1 ⟨rfl, hb1⟩
  rcases hok : (okPuller p && okRun R) with _ | _
  · have hs : Hid (stopS p R = (0, 0)) := by show _ = _; rw [stopS, hok]; rfl
    rw [show er false = 2 from rfl]
    go_wp2_with fail
    go_ret3
    exact ⟨by rw [hs.out, hok]; rfl, T.out.up _ hb1⟩
  have hs : Hid (stopS p R = stopF p R) := by show _ = _; rw [stopS, hok]; rfl
  have Hok := Lib.hid hok
  rw [show er true = 0 from rfl]
  rw [Bool.and_eq_true] at hok
  have Hv := Lib.hid ((vRun_iff R).1 hok.2)
  have Hp := Lib.hid (vPul_of hok.1)
  clear hok
  have x0 := T.out.r0 _ hb1
  have x1 := T.out.r1 _ hb1
  have x2 := T.out.r2 _ hb1
  have x3 := T.out.r3 _ hb1
  go_wp2_with (refine wpList_load_ia rfl 30 _ rfl w.heap.size 0 rfl 117 p _ (T.out.pul _ hb1) Try.underlying30 rfl (by kernel_rfl) ?_)
  refine (stop_any A1 A2 A3 c1 c2 c3 p R _ (T.out.run.below hb1) Hv.out Hp.out.hold).mono ?_
  rintro e w2 ⟨rfl, hb2⟩
  go_wp2_with fail
  go_ret3
  exact ⟨by rw [hs.out, Hok.out]; rfl, T.out.up _ (hb1.trans (hb2.mono hb1.size))⟩
/-- Does the earlier sample a contradict the later one b? -/
def agB (p : Vec) (a b : Smp) : Bool := decide (a.hi + p 110 * (b.t - a.t) < b.lo) || decide (b.hi < a.lo - p 111 * (b.t - a.t))
def confI (p : Vec) (R : Run) (j : Nat) : Option Nat := (List.range j).find? fun i => agB p (at0 R.ms i) (at0 R.ms j)
def conf (p : Vec) (R : Run) : Option (Nat × Nat) := (List.range R.ms.length).findSome? fun j => (confI p R j).map fun i => (i, j)
def confV (p : Vec) (R : Run) : Int × Int := if okPuller p && okRun R then (match conf p R with | some (i, j) => ((i : Int), (j : Int)) | none => (-1, -1)) else (0, 0)
theorem VRun.mle {R : Run} (h : VRun R) : ∀ {i j : Nat}, i < j → j < R.ms.length → (at0 R.ms i).t < (at0 R.ms j).t := by
  intro i j hij hj
  induction j with
  | zero => omega
  | succ j ih =>
    have := h.mup j hj
    rcases Nat.lt_succ_iff_lt_or_eq.1 hij with h1 | rfl
    · have := ih h1 (by omega); omega
    · exact this
set_option maxRecDepth 100000 in
set_option maxHeartbeats 1000000 in
theorem conflict_any (A1 A2 A3 : Option Addr) (c1 c2 c3 : Nat) (p : Vec) (R : Run) (w : World) (h : RunIn w A1 A2 A3 R) (hc2 : R.ms.length ≤ c2) :
    Calls Try.prog 83 #[.agg (ia 117 p), runV A1 A2 A3 c1 c2 c3 R] w fun e w' => e = .returned (.tuple #[I (confV p R).1, I (confV p R).2, I (er (okPuller p && okRun R))]) ∧ Below w.heap.size w w' := by
  obtain ⟨W2, hW2⟩ : ∃ W2, W2 = ((w.alloc (.cells (ia 117 p) 30)).alloc (.cells #[.slice A1 R.ss.length c1, I R.e, .slice A2 R.ms.length c2, .slice A3 R.es.length c3] 48)) := ⟨_, rfl⟩
  have T : Hid (Two w A1 A2 A3 c1 c2 c3 p R W2) := hW2 ▸ two_mk h c1 c2 c3 p
  have HW := Lib.hid hW2
  clear h hW2
  go_enter Try.func83, Try.ntmps83
  go_wp2_with (refine wpList_load_ia rfl 30 _ rfl w.heap.size 0 rfl 117 p _ (by rw [← HW.out]; exact T.out.pul _ (Below.refl _ _)) Try.underlying30 rfl (by kernel_rfl) ?_)
  rw [← HW.out]
  refine (both_any A1 A2 A3 c1 c2 c3 p R _ T.out.run).mono ?_
  rintro e w1 ⟨rfl, hb1⟩
  rcases hok : (okPuller p && okRun R) with _ | _
  · have hs : Hid (confV p R = (0, 0)) := by show _ = _; rw [confV, hok]; rfl
    rw [show er false = 2 from rfl]
    go_wp2_with fail
    go_ret3
    exact ⟨by rw [hs.out, hok]; rfl, T.out.up _ hb1⟩
  have hs : Hid (confV p R = match conf p R with | some (i, j) => ((i : Int), (j : Int)) | none => (-1, -1)) := by show _ = _; rw [confV, hok]; rfl
  have Hok := Lib.hid hok
  rw [show er true = 0 from rfl]
  rw [Bool.and_eq_true] at hok
  have Hv := Lib.hid ((vRun_iff R).1 hok.2)
  have Hp := Lib.hid (vPul_of hok.1)
  have hm100 := Hv.out.m100
  have last := Hv.out.last
  obtain ⟨gr1, gr2⟩ := Hp.out.grow
  obtain ⟨sh1, sh2⟩ := Hp.out.shrink
  clear hok
  have x2 := T.out.r2 _ hb1
  go_wp2_with fail
  have HT1 := Lib.hid hb1
  have zz1 : w.heap.size + 2 ≤ w1.heap.size := by have := hb1.size; rw [T.out.size] at this; exact this
  clear x2 hb1
  go_loopw [22] (fun i wr => ∃ j : Nat, j ≤ R.ms.length ∧ i = .int .i64 j ∧ (∀ k, k < j → confI p R k = none) ∧ Below w1.heap.size w1 wr) (fun i _ => R.ms.length - (intOf i).toNat)
  case atStart => exact ⟨0, by omega, rfl, by omega, Below.refl _ _⟩
  case round =>
    obtain ⟨j, hj, rfl, hjb, hbw⟩ := hrel
    have Hjb := Lib.hid hjb
    clear hjb
    have hbT := HT1.out.trans (hbw.mono HT1.out.size)
    have zr := hbw.size
    by_cases hlt : j < R.ms.length
    · obtain ⟨b, o, rfl, hB, y0, y1, y2⟩ := (T.out.run.m.below hbT).smp hlt
      have x2 : ∀ x : Obj, (wr.alloc x).cell? ⟨w.heap.size + 1, 2, none⟩ = some (.slice (some ⟨b, o, none⟩) R.ms.length c2) := fun x => T.out.r2 _ (hbT.alloc hbT.size x)
      have j0 : (0 : Int) ≤ (j : Int) := by omega
      have j1 : (j : Int) ≤ (c2 : Int) := by omega
      have hbm := Hv.out.mt j hlt
      have hbr := Hv.out.mr j hlt
      generalize hbq : at0 R.ms j = bq at *
      have HBQ := Lib.hid hbq
      clear hbq
      obtain ⟨bt1, bt2⟩ := hbm
      obtain ⟨br1, br2, br3⟩ := hbr
      go_wp2_with fail
      generalize hWj : wr.alloc (.cells #[I bq.t, I bq.lo, I bq.hi] 82) = Wj
      have HWj := Lib.hid hWj.symm
      have hzj : wr.heap.size + 1 ≤ Wj.heap.size := by rw [← hWj]; simp
      clear hWj
      have HBj : Hid (∀ W, Below Wj.heap.size Wj W → Below W2.heap.size W2 W) := fun W hW => hbT.trans (((HWj.out ▸ (Below.refl _ _).alloc (Nat.le_refl _) _ : Below wr.heap.size wr Wj)).trans (hW.mono (by omega)) |>.mono hbT.size)
      have HBr : Hid (∀ W, Below Wj.heap.size Wj W → Below wr.heap.size wr W) := fun W hW => ((HWj.out ▸ (Below.refl _ _).alloc (Nat.le_refl _) _ : Below wr.heap.size wr Wj)).trans (hW.mono (by omega))
      have Hbc : Hid (∀ W, Below Wj.heap.size Wj W → W.cell? ⟨wr.heap.size, 0, none⟩ = some (I bq.t) ∧ W.cell? ⟨wr.heap.size, 1, none⟩ = some (I bq.lo) ∧ W.cell? ⟨wr.heap.size, 2, none⟩ = some (I bq.hi)) := fun W hW => by
        refine ⟨(hW.cell (p := ⟨_, _, none⟩) (by show wr.heap.size < _; omega)).trans ?_, (hW.cell (p := ⟨_, _, none⟩) (by show wr.heap.size < _; omega)).trans ?_, (hW.cell (p := ⟨_, _, none⟩) (by show wr.heap.size < _; omega)).trans ?_⟩ <;> rw [HWj.out] <;> simp
      have Hsm := Lib.hid T.out.run.m
      clear y0 y1 y2 x2
      go_loopw [32] (fun i wi => ∃ k : Nat, k ≤ j ∧ i = .int .i64 k ∧ (∀ l, l < k → agB p (at0 R.ms l) bq = false) ∧ Below Wj.heap.size Wj wi) (fun i _ => j - (intOf i).toNat)
      case atStart => exact ⟨0, by omega, rfl, by omega, Below.refl _ _⟩
      case round =>
        obtain ⟨k, hk, rfl, hkb, hbi⟩ := hrel
        have Hkb := Lib.hid hkb
        clear hkb
        have zi := hbi.size
        by_cases hkj : k < j
        · obtain ⟨b', o', he, _, y0, y1, y2⟩ := (Hsm.out.below (HBj.out _ hbi)).smp (k := k) (by omega)
          simp only [Option.some.injEq, Addr.mk.injEq, and_true] at he
          obtain ⟨rfl, rfl⟩ := he
          have am := Hv.out.mt k (by omega)
          have ar := Hv.out.mr k (by omega)
          have alt := Hv.out.mle hkj hlt
          rw [HBQ.out] at alt
          have hci : Hid (confI p R j = (List.range j).find? fun i => agB p (at0 R.ms i) bq) := by show _ = _; rw [confI, HBQ.out]
          generalize haq : at0 R.ms k = aq at *
          have HAQ := Lib.hid haq
          clear haq
          obtain ⟨at1, at2⟩ := am
          obtain ⟨ar1, ar2, ar3⟩ := ar
          have z0 := fun x => (Hbc.out _ (hbi.alloc zi x)).1
          have z1 := fun x => (Hbc.out _ (hbi.alloc zi x)).2.1
          have z2 := fun x => (Hbc.out _ (hbi.alloc zi x)).2.2
          have pg : ∀ x, (wr.alloc x).cell? ⟨w.heap.size, 110, none⟩ = some (I (p 110)) := fun x => T.out.pul _ (HBj.out _ (hbi.alloc zi x)) 110 (by omega)
          have ps : ∀ x, (wr.alloc x).cell? ⟨w.heap.size, 111, none⟩ = some (I (p 111)) := fun x => T.out.pul _ (HBj.out _ (hbi.alloc zi x)) 111 (by omega)
          have m1 : 0 ≤ p 110 * (bq.t - aq.t) := Int.mul_nonneg gr1 (by omega)
          have m2 : p 110 * (bq.t - aq.t) ≤ 1000000 * 100000 := Int.mul_le_mul gr2 (by omega) (by omega) (by omega)
          have m3 : 0 ≤ p 111 * (bq.t - aq.t) := Int.mul_nonneg sh1 (by omega)
          have m4 : p 111 * (bq.t - aq.t) ≤ 1000000 * 100000 := Int.mul_le_mul sh2 (by omega) (by omega) (by omega)
          have hag : Hid (agB p aq bq = (decide (aq.hi + p 110 * (bq.t - aq.t) < bq.lo) || decide (bq.hi < aq.lo - p 111 * (bq.t - aq.t)))) := rfl
          by_cases t1 : aq.hi + p 110 * (bq.t - aq.t) < bq.lo
          · have hcf : Hid (conf p R = some (k, j)) := findSome_at hlt (fun l hl => by rw [Hjb.out l hl]; rfl) (by rw [hci.out, find_at hkj Hkb.out (by rw [HAQ.out, hag.out]; simp [t1])]; rfl)
            go_wp2_with fail
            go_ret3
            exact ⟨by rw [hs.out, hcf.out, Hok.out]; rfl, T.out.up _ ((HBj.out _ hbi).alloc (HBj.out _ hbi).size _)⟩
          by_cases t2 : bq.hi < aq.lo - p 111 * (bq.t - aq.t)
          · have hcf : Hid (conf p R = some (k, j)) := findSome_at hlt (fun l hl => by rw [Hjb.out l hl]; rfl) (by rw [hci.out, find_at hkj Hkb.out (by rw [HAQ.out, hag.out]; simp [t2])]; rfl)
            go_wp2_with fail
            go_ret3
            exact ⟨by rw [hs.out, hcf.out, Hok.out]; rfl, T.out.up _ ((HBj.out _ hbi).alloc (HBj.out _ hbi).size _)⟩
          have hno : Hid (agB p aq bq = false) := by show _ = _; rw [hag.out]; simp; omega
          go_wp2_with fail
          go_roundw
          case rel => exact ⟨k + 1, by omega, by go_num, succ_case Hkb.out (by rw [HAQ.out]; exact hno.out), hbi.alloc zi _⟩
          case measure => simp [intOf]; omega
        · have hci : Hid (confI p R j = none) := by show _ = _; rw [confI, HBQ.out]; exact find_no fun l hl => Hkb.out l (by omega)
          go_wp2_with fail
          go_roundw
          case rel => exact ⟨j + 1, by omega, by go_num, succ_case Hjb.out hci.out, hbw.trans ((HBr.out _ hbi).mono zr)⟩
          case measure => simp [intOf]; omega
    · have hcf : Hid (conf p R = none) := findSome_no fun l hl => by rw [Hjb.out l (by omega)]; rfl
      go_wp2_with fail
      go_ret3
      exact ⟨by rw [hs.out, hcf.out, Hok.out]; rfl, T.out.up _ hbT⟩
end Go.Proofs.Ytbojgcaehlapiaa
/- The contracts of meet, later, ceil and peak of package pull. -/
namespace Go.Proofs.Ytbojgcaehlapiaa
open Go.RowKit
/-- What is known: between which numbers, if anything. -/
structure Kn where
  lo : Int
  hi : Int
  some : Bool
  deriving Inhabited, DecidableEq
abbrev knArr (k : Kn) : Array Value := #[I k.lo, I k.hi, .bool k.some]
abbrev Kn.val (k : Kn) : Value := .agg (knArr k)
def meetK (k o : Kn) : Kn := if o.some = false then k else if k.some = false then o else ⟨max k.lo o.lo, min k.hi o.hi, true⟩
def laterK (k : Kn) (grow shrink : Int) : Kn := ⟨k.lo - shrink, k.hi + grow, k.some⟩
theorem knOne (k : Kn) : ∀ v ∈ (knArr k).toList, v.oneCell' = true := by intro v hv; simp at hv; rcases hv with rfl | rfl | rfl <;> rfl
set_option maxHeartbeats 400000 in
theorem meet_any (k o : Kn) (w : World) : Calls Try.prog 80 #[k.val, o.val] w fun e w' => e = .returned (meetK k o).val ∧ Below w.heap.size w w' := by
  have hB : ∀ a b c, Below w.heap.size w (((w.alloc a).alloc b).alloc c) := fun a b c => (((Below.refl _ _).alloc (Nat.le_refl _) a).alloc (by simp) b).alloc (by simp; omega) c
  have HB := Lib.hid hB
  clear hB
  have fin : Hid (∀ q : Kn, meetK k o = q → ∀ w', Below w.heap.size w w' → (Ending.returned (.agg (knArr q)) = .returned (meetK k o).val ∧ Below w.heap.size w w')) := fun q hq w' h => ⟨by rw [hq], h⟩
  rcases ho : o.some with _ | _
  · have hm : Hid (meetK k o = k) := by show _ = _; rw [meetK, if_pos ho]
    go_enter Try.func80, Try.ntmps80
    go_wp2
    refine bodyPost_ret (results_cell_only rfl _ _ (w.heap.size + 1 + 1) 154 (knArr k) (0, 0) _ rfl (heap_last _ _ _ (by simp)) Try.underlying154 rfl (by kernel_rfl)) rfl ?_
    exact fin.out k hm.out _ (HB.out _ _ _)
  · rcases hk : k.some with _ | _
    · have hm : Hid (meetK k o = o) := by show _ = _; rw [meetK, if_neg (by simp [ho]), if_pos hk]
      go_enter Try.func80, Try.ntmps80
      go_wp2
      refine bodyPost_ret (results_cell_only rfl _ _ (w.heap.size + 1 + 1) 154 #[I o.lo, I o.hi, .bool true] (0, 0) _ rfl ?hg Try.underlying154 rfl (by kernel_rfl)) rfl ?_
      case hg => exact heap_last _ _ _ (by simp)
      exact ⟨by rw [hm.out]; simp [ho], HB.out _ _ _⟩
    · have hm : Hid (meetK k o = ⟨max k.lo o.lo, min k.hi o.hi, true⟩) := by show _ = _; rw [meetK, if_neg (by simp [ho]), if_neg (by simp [hk])]
      rcases Int.lt_or_le k.lo o.lo with h1 | h1 <;> rcases Int.lt_or_le o.hi k.hi with h2 | h2
      · have hm2 : Hid (meetK k o = ⟨o.lo, o.hi, true⟩) := by show _ = _; rw [hm.out, Int.max_eq_right (by omega), Int.min_eq_right (by omega)]
        go_enter Try.func80, Try.ntmps80
        go_wp2
        refine bodyPost_ret (results_cell_only rfl _ _ (w.heap.size + 1 + 1) 154 #[I o.lo, I o.hi, .bool true] (0, 0) _ rfl ?_ Try.underlying154 rfl (by kernel_rfl)) rfl (fin.out _ hm2.out _ (HB.out _ _ _))
        exact heap_last _ _ _ (by simp)
      · have hm2 : Hid (meetK k o = ⟨o.lo, k.hi, true⟩) := by show _ = _; rw [hm.out, Int.max_eq_right (by omega), Int.min_eq_left (by omega)]
        go_enter Try.func80, Try.ntmps80
        go_wp2
        refine bodyPost_ret (results_cell_only rfl _ _ (w.heap.size + 1 + 1) 154 #[I o.lo, I k.hi, .bool true] (0, 0) _ rfl ?_ Try.underlying154 rfl (by kernel_rfl)) rfl (fin.out _ hm2.out _ (HB.out _ _ _))
        exact heap_last _ _ _ (by simp)
      · have hm2 : Hid (meetK k o = ⟨k.lo, o.hi, true⟩) := by show _ = _; rw [hm.out, Int.max_eq_left (by omega), Int.min_eq_right (by omega)]
        go_enter Try.func80, Try.ntmps80
        go_wp2
        refine bodyPost_ret (results_cell_only rfl _ _ (w.heap.size + 1 + 1) 154 #[I k.lo, I o.hi, .bool true] (0, 0) _ rfl ?_ Try.underlying154 rfl (by kernel_rfl)) rfl (fin.out _ hm2.out _ (HB.out _ _ _))
        exact heap_last _ _ _ (by simp)
      · have hm2 : Hid (meetK k o = ⟨k.lo, k.hi, true⟩) := by show _ = _; rw [hm.out, Int.max_eq_left (by omega), Int.min_eq_left (by omega)]
        go_enter Try.func80, Try.ntmps80
        go_wp2
        refine bodyPost_ret (results_cell_only rfl _ _ (w.heap.size + 1 + 1) 154 #[I k.lo, I k.hi, .bool true] (0, 0) _ rfl ?_ Try.underlying154 rfl (by kernel_rfl)) rfl (fin.out _ hm2.out _ (HB.out _ _ _))
        exact heap_last _ _ _ (by simp)
set_option maxHeartbeats 400000 in
theorem later_any (k : Kn) (grow shrink : Int) (w : World) (h1 : -1000000000000000 ≤ k.lo ∧ k.lo ≤ 1000000000000000) (h2 : -1000000000000000 ≤ k.hi ∧ k.hi ≤ 1000000000000000) (h3 : 0 ≤ grow ∧ grow ≤ 1000000) (h4 : 0 ≤ shrink ∧ shrink ≤ 1000000) :
    Calls Try.prog 81 #[k.val, I grow, I shrink] w fun e w' => e = .returned (laterK k grow shrink).val ∧ Below w.heap.size w w' := by
  obtain ⟨_, _⟩ := h1
  obtain ⟨_, _⟩ := h2
  obtain ⟨_, _⟩ := h3
  obtain ⟨_, _⟩ := h4
  go_enter Try.func81, Try.ntmps81
  go_wp2
  refine bodyPost_ret (results_cell_only rfl _ _ (w.heap.size + 1) 154 (knArr (laterK k grow shrink)) (0, 0) _ rfl (heap_last _ _ _ (by simp)) Try.underlying154 rfl (by kernel_rfl)) rfl ?_
  exact ⟨rfl, ((Below.refl _ _).alloc (Nat.le_refl _) _).alloc (by simp) _⟩
def ceilF (a b : Int) : Int := if 0 < a then (a + b - 1) / b else a.tdiv b
set_option maxHeartbeats 400000 in
theorem ceil_any (a b : Int) (w : World) (hb : 1 ≤ b ∧ b ≤ 10000000) (ha : -1000000000000000 ≤ a ∧ a ≤ 1000000000000000) :
    Calls Try.prog 94 #[I a, I b] w fun e w' => e = .returned (I (ceilF a b)) ∧ w = w' := by
  obtain ⟨b1, b2⟩ := hb
  obtain ⟨a1, a2⟩ := ha
  have hne : (b == 0) = false := by simp; omega
  by_cases h : 0 < a
  · have hfin : Hid (ceilF a b = (a + b - 1) / b) := if_pos h
    have h0 : 0 ≤ a + b - 1 := by omega
    have q1 : 0 ≤ (a + b - 1) / b := Int.ediv_nonneg h0 (by omega)
    have q2 : (a + b - 1) / b ≤ a + b - 1 := Int.ediv_le_self _ h0
    go_enter Try.func94, Try.ntmps94
    go_wp2
    go_ret
    exact ⟨ret_int (by rw [hfin.out]), rfl⟩
  · have hfin : Hid (ceilF a b = a.tdiv b) := if_neg h
    go_enter Try.func94, Try.ntmps94
    go_wp2
    go_ret
    exact ⟨ret_int (by rw [hfin.out]), rfl⟩
def peakF (a up b dn : Int) : Int := if b + dn ≤ a then b + dn else if a + up ≤ b then a + up else a + ceilF (up * (b + dn - a)) (up + dn)
theorem ceilF_bd (a b : Int) (hb : 1 ≤ b) (ha : 0 ≤ a) : 0 ≤ ceilF a b ∧ ceilF a b ≤ a + b := by
  unfold ceilF
  split
  · have h0 : 0 ≤ a + b - 1 := by omega
    have := Int.ediv_nonneg h0 (show 0 ≤ b by omega)
    have := Int.ediv_le_self b h0
    omega
  · have : a = 0 := by omega
    subst this
    simp; omega
set_option maxHeartbeats 400000 in
theorem peak_any (a up b dn : Int) (w : World) (h1 : -1000000000000000 ≤ a ∧ a ≤ 1000000000000000) (h2 : -1000000000000000 ≤ b ∧ b ≤ 1000000000000000) (h3 : 0 ≤ up ∧ up ≤ 1000000) (h4 : 0 ≤ dn ∧ dn ≤ 1000000) :
    Calls Try.prog 82 #[I a, I up, I b, I dn] w fun e w' => e = .returned (I (peakF a up b dn)) ∧ w = w' := by
  obtain ⟨_, _⟩ := h1
  obtain ⟨_, _⟩ := h2
  obtain ⟨u1, u2⟩ := h3
  obtain ⟨_, _⟩ := h4
  by_cases t1 : b + dn ≤ a
  · have hfin : Hid (peakF a up b dn = b + dn) := if_pos t1
    go_enter Try.func82, Try.ntmps82
    go_wp2
    go_ret
    exact ⟨ret_int (by rw [hfin.out]), rfl⟩
  by_cases t2 : a + up ≤ b
  · have hfin : Hid (peakF a up b dn = a + up) := by show _ = _; rw [peakF, if_neg t1, if_pos t2]
    go_enter Try.func82, Try.ntmps82
    go_wp2
    go_ret
    exact ⟨ret_int (by rw [hfin.out]), rfl⟩
  · have hfin : Hid (peakF a up b dn = a + ceilF (up * (b + dn - a)) (up + dn)) := by show _ = _; rw [peakF, if_neg t1, if_neg t2]
    have m1 : 0 ≤ up * (b + dn - a) := Int.mul_nonneg u1 (by omega)
    have m2 : up * (b + dn - a) ≤ 1000000 * 2000000 := Int.mul_le_mul u2 (by omega) (by omega) (by omega)
    have hc := ceilF_bd (up * (b + dn - a)) (up + dn) (by omega) m1
    obtain ⟨c1, c2⟩ := hc
    go_enter Try.func82, Try.ntmps82
    go_wp2_with fail
    refine (ceil_any _ _ _ ⟨by omega, by omega⟩ ⟨by omega, by omega⟩).mono ?_
    rintro e w1 ⟨rfl, rfl⟩
    go_wp2_with fail
    go_ret
    exact ⟨ret_int (by rw [hfin.out]), rfl⟩
end Go.Proofs.Ytbojgcaehlapiaa
