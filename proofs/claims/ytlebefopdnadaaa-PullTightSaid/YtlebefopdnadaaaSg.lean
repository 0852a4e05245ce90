/- The contract of sides of the reference. -/
import Derived.Test.YtlebefopdnadaaaMkx
import Derived.Test.YtlebefopdnadaaaSx
import Derived.Test.YtlebefopdnadaaaBw
namespace Go.Proofs.Ytlebefopdnadaaa
open Go.RowKit
abbrev sdArr (k : Kn) : Array Value := #[.bool k.some, I k.lo, I k.hi]
theorem bOne (b : Bool) (x y : Int) : ∀ v ∈ (#[.bool b, I x, I y] : Array Value).toList, v.oneCell' = true := by intro v hv; simp at hv; rcases hv with rfl | rfl | rfl <;> rfl
theorem if_max (a b : Int) : (if a < b then b else a) = max a b := by split <;> omega
theorem if_min (a b : Int) : (if b < a then b else a) = min a b := by split <;> omega
theorem sdArr_both {k x : Kn} (hx : x.some = true) (hk : k.some = true) : sdArr (meetK k x) = #[.bool true, I (max k.lo x.lo), I (min k.hi x.hi)] := by rw [meetK_both hx hk]
theorem sdArr_left {k x : Kn} (hx : x.some = true) (hk : k.some = false) : sdArr (meetK k x) = #[.bool true, I x.lo, I x.hi] := by rw [meetK_left hx hk, ← hx]
theorem cells3_eq {x y x' y' : Int} {t : TypeId} {fr : Nat × Nat} (h1 : x = x') (h2 : y = y') : some (Obj.cells #[.bool true, I x, I y] t fr) = some (Obj.cells #[.bool true, I x', I y'] t fr) := by rw [h1, h2]
theorem results_two_cells {P : Program} {fn : Func} {p q : Tmp} {ty tz : TypeId} (h : fn.results = #[.cell p ty, .cell q tz]) (tmps : Array Value) (w : World) (g g' : Nat) (t t' : TypeId) (cs cs' : Array Value) (fr fr' : Nat × Nat) (d d' : TypeDesc)
    (hp : tmps.getD p undef = .pointer (some ⟨g, 0, none⟩)) (hg : w.heap[g]? = some (.cells cs t fr)) (hu : P.underlying ty = some d) (hd : (match d with | .struct _ | .array _ _ => true | _ => false) = true) (hi : (P.info? ty).map (·.size) = some cs.size)
    (hq : tmps.getD q undef = .pointer (some ⟨g', 0, none⟩)) (hg' : w.heap[g']? = some (.cells cs' t' fr')) (hu' : P.underlying tz = some d') (hd' : (match d' with | .struct _ | .array _ _ => true | _ => false) = true) (hi' : (P.info? tz).map (·.size) = some cs'.size) :
    (results fn tmps).run P w = .ok (.tuple #[.agg cs, .agg cs']) w := by
  have hp' : tmps[p]?.getD undef = .pointer (some ⟨g, 0, none⟩) := by simpa using hp
  have hq' : tmps[q]?.getD undef = .pointer (some ⟨g', 0, none⟩) := by simpa using hq
  simp [results, h, hp', hq', asAddr, run_loadVar_row w g t ty cs fr d hg hu hd hi, run_loadVar_row w g' t' tz cs' fr' d' hg' hu' hd' hi']
theorem Ex.Bx.below {b : Ex.Base} {w w' : World} (h : Ex.Bx b w') (h0 : Below w.heap.size w b.W) (hX : ∀ k, b.X k → w.heap.size ≤ k) : Below w.heap.size w w' :=
  ⟨h.os.trans h0.os, h.tape.trans h0.tape, h.output.trans h0.output, Nat.le_trans h0.size h.size, fun k hk => (h.block k (Nat.lt_of_lt_of_le hk h0.size) (fun hx => by have := hX k hx; omega)).trans (h0.block k hk)⟩
theorem mul_bd {x y M N : Int} (h1 : 0 ≤ x) (h2 : x ≤ M) (h3 : 0 ≤ y) (h4 : y ≤ N) : 0 ≤ x * y ∧ x * y ≤ M * N :=
  ⟨Int.mul_nonneg h1 h3, Int.mul_le_mul h2 h4 h3 (by omega)⟩
set_option maxRecDepth 100000 in
set_option maxHeartbeats 2000000 in
theorem sides_any (A1 A2 A3 : Option Addr) (c1 c2 c3 : Nat) (p : Vec) (R : Run) (u f : Int) (w : World) (h : RunIn w A1 A2 A3 R) (hv : VRun R) (hp : VPul p) (hu : 0 ≤ u ∧ u ≤ 200000) (hf : 0 ≤ f ∧ f ≤ 200000) :
    Calls Try.prog 64 #[.agg (ia 117 p), runV A1 A2 A3 c1 c2 c3 R, I u, I f] w fun e w' => e = .returned (.tuple #[.agg (sdArr (sdA p R u R.ms.length)), .agg (sdArr (sdB p R f R.ms.length))]) ∧ Below w.heap.size w w' := by
  obtain ⟨W2, hW2⟩ : ∃ W2, W2 = ((w.alloc (.cells (ia 117 p) 30)).alloc (.cells #[.slice A1 R.ss.length c1, I R.e, .slice A2 R.ms.length c2, .slice A3 R.es.length c3] 35)) := ⟨_, rfl⟩
  have T : Hid (Two w A1 A2 A3 c1 c2 c3 p R W2) := hW2 ▸ two_mk h c1 c2 c3 p
  have Z2 := Lib.hid T.out.size
  obtain ⟨W6, hW6⟩ : ∃ W6, W6 = (((W2.alloc (.cells (sdArr kn0) 122)).alloc (.cells (sdArr kn0) 122)).alloc (.cells (sdArr kn0) 122)).alloc (.cells (sdArr kn0) 122) := ⟨_, rfl⟩
  have HW : Hid (W6 = (((((w.alloc (.cells (ia 117 p) 30)).alloc (.cells #[.slice A1 R.ss.length c1, I R.e, .slice A2 R.ms.length c2, .slice A3 R.es.length c3] 35)).alloc (.cells (sdArr kn0) 122)).alloc (.cells (sdArr kn0) 122)).alloc (.cells (sdArr kn0) 122)).alloc (.cells (sdArr kn0) 122)) := by show _ = _; rw [hW6, hW2]
  have B26 : Below W2.heap.size W2 W6 := by rw [hW6]; exact ((((Below.refl _ _).alloc (Nat.le_refl _) _).alloc (by simp) _).alloc (by simp; omega) _).alloc (by simp; omega) _
  have z6 : W6.heap.size = w.heap.size + 6 := by rw [hW6]; simp [T.out.size]
  have hr8 : W6.heap[w.heap.size + 2]? = some (.cells (sdArr kn0) 122 (0, 0)) := by rw [hW6]; exact heap_before (heap_before (heap_before (heap_last _ _ _ T.out.size.symm)))
  have hr9 : W6.heap[w.heap.size + 3]? = some (.cells (sdArr kn0) 122 (0, 0)) := by rw [hW6]; exact heap_before (heap_before (heap_last _ _ _ (by simp [T.out.size])))
  have ha0 : W6.heap[w.heap.size + 4]? = some (.cells (sdArr kn0) 122 (0, 0)) := by rw [hW6]; exact heap_before (heap_last _ _ _ (by simp [T.out.size]))
  have hb0 : W6.heap[w.heap.size + 5]? = some (.cells (sdArr kn0) 122 (0, 0)) := by rw [hW6]; exact heap_last _ _ _ (by simp [T.out.size])
  obtain ⟨B, hB⟩ : ∃ B : Ex.Base, B = ⟨W6, fun k => k = w.heap.size + 4 ∨ k = w.heap.size + 5⟩ := ⟨_, rfl⟩
  have HUp : Hid (∀ W, Ex.Bx B W → Below w.heap.size w W) := fun W hW => hW.below (by rw [hB]; exact T.out.up _ B26) (fun k hk => by rw [hB] at hk; rcases hk with rfl | rfl <;> omega)
  have HC : Hid (∀ W, Ex.Bx B W → ∀ k o v, k < w.heap.size + 4 → W6.cell? ⟨k, o, none⟩ = some v → W.cell? ⟨k, o, none⟩ = some v) := fun W hW k o v hk hc => hW.cell (by rw [hB]; show ¬ (k = _ ∨ k = _); omega) (by rw [hB]; exact hc)
  have HP : Hid (∀ W, Ex.Bx B W → ∀ j, j < 117 → W.cell? ⟨w.heap.size, j, none⟩ = some (I (p j))) := fun W hW j hj => HC.out W hW _ _ _ (by omega) (by have := T.out.pul _ B26 j hj; rwa [Nat.zero_add] at this)
  have HX : Hid (∀ W, Ex.Bx B W → W.cell? ⟨w.heap.size + 1, 0, none⟩ = some (.slice A1 R.ss.length c1) ∧ W.cell? ⟨w.heap.size + 1, 1, none⟩ = some (I R.e) ∧ W.cell? ⟨w.heap.size + 1, 2, none⟩ = some (.slice A2 R.ms.length c2) ∧ W.cell? ⟨w.heap.size + 1, 3, none⟩ = some (.slice A3 R.es.length c3)) := fun W hW =>
    ⟨HC.out W hW _ _ _ (by omega) (T.out.r0 _ B26), HC.out W hW _ _ _ (by omega) (T.out.r1 _ B26), HC.out W hW _ _ _ (by omega) (T.out.r2 _ B26), HC.out W hW _ _ _ (by omega) (T.out.r3 _ B26)⟩
  have HRd : Hid (∀ W, Ex.Bx B W → Rd W w.heap.size 3 A2 R.ms.length (rM R.ms)) := fun W hW => h.m.below (HUp.out W hW)
  have HR8 : Hid (∀ W, Ex.Bx B W → W.heap[w.heap.size + 2]? = some (.cells (sdArr kn0) 122 (0, 0)) ∧ W.heap[w.heap.size + 3]? = some (.cells (sdArr kn0) 122 (0, 0))) := fun W hW =>
    ⟨(hW.block _ (by rw [hB]; show _ < W6.heap.size; omega) (by rw [hB]; show ¬ (_ ∨ _); omega)).trans (by rw [hB]; exact hr8), (hW.block _ (by rw [hB]; show _ < W6.heap.size; omega) (by rw [hB]; show ¬ (_ ∨ _); omega)).trans (by rw [hB]; exact hr9)⟩
  have HSz : Hid (∀ W, Ex.Bx B W → w.heap.size + 6 ≤ W.heap.size) := fun W hW => by have := hW.size; rw [hB] at this; have h2 : W6.heap.size ≤ W.heap.size := this; omega
  have HXa : Hid (B.X (w.heap.size + 4) ∧ B.X (w.heap.size + 5)) := by rw [hB]; exact ⟨Or.inl rfl, Or.inr rfl⟩
  have HB0 : Hid (Ex.Bx B W6) := by rw [hB]; exact Ex.Bx.refl _
  have Hv := Lib.hid hv
  have m100 := hv.m100
  have last := hv.last
  obtain ⟨gr1, gr2⟩ := hp.grow
  obtain ⟨sh1, sh2⟩ := hp.shrink
  obtain ⟨u1, u2⟩ := hu
  obtain ⟨f1, f2⟩ := hf
  have Ha0 := Lib.hid ha0
  have Hb0 := Lib.hid hb0
  clear h hv hp hW2 hW6 B26 z6 hr8 hr9 ha0 hb0 hB
  go_enter Try.func64, Try.ntmps64
  go_wp2_with fail
  show Code.wp _ _ _ _ ((((((w.alloc (.cells (ia 117 p) 30)).alloc (.cells #[.slice A1 R.ss.length c1, I R.e, .slice A2 R.ms.length c2, .slice A3 R.es.length c3] 35)).alloc (.cells (sdArr kn0) 122)).alloc (.cells (sdArr kn0) 122)).alloc (.cells (sdArr kn0) 122)).alloc (.cells (sdArr kn0) 122))
  rw [← HW.out]
  simp only [show w.heap.size + 1 + 1 = w.heap.size + 2 from rfl, show w.heap.size + 2 + 1 = w.heap.size + 3 from rfl, show w.heap.size + 3 + 1 = w.heap.size + 4 from rfl, show w.heap.size + 4 + 1 = w.heap.size + 5 from rfl]
  go_loopw [12] (fun i wr => ∃ k : Nat, k ≤ R.ms.length ∧ i = .int .i64 k ∧ wr.heap[w.heap.size + 4]? = some (.cells (sdArr (sdA p R u k)) 122 (0, 0)) ∧ wr.heap[w.heap.size + 5]? = some (.cells (sdArr (sdB p R f k)) 122 (0, 0)) ∧ Ex.Bx B wr) (fun i _ => R.ms.length - (intOf i).toNat)
  case atStart => exact ⟨0, by omega, rfl, Ha0.out, Hb0.out, HB0.out⟩
  case round =>
    obtain ⟨k, hk, rfl, ha, hb, hbw⟩ := hrel
    have Ha := Lib.hid ha
    have Hb := Lib.hid hb
    have HB := Lib.hid hbw
    have zr := HSz.out _ hbw
    obtain ⟨x0, x1, x2, x3⟩ := HX.out _ hbw
    clear ha hb hbw
    by_cases hlt : k < R.ms.length
    · obtain ⟨b, o, rfl, hB, s0, s1, s2⟩ := (HRd.out _ HB.out).smp hlt
      have hmt := Hv.out.mt k hlt
      have hmr := Hv.out.mr k hlt
      have hsA : Hid (sdA p R u (k + 1) = if (at0 R.ms k).t ≤ u then meetK (sdA p R u k) (tellA p (at0 R.ms k) u) else sdA p R u k) := rfl
      have hsB : Hid (sdB p R f (k + 1) = if f ≤ (at0 R.ms k).t then meetK (sdB p R f k) (tellB p (at0 R.ms k) f) else sdB p R f k) := rfl
      generalize at0 R.ms k = s at *
      generalize sdA p R u k = ka at *
      generalize sdB p R f k = kb at *
      obtain ⟨t1, t2⟩ := hmt
      obtain ⟨r1, r2, r3⟩ := hmr
      go_upto_if 39 with (fail)
      generalize hWc : wr.alloc (.cells (smArr s) 75) = Wc
      have HWc := Lib.hid hWc.symm
      clear hWc
      have LC : Hid (Le wr Wc) := by show Le _ _; rw [HWc.out]; exact (Below.refl _ _).alloc (Nat.le_refl _) _
      have Hsc : Hid (∀ W : World, W.heap[wr.heap.size]? = Wc.heap[wr.heap.size]? → ∀ j v, (smArr s)[j]? = some v → W.cell? ⟨wr.heap.size, j, none⟩ = some v) := fun W hW j v hj => by
        have h2 : Wc.heap[wr.heap.size]? = some (.cells (smArr s) 75 (0, 0)) := by rw [HWc.out]; exact heap_last _ _ _ rfl
        rw [cell_of_row _ _ _ _ _ _ (hW.trans h2)]; exact hj
      have BC : Hid (Ex.Bx B Wc) := HB.out.next LC.out
      have zc : Wc.heap.size = wr.heap.size + 1 := by rw [HWc.out]; simp
      have Zc := Lib.hid zc
      have zc' : wr.heap.size + 1 ≤ Wc.heap.size := by omega
      have CA : Hid (Wc.heap[w.heap.size + 4]? = some (.cells (sdArr ka) 122 (0, 0)) ∧ Wc.heap[w.heap.size + 5]? = some (.cells (sdArr kb) 122 (0, 0))) := ⟨(Below.block LC.out _ (by omega)).trans Ha.out, (Below.block LC.out _ (by omega)).trans Hb.out⟩
      clear s0 s1 s2 x0 x1 x2 x3 zc
      go_cut [15, 16] from 22 to 107 (fun s15 s16 wx => wx.heap[w.heap.size + 4]? = some (.cells (sdArr (if s.t ≤ u then meetK ka (tellA p s u) else ka)) 122 (0, 0)) ∧ wx.heap[w.heap.size + 5]? = some (.cells (sdArr kb) 122 (0, 0)) ∧ wx.heap[wr.heap.size]? = Wc.heap[wr.heap.size]? ∧ Ex.Bx B wx)
      case first =>
        by_cases tu : s.t ≤ u
        · have hif : Hid ((if s.t ≤ u then meetK ka (tellA p s u) else ka) = meetK ka (tellA p s u)) := if_pos tu
          obtain ⟨m1, m2⟩ := mul_bd sh1 sh2 (show 0 ≤ u - s.t by omega) (show u - s.t ≤ 200000 by omega)
          obtain ⟨m3, m4⟩ := mul_bd gr1 gr2 (show 0 ≤ u - s.t by omega) (show u - s.t ≤ 200000 by omega)
          have y0 := ovr_cell (HP.out _ BC.out 110 (by omega))
          have y1 := ovr_cell (HP.out _ BC.out 111 (by omega))
          have y2 := ovr_cell (Hsc.out Wc rfl 1 _ rfl)
          have y3 := ovr_cell (Hsc.out Wc rfl 2 _ rfl)
          go_wp2_with fail
          refine wp_region_below_lit (by kernel_rfl) (by kernel_rfl) ?_
          repeat (go_big_quiet_step (fail))
          refine wpQuiet_nil ?_
          intro w5 hb5
          have L5 : Hid (Le Wc w5) := hb5
          have B5 : Hid (Ex.Bx B w5) := BC.out.next hb5
          have A5 : Hid (w5.heap[w.heap.size + 4]? = some (.cells (sdArr ka) 122 (0, 0)) ∧ w5.heap[w.heap.size + 5]? = some (.cells (sdArr kb) 122 (0, 0)) ∧ w5.heap[wr.heap.size]? = Wc.heap[wr.heap.size]?) := ⟨(Below.block L5.out _ (by omega)).trans CA.out.1, (Below.block L5.out _ (by omega)).trans CA.out.2, Below.block L5.out _ (by omega)⟩
          clear y0 y1 y2 y3 hb5
          have z5 : w5.heap.size = w5.heap.size := rfl
          have q0 : w5.cell? ⟨w.heap.size + 4, 0, none⟩ = some (.bool ka.some) := by rw [cell_of_row _ _ _ _ _ _ A5.out.1]; rfl
          have q1 : w5.cell? ⟨w.heap.size + 4, 1, none⟩ = some (I ka.lo) := by rw [cell_of_row _ _ _ _ _ _ A5.out.1]; rfl
          have q2 : w5.cell? ⟨w.heap.size + 4, 2, none⟩ = some (I ka.hi) := by rw [cell_of_row _ _ _ _ _ _ A5.out.1]; rfl
          clear z5
          rcases hs : ka.some with _ | _
          · have HS := Lib.hid hs
            have q3 : (w5.setRow (w.heap.size + 4) #[.bool true, I (s.lo - p 111 * (u - s.t)), I (s.hi + p 110 * (u - s.t))]).cell? ⟨w.heap.size + 4, 1, none⟩ = some (I (s.lo - p 111 * (u - s.t))) := by rw [cell_of_row _ _ _ _ _ _ (setRow_same A5.out.1)]; rfl
            have q4 : (w5.setRow (w.heap.size + 4) #[.bool true, I (s.lo - p 111 * (u - s.t)), I (s.hi + p 110 * (u - s.t))]).cell? ⟨w.heap.size + 4, 2, none⟩ = some (I (s.hi + p 110 * (u - s.t))) := by rw [cell_of_row _ _ _ _ _ _ (setRow_same A5.out.1)]; rfl
            rw [hs] at q0
            clear hs
            go_wp2_with (first | (refine wpList_store_row rfl 122 _ _ rfl (w.heap.size + 4) rfl (sdArr ka) _ A5.out.1 #[.bool true, I (s.lo - p 111 * (u - s.t)), I (s.hi + p 110 * (u - s.t))] rfl (bOne _ _ _) rfl (by kernel_rfl) ?_) | (refine wpList_store_row rfl 122 _ _ rfl (w.heap.size + 4) rfl _ _ (setRow_same A5.out.1) #[.bool true, I _, I _] rfl (bOne _ _ _) rfl (by kernel_rfl) ?_))
            go_meet
            case rel =>
              refine ⟨?_, ?_, ?_, ?_⟩
              · rw [setRow_same (setRow_same A5.out.1), hif.out, sdArr_left rfl HS.out]
                first | rfl | simp [tellA]
              · rw [setRow_other (by omega), setRow_other (by omega)]; exact A5.out.2.1
              · rw [setRow_other (by omega), setRow_other (by omega)]; exact A5.out.2.2
              · refine (B5.out.set (Or.inl HXa.out.1) A5.out.1 ?_).set (Or.inl HXa.out.1) (setRow_same A5.out.1) ?_ <;> rfl
          · have HS := Lib.hid hs
            rw [hs] at q0
            clear hs
            go_wp2_with (refine wpList_store_row rfl 122 _ _ rfl (w.heap.size + 4) rfl (sdArr ka) _ A5.out.1 #[.bool true, I _, I _] rfl (bOne _ _ _) rfl (by kernel_rfl) ?_)
            all_goals
              go_meet
              case rel =>
                refine ⟨?_, ?_, ?_, ?_⟩
                · rw [setRow_same A5.out.1, hif.out, sdArr_both rfl HS.out]
                  exact cells3_eq (by simp only [tellA]; omega) (by simp only [tellA]; omega)
                · rw [setRow_other (by omega)]; exact A5.out.2.1
                · rw [setRow_other (by omega)]; exact A5.out.2.2
                · refine B5.out.set (Or.inl HXa.out.1) A5.out.1 ?_; rfl
        · have hif : Hid ((if s.t ≤ u then meetK ka (tellA p s u) else ka) = ka) := if_neg tu
          go_wp2_with fail
          go_meet
          case rel => exact ⟨by rw [hif.out]; exact CA.out.1, CA.out.2, rfl, BC.out⟩
      case rest =>
        obtain ⟨e1, e2, e3, e4⟩ := hcut
        have CA2 : Hid (wc.heap[w.heap.size + 4]? = some (.cells (sdArr (if s.t ≤ u then meetK ka (tellA p s u) else ka)) 122 (0, 0)) ∧ wc.heap[w.heap.size + 5]? = some (.cells (sdArr kb) 122 (0, 0))) := ⟨e1, e2⟩
        have E3 := Lib.hid e3
        have BC2 := Lib.hid e4
        have zc2 : wr.heap.size + 1 ≤ wc.heap.size := by
          have h2 : Wc.heap[wr.heap.size]? = some (.cells (smArr s) 75 (0, 0)) := by rw [HWc.out]; exact heap_last _ _ _ rfl
          have := (Array.getElem?_eq_some_iff.1 (e3.trans h2)).1
          omega
        have x0 := Hsc.out wc E3.out 0 _ rfl
        clear e1 e2 e3 e4
        generalize (if s.t ≤ u then meetK ka (tellA p s u) else ka) = kq at *
        by_cases tu : f ≤ s.t
        · have hif : Hid ((if f ≤ s.t then meetK kb (tellB p s f) else kb) = meetK kb (tellB p s f)) := if_pos tu
          obtain ⟨m1, m2⟩ := mul_bd sh1 sh2 (show 0 ≤ s.t - f by omega) (show s.t - f ≤ 200000 by omega)
          obtain ⟨m3, m4⟩ := mul_bd gr1 gr2 (show 0 ≤ s.t - f by omega) (show s.t - f ≤ 200000 by omega)
          have y0 := ovr_cell (HP.out _ BC2.out 110 (by omega))
          have y1 := ovr_cell (HP.out _ BC2.out 111 (by omega))
          have y2 := ovr_cell (Hsc.out wc E3.out 1 _ rfl)
          have y3 := ovr_cell (Hsc.out wc E3.out 2 _ rfl)
          go_wp2_with fail
          refine wp_region_below_lit (by kernel_rfl) (by kernel_rfl) ?_
          repeat (go_big_quiet_step (fail))
          refine wpQuiet_nil ?_
          intro w5 hb5
          have L5 : Hid (Le wc w5) := hb5
          have B5 : Hid (Ex.Bx B w5) := BC2.out.next hb5
          have A5 : Hid (w5.heap[w.heap.size + 4]? = some (.cells (sdArr kq) 122 (0, 0)) ∧ w5.heap[w.heap.size + 5]? = some (.cells (sdArr kb) 122 (0, 0))) := ⟨(Below.block L5.out _ (by omega)).trans CA2.out.1, (Below.block L5.out _ (by omega)).trans CA2.out.2⟩
          clear y0 y1 y2 y3 hb5 x0
          have q0 : w5.cell? ⟨w.heap.size + 5, 0, none⟩ = some (.bool kb.some) := by rw [cell_of_row _ _ _ _ _ _ A5.out.2]; rfl
          have q1 : w5.cell? ⟨w.heap.size + 5, 1, none⟩ = some (I kb.lo) := by rw [cell_of_row _ _ _ _ _ _ A5.out.2]; rfl
          have q2 : w5.cell? ⟨w.heap.size + 5, 2, none⟩ = some (I kb.hi) := by rw [cell_of_row _ _ _ _ _ _ A5.out.2]; rfl
          rcases hs : kb.some with _ | _
          · have HS := Lib.hid hs
            have q3 : (w5.setRow (w.heap.size + 5) #[.bool true, I (s.lo - p 110 * (s.t - f)), I (s.hi + p 111 * (s.t - f))]).cell? ⟨w.heap.size + 5, 1, none⟩ = some (I (s.lo - p 110 * (s.t - f))) := by rw [cell_of_row _ _ _ _ _ _ (setRow_same A5.out.2)]; rfl
            have q4 : (w5.setRow (w.heap.size + 5) #[.bool true, I (s.lo - p 110 * (s.t - f)), I (s.hi + p 111 * (s.t - f))]).cell? ⟨w.heap.size + 5, 2, none⟩ = some (I (s.hi + p 111 * (s.t - f))) := by rw [cell_of_row _ _ _ _ _ _ (setRow_same A5.out.2)]; rfl
            rw [hs] at q0
            clear hs
            go_wp2_with (first | (refine wpList_store_row rfl 122 _ _ rfl (w.heap.size + 5) rfl (sdArr kb) _ A5.out.2 #[.bool true, I (s.lo - p 110 * (s.t - f)), I (s.hi + p 111 * (s.t - f))] rfl (bOne _ _ _) rfl (by kernel_rfl) ?_) | (refine wpList_store_row rfl 122 _ _ rfl (w.heap.size + 5) rfl _ _ (setRow_same A5.out.2) #[.bool true, I _, I _] rfl (bOne _ _ _) rfl (by kernel_rfl) ?_))
            go_roundw
            case rel =>
              refine ⟨k + 1, by omega, by go_num, ?_, ?_, ?_⟩
              · rw [setRow_other (by omega), setRow_other (by omega), hsA.out]; exact A5.out.1
              · rw [setRow_same (setRow_same A5.out.2), hsB.out, hif.out, sdArr_left rfl HS.out]
                first | rfl | simp [tellB]
              · refine (B5.out.set (Or.inl HXa.out.2) A5.out.2 ?_).set (Or.inl HXa.out.2) (setRow_same A5.out.2) ?_ <;> rfl
            case measure => simp [intOf]; omega
          · have HS := Lib.hid hs
            rw [hs] at q0
            clear hs
            go_wp2_with (refine wpList_store_row rfl 122 _ _ rfl (w.heap.size + 5) rfl (sdArr kb) _ A5.out.2 #[.bool true, I _, I _] rfl (bOne _ _ _) rfl (by kernel_rfl) ?_)
            all_goals
              go_roundw
              case rel =>
                refine ⟨k + 1, by omega, by go_num, ?_, ?_, ?_⟩
                · rw [setRow_other (by omega), hsA.out]; exact A5.out.1
                · rw [setRow_same A5.out.2, hsB.out, hif.out, sdArr_both rfl HS.out]
                  exact cells3_eq (by simp only [tellB]; omega) (by simp only [tellB]; omega)
                · refine B5.out.set (Or.inl HXa.out.2) A5.out.2 ?_; rfl
              case measure => simp [intOf]; omega
        · have hif : Hid ((if f ≤ s.t then meetK kb (tellB p s f) else kb) = kb) := if_neg tu
          go_wp2_with fail
          go_roundw
          case rel => exact ⟨k + 1, by omega, by go_num, by rw [hsA.out]; exact CA2.out.1, by rw [hsB.out, hif.out]; exact CA2.out.2, BC2.out⟩
          case measure => simp [intOf]; omega
    · obtain rfl : k = R.ms.length := by omega
      generalize hka : sdA p R u R.ms.length = ka at *
      generalize hkb : sdB p R f R.ms.length = kb at *
      have HKa := Lib.hid hka
      have HKb := Lib.hid hkb
      clear hka hkb
      have a0 : wr.cell? ⟨w.heap.size + 4, 0, none⟩ = some (.bool ka.some) := by rw [cell_of_row _ _ _ _ _ _ Ha.out]; rfl
      have a1 : wr.cell? ⟨w.heap.size + 4, 1, none⟩ = some (I ka.lo) := by rw [cell_of_row _ _ _ _ _ _ Ha.out]; rfl
      have a2 : wr.cell? ⟨w.heap.size + 4, 2, none⟩ = some (I ka.hi) := by rw [cell_of_row _ _ _ _ _ _ Ha.out]; rfl
      have b0 : wr.cell? ⟨w.heap.size + 5, 0, none⟩ = some (.bool kb.some) := by rw [cell_of_row _ _ _ _ _ _ Hb.out]; rfl
      have b1 : wr.cell? ⟨w.heap.size + 5, 1, none⟩ = some (I kb.lo) := by rw [cell_of_row _ _ _ _ _ _ Hb.out]; rfl
      have b2 : wr.cell? ⟨w.heap.size + 5, 2, none⟩ = some (I kb.hi) := by rw [cell_of_row _ _ _ _ _ _ Hb.out]; rfl
      have n4 : ¬ (fun k => k = w.heap.size + 2 ∨ k = w.heap.size + 3) (w.heap.size + 4) := by show ¬ (_ ∨ _); omega
      have n5 : ¬ (fun k => k = w.heap.size + 2 ∨ k = w.heap.size + 3) (w.heap.size + 5) := by show ¬ (_ ∨ _); omega
      have y0 := Ex.ovx_cell (X := fun k => k = w.heap.size + 2 ∨ k = w.heap.size + 3) n4 a0
      have y1 := Ex.ovx_cell (X := fun k => k = w.heap.size + 2 ∨ k = w.heap.size + 3) n4 a1
      have y2 := Ex.ovx_cell (X := fun k => k = w.heap.size + 2 ∨ k = w.heap.size + 3) n4 a2
      have y3 := Ex.ovx_cell (X := fun k => k = w.heap.size + 2 ∨ k = w.heap.size + 3) n5 b0
      have y4 := Ex.ovx_cell (X := fun k => k = w.heap.size + 2 ∨ k = w.heap.size + 3) n5 b1
      have y5 := Ex.ovx_cell (X := fun k => k = w.heap.size + 2 ∨ k = w.heap.size + 3) n5 b2
      have H8 := Lib.hid (HR8.out _ HB.out)
      go_wp2_with fail
      refine Ex.wp_region_make_two (fun k => k = w.heap.size + 2 ∨ k = w.heap.size + 3) (fun _ => none) [1] (by kernel_rfl) (by kernel_rfl) (by kernel_rfl) (by kernel_rfl) (by kernel_rfl) (by intro i hi; rfl) ⟨rfl, rfl⟩ (fun c a d v w h => by cases d <;> exact h) ?_
      simp only [Ex.sleepTwo_cons, Ex.sleepTwo_two]
      repeat (refine Ex.wpG_one rfl rfl rfl ?_; intro K hK; go_big_quiet_op; go_big_quiet_on)
      refine Ex.wpG_nil (fun w5 hw5 _ => ?_)
      obtain ⟨q8, hq8, h8⟩ := hw5.bx.shape _ _ _ _ H8.out.1
      obtain ⟨q9, hq9, h9⟩ := hw5.bx.shape _ _ _ _ H8.out.2
      intro s t hs ht
      obtain rfl := Option.some.inj hs
      obtain rfl := Option.some.inj ht
      clear hs ht
      have h9' : (w5.setRow (w.heap.size + 2) (sdArr ka)).heap[w.heap.size + 3]? = some (.cells q9 122 (0, 0)) := (setRow_other (by omega)).trans h9
      have hc1 := hw5.set (k := w.heap.size + 2) (Or.inl (Or.inl rfl)) h8 (cs := sdArr ka) hq8.symm
      have hc2 := hc1.set (k := w.heap.size + 3) (Or.inl (Or.inr rfl)) h9' (cs := sdArr kb) hq9.symm
      refine wp_store_row 122 _ _ rfl (w.heap.size + 2) rfl q8 _ h8 (sdArr ka) rfl (bOne _ _ _) hq8.symm (by rw [hq8]; kernel_rfl) ?_
      refine ⟨hc1, ?_⟩
      refine wp_store_row 122 _ _ rfl (w.heap.size + 3) rfl q9 _ h9' (sdArr kb) rfl (bOne _ _ _) hq9.symm (by rw [hq9]; kernel_rfl) ?_
      refine ⟨hc2, ?_⟩
      have HE8 : Hid (((w5.setRow (w.heap.size + 2) (sdArr ka)).setRow (w.heap.size + 3) (sdArr kb)).heap[w.heap.size + 2]? = some (.cells (sdArr ka) 122 (0, 0))) := (setRow_other (by omega)).trans (setRow_same h8)
      have HE9 : Hid (((w5.setRow (w.heap.size + 2) (sdArr ka)).setRow (w.heap.size + 3) (sdArr kb)).heap[w.heap.size + 3]? = some (.cells (sdArr kb) 122 (0, 0))) := setRow_same h9'
      have HEB : Hid (Below w.heap.size w ((w5.setRow (w.heap.size + 2) (sdArr ka)).setRow (w.heap.size + 3) (sdArr kb))) := hc2.bx.below (HUp.out _ HB.out) (fun k hk => by rcases hk with rfl | rfl <;> omega)
      clear hc1 hc2 h8 h9 h9' hq8 hq9 hw5 y0 y1 y2 y3 y4 y5
      simp only [Act.put]
      generalize (w5.setRow (w.heap.size + 2) (sdArr ka)).setRow (w.heap.size + 3) (sdArr kb) = W9 at *
      go_wp2_with fail
      refine bodyPost_ret (results_two_cells rfl _ _ (w.heap.size + 2) (w.heap.size + 3) 122 122 (sdArr ka) (sdArr kb) (0, 0) (0, 0) _ _ rfl HE8.out Try.underlying122 rfl (by kernel_rfl) rfl HE9.out Try.underlying122 rfl (by kernel_rfl)) rfl ?_
      exact ⟨by rw [HKa.out, HKb.out], HEB.out⟩
end Go.Proofs.Ytlebefopdnadaaa
