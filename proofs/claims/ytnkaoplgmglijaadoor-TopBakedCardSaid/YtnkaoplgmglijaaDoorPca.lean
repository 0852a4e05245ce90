/- The contracts of rate, place and pieces of package pull. -/
import Derived.Test.YtnkaoplgmglijaaDoorCkR
import Derived.Test.YtnkaoplgmglijaaDoorBa
namespace Go.Proofs.YtnkaoplgmglijaaDoor
open Go.RowKit
theorem rate_any (p : Pce) (w : World) : Calls Tryd.prog 78 #[p.val] w fun e w' => e = .returned (I (p.s.v 0)) ∧ Below w.heap.size w w' := by
 go_enter Tryd.func78, Tryd.ntmps78
 go_wp2
 go_ret
 exact ⟨rfl, (Below.refl _ _).alloc (Nat.le_refl _) _⟩
def placeF (ps : List Pce) (t : Int) : Nat → Int
 | 0 => (at0 ps 0).p + (at0 ps 0).s.v 0 * (t - (at0 ps 0).s.t)
 | i + 1 => if (at0 ps (i + 1)).s.t ≤ t then (at0 ps (i + 1)).p + (at0 ps (i + 1)).s.v 0 * (t - (at0 ps (i + 1)).s.t) else placeF ps t i
set_option maxHeartbeats 1000000 in
theorem place_any (A : Option Addr) (c : Nat) (ps : List Pce) (t : Int) (w : World) (hx : Rd w w.heap.size 10 A ps.length (rP ps)) (h0 : 0 < ps.length) (hl : ps.length ≤ 1000) (ht : (at0 ps 0).s.t ≤ t) (ht2 : t ≤ 1000000)
 (hb : ∀ k, k < ps.length → 0 ≤ (at0 ps k).s.t ∧ 0 ≤ (at0 ps k).p ∧ (at0 ps k).p ≤ 1000000000000 ∧ 0 ≤ (at0 ps k).s.v 0 ∧ (at0 ps k).s.v 0 ≤ 1000000) :
 Calls Tryd.prog 56 #[.slice A ps.length c, I t] w fun e w' => e = .returned (I (placeF ps t (ps.length - 1))) ∧ Below w.heap.size w w' := by
 have Hx := Lib.hid hx
 have Hb := Lib.hid hb
 have Ht := Lib.hid ht
 obtain ⟨g0, _, _, _, _⟩ := hb 0 h0
 clear hx hb ht
 go_enter Tryd.func56, Tryd.ntmps56
 go_wp2
 go_loop [5] (fun i => ∃ k : Nat, k < ps.length ∧ i = .int .i64 k ∧ placeF ps t k = placeF ps t (ps.length - 1)) (fun i => (intOf i).toNat)
 case atStart => exact ⟨ps.length - 1, by omega, by go_num, rfl⟩
 case round =>
  obtain ⟨k, hk, rfl, he⟩ := hrel
  have He := Lib.hid he
  clear he
  obtain ⟨b, o, rfl, hB, x0, x1, x2, x3, x4, x5, x6, x7, x8, x9⟩ := Hx.out.pce hk
  by_cases hgt : t < (at0 ps k).s.t
  · rcases Nat.eq_zero_or_pos k with k0 | k0
    · subst k0; have h9 := Ht.out; omega
    obtain ⟨j, rfl⟩ : ∃ j, k = j + 1 := ⟨k - 1, by omega⟩
    go_wp2_with fail
    go_round
    case rel => exact ⟨j, by omega, by go_num, by rw [← He.out, placeF, if_neg (by omega)]⟩
    case measure => simp [intOf]
  · go_wp2_with fail
    have y0 := ovr_cell x0
    have y1 := ovr_cell x1
    have y2 := ovr_cell x2
    have y3 := ovr_cell x3
    have y4 := ovr_cell x4
    have y5 := ovr_cell x5
    have y6 := ovr_cell x6
    have y7 := ovr_cell x7
    have y8 := ovr_cell x8
    have y9 := ovr_cell x9
    clear x0 x1 x2 x3 x4 x5 x6 x7 x8 x9
    have i0 : (0 : Int) ≤ (k : Int) := by omega
    have i1 : (k : Int) < (ps.length : Int) := by omega
    refine wp_region_below_lit (by kernel_rfl) (by kernel_rfl) ?_
    repeat (go_big_quiet_step ((go_at_call 78; exact call_below (rate_any (at0 ps k) _))))
    refine wpQuiet_nil ?_
    intro w1 hb1
    go_wp2_with fail
    go_ret
    obtain ⟨b1, b2, b3, b4, b5⟩ := Hb.out k hk
    have m1 : 0 ≤ (at0 ps k).s.v 0 * (t - (at0 ps k).s.t) := Int.mul_nonneg b4 (by omega)
    have m2 : (at0 ps k).s.v 0 * (t - (at0 ps k).s.t) ≤ 1000000 * 1000000 := Int.mul_le_mul b5 (by omega) (by omega) (by omega)
    refine ⟨ret_int ?_, hb1⟩
    simp (disch := omega) only [IntWalk.wrap64_in]
    rw [← He.out]
    cases k with
    | zero => rfl
    | succ j => rw [placeF, if_pos (by omega)]
def untS (R : Run) (k : Nat) : Int := if k + 1 < R.ss.length then (at0 R.ss (k + 1)).t else R.e
def plS (R : Run) : Nat → Int
 | 0 => 0 | k + 1 => plS R k + (at0 R.ss k).v 0 * (untS R k - (at0 R.ss k).t)
def pcS (R : Run) (k : Nat) : Pce := ⟨at0 R.ss k, untS R k, plS R k⟩
def pcs (R : Run) : List Pce := (List.range R.ss.length).map (pcS R)
theorem pcs_len (R : Run) : (pcs R).length = R.ss.length := by simp [pcs]
theorem at0_pcs (R : Run) {k : Nat} (hk : k < R.ss.length) : at0 (pcs R) k = pcS R k := by
 rw [at0_get (by rw [pcs_len]; exact hk)]; simp [pcs]
theorem pce_info : (Tryd.prog.info? 162).map (fun i => (i.zero, i.size, i.bytes)) = some (some (.agg #[I 0, I 0, I 0, I 0, I 0, I 0, I 0, I 0, I 0, I 0]), 10, 80) := by kernel_rfl
set_option maxRecDepth 100000 in
set_option maxHeartbeats 1000000 in
theorem pieces_any (A1 A2 A3 : Option Addr) (c1 c2 c3 : Nat) (R : Run) (w : World) (h : RunIn w A1 A2 A3 R) (hl : R.ss.length ≤ 1000)
 (hb : ∀ k, k < R.ss.length → 0 ≤ (at0 R.ss k).t ∧ (at0 R.ss k).t ≤ untS R k ∧ untS R k ≤ 1000000 ∧ 0 ≤ (at0 R.ss k).v 0 ∧ (at0 R.ss k).v 0 ≤ 1000000 ∧ 0 ≤ plS R k ∧ plS R k ≤ 1000000000000) :
 Calls Tryd.prog 55 #[runV A1 A2 A3 c1 c2 c3 R] w fun e w' => ∃ A n c, e = .returned (.slice A n c) ∧ n = R.ss.length ∧ Rd w' w'.heap.size 10 A n (rP (pcs R)) ∧ Below w.heap.size w w' ∧ n ≤ c := by
 have Hs := Lib.hid h.s
 have Hb := Lib.hid hb
 clear hb
 obtain ⟨i0, hi0, iz0, iz1, iz2⟩ := info_parts pce_info
 obtain ⟨W0, hW0⟩ : ∃ W0, W0 = w.alloc (.cells #[.slice A1 R.ss.length c1, I R.e, .slice A2 R.ms.length c2, .slice A3 R.es.length c3] 92) := ⟨_, rfl⟩
 have HW0 := Lib.hid hW0
 have hZ0 : Hid (W0.heap.size = w.heap.size + 1) := by subst hW0; simp [Hid]
 have hS0 : Hid (W0.cell? ⟨w.heap.size, 0, none⟩ = some (.slice A1 R.ss.length c1)) := by subst hW0; simp [Hid]
 have hE0 : Hid (W0.cell? ⟨w.heap.size, 1, none⟩ = some (I R.e)) := by subst hW0; simp [Hid]
 have hU : ∀ W : World, Below (w.heap.size + 1) W0 W → Below w.heap.size w W := fun W h => under (o := .cells #[.slice A1 R.ss.length c1, I R.e, .slice A2 R.ms.length c2, .slice A3 R.es.length c3] 92) (HW0.out ▸ h)
 clear hW0
 have HU := Lib.hid hU
 clear hU
 go_enter Tryd.func55, Tryd.ntmps55
 go_wp2
 go_loopw [3, 4, 11] (fun v pl i wr => ∃ k : Nat, k ≤ R.ss.length ∧ i = .int .i64 k ∧ pl = I (plS R k) ∧ wr.ownsRow (w.heap.size + 1) 162 10 v k (flat 10 (rP (pcs R)) k) ∧ Below (w.heap.size + 1) W0 wr) (fun _ _ i _ => R.ss.length - (intOf i).toNat)
 case atStart => exact ⟨0, by omega, rfl, rfl, ⟨rfl, .inl ⟨rfl, rfl⟩⟩, by rw [HW0.out]; exact Below.refl _ _⟩
 case round =>
  obtain ⟨k, hk, rfl, rfl, hown, hbw⟩ := hrel
  have hsz : w.heap.size + 1 ≤ wr.heap.size := by have := hbw.size; rw [hZ0.out] at this; exact this
  by_cases hlt : k < R.ss.length
  · obtain ⟨b, o, rfl, hB, x0, x1, x2, x3, x4, x5, x6, x7⟩ := (Hs.out.below (HU.out _ hbw)).stg hlt
    have cE : ∀ x : Obj, (wr.alloc x).cell? ⟨w.heap.size, 1, none⟩ = some (I R.e) := fun x => ((hbw.alloc (by omega) x).cell (p := ⟨_, _, none⟩) (by simp)).trans hE0.out
    have cS : ∀ x : Obj, (wr.alloc x).cell? ⟨w.heap.size, 0, none⟩ = some (.slice (some ⟨b, o, none⟩) R.ss.length c1) := fun x => ((hbw.alloc (by omega) x).cell (p := ⟨_, _, none⟩) (by simp)).trans hS0.out
    have cS2 : ∀ x y : Obj, ((wr.alloc x).alloc y).cell? ⟨w.heap.size, 0, none⟩ = some (.slice (some ⟨b, o, none⟩) R.ss.length c1) := fun x y => (((hbw.alloc (by omega) x).alloc (by simp; omega) y).cell (p := ⟨_, _, none⟩) (by simp)).trans hS0.out
    have xn : k + 1 < R.ss.length → ∀ x y : Obj, ((wr.alloc x).alloc y).cell? ⟨b, o + (k + 1) * 8, none⟩ = some (I (at0 R.ss (k + 1)).t) := fun hn x y => by
        obtain ⟨b', o', he, _, z0, _⟩ := (Hs.out.below (HU.out _ ((hbw.alloc (by omega) x).alloc (by simp; omega) y))).stg hn
        simp only [Option.some.injEq, Addr.mk.injEq, and_true] at he
        obtain ⟨rfl, rfl⟩ := he
        exact z0
    have HC := Lib.hid (flat_succ 10 (by omega) (rP (pcs R)) k)
    have HP := Lib.hid (at0_pcs R hlt)
    have hpl : Hid (plS R (k + 1) = plS R k + (at0 R.ss k).v 0 * (untS R k - (at0 R.ss k).t)) := rfl
    obtain ⟨e1, e2, e3, e4, e5, e6, e7⟩ := Hb.out k hlt
    have m1 : 0 ≤ (at0 R.ss k).v 0 * (untS R k - (at0 R.ss k).t) := Int.mul_nonneg e4 (by omega)
    have m2 : (at0 R.ss k).v 0 * (untS R k - (at0 R.ss k).t) ≤ 1000000 * 1000000 := Int.mul_le_mul e5 (by omega) (by omega) (by omega)
    by_cases hn : k + 1 < R.ss.length
    · have xn := xn hn
      have hu : Hid (untS R k = (at0 R.ss (k + 1)).t) := by show untS R k = _; rw [untS, if_pos hn]
      go_wp2_with fail
      generalize hW1 : (wr.alloc (.cells #[I (at0 R.ss k).t, I (at0 R.ss k).ph, I ((at0 R.ss k).v 0), I ((at0 R.ss k).v 1), I ((at0 R.ss k).v 2), I ((at0 R.ss k).v 3), I ((at0 R.ss k).v 4), I ((at0 R.ss k).v 5)] 87)).alloc (.cells #[I (at0 R.ss k).t, I (at0 R.ss k).ph, I ((at0 R.ss k).v 0), I ((at0 R.ss k).v 1), I ((at0 R.ss k).v 2), I ((at0 R.ss k).v 3), I ((at0 R.ss k).v 4), I ((at0 R.ss k).v 5), I (at0 R.ss (k + 1)).t, I (plS R k)] 162) = W1
      have HW1 := Lib.hid hW1.symm
      clear hW1
      have hB1 : Below (w.heap.size + 1) W0 W1 := by rw [HW1.out]; exact (hbw.alloc (by omega) _).alloc (by simp; omega) _
      have hz1 : W1.heap.size = wr.heap.size + 2 := by rw [HW1.out]; simp
      have Hz1 := Lib.hid hz1
      have hz1' : wr.heap.size + 2 ≤ W1.heap.size := by omega
      clear hz1
      have hbk : Hid (W1.heap[wr.heap.size + 1]? = some (.cells #[I (at0 R.ss k).t, I (at0 R.ss k).ph, I ((at0 R.ss k).v 0), I ((at0 R.ss k).v 1), I ((at0 R.ss k).v 2), I ((at0 R.ss k).v 3), I ((at0 R.ss k).v 4), I ((at0 R.ss k).v 5), I (at0 R.ss (k + 1)).t, I (plS R k)] 162 (0, 0))) := by rw [HW1.out]; exact heap_lastP _ _ _ (by simp)
      have own1 : Hid (W1.ownsRow (w.heap.size + 1) 162 10 u3 k (flat 10 (rP (pcs R)) k)) := by rw [HW1.out]; exact (hown.alloc _).alloc _
      have HK : Hid (∀ u j x, #[I (at0 R.ss k).t, I (at0 R.ss k).ph, I ((at0 R.ss k).v 0), I ((at0 R.ss k).v 1), I ((at0 R.ss k).v 2), I ((at0 R.ss k).v 3), I ((at0 R.ss k).v 4), I ((at0 R.ss k).v 5), I (at0 R.ss (k + 1)).t, I (plS R k)][j]? = some x → (ovr W1 u).cell? ⟨wr.heap.size + 1, j, none⟩ = some x) := fun u j x hx => ovr_cell (by rw [cell_of_row _ _ _ _ _ _ hbk.out]; exact hx) u
      clear x0 x1 x2 x3 x4 x5 x6 x7 cE cS cS2 xn
      have y0 := fun u => HK.out u 0 _ rfl
      have y1 := fun u => HK.out u 1 _ rfl
      have y2 := fun u => HK.out u 2 _ rfl
      have y3 := fun u => HK.out u 3 _ rfl
      have y4 := fun u => HK.out u 4 _ rfl
      have y5 := fun u => HK.out u 5 _ rfl
      have y6 := fun u => HK.out u 6 _ rfl
      have y7 := fun u => HK.out u 7 _ rfl
      have y8 := fun u => HK.out u 8 _ rfl
      have y9 := fun u => HK.out u 9 _ rfl
      refine wp_region_below_lit (by kernel_rfl) (by kernel_rfl) ?_
      repeat (go_big_quiet_step ((go_at_call 78; exact call_below (rate_any ⟨at0 R.ss k, (at0 R.ss (k + 1)).t, plS R k⟩ _))))
      refine wpQuiet_nil ?_
      intro w1 hb1
      clear y0 y1 y2 y3 y4 y5 y6 y7 y8 y9
      rw [hu.out] at e2 e3 m1 m2
      simp (disch := omega) only [IntWalk.wrap64_in]
      have hbk1 := Lib.hid ((hb1.block _ (by omega)).trans hbk.out)
      have own2 := Lib.hid (own_below own1.out hb1)
      have hB2 : Below (w.heap.size + 1) W0 w1 := hB1.trans (hb1.mono (by omega))
      have hz2 : wr.heap.size + 2 ≤ w1.heap.size := by have := hb1.size; omega
      have hZ : Hid (∀ j x, #[I (at0 R.ss k).t, I (at0 R.ss k).ph, I ((at0 R.ss k).v 0), I ((at0 R.ss k).v 1), I ((at0 R.ss k).v 2), I ((at0 R.ss k).v 3), I ((at0 R.ss k).v 4), I ((at0 R.ss k).v 5), I (at0 R.ss (k + 1)).t, I (plS R k)][j]? = some x → w1.cell? ⟨wr.heap.size + 1, j, none⟩ = some x) := fun j x hx => by rw [cell_of_row _ _ _ _ _ _ hbk1.out]; exact hx
      have y0 := hZ.out 0 _ rfl
      have y1 := hZ.out 1 _ rfl
      have y2 := hZ.out 2 _ rfl
      have y3 := hZ.out 3 _ rfl
      have y4 := hZ.out 4 _ rfl
      have y5 := hZ.out 5 _ rfl
      have y6 := hZ.out 6 _ rfl
      have y7 := hZ.out 7 _ rfl
      have y8 := hZ.out 8 _ rfl
      have y9 := hZ.out 9 _ rfl
      go_wp2_with (at_builtin; go_loud (refine wpList_append_own _ rfl _ _ 130 rfl (w.heap.size + 1) 162 i0 _ 10 80 Tryd.underlying130 hi0 iz0 iz1 iz2 rfl (by decide) u3 k _ rfl (own2.out.alloc _) ⟨w1.heap.size, 0, none⟩ 1 1 #[I (at0 R.ss k).t, I (at0 R.ss k).ph, I ((at0 R.ss k).v 0), I ((at0 R.ss k).v 1), I ((at0 R.ss k).v 2), I ((at0 R.ss k).v 3), I ((at0 R.ss k).v 4), I ((at0 R.ss k).v 5), I (at0 R.ss (k + 1)).t, I (plS R k)].toList rfl (by rfl) (news_lit (heap_lastP _ _ _ rfl)) ?h1 ?h63 ?hby ?hba ?_))
      case h1 => simp [Value.oneCell']
      case h63 => unfold maxLen; omega
      case hby => omega
      case hba => simp; omega
      intro v' w2 own3 hg2 _
      have hB3 : Below (w.heap.size + 1) W0 w2 := (hB2.alloc (by omega) _).grown hg2 (by simp; omega) (fun g hg => (own2.out.lt g hg).1)
      have own4 : Hid (w2.ownsRow (w.heap.size + 1) 162 10 v' (k + 1) (flat 10 (rP (pcs R)) (k + 1))) := by
       have e : (List.range 10).map (rP (pcs R) k) = #[I (at0 R.ss k).t, I (at0 R.ss k).ph, I ((at0 R.ss k).v 0), I ((at0 R.ss k).v 1), I ((at0 R.ss k).v 2), I ((at0 R.ss k).v 3), I ((at0 R.ss k).v 4), I ((at0 R.ss k).v 5), I (at0 R.ss (k + 1)).t, I (plS R k)].toList := by
        rw [← hu.out]
        show (List.range 10).map (at0 (pcs R) k).c = _
        rw [HP.out]; rfl
       rw [HC.out, e]; exact own3
      clear own3
      go_wp2_with fail
      go_roundw
      case rel => exact ⟨k + 1, by omega, by go_num, by rw [hpl.out, hu.out], own4.out, hB3⟩
      case measure => simp [intOf]; omega
    · have hu : Hid (untS R k = R.e) := by show untS R k = _; rw [untS, if_neg hn]
      go_wp2_with fail
      generalize hW1 : (wr.alloc (.cells #[I (at0 R.ss k).t, I (at0 R.ss k).ph, I ((at0 R.ss k).v 0), I ((at0 R.ss k).v 1), I ((at0 R.ss k).v 2), I ((at0 R.ss k).v 3), I ((at0 R.ss k).v 4), I ((at0 R.ss k).v 5)] 87)).alloc (.cells #[I (at0 R.ss k).t, I (at0 R.ss k).ph, I ((at0 R.ss k).v 0), I ((at0 R.ss k).v 1), I ((at0 R.ss k).v 2), I ((at0 R.ss k).v 3), I ((at0 R.ss k).v 4), I ((at0 R.ss k).v 5), I R.e, I (plS R k)] 162) = W1
      have HW1 := Lib.hid hW1.symm
      clear hW1
      have hB1 : Below (w.heap.size + 1) W0 W1 := by rw [HW1.out]; exact (hbw.alloc (by omega) _).alloc (by simp; omega) _
      have hz1 : W1.heap.size = wr.heap.size + 2 := by rw [HW1.out]; simp
      have Hz1 := Lib.hid hz1
      have hz1' : wr.heap.size + 2 ≤ W1.heap.size := by omega
      clear hz1
      have hbk : Hid (W1.heap[wr.heap.size + 1]? = some (.cells #[I (at0 R.ss k).t, I (at0 R.ss k).ph, I ((at0 R.ss k).v 0), I ((at0 R.ss k).v 1), I ((at0 R.ss k).v 2), I ((at0 R.ss k).v 3), I ((at0 R.ss k).v 4), I ((at0 R.ss k).v 5), I R.e, I (plS R k)] 162 (0, 0))) := by rw [HW1.out]; exact heap_lastP _ _ _ (by simp)
      have own1 : Hid (W1.ownsRow (w.heap.size + 1) 162 10 u3 k (flat 10 (rP (pcs R)) k)) := by rw [HW1.out]; exact (hown.alloc _).alloc _
      have HK : Hid (∀ u j x, #[I (at0 R.ss k).t, I (at0 R.ss k).ph, I ((at0 R.ss k).v 0), I ((at0 R.ss k).v 1), I ((at0 R.ss k).v 2), I ((at0 R.ss k).v 3), I ((at0 R.ss k).v 4), I ((at0 R.ss k).v 5), I R.e, I (plS R k)][j]? = some x → (ovr W1 u).cell? ⟨wr.heap.size + 1, j, none⟩ = some x) := fun u j x hx => ovr_cell (by rw [cell_of_row _ _ _ _ _ _ hbk.out]; exact hx) u
      clear x0 x1 x2 x3 x4 x5 x6 x7 cE cS cS2 xn
      have y0 := fun u => HK.out u 0 _ rfl
      have y1 := fun u => HK.out u 1 _ rfl
      have y2 := fun u => HK.out u 2 _ rfl
      have y3 := fun u => HK.out u 3 _ rfl
      have y4 := fun u => HK.out u 4 _ rfl
      have y5 := fun u => HK.out u 5 _ rfl
      have y6 := fun u => HK.out u 6 _ rfl
      have y7 := fun u => HK.out u 7 _ rfl
      have y8 := fun u => HK.out u 8 _ rfl
      have y9 := fun u => HK.out u 9 _ rfl
      refine wp_region_below_lit (by kernel_rfl) (by kernel_rfl) ?_
      repeat (go_big_quiet_step ((go_at_call 78; exact call_below (rate_any ⟨at0 R.ss k, R.e, plS R k⟩ _))))
      refine wpQuiet_nil ?_
      intro w1 hb1
      clear y0 y1 y2 y3 y4 y5 y6 y7 y8 y9
      rw [hu.out] at e2 e3 m1 m2
      simp (disch := omega) only [IntWalk.wrap64_in]
      have hbk1 := Lib.hid ((hb1.block _ (by omega)).trans hbk.out)
      have own2 := Lib.hid (own_below own1.out hb1)
      have hB2 : Below (w.heap.size + 1) W0 w1 := hB1.trans (hb1.mono (by omega))
      have hz2 : wr.heap.size + 2 ≤ w1.heap.size := by have := hb1.size; omega
      have hZ : Hid (∀ j x, #[I (at0 R.ss k).t, I (at0 R.ss k).ph, I ((at0 R.ss k).v 0), I ((at0 R.ss k).v 1), I ((at0 R.ss k).v 2), I ((at0 R.ss k).v 3), I ((at0 R.ss k).v 4), I ((at0 R.ss k).v 5), I R.e, I (plS R k)][j]? = some x → w1.cell? ⟨wr.heap.size + 1, j, none⟩ = some x) := fun j x hx => by rw [cell_of_row _ _ _ _ _ _ hbk1.out]; exact hx
      have y0 := hZ.out 0 _ rfl
      have y1 := hZ.out 1 _ rfl
      have y2 := hZ.out 2 _ rfl
      have y3 := hZ.out 3 _ rfl
      have y4 := hZ.out 4 _ rfl
      have y5 := hZ.out 5 _ rfl
      have y6 := hZ.out 6 _ rfl
      have y7 := hZ.out 7 _ rfl
      have y8 := hZ.out 8 _ rfl
      have y9 := hZ.out 9 _ rfl
      go_wp2_with (at_builtin; go_loud (refine wpList_append_own _ rfl _ _ 130 rfl (w.heap.size + 1) 162 i0 _ 10 80 Tryd.underlying130 hi0 iz0 iz1 iz2 rfl (by decide) u3 k _ rfl (own2.out.alloc _) ⟨w1.heap.size, 0, none⟩ 1 1 #[I (at0 R.ss k).t, I (at0 R.ss k).ph, I ((at0 R.ss k).v 0), I ((at0 R.ss k).v 1), I ((at0 R.ss k).v 2), I ((at0 R.ss k).v 3), I ((at0 R.ss k).v 4), I ((at0 R.ss k).v 5), I R.e, I (plS R k)].toList rfl (by rfl) (news_lit (heap_lastP _ _ _ rfl)) ?h1 ?h63 ?hby ?hba ?_))
      case h1 => simp [Value.oneCell']
      case h63 => unfold maxLen; omega
      case hby => omega
      case hba => simp; omega
      intro v' w2 own3 hg2 _
      have hB3 : Below (w.heap.size + 1) W0 w2 := (hB2.alloc (by omega) _).grown hg2 (by simp; omega) (fun g hg => (own2.out.lt g hg).1)
      have own4 : Hid (w2.ownsRow (w.heap.size + 1) 162 10 v' (k + 1) (flat 10 (rP (pcs R)) (k + 1))) := by
       have e : (List.range 10).map (rP (pcs R) k) = #[I (at0 R.ss k).t, I (at0 R.ss k).ph, I ((at0 R.ss k).v 0), I ((at0 R.ss k).v 1), I ((at0 R.ss k).v 2), I ((at0 R.ss k).v 3), I ((at0 R.ss k).v 4), I ((at0 R.ss k).v 5), I R.e, I (plS R k)].toList := by
        rw [← hu.out]
        show (List.range 10).map (at0 (pcs R) k).c = _
        rw [HP.out]; rfl
       rw [HC.out, e]; exact own3
      clear own3
      go_wp2_with fail
      go_roundw
      case rel => exact ⟨k + 1, by omega, by go_num, by rw [hpl.out, hu.out], own4.out, hB3⟩
      case measure => simp [intOf]; omega
  · have HL := Lib.hid (pcs_len R)
    have hkn : k = R.ss.length := by omega
    subst hkn
    go_wp2_with fail
    go_ret
    obtain ⟨A, c, rfl, hcap, hr⟩ := Rd.of_own_cap hown
    exact ⟨A, _, c, rfl, rfl, hr, HU.out _ hbw, hcap⟩
end Go.Proofs.YtnkaoplgmglijaaDoor
/- What a valid run and a valid puller satisfy: bounds of their numbers. No program in sight. -/
namespace Go.Proofs.YtnkaoplgmglijaaDoor
open Go.RowKit
theorem inB_iff (m : Int) (xs : List Int) : inB m xs = true ↔ ∀ x ∈ xs, 0 ≤ x ∧ x ≤ m := by
 simp only [inB, outB, Bool.not_eq_true', List.any_eq_false]
 constructor
 · intro h x hx
   have := h x hx
   simp at this
   omega
 · intro h x hx
   have := h x hx
   simp; omega
theorem rangeB_iff (m : Int) (xs : List Rng) : rangeB m xs = true ↔ ∀ r ∈ xs, 0 ≤ r.lo ∧ r.lo ≤ r.hi ∧ r.hi ≤ m := by
 have hq : ∀ r, badR m r = false ↔ 0 ≤ r.lo ∧ r.lo ≤ r.hi ∧ r.hi ≤ m := by
  intro r
  have := inB_iff m [r.lo, r.hi]
  simp at this
  simp [badR, this]
  omega
 simp only [rangeB, Bool.not_eq_true', List.any_eq_false]
 constructor
 · intro h r hr
   exact (hq r).1 (by simpa using h r hr)
 · intro h r hr
   have := (hq r).2 (h r hr)
   simp [this]
structure VRun (R : Run) : Prop where
 n1 : 1 ≤ R.ss.length
 n60 : R.ss.length ≤ 60
 m100 : R.ms.length ≤ 100
 e20 : R.es.length ≤ 20
 last : R.e ≤ 100000
 first : (at0 R.ss 0).t = 0
 tlt : ∀ k, k < R.ss.length → (at0 R.ss k).t < R.e
 tup : ∀ k, k + 1 < R.ss.length → (at0 R.ss k).t < (at0 R.ss (k + 1)).t
 ph : ∀ k, k < R.ss.length → 1 ≤ (at0 R.ss k).ph ∧ (at0 R.ss k).ph ≤ 5
 v : ∀ k, k < R.ss.length → ∀ g, g < 6 → 0 ≤ (at0 R.ss k).v g ∧ (at0 R.ss k).v g ≤ 1000000
 mt : ∀ k, k < R.ms.length → 0 ≤ (at0 R.ms k).t ∧ (at0 R.ms k).t ≤ R.e
 mup : ∀ k, k + 1 < R.ms.length → (at0 R.ms k).t < (at0 R.ms (k + 1)).t
 mr : ∀ k, k < R.ms.length → 0 ≤ (at0 R.ms k).lo ∧ (at0 R.ms k).lo ≤ (at0 R.ms k).hi ∧ (at0 R.ms k).hi ≤ 1000000
 et : ∀ k, k < R.es.length → 0 ≤ (at0 R.es k).t ∧ (at0 R.es k).t ≤ R.e
 eup : ∀ k, k + 1 < R.es.length → (at0 R.es k).t ≤ (at0 R.es (k + 1)).t
 ek : ∀ k, k < R.es.length → 1 ≤ (at0 R.es k).kd ∧ (at0 R.es k).kd ≤ 5
theorem okSet_iff (s : Stg) : okSet s = true ↔ (1 ≤ s.ph ∧ s.ph ≤ 5) ∧ ∀ g, g < 6 → 0 ≤ s.v g ∧ s.v g ≤ 1000000 := by
 have := inB_iff 1000000 [s.v 0, s.v 1, s.v 2, s.v 3, s.v 4, s.v 5]
 simp at this
 simp only [okSet, Bool.and_eq_true, decide_eq_true_eq, this]
 constructor
 · rintro ⟨h, h0, h1, h2, h3, h4, h5⟩
   exact ⟨h, all6 h0 h1 h2 h3 h4 h5⟩
 · rintro ⟨h, hv⟩
   exact ⟨h, hv 0 (by omega), hv 1 (by omega), hv 2 (by omega), hv 3 (by omega), hv 4 (by omega), hv 5 (by omega)⟩
theorem vRun_iff (R : Run) : okRun R = true ↔ VRun R := by
 have hr := fun k => rangeB_iff 1000000 [⟨(at0 R.ms k).lo, (at0 R.ms k).hi⟩]
 simp at hr
 simp only [okRun, Bool.and_eq_true, List.all_eq_true, List.mem_range]
 constructor
 · rintro ⟨⟨⟨hh, hs⟩, hm⟩, he⟩
   have hh' : 1 ≤ R.ss.length ∧ R.ss.length ≤ 60 ∧ R.ms.length ≤ 100 ∧ R.es.length ≤ 20 ∧ R.e ≤ 100000 := by simp [headB] at hh; omega
   have hs' : ∀ k, k < R.ss.length → okSet (at0 R.ss k) = true ∧ nxS R.ss k ≤ (at0 R.ss k).t ∧ (k = 0 → (at0 R.ss k).t ≤ 0) ∧ (at0 R.ss k).t < R.e := fun k hk => by
    have := hs k hk
    simp [setAt] at this
    refine ⟨this.1.1.1, this.1.1.2, fun h => ?_, this.2⟩
    rcases this.1.2 with h1 | h1
    · exact absurd h h1
    · exact h1
   have hm' : ∀ k, k < R.ms.length → nxM R.ms k ≤ (at0 R.ms k).t ∧ (at0 R.ms k).t ≤ R.e ∧ _ := fun k hk => by
    have := hm k hk
    simp [smpAt, hr k] at this
    exact ⟨this.1.1, this.1.2, this.2⟩
   have he' : ∀ k, k < R.es.length → nxE R.es k ≤ (at0 R.es k).t ∧ (at0 R.es k).t ≤ R.e ∧ 1 ≤ (at0 R.es k).kd ∧ (at0 R.es k).kd ≤ 5 := fun k hk => by
    have := he k hk
    simp [evtAt] at this
    exact ⟨this.1.1.1, this.1.1.2, this.1.2, this.2⟩
   obtain ⟨a1, a2, a3, a4, a5⟩ := hh'
   refine ⟨a1, a2, a3, a4, a5, ?_, fun k hk => (hs' k hk).2.2.2, fun k hk => ?_, fun k hk => ((okSet_iff _).1 (hs' k hk).1).1, fun k hk => ((okSet_iff _).1 (hs' k hk).1).2, ?_, fun k hk => ?_, fun k hk => (hm' k hk).2.2, ?_, fun k hk => ?_, fun k hk => (he' k hk).2.2⟩
   · have h0 := hs' 0 (by omega)
     have : nxS R.ss 0 = 0 := rfl
     have := h0.2.2.1 rfl
     omega
   · have := (hs' (k + 1) hk).2.1
     simp [nxS] at this
     omega
   · intro k
     induction k with
     | zero => intro hk; have := hm' 0 hk; simp [nxM] at this; omega
     | succ k ih => intro hk; have := hm' (k + 1) hk; have := ih (by omega); simp [nxM] at *; omega
   · have := (hm' (k + 1) hk).1
     simp [nxM] at this
     omega
   · intro k
     induction k with
     | zero => intro hk; have := he' 0 hk; simp [nxE] at this; omega
     | succ k ih => intro hk; have := he' (k + 1) hk; have := ih (by omega); simp [nxE] at *; omega
   · have := (he' (k + 1) hk).1
     simp [nxE] at this
     omega
 · intro h
   have t0 : ∀ k, k < R.ss.length → 0 ≤ (at0 R.ss k).t := by
    intro k
    induction k with
    | zero => intro _; rw [h.first]; omega
    | succ k ih => intro hk; have := h.tup k hk; have := ih (by omega); omega
   refine ⟨⟨⟨?_, fun k hk => ?_⟩, fun k hk => ?_⟩, fun k hk => ?_⟩
   · have := h.n1; have := h.n60; have := h.m100; have := h.e20; have := h.last
     simp [headB]; omega
   · have h1 := (okSet_iff (at0 R.ss k)).2 ⟨h.ph k hk, h.v k hk⟩
     have h2 := h.tlt k hk
     cases k with
     | zero => have e : nxS R.ss 0 = 0 := rfl; have := h.first; simp [setAt, h1]; omega
     | succ k => have e : nxS R.ss (k + 1) = (at0 R.ss k).t + 1 := rfl; have := h.tup k hk; simp [setAt, h1]; omega
   · have h1 := h.mt k hk
     have h2 := h.mr k hk
     have h3 : rangeB 1000000 [⟨(at0 R.ms k).lo, (at0 R.ms k).hi⟩] = true := (hr k).2 h2
     cases k with
     | zero => have e : nxM R.ms 0 = 0 := rfl; simp [smpAt, h3]; omega
     | succ k => have e : nxM R.ms (k + 1) = (at0 R.ms k).t + 1 := rfl; have := h.mup k hk; simp [smpAt, h3]; omega
   · have h1 := h.et k hk
     have h2 := h.ek k hk
     cases k with
     | zero => have e : nxE R.es 0 = 0 := rfl; simp [evtAt]; omega
     | succ k => have e : nxE R.es (k + 1) = (at0 R.es k).t := rfl; have := h.eup k hk; simp [evtAt]; omega
section
variable {R : Run}
theorem VRun.t0 (h : VRun R) : ∀ k, k < R.ss.length → 0 ≤ (at0 R.ss k).t := by
 intro k
 induction k with
 | zero => intro _; rw [h.first]; omega
 | succ k ih => intro hk; have := h.tup k hk; have := ih (by omega); omega
theorem VRun.unt (h : VRun R) {k : Nat} (hk : k < R.ss.length) : (at0 R.ss k).t < untS R k ∧ untS R k ≤ R.e := by
 unfold untS
 split
 · rename_i h1; exact ⟨h.tup k h1, by have := h.tlt (k + 1) h1; omega⟩
 · exact ⟨h.tlt k hk, by omega⟩
theorem VRun.pl (h : VRun R) : ∀ k, k ≤ R.ss.length → 0 ≤ plS R k ∧ plS R k ≤ 1000000 * (if k < R.ss.length then (at0 R.ss k).t else R.e) := by
 intro k
 induction k with
 | zero => intro _; have := h.n1; rw [if_pos (by omega), h.first]; simp [plS]
 | succ k ih =>
   intro hk
   have i1 := ih (by omega)
   rw [if_pos (by omega)] at i1
   have hu := h.unt (k := k) (by omega)
   have hv := h.v k (by omega) 0 (by omega)
   have m1 : 0 ≤ (at0 R.ss k).v 0 * (untS R k - (at0 R.ss k).t) := Int.mul_nonneg hv.1 (by omega)
   have m2 : (at0 R.ss k).v 0 * (untS R k - (at0 R.ss k).t) ≤ 1000000 * (untS R k - (at0 R.ss k).t) := Int.mul_le_mul_of_nonneg_right hv.2 (by omega)
   have e : untS R k = if k + 1 < R.ss.length then (at0 R.ss (k + 1)).t else R.e := rfl
   rw [← e, plS]
   omega
theorem VRun.pcb (h : VRun R) : ∀ k, k < R.ss.length → 0 ≤ (at0 R.ss k).t ∧ (at0 R.ss k).t ≤ untS R k ∧ untS R k ≤ 1000000 ∧ 0 ≤ (at0 R.ss k).v 0 ∧ (at0 R.ss k).v 0 ≤ 1000000 ∧ 0 ≤ plS R k ∧ plS R k ≤ 1000000000000 := fun k hk => by
 have h1 := h.unt hk
 have h2 := h.t0 k hk
 have h3 := h.v k hk 0 (by omega)
 have h4 := h.pl k (by omega)
 rw [if_pos hk] at h4
 have := h.last
 omega
end
end Go.Proofs.YtnkaoplgmglijaaDoor
/- The contracts of both, Grown and Reached of package pull. -/
namespace Go.Proofs.YtnkaoplgmglijaaDoor
open Go.RowKit
theorem RunIn.below {w w' : World} {A1 A2 A3 : Option Addr} {R : Run} (h : RunIn w A1 A2 A3 R) (hb : Below w.heap.size w w') : RunIn w' A1 A2 A3 R :=
 ⟨(h.s.below hb).more hb.size, (h.m.below hb).more hb.size, (h.e.below hb).more hb.size, h.ls, h.lm, h.le⟩
theorem RunIn.alloc {w : World} {A1 A2 A3 : Option Addr} {R : Run} (h : RunIn w A1 A2 A3 R) (o : Obj) : RunIn (w.alloc o) A1 A2 A3 R := h.below ((Below.refl _ _).alloc (Nat.le_refl _) o)
theorem under2P {w W : World} {o : Obj} (h : Below (w.alloc o).heap.size (w.alloc o) W) : Below w.heap.size w W := ((Below.refl _ _).alloc (Nat.le_refl _) o).trans (h.mono (by simp))
def placeR (R : Run) (t : Int) : Int := placeF (pcs R) t (R.ss.length - 1)
theorem placeF_bd {R : Run} (h : VRun R) {t : Int} (ht : 0 ≤ t) : ∀ i, i < R.ss.length → 0 ≤ placeF (pcs R) t i ∧ placeF (pcs R) t i ≤ 1000000 * t := by
 have key : ∀ i, i < R.ss.length → (at0 R.ss i).t ≤ t → 0 ≤ plS R i + (at0 R.ss i).v 0 * (t - (at0 R.ss i).t) ∧ plS R i + (at0 R.ss i).v 0 * (t - (at0 R.ss i).t) ≤ 1000000 * t := by
  intro i hi hle
  have h4 := h.pl i (by omega)
  rw [if_pos hi] at h4
  have hv := h.v i hi 0 (by omega)
  have m1 : 0 ≤ (at0 R.ss i).v 0 * (t - (at0 R.ss i).t) := Int.mul_nonneg hv.1 (by omega)
  have m2 : (at0 R.ss i).v 0 * (t - (at0 R.ss i).t) ≤ 1000000 * (t - (at0 R.ss i).t) := Int.mul_le_mul_of_nonneg_right hv.2 (by omega)
  omega
 intro i
 induction i with
 | zero => intro hi; simp only [placeF, at0_pcs R hi]; exact key 0 hi (by rw [h.first]; exact ht)
 | succ i ih =>
   intro hi
   simp only [placeF, at0_pcs R hi]
   split
   · rename_i hle; exact key (i + 1) hi hle
   · exact ih (by omega)
theorem placeR_bd {R : Run} (h : VRun R) {t : Int} (ht : 0 ≤ t) : 0 ≤ placeR R t ∧ placeR R t ≤ 1000000 * t := placeF_bd h ht _ (by have := h.n1; omega)
theorem place_at (A : Option Addr) (n c : Nat) (R : Run) (t : Int) (w : World) (h : VRun R) (hn : n = R.ss.length) (hx : Rd w w.heap.size 10 A n (rP (pcs R))) (ht : 0 ≤ t) (ht2 : t ≤ 1000000) :
 Calls Tryd.prog 56 #[.slice A n c, I t] w fun e w' => e = .returned (I (placeR R t)) ∧ Below w.heap.size w w' := by
 have hl := pcs_len R
 rw [← hl] at hn
 subst hn
 have hb := h.pcb
 have := place_any A c (pcs R) t w hx (by have := h.n1; omega) (by have := h.n60; omega) (by rw [at0_pcs R (by have := h.n1; omega)]; show (at0 R.ss 0).t ≤ t; rw [h.first]; exact ht) ht2
  (fun k hk => by rw [hl] at hk; rw [at0_pcs R hk]; have := hb k hk; exact ⟨this.1, this.2.2.2.2.2.1, this.2.2.2.2.2.2, this.2.2.2.1, this.2.2.2.2.1⟩)
 refine this.mono ?_
 rintro e w' ⟨rfl, hb'⟩
 exact ⟨by rw [hl]; rfl, hb'⟩
theorem er_ne (b : Bool) : (er b == 0) = b := by cases b <;> rfl
def grownE (R : Run) (a b : Int) : Int := if okRun R then (if a < 0 ∨ b < a ∨ R.e < b then 3 else 0) else 2
def grownN (R : Run) (a b : Int) : Int := if grownE R a b = 0 then placeR R b - placeR R a else 0
set_option maxHeartbeats 1000000 in
theorem grown_anyP (A1 A2 A3 : Option Addr) (c1 c2 c3 : Nat) (R : Run) (a b : Int) (w : World) (h : RunIn w A1 A2 A3 R) :
 Calls Tryd.prog 25 #[runV A1 A2 A3 c1 c2 c3 R, I a, I b] w fun e w' => e = .returned (.tuple #[I (grownN R a b), I (grownE R a b)]) ∧ Below w.heap.size w w' := by
 have H1 := Lib.hid (h.alloc (.cells #[.slice A1 R.ss.length c1, I R.e, .slice A2 R.ms.length c2, .slice A3 R.es.length c3] 92))
 clear h
 rcases hok : okRun R with _ | _
 · have e1 : Hid (grownE R a b = 2) := by show grownE R a b = 2; simp [grownE, hok]
   have e2 : Hid (grownN R a b = 0) := by show grownN R a b = 0; simp [grownN, e1.out]
   go_enter Tryd.func25, Tryd.ntmps25
   go_wp2_with fail
   refine (checkRun_any _ _ _ _ _ _ R _ H1.out).mono ?_
   rintro e w1 ⟨rfl, hb1⟩
   rw [hok, show er false = 2 from rfl]
   go_wp2_with fail
   go_ret2
   exact ⟨by rw [e1.out, e2.out]; rfl, under2P hb1⟩
 · have hv := Lib.hid ((vRun_iff R).1 hok)
   by_cases hr : a < 0 ∨ b < a ∨ R.e < b
   · have e1 : Hid (grownE R a b = 3) := by show grownE R a b = 3; simp [grownE, hok, hr]
     have e2 : Hid (grownN R a b = 0) := by show grownN R a b = 0; simp [grownN, e1.out]
     go_enter Tryd.func25, Tryd.ntmps25
     go_wp2_with fail
     refine (checkRun_any _ _ _ _ _ _ R _ H1.out).mono ?_
     rintro e w1 ⟨rfl, hb1⟩
     have cE : w1.cell? ⟨w.heap.size, 1, none⟩ = some (I R.e) := (hb1.cell (p := ⟨_, _, none⟩) (by simp)).trans (by simp)
     rw [hok, show er true = 0 from rfl]
     go_wp2_with fail
     all_goals
        go_ret2
        exact ⟨by rw [e1.out, e2.out]; rfl, under2P hb1⟩
   · have e1 : Hid (grownE R a b = 0) := by show grownE R a b = 0; simp [grownE, hok]; omega
     have e2 : Hid (grownN R a b = placeR R b - placeR R a) := by show grownN R a b = _; simp [grownN, e1.out]
     have hr' : 0 ≤ a ∧ a ≤ b ∧ b ≤ R.e := by omega
     obtain ⟨r1, r2, r3⟩ := hr'
     clear hr
     have hl := hv.out.last
     have p1 := placeR_bd hv.out (t := a) r1
     have p2 := placeR_bd hv.out (t := b) (by omega)
     go_enter Tryd.func25, Tryd.ntmps25
     go_wp2_with fail
     refine (checkRun_any _ _ _ _ _ _ R _ H1.out).mono ?_
     rintro e w1 ⟨rfl, hb1⟩
     have cS : w1.cell? ⟨w.heap.size, 0, none⟩ = some (.slice A1 R.ss.length c1) := (hb1.cell (p := ⟨_, _, none⟩) (by simp)).trans (by simp)
     have cE : w1.cell? ⟨w.heap.size, 1, none⟩ = some (I R.e) := (hb1.cell (p := ⟨_, _, none⟩) (by simp)).trans (by simp)
     have cM : w1.cell? ⟨w.heap.size, 2, none⟩ = some (.slice A2 R.ms.length c2) := (hb1.cell (p := ⟨_, _, none⟩) (by simp)).trans (by simp)
     have cV : w1.cell? ⟨w.heap.size, 3, none⟩ = some (.slice A3 R.es.length c3) := (hb1.cell (p := ⟨_, _, none⟩) (by simp)).trans (by simp)
     rw [hok, show er true = 0 from rfl]
     go_wp2_with fail
     refine (pieces_any _ _ _ _ _ _ R _ (H1.out.below hb1) (by have := hv.out.n60; omega) hv.out.pcb).mono ?_
     rintro e w2 ⟨A, n, c, rfl, hn, hx, hb2, _⟩
     have Hn := Lib.hid hn
     clear hn
     have Hx := Lib.hid hx
     clear hx
     go_wp2_with fail
     refine (place_at _ _ _ R _ _ hv.out Hn.out Hx.out (by omega) (by omega)).mono ?_
     rintro e w3 ⟨rfl, hb3⟩
     go_wp2_with fail
     refine (place_at _ _ _ R _ _ hv.out Hn.out ((Hx.out.below hb3).more hb3.size) (by omega) (by omega)).mono ?_
     rintro e w4 ⟨rfl, hb4⟩
     have z2 := hb2.size
     have z3 := hb3.size
     go_wp2_with fail
     go_ret2
     exact ⟨by rw [e1.out, e2.out]; rfl, under2P (hb1.trans ((hb2.trans ((hb3.trans (hb4.mono z3)).mono z2)).mono hb1.size))⟩
def hits (L : Int) (c : Pce) : Bool := decide (0 < c.s.v 0) && decide (L ≤ c.p + c.s.v 0 * (c.e - c.s.t))
def reachE (R : Run) (L : Int) : Int := if okRun R then (if inB 100000000000 [L] then (if L = 0 then 0 else if ixOf (hits L) (pcs R) < 0 then 7 else 0) else 3) else 2
def reachAt (L : Int) (c : Pce) : Int := c.s.t + (L - c.p + c.s.v 0 - 1) / c.s.v 0
def reachN (R : Run) (L : Int) : Int := if reachE R L = 0 then (if L = 0 then 0 else reachAt L (at0 (pcs R) (ixOf (hits L) (pcs R)).toNat)) else 0
theorem plS_lt {R : Run} (h : VRun R) {L : Int} (hL : 1 ≤ L) : ∀ {k : Nat}, k ≤ R.ss.length → (∀ j, j < k → hits L (pcS R j) = false) → plS R k < L
 | 0, _, _ => by simp [plS]; omega
 | k + 1, hk, hj => by
   have ih := plS_lt h hL (k := k) (by omega) (fun j hjk => hj j (by omega))
   have hv := (h.v k (by omega) 0 (by omega)).1
   have h0 := hj k (by omega)
   unfold hits at h0
   rw [Bool.and_eq_false_iff, decide_eq_false_iff_not, decide_eq_false_iff_not] at h0
   simp only [pcS] at h0
   simp only [plS]
   rcases h0 with h0 | h0
   · have : (at0 R.ss k).v 0 = 0 := by omega
     rw [this]; omega
   · omega
end Go.Proofs.YtnkaoplgmglijaaDoor
/- The contract of stretches of package pull: the stretches of time between two kinds of event. -/
namespace Go.Proofs.YtnkaoplgmglijaaDoor
open Go.RowKit
theorem rng_info : (Tryd.prog.info? 23).map (fun i => (i.zero, i.size, i.bytes)) = some (some (.agg #[I 0, I 0]), 2, 16) := by kernel_rfl
def rc (l : List Rng) : List Value := l.flatMap fun r => [I r.lo, I r.hi]
theorem rc_app (l : List Rng) (r : Rng) : rc (l ++ [r]) = rc l ++ [I r.lo, I r.hi] := by simp [rc]
theorem flat_congr {sz n : Nat} {g g' : Nat → Nat → Value} (h : ∀ k, k < n → ∀ j, j < sz → g k j = g' k j) : flat sz g n = flat sz g' n := by
 apply List.map_congr_left
 intro i hi
 have hi' : i < n * sz := by simpa using hi
 have hs : 0 < sz := by
  rcases Nat.eq_zero_or_pos sz with h0 | h0
  · subst h0; simp at hi'
  · exact h0
 exact h _ ((Nat.div_lt_iff_lt_mul hs).2 hi') _ (Nat.mod_lt _ hs)
theorem at0_appP {α : Type} [Inhabited α] (l r : List α) {k : Nat} (hk : k < l.length) : at0 (l ++ r) k = at0 l k := by
 rw [at0_get (by simp; omega), at0_get hk, List.getElem_append_left hk]
theorem at0_last {α : Type} [Inhabited α] (l : List α) (x : α) : at0 (l ++ [x]) l.length = x := by
 rw [at0_get (by simp)]; simp
theorem rc_flat_aux : ∀ (n : Nat) (l : List Rng), l.length = n → rc l = flat 2 (rR l) n
 | 0, l, h => by
   have : l = [] := List.eq_nil_of_length_eq_zero h
   subst this; rfl
 | n + 1, l, h => by
   obtain ⟨i, x, rfl⟩ : ∃ i x, l = i ++ [x] := ⟨l.dropLast, l.getLast (by intro e; subst e; simp at h), (List.dropLast_concat_getLast _).symm⟩
   have hi : i.length = n := by simpa using h
   rw [rc_app, flat_succ 2 (by omega), rc_flat_aux n i hi]
   congr 1
   · exact flat_congr fun k hk j _ => by simp only [rR]; rw [at0_appP _ _ (by omega)]
   · show _ = (List.range 2).map (at0 (i ++ [x]) n).c
     rw [← hi, at0_last]; rfl
theorem rc_flat (l : List Rng) : rc l = flat 2 (rR l) l.length := rc_flat_aux _ l rfl
theorem Rd.of_rc {w : World} {base : Nat} {e : TypeId} {v : Value} {l : List Rng} (h : w.ownsRow base e 2 v l.length (rc l)) : ∃ A c, v = .slice A l.length c ∧ Rd w w.heap.size 2 A l.length (rR l) := by
 rw [rc_flat] at h
 exact Rd.of_own h
def RetR (w : World) (l : List Rng) (e : Ending) (w' : World) : Prop := ∃ A n c, e = .returned (.slice A n c) ∧ n = l.length ∧ Rd w' w'.heap.size 2 A n (rR l) ∧ Below w.heap.size w w'
def strStep (o s : Int) (x : Evt) (q : List Rng × Int) : List Rng × Int :=
 if x.kd = o ∧ q.2 < 0 then (q.1, x.t) else if x.kd = s ∧ 0 ≤ q.2 then (q.1 ++ [⟨q.2, x.t⟩], -1) else q
def strK (R : Run) (o s : Int) : Nat → List Rng × Int
 | 0 => ([], -1) | k + 1 => strStep o s (at0 R.es k) (strK R o s k)
def strs (R : Run) (o s : Int) : List Rng :=
 if 0 ≤ (strK R o s R.es.length).2 then (strK R o s R.es.length).1 ++ [⟨(strK R o s R.es.length).2, R.e⟩] else (strK R o s R.es.length).1
theorem strK_len (R : Run) (o s : Int) : ∀ k, (strK R o s k).1.length ≤ k
 | 0 => by simp [strK]
 | k + 1 => by
   have := strK_len R o s k
   simp only [strK, strStep]
   split
   · simp; omega
   · split
     · simp; omega
     · omega
end Go.Proofs.YtnkaoplgmglijaaDoor
/- The contracts of both, stop and Stop of package pull. -/
namespace Go.Proofs.YtnkaoplgmglijaaDoor
open Go.RowKit
def lostB (x : Evt) : Bool := x.kd == 1
structure Two (w : World) (A1 A2 A3 : Option Addr) (c1 c2 c3 : Nat) (p : Vec) (R : Run) (W2 : World) : Prop where
 run : RunIn W2 A1 A2 A3 R
 pul : ∀ W, Below W2.heap.size W2 W → ∀ j, j < 117 → W.cell? ⟨w.heap.size, 0 + j, none⟩ = some (I (p j))
 r0 : ∀ W, Below W2.heap.size W2 W → W.cell? ⟨w.heap.size + 1, 0, none⟩ = some (.slice A1 R.ss.length c1)
 r1 : ∀ W, Below W2.heap.size W2 W → W.cell? ⟨w.heap.size + 1, 1, none⟩ = some (I R.e)
 r2 : ∀ W, Below W2.heap.size W2 W → W.cell? ⟨w.heap.size + 1, 2, none⟩ = some (.slice A2 R.ms.length c2)
 r3 : ∀ W, Below W2.heap.size W2 W → W.cell? ⟨w.heap.size + 1, 3, none⟩ = some (.slice A3 R.es.length c3)
 up : ∀ W, Below W2.heap.size W2 W → Below w.heap.size w W
 size : W2.heap.size = w.heap.size + 2
def stop0 (R : Run) : Int × Int := if 0 ≤ ixOf lostB R.es then ((at0 R.es (ixOf lostB R.es).toNat).t, 1) else (-1, 0)
def longB (hold : Int) (r : Rng) : Bool := decide (hold < r.hi - r.lo)
def stopF (p : Vec) (R : Run) : Int × Int :=
 let q := stop0 R
 let l := strs R 4 5
 let i := ixOf (longB (p 115)) l
 if 0 ≤ i then (let t := (at0 l i.toNat).lo + p 115; if q.1 < 0 ∨ t < q.1 then (t, 4) else q) else q
theorem strK_bd {R : Run} (h : VRun R) (o s : Int) : ∀ k, k ≤ R.es.length → (∀ r ∈ (strK R o s k).1, 0 ≤ r.lo ∧ 0 ≤ r.hi ∧ r.hi ≤ R.e) ∧ (strK R o s k).2 ≤ R.e ∧ -1 ≤ (strK R o s k).2
 | 0, _ => by have := h.t0 0 h.n1; have := h.tlt 0 h.n1; simp [strK]; omega
 | k + 1, hk => by
   have ih := strK_bd h o s k (by omega)
   have ht := h.et k (by omega)
   simp only [strK, strStep]
   split
   · exact ⟨ih.1, ht.2, by simp; omega⟩
   · split
     · rename_i h1
       refine ⟨fun r hr => ?_, by simp; omega, by simp⟩
       simp at hr
       rcases hr with hr | rfl
       · exact ih.1 r hr
       · exact ⟨h1.2, ht⟩
     · exact ih
theorem strs_bd {R : Run} (h : VRun R) (o s : Int) : ∀ r ∈ strs R o s, 0 ≤ r.lo ∧ 0 ≤ r.hi ∧ r.hi ≤ R.e := by
 have := strK_bd h o s R.es.length (by omega)
 intro r hr
 unfold strs at hr
 split at hr
 · simp at hr
   rcases hr with hr | rfl
   · exact this.1 r hr
   · rename_i h0; have := h.t0 0 h.n1; have := h.tlt 0 h.n1; exact ⟨h0, by simp; omega, by simp⟩
 · exact this.1 r hr
theorem strK_lo {R : Run} (h : VRun R) (o s : Int) : ∀ k, k ≤ R.es.length → ∀ r ∈ (strK R o s k).1, r.lo ≤ R.e
 | 0, _ => by simp [strK]
 | k + 1, hk => by
   have ih := strK_lo h o s k (by omega)
   have hb := (strK_bd h o s k (by omega)).2.1
   simp only [strK, strStep]
   split
   · exact ih
   · split
     · intro r hr
       simp at hr
       rcases hr with hr | rfl
       · exact ih r hr
       · exact hb
     · exact ih
theorem strs_lo {R : Run} (h : VRun R) (o s : Int) : ∀ r ∈ strs R o s, r.lo ≤ R.e := by
 have h1 := strK_lo h o s R.es.length (by omega)
 have h2 := (strK_bd h o s R.es.length (by omega)).2.1
 intro r hr
 unfold strs at hr
 split at hr
 · simp at hr
   rcases hr with hr | rfl
   · exact h1 r hr
   · exact h2
 · exact h1 r hr
theorem at0_in {α : Type} [Inhabited α] {l : List α} {k : Nat} (hk : k < l.length) : at0 l k ∈ l := by rw [at0_get hk]; exact List.getElem_mem hk
theorem strs_len (R : Run) (o s : Int) : (strs R o s).length ≤ R.es.length + 1 := by
 have := strK_len R o s R.es.length
 unfold strs
 split
 · simp; omega
 · omega
theorem ixOf_lt {α : Type} (p : α → Bool) : ∀ xs : List α, ixOf p xs < xs.length
 | [] => by simp [ixOf]
 | x :: r => by
   have := ixOf_lt p r
   simp only [ixOf]
   split
   · simp only [List.length_cons]; omega
   · split
     · simp only [List.length_cons]; omega
     · simp only [List.length_cons]; omega
end Go.Proofs.YtnkaoplgmglijaaDoor
