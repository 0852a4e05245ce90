/- The contracts of rate, place and pieces of package pull. -/
import Derived.Test.YtlebefopdnadaaaCkR
import Derived.Test.YtlebefopdnadaaaOwn
namespace Go.Proofs.Ytlebefopdnadaaa
open Go.RowKit
theorem rate_any (p : Pce) (w : World) : Calls Try.prog 51 #[p.val] w fun e w' => e = .returned (I (p.s.v 0)) ∧ Below w.heap.size w w' := by
  go_enter Try.func51, Try.ntmps51
  go_wp2
  go_ret
  exact ⟨rfl, (Below.refl _ _).alloc (Nat.le_refl _) _⟩
/-- The place at t, asked for from piece i downwards. -/
def placeF (ps : List Pce) (t : Int) : Nat → Int
  | 0 => (at0 ps 0).p + (at0 ps 0).s.v 0 * (t - (at0 ps 0).s.t)
  | i + 1 => if (at0 ps (i + 1)).s.t ≤ t then (at0 ps (i + 1)).p + (at0 ps (i + 1)).s.v 0 * (t - (at0 ps (i + 1)).s.t) else placeF ps t i
set_option maxHeartbeats 1000000 in
theorem place_any (A : Option Addr) (c : Nat) (ps : List Pce) (t : Int) (w : World) (hx : Rd w w.heap.size 10 A ps.length (rP ps)) (h0 : 0 < ps.length) (hl : ps.length ≤ 1000) (ht : (at0 ps 0).s.t ≤ t) (ht2 : t ≤ 1000000)
    (hb : ∀ k, k < ps.length → 0 ≤ (at0 ps k).s.t ∧ 0 ≤ (at0 ps k).p ∧ (at0 ps k).p ≤ 1000000000000 ∧ 0 ≤ (at0 ps k).s.v 0 ∧ (at0 ps k).s.v 0 ≤ 1000000) :
    Calls Try.prog 50 #[.slice A ps.length c, I t] w fun e w' => e = .returned (I (placeF ps t (ps.length - 1))) ∧ Below w.heap.size w w' := by
  have Hx := Lib.hid hx
  have Hb := Lib.hid hb
  have Ht := Lib.hid ht
  obtain ⟨g0, _, _, _, _⟩ := hb 0 h0
  clear hx hb ht
  go_enter Try.func50, Try.ntmps50
  go_wp2
  go_loop [5] (fun i => ∃ k : Nat, k < ps.length ∧ i = .int .i64 k ∧ placeF ps t k = placeF ps t (ps.length - 1)) (fun i => (intOf i).toNat)
  case atStart => exact ⟨ps.length - 1, by omega, by go_num, rfl⟩
  case round =>
    obtain ⟨k, hk, rfl, he⟩ := hrel
    have He := Lib.hid he
    clear he
    obtain ⟨b, o, rfl, hB, x0, x1, x2, x3, x4, x5, x6, x7, x8, x9⟩ := Hx.out.pce hk
    by_cases hgt : t < (at0 ps k).s.t
    · rcases Nat.eq_zero_or_pos k with k0 | k0
      · subst k0; have h9 := Ht.out; omega
      obtain ⟨j, rfl⟩ : ∃ j, k = j + 1 := ⟨k - 1, by omega⟩
      go_wp2_with fail
      go_round
      case rel => exact ⟨j, by omega, by go_num, by rw [← He.out, placeF, if_neg (by omega)]⟩
      case measure => simp [intOf]
    · go_wp2_with fail
      have y0 := ovr_cell x0
      have y1 := ovr_cell x1
      have y2 := ovr_cell x2
      have y3 := ovr_cell x3
      have y4 := ovr_cell x4
      have y5 := ovr_cell x5
      have y6 := ovr_cell x6
      have y7 := ovr_cell x7
      have y8 := ovr_cell x8
      have y9 := ovr_cell x9
      clear x0 x1 x2 x3 x4 x5 x6 x7 x8 x9
      have i0 : (0 : Int) ≤ (k : Int) := by omega
      have i1 : (k : Int) < (ps.length : Int) := by omega
      refine wp_region_below_lit (by kernel_rfl) (by kernel_rfl) ?_
      repeat (go_big_quiet_step ((go_at_call 51; exact call_below (rate_any (at0 ps k) _))))
      refine wpQuiet_nil ?_
      intro w1 hb1
      go_wp2_with fail
      go_ret
      obtain ⟨b1, b2, b3, b4, b5⟩ := Hb.out k hk
      have m1 : 0 ≤ (at0 ps k).s.v 0 * (t - (at0 ps k).s.t) := Int.mul_nonneg b4 (by omega)
      have m2 : (at0 ps k).s.v 0 * (t - (at0 ps k).s.t) ≤ 1000000 * 1000000 := Int.mul_le_mul b5 (by omega) (by omega) (by omega)
      refine ⟨ret_int ?_, hb1⟩
      simp (disch := omega) only [IntWalk.wrap64_in]
      rw [← He.out]
      cases k with
      | zero => rfl
      | succ j => rw [placeF, if_pos (by omega)]
/-- Until when setting k holds. -/
def untS (R : Run) (k : Nat) : Int := if k + 1 < R.ss.length then (at0 R.ss (k + 1)).t else R.e
/-- The place at the beginning of setting k. -/
def plS (R : Run) : Nat → Int
  | 0 => 0 | k + 1 => plS R k + (at0 R.ss k).v 0 * (untS R k - (at0 R.ss k).t)
def pcS (R : Run) (k : Nat) : Pce := ⟨at0 R.ss k, untS R k, plS R k⟩
def pcs (R : Run) : List Pce := (List.range R.ss.length).map (pcS R)
theorem pcs_len (R : Run) : (pcs R).length = R.ss.length := by simp [pcs]
theorem at0_pcs (R : Run) {k : Nat} (hk : k < R.ss.length) : at0 (pcs R) k = pcS R k := by
  rw [at0_get (by rw [pcs_len]; exact hk)]; simp [pcs]
theorem pce_info : (Try.prog.info? 108).map (fun i => (i.zero, i.size, i.bytes)) = some (some (.agg #[I 0, I 0, I 0, I 0, I 0, I 0, I 0, I 0, I 0, I 0]), 10, 80) := by kernel_rfl
set_option maxRecDepth 100000 in
set_option maxHeartbeats 1000000 in
theorem pieces_any (A1 A2 A3 : Option Addr) (c1 c2 c3 : Nat) (R : Run) (w : World) (h : RunIn w A1 A2 A3 R) (hl : R.ss.length ≤ 1000)
    (hb : ∀ k, k < R.ss.length → 0 ≤ (at0 R.ss k).t ∧ (at0 R.ss k).t ≤ untS R k ∧ untS R k ≤ 1000000 ∧ 0 ≤ (at0 R.ss k).v 0 ∧ (at0 R.ss k).v 0 ≤ 1000000 ∧ 0 ≤ plS R k ∧ plS R k ≤ 1000000000000) :
    Calls Try.prog 49 #[runV A1 A2 A3 c1 c2 c3 R] w fun e w' => ∃ A n c, e = .returned (.slice A n c) ∧ n = R.ss.length ∧ Rd w' w'.heap.size 10 A n (rP (pcs R)) ∧ Below w.heap.size w w' ∧ n ≤ c := by
  have Hs := Lib.hid h.s
  have Hb := Lib.hid hb
  clear hb
  obtain ⟨i0, hi0, iz0, iz1, iz2⟩ := info_parts pce_info
  obtain ⟨W0, hW0⟩ : ∃ W0, W0 = w.alloc (.cells #[.slice A1 R.ss.length c1, I R.e, .slice A2 R.ms.length c2, .slice A3 R.es.length c3] 35) := ⟨_, rfl⟩
  have HW0 := Lib.hid hW0
  have hZ0 : Hid (W0.heap.size = w.heap.size + 1) := by subst hW0; simp [Hid]
  have hS0 : Hid (W0.cell? ⟨w.heap.size, 0, none⟩ = some (.slice A1 R.ss.length c1)) := by subst hW0; simp [Hid]
  have hE0 : Hid (W0.cell? ⟨w.heap.size, 1, none⟩ = some (I R.e)) := by subst hW0; simp [Hid]
  have hU : ∀ W : World, Below (w.heap.size + 1) W0 W → Below w.heap.size w W := fun W h => under (o := .cells #[.slice A1 R.ss.length c1, I R.e, .slice A2 R.ms.length c2, .slice A3 R.es.length c3] 35) (HW0.out ▸ h)
  clear hW0
  have HU := Lib.hid hU
  clear hU
  go_enter Try.func49, Try.ntmps49
  go_wp2
  go_loopw [3, 4, 11] (fun v pl i wr => ∃ k : Nat, k ≤ R.ss.length ∧ i = .int .i64 k ∧ pl = I (plS R k) ∧ wr.ownsRow (w.heap.size + 1) 108 10 v k (flat 10 (rP (pcs R)) k) ∧ Below (w.heap.size + 1) W0 wr) (fun _ _ i _ => R.ss.length - (intOf i).toNat)
  case atStart => exact ⟨0, by omega, rfl, rfl, ⟨rfl, .inl ⟨rfl, rfl⟩⟩, by rw [HW0.out]; exact Below.refl _ _⟩
  case round =>
    obtain ⟨k, hk, rfl, rfl, hown, hbw⟩ := hrel
    have hsz : w.heap.size + 1 ≤ wr.heap.size := by have := hbw.size; rw [hZ0.out] at this; exact this
    by_cases hlt : k < R.ss.length
    · obtain ⟨b, o, rfl, hB, x0, x1, x2, x3, x4, x5, x6, x7⟩ := (Hs.out.below (HU.out _ hbw)).stg hlt
      have cE : ∀ x : Obj, (wr.alloc x).cell? ⟨w.heap.size, 1, none⟩ = some (I R.e) := fun x => ((hbw.alloc (by omega) x).cell (p := ⟨_, _, none⟩) (by simp)).trans hE0.out
      have cS : ∀ x : Obj, (wr.alloc x).cell? ⟨w.heap.size, 0, none⟩ = some (.slice (some ⟨b, o, none⟩) R.ss.length c1) := fun x => ((hbw.alloc (by omega) x).cell (p := ⟨_, _, none⟩) (by simp)).trans hS0.out
      have cS2 : ∀ x y : Obj, ((wr.alloc x).alloc y).cell? ⟨w.heap.size, 0, none⟩ = some (.slice (some ⟨b, o, none⟩) R.ss.length c1) := fun x y => (((hbw.alloc (by omega) x).alloc (by simp; omega) y).cell (p := ⟨_, _, none⟩) (by simp)).trans hS0.out
      have xn : k + 1 < R.ss.length → ∀ x y : Obj, ((wr.alloc x).alloc y).cell? ⟨b, o + (k + 1) * 8, none⟩ = some (I (at0 R.ss (k + 1)).t) := fun hn x y => by
        obtain ⟨b', o', he, _, z0, _⟩ := (Hs.out.below (HU.out _ ((hbw.alloc (by omega) x).alloc (by simp; omega) y))).stg hn
        simp only [Option.some.injEq, Addr.mk.injEq, and_true] at he
        obtain ⟨rfl, rfl⟩ := he
        exact z0
      have HC := Lib.hid (flat_succ 10 (by omega) (rP (pcs R)) k)
      have HP := Lib.hid (at0_pcs R hlt)
      have hpl : Hid (plS R (k + 1) = plS R k + (at0 R.ss k).v 0 * (untS R k - (at0 R.ss k).t)) := rfl
      obtain ⟨e1, e2, e3, e4, e5, e6, e7⟩ := Hb.out k hlt
      have m1 : 0 ≤ (at0 R.ss k).v 0 * (untS R k - (at0 R.ss k).t) := Int.mul_nonneg e4 (by omega)
      have m2 : (at0 R.ss k).v 0 * (untS R k - (at0 R.ss k).t) ≤ 1000000 * 1000000 := Int.mul_le_mul e5 (by omega) (by omega) (by omega)
      by_cases hn : k + 1 < R.ss.length
      · have xn := xn hn
        have hu : Hid (untS R k = (at0 R.ss (k + 1)).t) := by show untS R k = _; rw [untS, if_pos hn]
        go_wp2_with fail
        generalize hW1 : (wr.alloc (.cells #[I (at0 R.ss k).t, I (at0 R.ss k).ph, I ((at0 R.ss k).v 0), I ((at0 R.ss k).v 1), I ((at0 R.ss k).v 2), I ((at0 R.ss k).v 3), I ((at0 R.ss k).v 4), I ((at0 R.ss k).v 5)] 73)).alloc (.cells #[I (at0 R.ss k).t, I (at0 R.ss k).ph, I ((at0 R.ss k).v 0), I ((at0 R.ss k).v 1), I ((at0 R.ss k).v 2), I ((at0 R.ss k).v 3), I ((at0 R.ss k).v 4), I ((at0 R.ss k).v 5), I (at0 R.ss (k + 1)).t, I (plS R k)] 108) = W1
        have HW1 := Lib.hid hW1.symm
        clear hW1
        have hB1 : Below (w.heap.size + 1) W0 W1 := by rw [HW1.out]; exact (hbw.alloc (by omega) _).alloc (by simp; omega) _
        have hz1 : W1.heap.size = wr.heap.size + 2 := by rw [HW1.out]; simp
        have Hz1 := Lib.hid hz1
        have hz1' : wr.heap.size + 2 ≤ W1.heap.size := by omega
        clear hz1
        have hbk : Hid (W1.heap[wr.heap.size + 1]? = some (.cells #[I (at0 R.ss k).t, I (at0 R.ss k).ph, I ((at0 R.ss k).v 0), I ((at0 R.ss k).v 1), I ((at0 R.ss k).v 2), I ((at0 R.ss k).v 3), I ((at0 R.ss k).v 4), I ((at0 R.ss k).v 5), I (at0 R.ss (k + 1)).t, I (plS R k)] 108 (0, 0))) := by rw [HW1.out]; exact heap_last _ _ _ (by simp)
        have own1 : Hid (W1.ownsRow (w.heap.size + 1) 108 10 u3 k (flat 10 (rP (pcs R)) k)) := by rw [HW1.out]; exact (hown.alloc _).alloc _
        have HK : Hid (∀ u j x, #[I (at0 R.ss k).t, I (at0 R.ss k).ph, I ((at0 R.ss k).v 0), I ((at0 R.ss k).v 1), I ((at0 R.ss k).v 2), I ((at0 R.ss k).v 3), I ((at0 R.ss k).v 4), I ((at0 R.ss k).v 5), I (at0 R.ss (k + 1)).t, I (plS R k)][j]? = some x → (ovr W1 u).cell? ⟨wr.heap.size + 1, j, none⟩ = some x) := fun u j x hx => ovr_cell (by rw [cell_of_row _ _ _ _ _ _ hbk.out]; exact hx) u
        clear x0 x1 x2 x3 x4 x5 x6 x7 cE cS cS2 xn
        have y0 := fun u => HK.out u 0 _ rfl
        have y1 := fun u => HK.out u 1 _ rfl
        have y2 := fun u => HK.out u 2 _ rfl
        have y3 := fun u => HK.out u 3 _ rfl
        have y4 := fun u => HK.out u 4 _ rfl
        have y5 := fun u => HK.out u 5 _ rfl
        have y6 := fun u => HK.out u 6 _ rfl
        have y7 := fun u => HK.out u 7 _ rfl
        have y8 := fun u => HK.out u 8 _ rfl
        have y9 := fun u => HK.out u 9 _ rfl
        refine wp_region_below_lit (by kernel_rfl) (by kernel_rfl) ?_
        repeat (go_big_quiet_step ((go_at_call 51; exact call_below (rate_any ⟨at0 R.ss k, (at0 R.ss (k + 1)).t, plS R k⟩ _))))
        refine wpQuiet_nil ?_
        intro w1 hb1
        clear y0 y1 y2 y3 y4 y5 y6 y7 y8 y9
        rw [hu.out] at e2 e3 m1 m2
        simp (disch := omega) only [IntWalk.wrap64_in]
        have hbk1 := Lib.hid ((hb1.block _ (by omega)).trans hbk.out)
        have own2 := Lib.hid (own_below own1.out hb1)
        have hB2 : Below (w.heap.size + 1) W0 w1 := hB1.trans (hb1.mono (by omega))
        have hz2 : wr.heap.size + 2 ≤ w1.heap.size := by have := hb1.size; omega
        have hZ : Hid (∀ j x, #[I (at0 R.ss k).t, I (at0 R.ss k).ph, I ((at0 R.ss k).v 0), I ((at0 R.ss k).v 1), I ((at0 R.ss k).v 2), I ((at0 R.ss k).v 3), I ((at0 R.ss k).v 4), I ((at0 R.ss k).v 5), I (at0 R.ss (k + 1)).t, I (plS R k)][j]? = some x → w1.cell? ⟨wr.heap.size + 1, j, none⟩ = some x) := fun j x hx => by rw [cell_of_row _ _ _ _ _ _ hbk1.out]; exact hx
        have y0 := hZ.out 0 _ rfl
        have y1 := hZ.out 1 _ rfl
        have y2 := hZ.out 2 _ rfl
        have y3 := hZ.out 3 _ rfl
        have y4 := hZ.out 4 _ rfl
        have y5 := hZ.out 5 _ rfl
        have y6 := hZ.out 6 _ rfl
        have y7 := hZ.out 7 _ rfl
        have y8 := hZ.out 8 _ rfl
        have y9 := hZ.out 9 _ rfl
        go_wp2_with (at_builtin; go_loud (refine wpList_append_own _ rfl _ _ 104 rfl (w.heap.size + 1) 108 i0 _ 10 80 Try.underlying104 hi0 iz0 iz1 iz2 rfl (by decide) u3 k _ rfl (own2.out.alloc _) ⟨w1.heap.size, 0, none⟩ 1 1 #[I (at0 R.ss k).t, I (at0 R.ss k).ph, I ((at0 R.ss k).v 0), I ((at0 R.ss k).v 1), I ((at0 R.ss k).v 2), I ((at0 R.ss k).v 3), I ((at0 R.ss k).v 4), I ((at0 R.ss k).v 5), I (at0 R.ss (k + 1)).t, I (plS R k)].toList rfl (by rfl) (news_lit (heap_last _ _ _ rfl)) ?h1 ?h63 ?hby ?hba ?_))
        case h1 => simp [Value.oneCell']
        case h63 => unfold maxLen; omega
        case hby => omega
        case hba => simp; omega
        intro v' w2 own3 hg2 _
        have hB3 : Below (w.heap.size + 1) W0 w2 := (hB2.alloc (by omega) _).grown hg2 (by simp; omega) (fun g hg => (own2.out.lt g hg).1)
        have own4 : Hid (w2.ownsRow (w.heap.size + 1) 108 10 v' (k + 1) (flat 10 (rP (pcs R)) (k + 1))) := by
          have e : (List.range 10).map (rP (pcs R) k) = #[I (at0 R.ss k).t, I (at0 R.ss k).ph, I ((at0 R.ss k).v 0), I ((at0 R.ss k).v 1), I ((at0 R.ss k).v 2), I ((at0 R.ss k).v 3), I ((at0 R.ss k).v 4), I ((at0 R.ss k).v 5), I (at0 R.ss (k + 1)).t, I (plS R k)].toList := by
            rw [← hu.out]
            show (List.range 10).map (at0 (pcs R) k).c = _
            rw [HP.out]; rfl
          rw [HC.out, e]; exact own3
        clear own3
        go_wp2_with fail
        go_roundw
        case rel => exact ⟨k + 1, by omega, by go_num, by rw [hpl.out, hu.out], own4.out, hB3⟩
        case measure => simp [intOf]; omega
      · have hu : Hid (untS R k = R.e) := by show untS R k = _; rw [untS, if_neg hn]
        go_wp2_with fail
        generalize hW1 : (wr.alloc (.cells #[I (at0 R.ss k).t, I (at0 R.ss k).ph, I ((at0 R.ss k).v 0), I ((at0 R.ss k).v 1), I ((at0 R.ss k).v 2), I ((at0 R.ss k).v 3), I ((at0 R.ss k).v 4), I ((at0 R.ss k).v 5)] 73)).alloc (.cells #[I (at0 R.ss k).t, I (at0 R.ss k).ph, I ((at0 R.ss k).v 0), I ((at0 R.ss k).v 1), I ((at0 R.ss k).v 2), I ((at0 R.ss k).v 3), I ((at0 R.ss k).v 4), I ((at0 R.ss k).v 5), I R.e, I (plS R k)] 108) = W1
        have HW1 := Lib.hid hW1.symm
        clear hW1
        have hB1 : Below (w.heap.size + 1) W0 W1 := by rw [HW1.out]; exact (hbw.alloc (by omega) _).alloc (by simp; omega) _
        have hz1 : W1.heap.size = wr.heap.size + 2 := by rw [HW1.out]; simp
        have Hz1 := Lib.hid hz1
        have hz1' : wr.heap.size + 2 ≤ W1.heap.size := by omega
        clear hz1
        have hbk : Hid (W1.heap[wr.heap.size + 1]? = some (.cells #[I (at0 R.ss k).t, I (at0 R.ss k).ph, I ((at0 R.ss k).v 0), I ((at0 R.ss k).v 1), I ((at0 R.ss k).v 2), I ((at0 R.ss k).v 3), I ((at0 R.ss k).v 4), I ((at0 R.ss k).v 5), I R.e, I (plS R k)] 108 (0, 0))) := by rw [HW1.out]; exact heap_last _ _ _ (by simp)
        have own1 : Hid (W1.ownsRow (w.heap.size + 1) 108 10 u3 k (flat 10 (rP (pcs R)) k)) := by rw [HW1.out]; exact (hown.alloc _).alloc _
        have HK : Hid (∀ u j x, #[I (at0 R.ss k).t, I (at0 R.ss k).ph, I ((at0 R.ss k).v 0), I ((at0 R.ss k).v 1), I ((at0 R.ss k).v 2), I ((at0 R.ss k).v 3), I ((at0 R.ss k).v 4), I ((at0 R.ss k).v 5), I R.e, I (plS R k)][j]? = some x → (ovr W1 u).cell? ⟨wr.heap.size + 1, j, none⟩ = some x) := fun u j x hx => ovr_cell (by rw [cell_of_row _ _ _ _ _ _ hbk.out]; exact hx) u
        clear x0 x1 x2 x3 x4 x5 x6 x7 cE cS cS2 xn
        have y0 := fun u => HK.out u 0 _ rfl
        have y1 := fun u => HK.out u 1 _ rfl
        have y2 := fun u => HK.out u 2 _ rfl
        have y3 := fun u => HK.out u 3 _ rfl
        have y4 := fun u => HK.out u 4 _ rfl
        have y5 := fun u => HK.out u 5 _ rfl
        have y6 := fun u => HK.out u 6 _ rfl
        have y7 := fun u => HK.out u 7 _ rfl
        have y8 := fun u => HK.out u 8 _ rfl
        have y9 := fun u => HK.out u 9 _ rfl
        refine wp_region_below_lit (by kernel_rfl) (by kernel_rfl) ?_
        repeat (go_big_quiet_step ((go_at_call 51; exact call_below (rate_any ⟨at0 R.ss k, R.e, plS R k⟩ _))))
        refine wpQuiet_nil ?_
        intro w1 hb1
        clear y0 y1 y2 y3 y4 y5 y6 y7 y8 y9
        rw [hu.out] at e2 e3 m1 m2
        simp (disch := omega) only [IntWalk.wrap64_in]
        have hbk1 := Lib.hid ((hb1.block _ (by omega)).trans hbk.out)
        have own2 := Lib.hid (own_below own1.out hb1)
        have hB2 : Below (w.heap.size + 1) W0 w1 := hB1.trans (hb1.mono (by omega))
        have hz2 : wr.heap.size + 2 ≤ w1.heap.size := by have := hb1.size; omega
        have hZ : Hid (∀ j x, #[I (at0 R.ss k).t, I (at0 R.ss k).ph, I ((at0 R.ss k).v 0), I ((at0 R.ss k).v 1), I ((at0 R.ss k).v 2), I ((at0 R.ss k).v 3), I ((at0 R.ss k).v 4), I ((at0 R.ss k).v 5), I R.e, I (plS R k)][j]? = some x → w1.cell? ⟨wr.heap.size + 1, j, none⟩ = some x) := fun j x hx => by rw [cell_of_row _ _ _ _ _ _ hbk1.out]; exact hx
        have y0 := hZ.out 0 _ rfl
        have y1 := hZ.out 1 _ rfl
        have y2 := hZ.out 2 _ rfl
        have y3 := hZ.out 3 _ rfl
        have y4 := hZ.out 4 _ rfl
        have y5 := hZ.out 5 _ rfl
        have y6 := hZ.out 6 _ rfl
        have y7 := hZ.out 7 _ rfl
        have y8 := hZ.out 8 _ rfl
        have y9 := hZ.out 9 _ rfl
        go_wp2_with (at_builtin; go_loud (refine wpList_append_own _ rfl _ _ 104 rfl (w.heap.size + 1) 108 i0 _ 10 80 Try.underlying104 hi0 iz0 iz1 iz2 rfl (by decide) u3 k _ rfl (own2.out.alloc _) ⟨w1.heap.size, 0, none⟩ 1 1 #[I (at0 R.ss k).t, I (at0 R.ss k).ph, I ((at0 R.ss k).v 0), I ((at0 R.ss k).v 1), I ((at0 R.ss k).v 2), I ((at0 R.ss k).v 3), I ((at0 R.ss k).v 4), I ((at0 R.ss k).v 5), I R.e, I (plS R k)].toList rfl (by rfl) (news_lit (heap_last _ _ _ rfl)) ?h1 ?h63 ?hby ?hba ?_))
        case h1 => simp [Value.oneCell']
        case h63 => unfold maxLen; omega
        case hby => omega
        case hba => simp; omega
        intro v' w2 own3 hg2 _
        have hB3 : Below (w.heap.size + 1) W0 w2 := (hB2.alloc (by omega) _).grown hg2 (by simp; omega) (fun g hg => (own2.out.lt g hg).1)
        have own4 : Hid (w2.ownsRow (w.heap.size + 1) 108 10 v' (k + 1) (flat 10 (rP (pcs R)) (k + 1))) := by
          have e : (List.range 10).map (rP (pcs R) k) = #[I (at0 R.ss k).t, I (at0 R.ss k).ph, I ((at0 R.ss k).v 0), I ((at0 R.ss k).v 1), I ((at0 R.ss k).v 2), I ((at0 R.ss k).v 3), I ((at0 R.ss k).v 4), I ((at0 R.ss k).v 5), I R.e, I (plS R k)].toList := by
            rw [← hu.out]
            show (List.range 10).map (at0 (pcs R) k).c = _
            rw [HP.out]; rfl
          rw [HC.out, e]; exact own3
        clear own3
        go_wp2_with fail
        go_roundw
        case rel => exact ⟨k + 1, by omega, by go_num, by rw [hpl.out, hu.out], own4.out, hB3⟩
        case measure => simp [intOf]; omega
    · have HL := Lib.hid (pcs_len R)
      have hkn : k = R.ss.length := by omega
      subst hkn
      go_wp2_with fail
      go_ret
      obtain ⟨A, c, rfl, hcap, hr⟩ := Rd.of_own_cap hown
      exact ⟨A, _, c, rfl, rfl, hr, HU.out _ hbw, hcap⟩
end Go.Proofs.Ytlebefopdnadaaa
