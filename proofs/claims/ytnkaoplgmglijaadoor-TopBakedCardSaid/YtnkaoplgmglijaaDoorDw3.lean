/- The contract of Window of package defect. -/
import Derived.Test.YtnkaoplgmglijaaDoorDw1
import Derived.Test.YtnkaoplgmglijaaDoorDk2
import Derived.Test.YtnkaoplgmglijaaDoorJo
import Derived.Test.YtnkaoplgmglijaaDoorHp
import Derived.Test.YtnkaoplgmglijaaDoorDt1
import Derived.Maps.AppendAt
namespace Go.Proofs.YtnkaoplgmglijaaDoor.Un
open Go.RowKit
structure BwNum (m : Mdl) (z : Rng) (k : Nat) : Prop where
 nz : ¬ m.sc = 0
 w3 : IntKind.i64.wrap (upt m k * z.hi) = upt m k * z.hi
 q3 : 0 ≤ (upt m k * z.hi).tdiv m.sc ∧ (upt m k * z.hi).tdiv m.sc ≤ 1099511627776000000
 w4 : 0 ≤ abv m k → IntKind.i64.wrap (abv m k * z.lo) = abv m k * z.lo
 q4 : 0 ≤ abv m k → 0 ≤ (abv m k * z.lo).tdiv m.sc ∧ (abv m k * z.lo).tdiv m.sc ≤ 1000000000000
theorem bw_num {m : Mdl} (hm : okMdl m = true) {z : Rng} (hz : spanB z 1 1000000 = true) {k : Nat} (hk : k < 5) : BwNum m z k := by
 obtain ⟨hs1, hs2, _⟩ := okMdl_iff.1 hm
 obtain ⟨a1, a2, a3, a4⟩ := abv_bd hm hk
 obtain ⟨z1, z2, z3⟩ := spanB_iff.1 hz
 have m3 := mul_bd (a := upt m k) (b := z.hi) (A := 1099511627776) (B := 1000000) ⟨a3, a4⟩ ⟨by omega, z3⟩
 have key : ∀ x : Int, 0 ≤ x → 0 ≤ x.tdiv m.sc ∧ x.tdiv m.sc ≤ x := fun x hx => by
  rw [Int.tdiv_eq_ediv_of_nonneg hx]
  exact ⟨Int.ediv_nonneg hx (by omega), Int.ediv_le_self _ hx⟩
 refine ⟨by omega, IntWalk.i64_in _ (by omega), ?_, fun h => ?_, fun h => ?_⟩
 · have := key _ m3.1
   omega
 · have m4 := mul_bd (a := abv m k) (b := z.lo) (A := 1000000) (B := 1000000) ⟨h, a2⟩ ⟨by omega, by omega⟩
   exact IntWalk.i64_in _ (by omega)
 · have m4 := mul_bd (a := abv m k) (b := z.lo) (A := 1000000) (B := 1000000) ⟨h, a2⟩ ⟨by omega, by omega⟩
   have := key _ m4.1
   omega
structure WinR (m : Mdl) (zs : List Rng) (v : Int) (l : List Rng) : Prop where
 ok : ckF m zs v = 0 → WinOf (badAt m v zs) l
 no : ¬ ckF m zs v = 0 → l = []
 len : l.length ≤ 101
def RetW (w : World) (m : Mdl) (zs : List Rng) (v : Int) (e : Ending) (w' : World) : Prop :=
 ∃ V l, e = .returned (.tuple #[V, I (ckF m zs v)]) ∧ WinR m zs v l ∧ w'.ownsRow w.heap.size 23 2 V l.length (rc l) ∧ Below w.heap.size w w'
theorem own_nil {w : World} {base : Nat} {e : TypeId} : w.ownsRow base e 2 (.slice none 0 0) ([] : List Rng).length (rc []) := ⟨rfl, .inl ⟨rfl, rfl⟩⟩
theorem ck_ok {m : Mdl} {zs : List Rng} {v : Int} (h1 : ckF m zs v = 0) : okMdl m = true ∧ (∀ i, i < zs.length → spanB (at0 zs i) 1 1000000 = true) ∧ zs.length ≤ 20 ∧ v ≤ 31 := by
 have hok : okMdl m = true := by
  rcases hq : okMdl m with _ | _
  · unfold ckF at h1; rw [hq] at h1; cases h1
  · rfl
 unfold ckF at h1
 rw [hok, if_pos rfl] at h1
 split at h1
 · cases h1
 · rename_i hl
   split at h1
   · cases h1
   · rename_i hn
     rw [Bool.or_eq_true, not_or] at hn
     have h2 := hn.1
     have h3 := hn.2
     simp only [Bool.not_eq_true, List.any_eq_false] at h2
     simp only [decide_eq_true_eq] at h3
     refine ⟨hok, fun i hi => ?_, by omega, by omega⟩
     have h5 := h2 (at0 zs i) (by rw [at0_get hi]; exact List.getElem_mem hi)
     simpa [notGr] using h5
set_option maxRecDepth 100000 in
set_option maxHeartbeats 4000000 in
theorem window_any (m : Mdl) (A : Option Addr) (c : Nat) (zs : List Rng) (v : Int) (w : World) (B : Nat) (hm : zs.length ≤ maxLen) (hB : B ≤ w.heap.size) (hx : Rd w B 2 A zs.length (rR zs)) (hv0 : 0 ≤ v) :
 Calls Tryd.prog 24 #[.agg (mdA m), .slice A zs.length c, .int .u8 v] w (RetW w m zs v) := by
 have cc : Hid (∀ V, Below w.heap.size w V → Calls Tryd.prog 49 #[.agg (mdA m), .slice A zs.length c, .int .u8 v] V fun e w' => e = .returned (I (ckF m zs v)) ∧ Below V.heap.size V w') := fun V hV => dcheck_any m A c zs v V B hm (Nat.le_trans hB hV.size) (hx.below (hV.mono hB))
 have HX : Hid (∀ V, Below w.heap.size w V → Rd V B 2 A zs.length (rR zs)) := fun V hV => hx.below (hV.mono hB)
 have CB := Lib.hid fun k hk V => bounds_any m k hk V
 clear hx hB hm
 obtain ⟨W, hW⟩ : ∃ W, W = (w.alloc (.cells #[I m.sc, I (m.b 0).lo, I (m.b 0).hi, I (m.b 1).lo, I (m.b 1).hi, I (m.b 2).lo, I (m.b 2).hi, I (m.b 3).lo, I (m.b 3).hi] 79)) := ⟨_, rfl⟩
 have rowW0 : W.heap[w.heap.size]? = some (.cells #[I m.sc, I (m.b 0).lo, I (m.b 0).hi, I (m.b 1).lo, I (m.b 1).hi, I (m.b 2).lo, I (m.b 2).hi, I (m.b 3).lo, I (m.b 3).hi] 79 (0, 0)) := by rw [hW]; exact heap_last _ _ _ rfl
 have yW00 := ovr_cell (W := W) (b := w.heap.size) (o := 0) (v := I m.sc) (by rw [cell_of_row _ _ _ _ _ _ rowW0]; rfl)
 have yW01 := ovr_cell (W := W) (b := w.heap.size) (o := 1) (v := I (m.b 0).lo) (by rw [cell_of_row _ _ _ _ _ _ rowW0]; rfl)
 have yW02 := ovr_cell (W := W) (b := w.heap.size) (o := 2) (v := I (m.b 0).hi) (by rw [cell_of_row _ _ _ _ _ _ rowW0]; rfl)
 have yW03 := ovr_cell (W := W) (b := w.heap.size) (o := 3) (v := I (m.b 1).lo) (by rw [cell_of_row _ _ _ _ _ _ rowW0]; rfl)
 have yW04 := ovr_cell (W := W) (b := w.heap.size) (o := 4) (v := I (m.b 1).hi) (by rw [cell_of_row _ _ _ _ _ _ rowW0]; rfl)
 have yW05 := ovr_cell (W := W) (b := w.heap.size) (o := 5) (v := I (m.b 2).lo) (by rw [cell_of_row _ _ _ _ _ _ rowW0]; rfl)
 have yW06 := ovr_cell (W := W) (b := w.heap.size) (o := 6) (v := I (m.b 2).hi) (by rw [cell_of_row _ _ _ _ _ _ rowW0]; rfl)
 have yW07 := ovr_cell (W := W) (b := w.heap.size) (o := 7) (v := I (m.b 3).lo) (by rw [cell_of_row _ _ _ _ _ _ rowW0]; rfl)
 have yW08 := ovr_cell (W := W) (b := w.heap.size) (o := 8) (v := I (m.b 3).hi) (by rw [cell_of_row _ _ _ _ _ _ rowW0]; rfl)
 have RrowW0 := Lib.hid (ovr_row rowW0)
 clear rowW0
 have HUW : Hid (∀ u, Below w.heap.size w (ovr W u)) := U1 hW
 have HW := Lib.hid hW
 clear hW
 by_cases h1 : ckF m zs v = 0
 case neg =>
  have H1 := Lib.hid h1
  clear h1
  go_enter Tryd.func24, Tryd.ntmps24
  go_upto_region 1 with (fail)
  rw [← HW.out]
  obtain ⟨u0, hu0⟩ := ovr_self W
  rw [hu0]
  clear hu0
  go_wp2_with fail
  refine (cc.out _ (HUW.out u0)).mono ?_
  rintro e w1 ⟨rfl, hb1⟩
  obtain ⟨u1, rfl⟩ := ovr_next hb1
  clear hb1
  have hq := H1.out
  generalize hQ : ckF m zs v = q at hq
  have HQ := Lib.hid hQ
  clear hQ
  go_wp2_with fail
  go_ret2
  exact ⟨_, [], by rw [HQ.out]; rfl, ⟨fun h => absurd h H1.out, fun _ => rfl, by decide⟩, own_nil, HUW.out _⟩
 have H1 := Lib.hid h1
 obtain ⟨hok, hzs, hzl, hv31⟩ := ck_ok h1
 have HN : Hid (∀ i, i < zs.length → ∀ k, k < 5 → BwNum m (at0 zs i) k) := fun i hi k hk => bw_num hok (hzs i hi) hk
 have HW1 : Hid (∀ l, l.Perm (badL m v zs zs.length) → l.Pairwise (fun x y => x.lo ≤ y.lo) → WinOf (badAt m v zs) (swK (l ++ [⟨1000001, 1000001⟩]) (l.length + 1)).2) := fun l hp hs => win_bad hok hzs hp hs
 have HSW : Hid (∀ l, l.Perm (badL m v zs zs.length) → l.Pairwise (fun x y => x.lo ≤ y.lo) → (∀ k, k < (l ++ [(⟨1000001, 1000001⟩ : Rng)]).length → BadOk (at0 (l ++ [(⟨1000001, 1000001⟩ : Rng)]) k)) ∧ ∀ k, k ≤ (l ++ [(⟨1000001, 1000001⟩ : Rng)]).length → SwIn ((l ++ [(⟨1000001, 1000001⟩ : Rng)]).take k) (swK (l ++ [⟨1000001, 1000001⟩]) k)) := fun l hp hs => sweep_all hp (bad_ok hok hzs) hs
 have HZL := Lib.hid hzl
 have HU8 : Hid (∀ j : Nat, (v / 2 ^ j).toNat < 256) := fun j => by
  have := Int.ediv_le_self ((2 : Int) ^ j) hv0
  omega
 have HU9 : Hid (∀ j : Nat, (((v / 2 ^ j).toNat : Nat) : Int) = v / 2 ^ j) := fun j => by
  have := Int.ediv_nonneg hv0 (show (0 : Int) ≤ 2 ^ j from Int.pow_nonneg (by decide))
  omega
 obtain ⟨i0, hi0, iz0, iz1, iz2⟩ := info_parts rng_info
 rw [h1] at cc
 clear h1 hok hzs hzl hv31
 go_enter Tryd.func24, Tryd.ntmps24
 go_upto_region 1 with (fail)
 rw [← HW.out]
 obtain ⟨u0, hu0⟩ := ovr_self W
 rw [hu0]
 clear hu0
 go_wp2_with fail
 refine (cc.out _ (HUW.out u0)).mono ?_
 rintro e w1 ⟨rfl, hb1⟩
 obtain ⟨u1, rfl⟩ := ovr_next hb1
 clear hb1
 have HBW : Hid (Below w.heap.size w W) := below_self HUW.out
 go_wp2_with fail
 go_loopw [9, 30] (fun v9 i wr => ∃ k : Nat, k ≤ zs.length ∧ i = .int .i64 k ∧ wr.ownsRow W.heap.size 23 2 v9 (badL m v zs k).length (rc (badL m v zs k)) ∧ Below W.heap.size W wr) (fun _ i _ => zs.length - (intOf i).toNat)
 case atStart => exact ⟨0, by omega, rfl, own_nil, ovr_below _ _⟩
 case round =>
  obtain ⟨k, hkn, rfl, hown, hb⟩ := hrel
  rename World => X
  have HB := Lib.hid hb
  have HOWN := Lib.hid hown
  clear hown
  by_cases hlt : k < zs.length
  · skip
    have reX : ∀ v, ∃ x, ovr X v = ovr W x := fun v => ovr_reB hb v
    have SW_yW00 := Lib.hid yW00
    replace yW00 := tr_cell reX yW00
    have SW_yW01 := Lib.hid yW01
    replace yW01 := tr_cell reX yW01
    have SW_yW02 := Lib.hid yW02
    replace yW02 := tr_cell reX yW02
    have SW_yW03 := Lib.hid yW03
    replace yW03 := tr_cell reX yW03
    have SW_yW04 := Lib.hid yW04
    replace yW04 := tr_cell reX yW04
    have SW_yW05 := Lib.hid yW05
    replace yW05 := tr_cell reX yW05
    have SW_yW06 := Lib.hid yW06
    replace yW06 := tr_cell reX yW06
    have SW_yW07 := Lib.hid yW07
    replace yW07 := tr_cell reX yW07
    have SW_yW08 := Lib.hid yW08
    replace yW08 := tr_cell reX yW08
    have SW_RrowW0 := Lib.hid RrowW0.out
    replace RrowW0 := Lib.hid (tr_row reX RrowW0.out)
    have HUX : Hid (∀ u, Below w.heap.size w (ovr X u)) := fun u => by obtain ⟨x, hx⟩ := reX u; rw [hx]; exact HUW.out x
    clear reX hb
    have HLT := Lib.hid hlt
    obtain ⟨u, hu⟩ := ovr_self X
    rw [hu] at HOWN
    obtain ⟨b, o, rfl, _, e0, e1⟩ := (HX.out _ (HUX.out u)).rng hlt
    rw [hu]
    clear hu
    go_upto_region 8 with fail
    clear e0 e1
    have HBX : Hid (Below W.heap.size W (ovr X u)) := HB.out.trans ((ovr_below X u).mono HB.out.size)
    refine name_w fun V hV => ?_
    obtain ⟨bz, hbz⟩ : ∃ bz, bz = (ovr X u).heap.size := ⟨_, rfl⟩
    have rV : V.heap[bz]? = some (.cells #[I (at0 zs k).lo, I (at0 zs k).hi] 23 (0, 0)) := by rw [hV, hbz]; exact heap_last _ _ _ rfl
    have bV : Below W.heap.size W V := by rw [hV]; exact HBX.out.alloc HBX.out.size _
    have oV : V.ownsRow W.heap.size 23 2 u9 (badL m v zs k).length (rc (badL m v zs k)) := by rw [hV]; exact HOWN.out.alloc _
    have nV : u9.ownBlock ≠ some bz := fun h => by
        have := (HOWN.out.lt bz h).2
        omega
    have sV : bz < V.heap.size := by rw [hV, hbz]; simp
    rw [← hbz]
    have RV := Lib.hid rV
    have BV := Lib.hid bV
    have OV := Lib.hid oV
    have NV := Lib.hid nV
    clear hV hbz rV bV oV nV sV
    go_wp2_with fail
    go_loopw [9, 34] (fun v9 i wr => ∃ (j : Nat) (l : List Rng), j ≤ 5 ∧ i = .int .i64 j ∧ l = badL m v zs k ++ badK m v (at0 zs k) j ∧ wr.ownsRow W.heap.size 23 2 v9 l.length (rc l) ∧ Below W.heap.size W wr ∧ wr.heap[bz]? = some (.cells #[I (at0 zs k).lo, I (at0 zs k).hi] 23 (0, 0)) ∧ v9.ownBlock ≠ some bz) (fun _ i _ => 5 - (intOf i).toNat)
    case atStart => exact ⟨0, badL m v zs k, by omega, rfl, (List.append_nil _).symm, OV.out, BV.out, RV.out, NV.out⟩
    case round =>
        obtain ⟨j, l, hj5, rfl, hl, hown, hb, hr, hne⟩ := hrel
        rename World => Y
        have HBY := Lib.hid hb
        have HR := Lib.hid hr
        have HL := Lib.hid hl
        have HNE := Lib.hid hne
        have hlen : l.length ≤ 100 := by
         rw [hl, List.length_append]
         have := badL_len m v zs k
         have := badK_len m v (at0 zs k) j
         have := HLT.out
         have := HZL.out
         omega
        have HLEN := Lib.hid hlen
        clear hl hne hlen
        by_cases hj : j < 5
        case neg =>
         obtain rfl : j = 5 := by omega
         have hkm : k < 9223372036854775807 := by have := HLT.out; have := HZL.out; omega
         go_wp2_with fail
         exact ⟨⟨k + 1, by have := HLT.out; omega, rfl, by rw [show badL m v zs (k + 1) = l from HL.out.symm]; exact hown, HBY.out⟩, by have := HLT.out; simp [intOf]; omega⟩
        have reY : ∀ v, ∃ x, ovr Y v = ovr W x := fun v => ovr_reB hb v
        have yW00 := SW_yW00.out
        replace yW00 := tr_cell reY yW00
        have yW01 := SW_yW01.out
        replace yW01 := tr_cell reY yW01
        have yW02 := SW_yW02.out
        replace yW02 := tr_cell reY yW02
        have yW03 := SW_yW03.out
        replace yW03 := tr_cell reY yW03
        have yW04 := SW_yW04.out
        replace yW04 := tr_cell reY yW04
        have yW05 := SW_yW05.out
        replace yW05 := tr_cell reY yW05
        have yW06 := SW_yW06.out
        replace yW06 := tr_cell reY yW06
        have yW07 := SW_yW07.out
        replace yW07 := tr_cell reY yW07
        have yW08 := SW_yW08.out
        replace yW08 := tr_cell reY yW08
        have RrowW0 := SW_RrowW0
        replace RrowW0 := Lib.hid (tr_row reY RrowW0.out)
        have yY00 := ovr_cell (W := Y) (b := bz) (o := 0) (v := I (at0 zs k).lo) (by rw [cell_of_row _ _ _ _ _ _ hr]; rfl)
        have yY01 := ovr_cell (W := Y) (b := bz) (o := 1) (v := I (at0 zs k).hi) (by rw [cell_of_row _ _ _ _ _ _ hr]; rfl)
        have RrowY0 := Lib.hid (ovr_row hr)
        clear hr
        have HUY : Hid (∀ u, Below w.heap.size w (ovr Y u)) := fun u => by obtain ⟨x, hx⟩ := reY u; rw [hx]; exact HUW.out x
        clear reY hb
        obtain ⟨u3, hu3⟩ := ovr_self Y
        rw [hu3]
        clear hu3
        have HOWN2 := Lib.hid hown
        clear hown
        have HNUM := Lib.hid (HN.out k HLT.out j hj)
        have HKS : Hid (badK m v (at0 zs k) (j + 1) = if bwB m v (at0 zs k) j then badK m v (at0 zs k) j ++ [bwR m (at0 zs k) j] else badK m v (at0 zs k) j) := rfl
        have HBB : Hid (bwB m v (at0 zs k) j = (unw v j && (decide (abv m j < upt m j) && decide ((bwR m (at0 zs k) j).lo ≤ (bwR m (at0 zs k) j).hi)))) := rfl
        have CP := Lib.hid (CB.out j hj (ovr Y u3))
        have HJ := Lib.hid hj
        go_wp2_with fail
        refine CP.out.mono ?_
        rintro e w1 ⟨rfl, hb1⟩
        obtain ⟨u4, rfl⟩ := ovr_next hb1
        clear hb1
        have hstay : Hid (bwB m v (at0 zs k) j = false → ∀ u, ∃ (j' : Nat) (l : List Rng), j' ≤ 5 ∧ (.int .i64 ((j : Int) + 1) : Value) = .int .i64 j' ∧ l = badL m v zs k ++ badK m v (at0 zs k) j' ∧ (ovr Y u).ownsRow W.heap.size 23 2 u9 l.length (rc l) ∧ Below W.heap.size W (ovr Y u) ∧ (ovr Y u).heap[bz]? = some (.cells #[I (at0 zs k).lo, I (at0 zs k).hi] 23 (0, 0)) ∧ u9.ownBlock ≠ some bz) := fun hb u =>
         ⟨j + 1, l, HJ.out, rfl, by rw [HKS.out, hb]; exact HL.out, own_below HOWN2.out (ovr_below Y u), HBY.out.trans ((ovr_below Y u).mono HBY.out.size), RrowY0.out u, HNE.out⟩
        by_cases hu : bits .and .u8 (v / 2 ^ j) 1 = 1
        · go_wp2_with fail
          exact ⟨hstay.out (by rw [HBB.out]; unfold unw; rw [hu]; rfl) u4, by have := HJ.out; simp [intOf]; omega⟩
        have hu' : (bits .and .u8 (v / 2 ^ j) 1 == 1) = false := by simpa using hu
        by_cases hab : upt m j ≤ abv m j
        · go_wp2_with fail
          exact ⟨hstay.out (by rw [HBB.out, decide_eq_false (by omega : ¬ abv m j < upt m j)]; simp) u4, by have := HJ.out; simp [intOf]; omega⟩
        have w3 := HNUM.out.w3
        have q3 := HNUM.out.q3
        have nz := HNUM.out.nz
        have hbr : Hid (bwR m (at0 zs k) j = ⟨if 0 ≤ abv m j then (abv m j * (at0 zs k).lo).tdiv m.sc + 1 else 0, min ((upt m j * (at0 zs k).hi).tdiv m.sc) 1000000⟩) := rfl
        go_upto_region 14 with fail
        have hu0 : Hid (bits .and .u8 (v / 2 ^ j) 1 = 0) := by
         rcases bit01 ⟨(v / 2 ^ j).toNat, HU8.out j⟩ with h | h
         · simp only [HU9.out j] at h; exact h
         · simp only [HU9.out j] at h; exact absurd h hu
        have hab2 := Lib.hid hab
        obtain ⟨HI, hHI⟩ : ∃ x, x = min ((upt m j * (at0 zs k).hi).tdiv m.sc) 1000000 := ⟨_, rfl⟩
        rw [← hHI] at hbr
        rw [← hHI]
        clear hHI hu hu' hab w3 q3
        have hYb : Hid (Below Y.heap.size Y (ovr Y u4)) := ovr_below Y u4
        obtain ⟨Z, hZ⟩ : ∃ Z, Z = ((ovr Y u4).alloc (.cells #[I 0, I HI] 23)) := ⟨_, rfl⟩
        have reZ : ∀ v, ∃ x, ovr Z v = ovr Y x := fun v => ovr_re1 hZ
        replace yW00 := tr_cell reZ yW00
        replace yW01 := tr_cell reZ yW01
        replace yW02 := tr_cell reZ yW02
        replace yW03 := tr_cell reZ yW03
        replace yW04 := tr_cell reZ yW04
        replace yW05 := tr_cell reZ yW05
        replace yW06 := tr_cell reZ yW06
        replace yW07 := tr_cell reZ yW07
        replace yW08 := tr_cell reZ yW08
        replace RrowW0 := Lib.hid (tr_row reZ RrowW0.out)
        replace yY00 := tr_cell reZ yY00
        replace yY01 := tr_cell reZ yY01
        replace RrowY0 := Lib.hid (tr_row reZ RrowY0.out)
        have rowZ0 : Z.heap[(ovr Y u4).heap.size]? = some (.cells #[I 0, I HI] 23 (0, 0)) := by rw [hZ]; exact heap_last _ _ _ rfl
        have yZ00 := ovr_cell (W := Z) (b := (ovr Y u4).heap.size) (o := 0) (v := I 0) (by rw [cell_of_row _ _ _ _ _ _ rowZ0]; rfl)
        have yZ01 := ovr_cell (W := Z) (b := (ovr Y u4).heap.size) (o := 1) (v := I HI) (by rw [cell_of_row _ _ _ _ _ _ rowZ0]; rfl)
        have RrowZ0 := Lib.hid (ovr_row rowZ0)
        clear rowZ0
        have HBZ : Hid (∀ u, Below Y.heap.size Y (ovr Z u)) := fun u => by obtain ⟨x, hx⟩ := reZ u; rw [hx]; exact ovr_below _ _
        have HUZ : Hid (∀ u, Below w.heap.size w (ovr Z u)) := fun u => by obtain ⟨x, hx⟩ := reZ u; rw [hx]; exact HUY.out x
        clear reZ
        have HZ := Lib.hid hZ
        clear hZ
        have hYZ : Hid (Below Y.heap.size Y Z) := by rw [HZ.out]; exact hYb.out.alloc hYb.out.size _
        have hZs : Hid ((ovr Y u4).heap.size < Z.heap.size) := by rw [HZ.out]; simp [Hid]
        obtain ⟨br, hbr0⟩ : ∃ x, x = (ovr Y u4).heap.size := ⟨_, rfl⟩
        have fz : ∀ u, (ovr Z u).frozen? ⟨(ovr Y u4).heap.size, 0, none⟩ = false := fun u => frozen_of_row _ _ _ _ _ (RrowZ0.out u)
        rw [← HZ.out]
        obtain ⟨u5, hu5⟩ := ovr_self Z
        rw [hu5]
        clear hu5
        have hYZ5 : Hid (Below Y.heap.size Y (ovr Z u5)) := hYZ.out.trans ((ovr_below Z u5).mono hYZ.out.size)
        by_cases h0 : 0 ≤ abv m j
        · have w4 := HNUM.out.w4 h0
          have q4 := HNUM.out.q4 h0
          rw [if_pos h0] at hbr
          obtain ⟨LO, hLO⟩ : ∃ x, x = (abv m j * (at0 zs k).lo).tdiv m.sc + 1 := ⟨_, rfl⟩
          rw [← hLO] at hbr
          have w5 : IntKind.i64.wrap ((abv m j * (at0 zs k).lo).tdiv m.sc + 1) = LO := by rw [hLO]; exact IntWalk.i64_in _ (by omega)
          have hbr2 : Hid (bwR m (at0 zs k) j = ⟨LO, HI⟩) := hbr.out
          clear hLO hbr
          go_upto_region 16 with fail
          refine name_w fun R hR => ?_
          have rR : R.heap[br]? = some (.cells #[I LO, I HI] 23 (0, 0)) := by rw [hR, hbr0]; exact rs (RrowZ0.out u5) 0 _
          have hYR : Below Y.heap.size Y R := by rw [hR]; exact hYZ5.out.setCell hYb.out.size _
          rw [← hbr0]
          clear hR hbr0 w4 q4 w5
          have HOWN3 := Lib.hid (own_below HOWN2.out hYR)
          have hYA : Below Y.heap.size Y (R.alloc (.cells #[I LO, I HI] 23)) := hYR.alloc hYR.size _
          have HYA := Lib.hid hYA
          have HYR := Lib.hid hYR
          have c0 : R.cell? ⟨br, 0, none⟩ = some (I LO) := by rw [cell_of_row _ _ _ _ _ _ rR]; rfl
          have c1 : R.cell? ⟨br, 1, none⟩ = some (I HI) := by rw [cell_of_row _ _ _ _ _ _ rR]; rfl
          clear rR hYA hYR
          by_cases hle : LO ≤ HI
          · have hbw : bwB m v (at0 zs k) j = true := by
             rw [HBB.out, hbr2.out]
             unfold unw
             rw [decide_eq_true hu0.out, decide_eq_true (show abv m j < upt m j by have := hab2.out; omega), decide_eq_true hle]
             rfl
            have hks : Hid (badK m v (at0 zs k) (j + 1) = badK m v (at0 zs k) j ++ [⟨LO, HI⟩]) := by show _ = _; rw [HKS.out, hbw, hbr2.out]; rfl
            have hbzlt : Hid (bz < Y.heap.size) := (Array.getElem?_eq_some_iff.1 HR.out).1
            clear hbw
            go_wp2_with (with_reducible show wpList _ _ _ _ _ _; refine wpList_append_own_at _ rfl _ _ 80 rfl W.heap.size 23 i0 _ 2 16 Tryd.underlying80 hi0 iz0 iz1 iz2 rfl (by decide) u9 l.length (rc l) rfl (HOWN3.out.alloc _) ⟨R.heap.size, 0, none⟩ 1 1 [I LO, I HI] rfl rfl (cells_row (heap_last _ _ _ rfl)) (by simp [Value.oneCell']) (by have := HLEN.out; unfold maxLen; omega) (by have := HLEN.out; omega) (Nat.le_trans HBY.out.size HYA.out.size) ?_)
            intro v' w2 own3 hg2 _ hob
            have hrow2 : w2.heap[bz]? = some (.cells #[I (at0 zs k).lo, I (at0 zs k).hi] 23 (0, 0)) := (hg2.block bz (by have := HYA.out.size; have := hbzlt.out; omega) (fun he => HNE.out he.symm)).trans ((HYA.out.block bz hbzlt.out).trans HR.out)
            have hbw2 : Below W.heap.size W w2 := (HBY.out.trans (HYA.out.mono HBY.out.size)).grown hg2 (Nat.le_trans HBY.out.size HYA.out.size) (fun g hg => (HOWN2.out.lt g hg).1)
            have hne2 : v'.ownBlock ≠ some bz := fun he => by
             rcases hob with h | h
             · exact HNE.out (h ▸ he)
             · rw [h] at he
               simp at he
               have := HYR.out.size
               have := hbzlt.out
               omega
            have HOW := Lib.hid own3
            have HG1 := Lib.hid hrow2
            have HG2 := Lib.hid hbw2
            have HG3 := Lib.hid hne2
            clear own3 hg2 hob hrow2 hbw2 hne2
            go_wp2_with fail
            exact ⟨⟨j + 1, l ++ [⟨LO, HI⟩], HJ.out, rfl, by rw [hks.out, HL.out, List.append_assoc], by rw [List.length_append, rc_app]; exact HOW.out, HG2.out, HG1.out, HG3.out⟩, by have := HJ.out; simp [intOf]; omega⟩
          · have hbw : bwB m v (at0 zs k) j = false := by
             rw [HBB.out, hbr2.out, decide_eq_false hle, Bool.and_false, Bool.and_false]
            have hst2 : Hid (badK m v (at0 zs k) (j + 1) = badK m v (at0 zs k) j) := by show _ = _; rw [HKS.out, hbw]; rfl
            have hrow2 : Hid (R.heap[bz]? = some (.cells #[I (at0 zs k).lo, I (at0 zs k).hi] 23 (0, 0))) := (HYR.out.block bz (Array.getElem?_eq_some_iff.1 HR.out).1).trans HR.out
            clear hbw
            go_wp2_with fail
            exact ⟨⟨j + 1, l, HJ.out, rfl, by rw [hst2.out]; exact HL.out, HOWN3.out, HBY.out.trans (HYR.out.mono HBY.out.size), hrow2.out, HNE.out⟩, by have := HJ.out; simp [intOf]; omega⟩
        · rw [if_neg h0] at hbr
          have hbr2 : Hid (bwR m (at0 zs k) j = ⟨0, HI⟩) := hbr.out
          clear hbr
          go_upto_region 16 with fail
          refine name_w fun R hR => ?_
          have rR : R.heap[br]? = some (.cells #[I 0, I HI] 23 (0, 0)) := by rw [hR, hbr0]; exact RrowZ0.out u5
          have hYR : Below Y.heap.size Y R := by rw [hR]; exact hYZ5.out
          rw [← hbr0]
          clear hR hbr0
          have HOWN3 := Lib.hid (own_below HOWN2.out hYR)
          have hYA : Below Y.heap.size Y (R.alloc (.cells #[I 0, I HI] 23)) := hYR.alloc hYR.size _
          have HYA := Lib.hid hYA
          have HYR := Lib.hid hYR
          have c0 : R.cell? ⟨br, 0, none⟩ = some (I 0) := by rw [cell_of_row _ _ _ _ _ _ rR]; rfl
          have c1 : R.cell? ⟨br, 1, none⟩ = some (I HI) := by rw [cell_of_row _ _ _ _ _ _ rR]; rfl
          clear rR hYA hYR
          by_cases hle : 0 ≤ HI
          · have hbw : bwB m v (at0 zs k) j = true := by
              rw [HBB.out, hbr2.out]
              unfold unw
              rw [decide_eq_true hu0.out, decide_eq_true (show abv m j < upt m j by have := hab2.out; omega), decide_eq_true hle]
              rfl
            have hks : Hid (badK m v (at0 zs k) (j + 1) = badK m v (at0 zs k) j ++ [⟨0, HI⟩]) := by show _ = _; rw [HKS.out, hbw, hbr2.out]; rfl
            have hbzlt : Hid (bz < Y.heap.size) := (Array.getElem?_eq_some_iff.1 HR.out).1
            clear hbw
            go_wp2_with (with_reducible show wpList _ _ _ _ _ _; refine wpList_append_own_at _ rfl _ _ 80 rfl W.heap.size 23 i0 _ 2 16 Tryd.underlying80 hi0 iz0 iz1 iz2 rfl (by decide) u9 l.length (rc l) rfl (HOWN3.out.alloc _) ⟨R.heap.size, 0, none⟩ 1 1 [I 0, I HI] rfl rfl (cells_row (heap_last _ _ _ rfl)) (by simp [Value.oneCell']) (by have := HLEN.out; unfold maxLen; omega) (by have := HLEN.out; omega) (Nat.le_trans HBY.out.size HYA.out.size) ?_)
            intro v' w2 own3 hg2 _ hob
            have hrow2 : w2.heap[bz]? = some (.cells #[I (at0 zs k).lo, I (at0 zs k).hi] 23 (0, 0)) := (hg2.block bz (by have := HYA.out.size; have := hbzlt.out; omega) (fun he => HNE.out he.symm)).trans ((HYA.out.block bz hbzlt.out).trans HR.out)
            have hbw2 : Below W.heap.size W w2 := (HBY.out.trans (HYA.out.mono HBY.out.size)).grown hg2 (Nat.le_trans HBY.out.size HYA.out.size) (fun g hg => (HOWN2.out.lt g hg).1)
            have hne2 : v'.ownBlock ≠ some bz := fun he => by
              rcases hob with h | h
              · exact HNE.out (h ▸ he)
              · rw [h] at he
                simp at he
                have := HYR.out.size
                have := hbzlt.out
                omega
            have HOW := Lib.hid own3
            have HG1 := Lib.hid hrow2
            have HG2 := Lib.hid hbw2
            have HG3 := Lib.hid hne2
            clear own3 hg2 hob hrow2 hbw2 hne2
            go_wp2_with fail
            exact ⟨⟨j + 1, l ++ [⟨0, HI⟩], HJ.out, rfl, by rw [hks.out, HL.out, List.append_assoc], by rw [List.length_append, rc_app]; exact HOW.out, HG2.out, HG1.out, HG3.out⟩, by have := HJ.out; simp [intOf]; omega⟩
          · have hbw : bwB m v (at0 zs k) j = false := by
              rw [HBB.out, hbr2.out, decide_eq_false hle, Bool.and_false, Bool.and_false]
            have hst2 : Hid (badK m v (at0 zs k) (j + 1) = badK m v (at0 zs k) j) := by show _ = _; rw [HKS.out, hbw]; rfl
            have hrow2 : Hid (R.heap[bz]? = some (.cells #[I (at0 zs k).lo, I (at0 zs k).hi] 23 (0, 0))) := (HYR.out.block bz (Array.getElem?_eq_some_iff.1 HR.out).1).trans HR.out
            clear hbw
            go_wp2_with fail
            exact ⟨⟨j + 1, l, HJ.out, rfl, by rw [hst2.out]; exact HL.out, HOWN3.out, HBY.out.trans (HYR.out.mono HBY.out.size), hrow2.out, HNE.out⟩, by have := HJ.out; simp [intOf]; omega⟩
  · obtain rfl : k = zs.length := by omega
    obtain ⟨L, hL⟩ : ∃ L, L = badL m v zs zs.length := ⟨_, rfl⟩
    have hLL : L.length ≤ 100 := by rw [hL]; have := badL_len m v zs zs.length; have := HZL.out; omega
    have hown := HOWN.out
    rw [← hL] at hown HW1 HSW
    have SA := Lib.hid (sort_any u9 L X W.heap.size 23 (by omega) HB.out.size hown)
    have HLL := Lib.hid hLL
    clear hown hb hL hLL
    go_wp2_with fail
    refine SA.out.mono ?_
    rintro e w1 ⟨rfl, L', hl1, hp, hs, hown1, hb1⟩
    have HWF := Lib.hid (HW1.out L' hp hs)
    have HSF := Lib.hid (HSW.out L' hp hs)
    have HB1 : Hid (Below W.heap.size W w1) := HB.out.trans hb1
    have HLL' : Hid (L'.length ≤ 100) := by show _ ≤ _; rw [hl1]; exact HLL.out
    rw [← hl1] at hown1
    have HO1 := Lib.hid hown1
    have hlk : Hid (L.length = L'.length) := hl1.symm
    clear hp hs hb1 SA hl1 hown1
    go_wp2_with (with_reducible show wpList _ _ _ _ _ _; refine wpList_append_own _ rfl _ _ 80 rfl W.heap.size 23 i0 _ 2 16 Tryd.underlying80 hi0 iz0 iz1 iz2 rfl (by decide) u9 L'.length (rc L') rfl (HO1.out.alloc _) ⟨w1.heap.size, 0, none⟩ 1 1 [I 1000001, I 1000001] rfl rfl (cells_row (heap_last _ _ _ rfl)) (by simp [Value.oneCell']) (by have := HLL'.out; unfold maxLen; omega) (by have := HLL'.out; omega) (by have := HB1.out.size; simp; omega) ?_)
    intro v' w3 own3 hg3 _
    have HB3 : Hid (Below W.heap.size W w3) := (HB1.out.alloc HB1.out.size _).grown hg3 (by have := HB1.out.size; simp; omega) (fun g hg => (HO1.out.lt g hg).1)
    obtain ⟨LL, hLL⟩ : ∃ LL, LL = L' ++ [(⟨1000001, 1000001⟩ : Rng)] := ⟨_, rfl⟩
    have hll : LL.length = L'.length + 1 := by rw [hLL]; simp
    rw [← hLL] at HSF HWF
    have own4 : w3.ownsRow W.heap.size 23 2 v' LL.length (rc LL) := by rw [hLL, List.length_append, rc_app]; exact own3
    rw [← hll] at HWF
    obtain ⟨A2, c2, rfl, hc2, hrd⟩ := Rd.of_rc rfl own4
    have HLN : Hid (LL.length ≤ 101) := by show _ ≤ _; have := HLL'.out; omega
    have HRD := Lib.hid hrd
    clear own3 own4 hg3 hLL hll hc2 hrd
    go_wp2_with fail
    go_loopw [16, 17, 91] (fun v16 n17 i wr => ∃ k : Nat, k ≤ LL.length ∧ i = .int .i64 k ∧ n17 = I (swK LL k).1 ∧ wr.ownsRow w3.heap.size 23 2 v16 (swK LL k).2.length (rc (swK LL k).2) ∧ Below w3.heap.size w3 wr) (fun _ _ i _ => LL.length - (intOf i).toNat)
    case atStart => exact ⟨0, by omega, rfl, rfl, own_nil, Below.refl _ _⟩
    case round =>
        obtain ⟨k, hkn, rfl, rfl, hown, hb⟩ := hrel
        rename World => X3
        obtain ⟨⟨N, O⟩, hNO⟩ : ∃ q, swK LL k = q := ⟨_, rfl⟩
        rw [hNO] at hown
        have sw := HSF.out.2 k hkn
        rw [hNO] at sw
        have hn0 : 0 ≤ N := sw.n0
        have hn1 : N ≤ 1000002 := sw.n1
        have ho1 : O.length ≤ 101 := by have h3 : O.length ≤ (LL.take k).length := sw.len; have := List.length_take_le' k LL; have := HLN.out; omega
        have HN1 := Lib.hid hn1
        have HO1L := Lib.hid ho1
        have HNO := Lib.hid hNO
        have HBX3 := Lib.hid hb
        have HOX := Lib.hid hown
        rw [hNO]
        clear hNO sw ho1 hb hown
        by_cases hlt : k < LL.length
        · have HLT := Lib.hid hlt
          obtain ⟨r1, r2, r3, r4⟩ := HSF.out.1 k hlt
          have hst : Hid (swK LL (k + 1) = swS (N, O) (at0 LL k)) := by show swS (swK LL k) (at0 LL k) = _; rw [HNO.out]
          obtain ⟨b, o, rfl, _, e0, e1⟩ := (HRD.out.below HBX3.out).rng hlt
          obtain ⟨⟨lo, hi⟩, hr⟩ : ∃ r, at0 LL k = r := ⟨_, rfl⟩
          rw [hr] at r1 r2 r3 r4 e0 e1 hst
          clear hr
          simp only at r1 r2 r3 r4 e0 e1
          go_upto_region 26 with fail
          clear e0 e1
          refine name_w fun V hV => ?_
          obtain ⟨br, hbr⟩ : ∃ x, x = X3.heap.size := ⟨_, rfl⟩
          have rV : V.heap[br]? = some (.cells #[I lo, I hi] 23 (0, 0)) := by rw [hV, hbr]; exact heap_last _ _ _ rfl
          have bV : Below X3.heap.size X3 V := by rw [hV]; exact (Below.refl _ _).alloc (Nat.le_refl _) _
          have sV : br < V.heap.size := by rw [hV, hbr]; simp
          have nV : u16.ownBlock ≠ some br := fun h => by
           have := (HOX.out.lt br h).2
           omega
          rw [← hbr]
          have c0 : V.cell? ⟨br, 0, none⟩ = some (I lo) := by rw [cell_of_row _ _ _ _ _ _ rV]; rfl
          have c1 : V.cell? ⟨br, 1, none⟩ = some (I hi) := by rw [cell_of_row _ _ _ _ _ _ rV]; rfl
          have m0 : min lo 1000001 = lo := by omega
          have hkm : k < 9223372036854775807 := by have := HLT.out; have := HLN.out; omega
          have k2 : IntKind.i64.wrap (hi + 1) = hi + 1 := IntWalk.i64_in _ (by omega)
          have RV := Lib.hid rV
          have BV := Lib.hid bV
          have SV := Lib.hid sV
          have NV := Lib.hid nV
          have R2 : Hid (lo ≤ 1000001) := r2
          have R1 : Hid (0 ≤ lo) := r1
          have HS : Hid (swS (N, O) ⟨lo, hi⟩ = (max N (hi + 1), if N < lo then O ++ [⟨N, lo - 1⟩] else O)) := by show _ = _; unfold swS; simp only [m0]
          clear hV hbr rV bV sV nV r1 r2 r3 r4
          by_cases hc : N < lo
          · rw [if_pos hc] at HS
            have k1 : IntKind.i64.wrap (lo - 1) = lo - 1 := IntWalk.i64_in _ (by have := R2.out; have := R1.out; omega)
            go_wp2_with (with_reducible show wpList _ _ _ _ _ _; refine wpList_append_own _ rfl _ _ 80 rfl w3.heap.size 23 i0 _ 2 16 Tryd.underlying80 hi0 iz0 iz1 iz2 rfl (by decide) u16 O.length (rc O) rfl ((own_below HOX.out BV.out).alloc _) ⟨V.heap.size, 0, none⟩ 1 1 [I N, I (lo - 1)] rfl rfl (cells_row (heap_last _ _ _ rfl)) (by simp [Value.oneCell']) (by have := HO1L.out; unfold maxLen; omega) (by have := HO1L.out; omega) (by have := HBX3.out.size; have := BV.out.size; simp; omega) ?_)
            intro v'' w5 own5 hg5 _
            have bA : Below w3.heap.size w3 (V.alloc (.cells #[I N, I (lo - 1)] 23)) := (HBX3.out.trans (BV.out.mono HBX3.out.size)).alloc (Nat.le_trans HBX3.out.size BV.out.size) _
            have b5 : Below w3.heap.size w3 w5 := bA.grown hg5 (by have := HBX3.out.size; have := BV.out.size; simp; omega) (fun g hg => (HOX.out.lt g hg).1)
            have r5 : w5.heap[br]? = some (.cells #[I lo, I hi] 23 (0, 0)) := (hg5.block br (by have := SV.out; simp; omega) (fun he => NV.out he.symm)).trans (heap_before RV.out)
            have c15 : w5.cell? ⟨br, 1, none⟩ = some (I hi) := by rw [cell_of_row _ _ _ _ _ _ r5]; rfl
            have O5 := Lib.hid own5
            have B5 := Lib.hid b5
            clear own5 hg5 bA b5 r5 c0 c1
            go_wp2_with fail
            go_roundw
            case rel => exact ⟨k + 1, HLT.out, rfl, by rw [hst.out, HS.out], by rw [hst.out, HS.out, List.length_append, rc_app]; exact O5.out, B5.out⟩
            case measure => have := HLT.out; simp [intOf]; omega
          · rw [if_neg hc] at HS
            go_wp2_with fail
            go_roundw
            case rel => exact ⟨k + 1, HLT.out, rfl, by rw [hst.out, HS.out], by rw [hst.out, HS.out]; exact own_below HOX.out BV.out, HBX3.out.trans (BV.out.mono HBX3.out.size)⟩
            case measure => have := HLT.out; simp [intOf]; omega
        · obtain rfl : k = LL.length := by omega
          rw [HNO.out] at HWF
          have hwr : WinR m zs v O := ⟨fun _ => HWF.out, fun h => absurd H1.out h, HO1L.out⟩
          have HWR := Lib.hid hwr
          have hbf : Below w.heap.size w X3 := HBW.out.trans ((HB3.out.trans (HBX3.out.mono HB3.out.size)).mono HBW.out.size)
          have hof : X3.ownsRow w.heap.size 23 2 u16 O.length (rc O) := own_base HOX.out (Nat.le_trans HBW.out.size HB3.out.size)
          have HBF := Lib.hid hbf
          have HOF := Lib.hid hof
          clear hwr hbf hof
          go_wp2_with fail
          go_ret2
          exact ⟨_, O, by rw [H1.out]; rfl, HWR.out, HOF.out, HBF.out⟩
end Go.Proofs.YtnkaoplgmglijaaDoor.Un
