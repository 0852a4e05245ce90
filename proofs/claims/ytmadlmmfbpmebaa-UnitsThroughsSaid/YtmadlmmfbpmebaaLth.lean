/- The walk of the law UnitsThroughs. -/
import Derived.Test.YtmadlmmfbpmebaaU8
import Derived.Test.YtmadlmmfbpmebaaJu
import Derived.Test.YtmadlmmfbpmebaaJv
namespace Go.Proofs.Ytmadlmmfbpmebaa
open Go.RowKit
/-- The first k tables, copied. -/
def Kept (W0 w : World) (TT : List (List Rng)) (v : Value) (k : Nat) (C : Nat → Option Addr) (D : Nat → Nat) : Prop :=
  SoC 44 1 W0.heap.size k (flat 1 (fun j _ => .slice (C j) (at0 TT j).length (D j)) k) v w ∧ (k = 0 → ∃ b, v = .slice (some ⟨b, 0, none⟩) 0 0) ∧ ∀ j, j < k → InK w v (C j) (at0 TT j).length (rR (at0 TT j))
theorem flat_one {g : Nat → Nat → Value} (k : Nat) : flat 1 g (k + 1) = flat 1 g k ++ [g k 0] := by
  rw [flat_succ 1 (by omega)]
  rfl
theorem Kept.next {W0 X w1 w2 w3 : World} {TT : List (List Rng)} {v v' : Value} {k c1 : Nat} {A1 : Option Addr} {C : Nat → Option Addr} {D : Nat → Nat} (h : Kept W0 X TT v k C D)
    (hso : SoC 50 2 X.heap.size (at0 TT k).length (flat 2 (rR (at0 TT k)) (at0 TT k).length) (.slice A1 (at0 TT k).length c1) w1) (hb1 : Below X.heap.size X w1) (hb2 : Below w1.heap.size w1 w2)
    (hso3 : SoC 44 1 W0.heap.size (k + 1) (flat 1 (fun j _ => .slice (C j) (at0 TT j).length (D j)) k ++ [.slice A1 (at0 TT k).length c1]) v' w3) (hs3 : w2.heap.size ≤ w3.heap.size)
    (hkeep : ∀ b, b < w2.heap.size → (k = 0 ∨ v.ownBlock ≠ some b) → w3.heap[b]? = w2.heap[b]? ∧ v'.ownBlock ≠ some b) :
    Kept W0 w3 TT v' (k + 1) (fun j => if j = k then A1 else C j) (fun j => if j = k then c1 else D j) := by
  refine ⟨?_, fun h => by omega, fun j hj => ?_⟩
  · have e : flat 1 (fun j _ => Value.slice (if j = k then A1 else C j) (at0 TT j).length (if j = k then c1 else D j)) (k + 1) = flat 1 (fun j _ => .slice (C j) (at0 TT j).length (D j)) k ++ [.slice A1 (at0 TT k).length c1] := by
      rw [flat_one, if_pos rfl, if_pos rfl]
      congr 1
      refine flat_congr fun j hj i _ => ?_
      rw [if_neg (by omega), if_neg (by omega)]
    rw [e]
    exact hso3
  · by_cases hjk : j = k
    · subst hjk
      show InK w3 v' (if j = j then A1 else C j) _ _
      rw [if_pos rfl]
      by_cases h0 : j = 0
      · have h1 : InK w1 (.slice none 0 0) A1 (at0 TT j).length (rR (at0 TT j)) := InK.of_so hso (fun b hb => by cases hb)
        have h2 : InK w2 (.slice none 0 0) A1 (at0 TT j).length (rR (at0 TT j)) := h1.next hb2.size fun b hb hv => ⟨hb2.block b hb, hv⟩
        exact h2.next hs3 fun b hb _ => hkeep b hb (.inl h0)
      · have ho := h.1.resolve_left (fun h' => h0 h'.1)
        have h1 : InK w1 v A1 (at0 TT j).length (rR (at0 TT j)) := InK.of_so hso (fun b hb => (ho.lt b hb).2)
        have h2 : InK w2 v A1 (at0 TT j).length (rR (at0 TT j)) := h1.next hb2.size fun b hb hv => ⟨hb2.block b hb, hv⟩
        exact h2.next hs3 fun b hb hv => hkeep b hb (.inr hv)
    · show InK w3 v' (if j = k then A1 else C j) _ _
      rw [if_neg hjk]
      have h1 : InK w1 v (C j) (at0 TT j).length (rR (at0 TT j)) := (h.2.2 j (by omega)).next hb1.size fun b hb hv => ⟨hb1.block b hb, hv⟩
      have h2 : InK w2 v (C j) (at0 TT j).length (rR (at0 TT j)) := h1.next hb2.size fun b hb hv => ⟨hb2.block b hb, hv⟩
      exact h2.next hs3 fun b hb hv => hkeep b hb (.inr hv)
theorem Kept.rdT {W0 w : World} {TT : List (List Rng)} {v : Value} {C : Nat → Option Addr} {D : Nat → Nat} (h : Kept W0 w TT v TT.length C D) (hl : ∀ j, j < TT.length → (at0 TT j).length ≤ 70) : ∃ A c, v = .slice A TT.length c ∧ RdT w w.heap.size A TT C D := by
  obtain ⟨A, c, hv, _, _, hr⟩ := h.1.rd
  exact ⟨A, c, hv, hr, fun j hj => ⟨by have := hl j hj; unfold maxLen; omega, (h.2.2 j hj).rd⟩⟩
set_option maxRecDepth 100000 in
set_option maxHeartbeats 4000000 in
theorem unitsThroughs_any (A : Option Addr) (c : Nat) (TT : List (List Rng)) (C : Nat → Option Addr) (D : Nat → Nat) (x : Rng) (w : World) (hx : RdT w w.heap.size A TT C D)
    (hz : ∀ k, k < TT.length → ∀ j, j < (at0 TT k).length → (-9223372036854775808 ≤ (at0 (at0 TT k) j).lo ∧ (at0 (at0 TT k) j).lo ≤ 9223372036854775807) ∧ (-9223372036854775808 ≤ (at0 (at0 TT k) j).hi ∧ (at0 (at0 TT k) j).hi ≤ 9223372036854775807)) :
    Calls Try.prog 16 #[.slice A TT.length c, x.val] w fun e w' => e = .returned (.bool true) ∧ Below w.heap.size w w' := by
  have ck := Lib.hid fun W => known_any W
  obtain ⟨i0, hi0, iz0, iz1, iz2⟩ := info_parts knots_info
  obtain ⟨W, hW⟩ : ∃ W, W = (w.alloc (.cells #[I x.lo, I x.hi] 38)) := ⟨_, rfl⟩
  have rowW0 : W.heap[w.heap.size]? = some (.cells #[I x.lo, I x.hi] 38 (0, 0)) := by rw [hW]; exact heap_last _ _ _ rfl
  have yW00 := ovr_cell (W := W) (b := w.heap.size) (o := 0) (v := I x.lo) (by rw [cell_of_row _ _ _ _ _ _ rowW0]; rfl)
  have yW01 := ovr_cell (W := W) (b := w.heap.size) (o := 1) (v := I x.hi) (by rw [cell_of_row _ _ _ _ _ _ rowW0]; rfl)
  have RrowW0 := Lib.hid (ovr_row rowW0)
  clear rowW0
  have HUW : Hid (∀ u, Below w.heap.size w (ovr W u)) := U1 hW
  have HW := Lib.hid hW
  clear hW
  by_cases hl : 12 < TT.length
  · have hb : decide (12 < (TT.length : Int)) = true := decide_eq_true (by omega)
    clear hx hl hz
    go_enter Try.func16, Try.ntmps16
    go_upto_region 1 with (fail)
    rw [← HW.out]
    obtain ⟨u0, hu0⟩ := ovr_self W
    rw [hu0]
    clear hu0
    go_wp2_with fail
    refine (ck.out _).mono ?_
    rintro e w1 ⟨rfl, hb1⟩
    obtain ⟨u1, rfl⟩ := ovr_next hb1
    clear hb1
    go_wp2_with fail
    go_ret
    exact ⟨rfl, HUW.out _⟩
  have hb : decide (12 < (TT.length : Int)) = false := decide_eq_false (by omega)
  have HX : Hid (∀ W', Below w.heap.size w W' → RdT W' w.heap.size A TT C D ∧ w.heap.size ≤ W'.heap.size) := fun W' h => ⟨hx.below h, h.size⟩
  have co : Hid (∀ W' k, k < TT.length → (at0 TT k).length ≤ 70 → Below w.heap.size w W' → Calls Try.prog 31 #[.slice (C k) (at0 TT k).length (D k)] W' (RetSo W' 50 2 (at0 TT k).length (rR (at0 TT k)))) := fun W' k hk h70 h => ownKnotsS_any (C k) _ (D k) _ W' w.heap.size (by omega) h.size ((hx.2 k hk).2.below h)
  have ct : Hid (∀ W' A' c' C' D', RdT W' W'.heap.size A' TT C' D' → Calls Try.prog 53 #[.slice A' TT.length c', x.val] W' (RetT W' (thF TT x))) := fun W' A' c' C' D' h => through_any A' c' TT C' D' x W' W'.heap.size (by unfold maxLen; omega) (Nat.le_refl _) h
  have cr : Hid (∀ W', Below w.heap.size w W' → Calls Try.prog 54 #[.slice A TT.length c, x.val] W' (RetT W' (thF TT x))) := fun W' h => refThrough_any A c TT C D x W' w.heap.size h.size (hx.below h) hz
  have h12 : TT.length ≤ 12 := by omega
  obtain ⟨⟨v, p, z⟩, hq⟩ : ∃ q, thF TT x = q := ⟨_, rfl⟩
  rw [hq] at ct cr
  clear hq
  clear hx hz hl
  go_enter Try.func16, Try.ntmps16
  go_upto_region 1 with (fail)
  rw [← HW.out]
  obtain ⟨u0, hu0⟩ := ovr_self W
  rw [hu0]
  clear hu0
  go_upto_region 4 with (fail)
  obtain ⟨qb, hqb⟩ : ∃ qb, (ovr W u0).heap.size = qb := ⟨_, rfl⟩
  rw [hqb]
  have hal : Below (ovr W u0).heap.size (ovr W u0) ((ovr W u0).alloc (.cells #[] 44)) := (Below.refl _ _).alloc (Nat.le_refl _) _
  obtain ⟨u1, hu1⟩ := ovr_next hal
  rw [hu1]
  clear hal hu1 hqb
  go_wp2_with fail
  go_loopw [5, 6] (fun v i wr => ∃ k : Nat, k ≤ TT.length ∧ i = .int .i64 k ∧ (∀ j, j < k → (at0 TT j).length ≤ 70) ∧ (∃ C' D', Kept W wr TT v k C' D') ∧ Below W.heap.size W wr) (fun _ i _ => TT.length - (intOf i).toNat)
  case atStart => exact ⟨0, by omega, rfl, fun j hj => absurd hj (by omega), ⟨fun _ => none, fun _ => 0, .inl ⟨rfl, rfl, qb, rfl⟩, fun _ => ⟨qb, rfl⟩, fun j hj => absurd hj (by omega)⟩, ovr_below _ _⟩
  case round =>
    obtain ⟨k, hk, rfl, hg, ⟨C', D', hkp⟩, hb⟩ := hrel
    rename World => X
    have hbw : Below w.heap.size w X := (below_self HUW.out).trans (hb.mono (below_self HUW.out).size)
    have Hg := Lib.hid hg
    clear hg
    by_cases hlt : k < TT.length
    · have hltb : decide ((k : Int) < (TT.length : Int)) = true := decide_eq_true (by omega)
      obtain ⟨b, o, rfl, _, e0⟩ := (HX.out X hbw).1.at hlt
      by_cases h70 : 70 < (at0 TT k).length
      · have h7b : decide (70 < ((at0 TT k).length : Int)) = true := decide_eq_true (by omega)
        have HB := Lib.hid hbw
        clear hkp hb h70 hbw
        go_wp2_with fail
        refine (ck.out _).mono ?_
        rintro e w1 ⟨rfl, hb1⟩
        have HB2 := Lib.hid (HB.out.trans (hb1.mono HB.out.size))
        clear hb1
        go_wp2_with fail
        go_ret
        exact ⟨rfl, HB2.out⟩
      have h7b : decide (70 < ((at0 TT k).length : Int)) = false := decide_eq_false (by omega)
      have cq := Lib.hid (co.out X k hlt (by omega) hbw)
      have Hkp := Lib.hid hkp
      have HB := Lib.hid hb
      have hn70 := Lib.hid (succ_case Hg.out (Nat.le_of_not_lt h70))
      clear hkp hb h70 hbw
      go_wp2_with fail
      refine cq.out.mono ?_
      rintro e w1 ⟨y, rfl, hso, hb1⟩
      obtain ⟨A1, c1, rfl, _⟩ := hso.rd
      have Hso := Lib.hid hso
      have HB1 := Lib.hid hb1
      clear hso hb1 e0
      have HSo1 : Hid (SoC 44 1 W.heap.size k (flat 1 (fun j _ => .slice (C' j) (at0 TT j).length (D' j)) k) u5 (w1.alloc (.cells #[.slice A1 (at0 TT k).length c1] 44))) := (Hkp.out.1.over HB1.out).over ((Below.refl _ _).alloc (Nat.le_refl _) _)
      go_wp2_with (at_builtin; go_loud (refine wpList_app_soT rfl _ _ 86 rfl 44 i0 _ 24 Try.underlying86 hi0 iz0 iz1 iz2 rfl W.heap.size k (flat 1 (fun j _ => .slice (C' j) (at0 TT j).length (D' j)) k) u5 rfl HSo1.out Hkp.out.2.1 ⟨w1.heap.size, 0, none⟩ 1 (.slice A1 (at0 TT k).length c1) rfl (by rw [cell_of_row _ _ _ _ _ _ (heap_last _ _ _ rfl)]; rfl) rfl (by have := HB.out.size; have := HB1.out.size; simp; omega) (by omega) (by decide) ?_))
      intro v' w3 hso3 hb3 hkeep
      have hkn := Lib.hid (Kept.next Hkp.out Hso.out HB1.out ((Below.refl _ _).alloc (Nat.le_refl _) _) hso3 hb3.size (by simpa using hkeep))
      have HB3 : Hid (Below W.heap.size W w3) := (HB.out.trans ((HB1.out.mono HB.out.size).trans ((((Below.refl _ _).alloc (Nat.le_refl _) _).mono (Nat.le_trans HB.out.size HB1.out.size)).trans hb3)))
      clear hso3 hb3 hkeep
      go_wp2_with fail
      go_roundw
      case rel => exact ⟨k + 1, by omega, by go_num, hn70.out, ⟨_, _, hkn.out⟩, HB3.out⟩
      case measure => simp [intOf]; omega
    · obtain rfl : k = TT.length := by omega
      have hltb : decide ((TT.length : Int) < (TT.length : Int)) = false := decide_eq_false (by omega)
      obtain ⟨A5, c5, rfl, hr5⟩ := hkp.rdT Hg.out
      have HR5 := Lib.hid hr5
      clear hkp hr5 hbw
      have reX : ∀ v, ∃ x, ovr X v = ovr W x := fun v => ovr_reB hb v
      replace yW00 := tr_cell reX yW00
      replace yW01 := tr_cell reX yW01
      replace RrowW0 := Lib.hid (tr_row reX RrowW0.out)
      have HUX : Hid (∀ u, Below w.heap.size w (ovr X u)) := fun u => by obtain ⟨x, hx⟩ := reX u; rw [hx]; exact HUW.out x
      clear reX hb
      obtain ⟨u2, hu2⟩ := ovr_self X
      rw [hu2]
      clear hu2
      go_wp2_with fail
      refine (ct.out _ A5 c5 _ _ ((HR5.out.below (ovr_below X u2)).more (ovr_below X u2).size)).mono ?_
      rintro e w1 ⟨rfl, hb1⟩
      obtain ⟨u3, rfl⟩ := ovr_next hb1
      clear hb1
      go_upto_region 11 with (refine wpList_store_fresh rfl 38 _ _ rfl #[I 0, I 0] 38 rfl #[I v.lo, I v.hi] rfl (one2 rfl rfl) rfl (by kernel_rfl) ?_)
      obtain ⟨Y, hY⟩ : ∃ Y, Y = ((ovr X u3).alloc (.cells #[I v.lo, I v.hi] 38)) := ⟨_, rfl⟩
      have reY : ∀ v, ∃ x, ovr Y v = ovr X x := fun v => ovr_re1 hY
      replace yW00 := tr_cell reY yW00
      replace yW01 := tr_cell reY yW01
      replace RrowW0 := Lib.hid (tr_row reY RrowW0.out)
      have rowY0 : Y.heap[(ovr X u3).heap.size]? = some (.cells #[I v.lo, I v.hi] 38 (0, 0)) := by rw [hY]; exact heap_last _ _ _ rfl
      have yY00 := ovr_cell (W := Y) (b := (ovr X u3).heap.size) (o := 0) (v := I v.lo) (by rw [cell_of_row _ _ _ _ _ _ rowY0]; rfl)
      have yY01 := ovr_cell (W := Y) (b := (ovr X u3).heap.size) (o := 1) (v := I v.hi) (by rw [cell_of_row _ _ _ _ _ _ rowY0]; rfl)
      have RrowY0 := Lib.hid (ovr_row rowY0)
      clear rowY0
      have HBY : Hid (∀ u, Below X.heap.size X (ovr Y u)) := fun u => by obtain ⟨x, hx⟩ := reY u; rw [hx]; exact ovr_below _ _
      have HUY : Hid (∀ u, Below w.heap.size w (ovr Y u)) := fun u => by obtain ⟨x, hx⟩ := reY u; rw [hx]; exact HUX.out x
      clear reY
      have HY := Lib.hid hY
      clear hY
      rw [← HY.out]
      obtain ⟨u4, hu4⟩ := ovr_self Y
      rw [hu4]
      clear hu4
      go_wp2_with fail
      refine (cr.out _ (HUY.out _)).mono ?_
      rintro e w1 ⟨rfl, hb1⟩
      obtain ⟨u5, rfl⟩ := ovr_next hb1
      clear hb1
      go_upto_region 12 with (refine wpList_store_fresh rfl 38 _ _ rfl #[I 0, I 0] 38 rfl #[I v.lo, I v.hi] rfl (one2 rfl rfl) rfl (by kernel_rfl) ?_)
      obtain ⟨Z, hZ⟩ : ∃ Z, Z = ((ovr Y u5).alloc (.cells #[I v.lo, I v.hi] 38)) := ⟨_, rfl⟩
      have reZ : ∀ v, ∃ x, ovr Z v = ovr Y x := fun v => ovr_re1 hZ
      replace yW00 := tr_cell reZ yW00
      replace yW01 := tr_cell reZ yW01
      replace RrowW0 := Lib.hid (tr_row reZ RrowW0.out)
      replace yY00 := tr_cell reZ yY00
      replace yY01 := tr_cell reZ yY01
      replace RrowY0 := Lib.hid (tr_row reZ RrowY0.out)
      have rowZ0 : Z.heap[(ovr Y u5).heap.size]? = some (.cells #[I v.lo, I v.hi] 38 (0, 0)) := by rw [hZ]; exact heap_last _ _ _ rfl
      have yZ00 := ovr_cell (W := Z) (b := (ovr Y u5).heap.size) (o := 0) (v := I v.lo) (by rw [cell_of_row _ _ _ _ _ _ rowZ0]; rfl)
      have yZ01 := ovr_cell (W := Z) (b := (ovr Y u5).heap.size) (o := 1) (v := I v.hi) (by rw [cell_of_row _ _ _ _ _ _ rowZ0]; rfl)
      have RrowZ0 := Lib.hid (ovr_row rowZ0)
      clear rowZ0
      have HBZ : Hid (∀ u, Below Y.heap.size Y (ovr Z u)) := fun u => by obtain ⟨x, hx⟩ := reZ u; rw [hx]; exact ovr_below _ _
      have HUZ : Hid (∀ u, Below w.heap.size w (ovr Z u)) := fun u => by obtain ⟨x, hx⟩ := reZ u; rw [hx]; exact HUY.out x
      clear reZ
      have HZ := Lib.hid hZ
      clear hZ
      rw [← HZ.out]
      obtain ⟨u6, hu6⟩ := ovr_self Z
      rw [hu6]
      clear hu6
      go_wp2_with fail
      refine (ck.out _).mono ?_
      rintro e w1 ⟨rfl, hb1⟩
      obtain ⟨u7, rfl⟩ := ovr_next hb1
      clear hb1
      go_wp2_with fail
      go_ret
      exact ⟨rfl, HUZ.out _⟩
end Go.Proofs.Ytmadlmmfbpmebaa
