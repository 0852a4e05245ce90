/- known() of the law: the document's examples hold. -/
import Derived.Test.YteibgenkklpoaaaDn1
import Derived.Test.YteibgenkklpoaaaDe
namespace Go.Proofs.Yteibgenkklpoaaa.Un
open Go.RowKit
def RampV (G : Value) (w : World) : Prop := ∃ b1 b2 b3, G = .agg (grA rmp (some ⟨b1, 0, none⟩) (some ⟨b2, 0, none⟩) (some ⟨b3, 0, none⟩) 2 1 2) ∧ GroIn w w.heap.size rmp (some ⟨b1, 0, none⟩) (some ⟨b2, 0, none⟩) (some ⟨b3, 0, none⟩)
theorem GroIn.more {w : World} {B B' : Nat} {g : Gro} {A Z F : Option Addr} (h : GroIn w B g A Z F) (hb : B ≤ B') : GroIn w B' g A Z F := ⟨h.r.more hb, h.z.more hb, h.f.more hb, h.lr, h.lz, h.lf⟩
theorem RampV.below {G : Value} {w w' : World} (h : RampV G w) (hb : Below w.heap.size w w') : RampV G w' := by
  obtain ⟨b1, b2, b3, e, hg⟩ := h
  exact ⟨b1, b2, b3, e, (hg.below (Nat.le_refl _) hb).more hb.size⟩
def LisV (V : Value) (l : List Rng) (w : World) : Prop := ∃ A c, V = .slice A l.length c ∧ Rd w w.heap.size 2 A l.length (rR l)
theorem LisV.below {V : Value} {l : List Rng} {w w' : World} (h : LisV V l w) (hb : Below w.heap.size w w') : LisV V l w' := by
  obtain ⟨A, c, e, hr⟩ := h
  exact ⟨A, c, e, (hr.below hb).more hb.size⟩
theorem under_one {X w' : World} {o : Obj} (h : Below (X.alloc o).heap.size (X.alloc o) w') : Below X.heap.size X w' := ((Below.refl _ _).alloc (Nat.le_refl _) o).trans (h.mono (by simp))
theorem kn_ramp (w : World) : Calls Try.prog 45 #[] w fun e w' => ∃ G, e = .returned G ∧ RampV G w' ∧ Below w.heap.size w w' := (ramp_any w).mono fun _ _ ⟨b1, b2, b3, he, hg, hb⟩ => ⟨_, he, ⟨b1, b2, b3, rfl, hg⟩, hb⟩
theorem kn_reg (w : World) : Calls Try.prog 12 #[.agg (mdA sil), .agg #[I 10, I 14], .agg #[I 2, I 2]] w fun e w' => e = .returned (.tuple #[.int .u8 28, I 0]) ∧ Below w.heap.size w w' := by
  have := regionsX_any sil ⟨10, 14⟩ ⟨2, 2⟩ w
  rw [ex_reg] at this
  exact this
theorem kn_win (X : World) (k : Nat) (hk : X.heap.size = k) : Calls Try.prog 20 #[.agg (mdA sil), .slice (some ⟨k, 0, none⟩) 2 2, .int .u8 6] (X.alloc (.cells #[I 2, I 2, I 2, I 3] 23)) fun e w' => ∃ V, e = .returned (.tuple #[V, I 0]) ∧ LisV V [⟨7, 10⟩] w' ∧ Below X.heap.size X w' := by
  subst hk
  have hr : (X.alloc (.cells #[I 2, I 2, I 2, I 3] 23)).heap[X.heap.size]? = some (.cells #[I 2, I 2, I 2, I 3] 23 (0, 0)) := heap_last _ _ _ rfl
  refine (window_any sil (some ⟨X.heap.size, 0, none⟩) 2 [⟨2, 2⟩, ⟨2, 3⟩] 6 _ _ (by decide) (Nat.le_refl _) (rd_rowR hr rfl) (by decide)).mono ?_
  rintro e w' ⟨V, l, rfl, hw, ho, hb⟩
  obtain rfl := ex_win hw
  obtain ⟨A, c, rfl, _, hrd⟩ := Rd.of_rc rfl ho
  exact ⟨_, by rw [ex_ck], ⟨A, c, rfl, hrd⟩, under_one hb⟩
theorem kn_why (X : World) (k : Nat) (hk : X.heap.size = k) : Calls Try.prog 23 #[.agg (mdA sil), .slice (some ⟨k, 0, none⟩) 1 1, .int .u8 6, I 11] (X.alloc (.cells #[I 2, I 2] 23)) fun e w' => e = .returned (.tuple #[I 0, I 3, I 0]) ∧ Below X.heap.size X w' := by
  subst hk
  have hr : (X.alloc (.cells #[I 2, I 2] 23)).heap[X.heap.size]? = some (.cells #[I 2, I 2] 23 (0, 0)) := heap_last _ _ _ rfl
  refine (why_any sil (some ⟨X.heap.size, 0, none⟩) 1 [⟨2, 2⟩] 6 11 _ _ (by decide) (Nat.le_refl _) (rd_rowR hr rfl)).mono ?_
  rintro e w' ⟨rfl, hb⟩
  exact ⟨by rw [ex_why], under_one hb⟩
theorem kn_same (a b : Int) (X : World) (k : Nat) (hk : X.heap.size = k) (V : Value) (hV : LisV V [⟨a, b⟩] X) : Calls Try.prog 44 #[V, .slice (some ⟨k, 0, none⟩) 1 1] (X.alloc (.cells #[I a, I b] 23)) fun e w' => e = .returned (.bool true) ∧ Below X.heap.size X w' := by
  subst hk
  have hr : (X.alloc (.cells #[I a, I b] 23)).heap[X.heap.size]? = some (.cells #[I a, I b] 23 (0, 0)) := heap_last _ _ _ rfl
  obtain ⟨A, c, rfl, hx⟩ := hV.below ((Below.refl _ _).alloc (Nat.le_refl _) (.cells #[I a, I b] 23))
  refine (same_any A (some ⟨X.heap.size, 0, none⟩) 1 1 c 1 [⟨a, b⟩] [⟨a, b⟩] _ rfl rfl hx (rd_rowR (xs := [⟨a, b⟩]) hr rfl) (by decide) (by decide)).mono ?_
  rintro e w' ⟨rfl, hb⟩
  exact ⟨by unfold sameL; rw [decide_eq_true rfl], under_one hb⟩
/-- One slice with one set. -/
def PrtV (V : Value) (w : World) : Prop := ∃ b c b', V = .slice (some ⟨b, 0, none⟩) 1 c ∧ 1 ≤ c ∧ w.cell? ⟨b, 0, none⟩ = some (.slice (some ⟨b', 0, none⟩) 1 1) ∧ w.cell? ⟨b', 0, none⟩ = some (.int .u8 12)
theorem PrtV.below {V : Value} {w w' : World} (h : PrtV V w) (hb : Below w.heap.size w w') : PrtV V w' := by
  obtain ⟨b, c, b', e, hc, h1, h2⟩ := h
  exact ⟨b, c, b', e, hc, by rw [ovr_of hb]; exact ovr_cell h1 _, by rw [ovr_of hb]; exact ovr_cell h2 _⟩
theorem kn_print (X : World) (k : Nat) (hk : X.heap.size = k) (G : Value) (hG : RampV G X) : Calls Try.prog 33 #[.agg (mdA sil), G, .slice (some ⟨k, 0, none⟩) 2 2] (X.alloc (.cells #[I 0, I 2] 3)) fun e w' => ∃ V, e = .returned (.tuple #[V, I 0]) ∧ PrtV V w' ∧ Below X.heap.size X w' := by
  subst hk
  have hr : (X.alloc (.cells #[I 0, I 2] 3)).heap[X.heap.size]? = some (.cells #[I 0, I 2] 3 (0, 0)) := heap_last _ _ _ rfl
  obtain ⟨b1, b2, b3, rfl, hg⟩ := hG.below ((Below.refl _ _).alloc (Nat.le_refl _) (.cells #[I 0, I 2] 3))
  refine (print_any sil rmp [0, 2] _ _ _ (some ⟨X.heap.size, 0, none⟩) 2 1 2 2 _ _ (Nat.le_refl _) hg (rd_rowI hr rfl) (by decide)).mono ?_
  rintro e w' ⟨V, bs, n, rfl, h1, _, hs, hb⟩
  obtain rfl : n = 1 := h1 ex_pr
  have hrow := hs.row 0 (by decide)
  have hc2 : w'.cell? ⟨bs 0, 0, none⟩ = some (.int .u8 12) := by
    rw [cell_of_row _ _ _ _ _ _ hrow, slK_at sil rmp _ (by decide), if_pos (by decide)]
    show some (Value.int .u8 (slV sil rmp ⟨0, 2⟩ ⟨2, 2⟩)) = _
    rw [ex_sl]
  obtain ⟨_, ho⟩ := hs.own
  rcases ho with ⟨_, h2⟩ | ⟨b, cap, cur, rfl, _, hh, hc, _, hsz, ht⟩
  · cases h2
  · refine ⟨_, by rw [ex_pr], ⟨b, cap, bs 0, rfl, hc, ?_, hc2⟩, under_one hb⟩
    rw [cell_of_row _ _ _ _ _ _ hh, ← Array.getElem?_toList]
    have h3 : (cur.toList.take (1 * 1))[0]? = some (.slice (some ⟨bs 0, 0, none⟩) 1 1) := by rw [ht]; rfl
    rwa [List.getElem?_take_of_lt (by decide)] at h3
theorem kn_use (X : World) (G : Value) (hG : RampV G X) : Calls Try.prog 36 #[.agg (mdA sil), G, .int .u8 12] X fun e w' => ∃ V, e = .returned (.tuple #[V, I 0]) ∧ LisV V [⟨0, 2⟩] w' ∧ Below X.heap.size X w' := by
  obtain ⟨b1, b2, b3, rfl, hg⟩ := hG
  refine (usable_any sil rmp 12 _ _ _ 2 1 2 _ _ (Nat.le_refl _) hg).mono ?_
  rintro e w' ⟨V, l, rfl, h1, _, ho, hb⟩
  obtain rfl : l = [⟨0, 2⟩] := (h1 ex_usE).trans ex_us
  obtain ⟨A, c, rfl, _, hrd⟩ := Rd.of_rc rfl ho
  exact ⟨_, by rw [ex_usE], ⟨A, c, rfl, hrd⟩, hb⟩
theorem kn_an (X : World) (k : Nat) (hk : X.heap.size = k) : Calls Try.prog 18 #[.slice (some ⟨k, 0, none⟩) 1 1, .agg #[I 100, I 101], .int .u8 31] (X.alloc (.cells (hsA hex) 66)) fun e w' => e = .returned (.tuple #[.agg #[I 70, I 71], .agg #[I 30, I 31], I 0]) ∧ Below X.heap.size X w' := by
  subst hk
  have hr : (X.alloc (.cells (hsA hex) 66)).heap[X.heap.size]? = some (.cells (hsA hex) 66 (0, 0)) := heap_last _ _ _ rfl
  have hx : Rd (X.alloc (.cells (hsA hex) 66)) (X.alloc (.cells (hsA hex) 66)).heap.size 11 (some ⟨X.heap.size, 0, none⟩) [hex].length (rH [hex]) := fun _ => by
    refine ⟨_, 0, rfl, (Array.getElem?_eq_some_iff.1 hr).1, fun q hq j hj => ?_⟩
    obtain rfl : q = 0 := by simp at hq; omega
    rw [cell_of_row _ _ _ _ _ _ hr, show 0 + 0 * 11 + j = j by omega]
    rcases j with _ | _ | _ | _ | _ | _ | _ | _ | _ | _ | _ | j
    all_goals first | rfl | omega
  refine (anneal_any (some ⟨X.heap.size, 0, none⟩) 1 [hex] ⟨100, 101⟩ 31 _ _ (by decide) (Nat.le_refl _) hx (by decide)).mono ?_
  rintro e w' ⟨rfl, hb⟩
  exact ⟨by rw [ex_an], under_one hb⟩
def hxK (k : Nat) : Hst := ⟨40, fun j => if j < k then ⟨5000, 5000⟩ else ⟨0, 0⟩⟩
set_option maxRecDepth 100000 in
set_option maxHeartbeats 4000000 in
theorem known_any (w : World) : Calls Try.prog 16 #[] w fun e w' => e = .returned (.bool true) ∧ Below w.heap.size w w' := by
  obtain ⟨S, hS⟩ : ∃ S : Value, S = .agg (mdA sil) := ⟨_, rfl⟩
  have c0 : Hid (∀ V, Calls Try.prog 43 #[] V fun e w' => e = .returned S ∧ Below V.heap.size V w') := fun V => by rw [hS]; exact silicon_any V
  have c1 : Hid (∀ V, Calls Try.prog 12 #[S, .agg #[I 10, I 14], .agg #[I 2, I 2]] V fun e w' => e = .returned (.tuple #[.int .u8 28, I 0]) ∧ Below V.heap.size V w') := fun V => by rw [hS]; exact kn_reg V
  have c2 : Hid (∀ X k, X.heap.size = k → Calls Try.prog 20 #[S, .slice (some ⟨k, 0, none⟩) 2 2, .int .u8 6] (X.alloc (.cells #[I 2, I 2, I 2, I 3] 23)) fun e w' => ∃ V, e = .returned (.tuple #[V, I 0]) ∧ LisV V [⟨7, 10⟩] w' ∧ Below X.heap.size X w') := fun X k hk => by rw [hS]; exact kn_win X k hk
  have c3 : Hid (∀ X k, X.heap.size = k → Calls Try.prog 23 #[S, .slice (some ⟨k, 0, none⟩) 1 1, .int .u8 6, I 11] (X.alloc (.cells #[I 2, I 2] 23)) fun e w' => e = .returned (.tuple #[I 0, I 3, I 0]) ∧ Below X.heap.size X w') := fun X k hk => by rw [hS]; exact kn_why X k hk
  have c4 := Lib.hid kn_same
  have c5 := Lib.hid kn_ramp
  have c6 : Hid (∀ X k, X.heap.size = k → ∀ G, RampV G X → Calls Try.prog 33 #[S, G, .slice (some ⟨k, 0, none⟩) 2 2] (X.alloc (.cells #[I 0, I 2] 3)) fun e w' => ∃ V, e = .returned (.tuple #[V, I 0]) ∧ PrtV V w' ∧ Below X.heap.size X w') := fun X k hk G hG => by rw [hS]; exact kn_print X k hk G hG
  have c7 : Hid (∀ X G, RampV G X → Calls Try.prog 36 #[S, G, .int .u8 12] X fun e w' => ∃ V, e = .returned (.tuple #[V, I 0]) ∧ LisV V [⟨0, 2⟩] w' ∧ Below X.heap.size X w') := fun X G hG => by rw [hS]; exact kn_use X G hG
  have c8 := Lib.hid kn_an
  clear hS
  go_enter Try.func16, Try.ntmps16
  go_wp2_with fail
  refine (c0.out _).mono ?_
  rintro e w1 ⟨rfl, hb⟩
  have B1 := Lib.hid hb
  clear hb
  go_wp2_with fail
  refine (c1.out _).mono ?_
  rintro e w2 ⟨rfl, hb⟩
  have B2 := Lib.hid (B1.out.trans (hb.mono B1.out.size))
  clear hb
  go_wp2_with fail
  refine (c0.out _).mono ?_
  rintro e w3 ⟨rfl, hb⟩
  have B3 := Lib.hid (B2.out.trans (hb.mono B2.out.size))
  clear hb
  go_wp2_with fail
  refine (c2.out _ _ rfl).mono ?_
  rintro e w4 ⟨V1, rfl, hV1, hb⟩
  have B4 := Lib.hid (B3.out.trans (hb.mono B3.out.size))
  have HV1 := Lib.hid hV1
  clear hb hV1
  go_wp2_with fail
  refine (c0.out _).mono ?_
  rintro e w5 ⟨rfl, hb⟩
  have B5 := Lib.hid (B4.out.trans (hb.mono B4.out.size))
  have HV2 := Lib.hid (HV1.out.below hb)
  clear hb
  go_wp2_with fail
  refine (c3.out _ _ rfl).mono ?_
  rintro e w6 ⟨rfl, hb⟩
  have B6 := Lib.hid (B5.out.trans (hb.mono B5.out.size))
  have HV3 := Lib.hid (HV2.out.below hb)
  clear hb
  go_wp2_with fail
  refine (c4.out 7 10 _ _ rfl V1 HV3.out).mono ?_
  rintro e w7 ⟨rfl, hb⟩
  have B7 := Lib.hid (B6.out.trans (hb.mono B6.out.size))
  clear hb
  go_wp2_with fail
  refine (c0.out _).mono ?_
  rintro e w8 ⟨rfl, hb⟩
  have B8 := Lib.hid (B7.out.trans (hb.mono B7.out.size))
  clear hb
  go_wp2_with fail
  refine (c5.out _).mono ?_
  rintro e w9 ⟨G, rfl, hG, hb⟩
  have B9 := Lib.hid (B8.out.trans (hb.mono B8.out.size))
  have HG := Lib.hid hG
  clear hb hG
  go_wp2_with fail
  refine (c6.out _ _ rfl G HG.out).mono ?_
  rintro e w10 ⟨V2, rfl, hV2, hb⟩
  have B10 := Lib.hid (B9.out.trans (hb.mono B9.out.size))
  have HP := Lib.hid hV2
  clear hb hV2 HG
  go_wp2_with fail
  refine (c0.out _).mono ?_
  rintro e w11 ⟨rfl, hb⟩
  have B11 := Lib.hid (B10.out.trans (hb.mono B10.out.size))
  have HP2 := Lib.hid (HP.out.below hb)
  clear hb
  go_wp2_with fail
  refine (c5.out _).mono ?_
  rintro e w12 ⟨G2, rfl, hG, hb⟩
  have B12 := Lib.hid (B11.out.trans (hb.mono B11.out.size))
  have HP3 := Lib.hid (HP2.out.below hb)
  have HG2 := Lib.hid hG
  clear hb hG
  go_wp2_with fail
  refine (c7.out _ G2 HG2.out).mono ?_
  rintro e w13 ⟨V3, rfl, hV3, hb⟩
  have B13 := Lib.hid (B12.out.trans (hb.mono B12.out.size))
  have HP4 := Lib.hid (HP3.out.below hb)
  have HU1 := Lib.hid hV3
  clear hb hV3 HG2
  go_upto_region 9 with fail
  refine name_w fun V hV => ?_
  obtain ⟨bh, hbh⟩ : ∃ x, x = w13.heap.size := ⟨_, rfl⟩
  have rV : V.heap[bh]? = some (.cells (hsA (hxK 0)) 66 (0, 0)) := by rw [hV, hbh]; exact heap_last _ _ _ rfl
  have bV : Below w13.heap.size w13 V := by rw [hV]; exact (Below.refl _ _).alloc (Nat.le_refl _) _
  have sB : w13.heap.size ≤ bh := by rw [hbh]; exact Nat.le_refl _
  rw [← hbh]
  have RV := Lib.hid rV
  have BV := Lib.hid bV
  have SB := Lib.hid sB
  clear hV hbh rV bV sB
  go_wp2_with fail
  go_loopw [11] (fun i wr => ∃ k : Nat, k ≤ 5 ∧ i = .int .i64 k ∧ wr.heap[bh]? = some (.cells (hsA (hxK k)) 66 (0, 0)) ∧ Below w13.heap.size w13 wr) (fun i _ => 5 - (intOf i).toNat)
  case atStart => exact ⟨0, by omega, rfl, RV.out, BV.out⟩
  case round =>
    obtain ⟨k, hk, rfl, hr, hb⟩ := hrel
    rename World => Y
    have HR := Lib.hid hr
    have HBY := Lib.hid hb
    clear hr hb
    rcases k with _ | _ | _ | _ | _ | _ | k
    · skip
      go_wp2_with (with_reducible show wpList _ _ _ (⟨none, Op.store _ _ _, _, _, _, _⟩ :: _) _ _; refine wpList_store_part rfl 23 _ _ rfl bh 1 2 rfl (hsA (hxK 0)) (hsA (hxK (0 + 1))) #[I 5000, I 5000] 66 HR.out (by decide) (.agg #[I 5000, I 5000]) rfl rfl (one2 rfl rfl) rfl (by kernel_rfl) rfl ?_)
      exact ⟨⟨0 + 1, by decide, rfl, setRow_same HR.out, below_setRow HBY.out SB.out _⟩, by simp [intOf]⟩
    · skip
      go_wp2_with (with_reducible show wpList _ _ _ (⟨none, Op.store _ _ _, _, _, _, _⟩ :: _) _ _; refine wpList_store_part rfl 23 _ _ rfl bh 3 2 rfl (hsA (hxK 1)) (hsA (hxK (1 + 1))) #[I 5000, I 5000] 66 HR.out (by decide) (.agg #[I 5000, I 5000]) rfl rfl (one2 rfl rfl) rfl (by kernel_rfl) rfl ?_)
      exact ⟨⟨1 + 1, by decide, rfl, setRow_same HR.out, below_setRow HBY.out SB.out _⟩, by simp [intOf]⟩
    · skip
      go_wp2_with (with_reducible show wpList _ _ _ (⟨none, Op.store _ _ _, _, _, _, _⟩ :: _) _ _; refine wpList_store_part rfl 23 _ _ rfl bh 5 2 rfl (hsA (hxK 2)) (hsA (hxK (2 + 1))) #[I 5000, I 5000] 66 HR.out (by decide) (.agg #[I 5000, I 5000]) rfl rfl (one2 rfl rfl) rfl (by kernel_rfl) rfl ?_)
      exact ⟨⟨2 + 1, by decide, rfl, setRow_same HR.out, below_setRow HBY.out SB.out _⟩, by simp [intOf]⟩
    · skip
      go_wp2_with (with_reducible show wpList _ _ _ (⟨none, Op.store _ _ _, _, _, _, _⟩ :: _) _ _; refine wpList_store_part rfl 23 _ _ rfl bh 7 2 rfl (hsA (hxK 3)) (hsA (hxK (3 + 1))) #[I 5000, I 5000] 66 HR.out (by decide) (.agg #[I 5000, I 5000]) rfl rfl (one2 rfl rfl) rfl (by kernel_rfl) rfl ?_)
      exact ⟨⟨3 + 1, by decide, rfl, setRow_same HR.out, below_setRow HBY.out SB.out _⟩, by simp [intOf]⟩
    · skip
      go_wp2_with (with_reducible show wpList _ _ _ (⟨none, Op.store _ _ _, _, _, _, _⟩ :: _) _ _; refine wpList_store_part rfl 23 _ _ rfl bh 9 2 rfl (hsA (hxK 4)) (hsA (hxK (4 + 1))) #[I 5000, I 5000] 66 HR.out (by decide) (.agg #[I 5000, I 5000]) rfl rfl (one2 rfl rfl) rfl (by kernel_rfl) rfl ?_)
      exact ⟨⟨4 + 1, by decide, rfl, setRow_same HR.out, below_setRow HBY.out SB.out _⟩, by simp [intOf]⟩
    · have B14 := Lib.hid (B13.out.trans (HBY.out.mono B13.out.size))
      have HP5 := Lib.hid (HP4.out.below HBY.out)
      have HU2 := Lib.hid (HU1.out.below HBY.out)
      have hc : ∀ j, Y.cell? ⟨bh, j, none⟩ = (hsA (hxK 5))[j]? := fun j => cell_of_row _ _ _ _ _ _ HR.out
      have e0 : Y.cell? ⟨bh, 0, none⟩ = some (I 40) := hc 0
      have e1 : Y.cell? ⟨bh, 1, none⟩ = some (I 5000) := hc 1
      have e2 : Y.cell? ⟨bh, 2, none⟩ = some (I 5000) := hc 2
      have e3 : Y.cell? ⟨bh, 3, none⟩ = some (I 5000) := hc 3
      have e4 : Y.cell? ⟨bh, 4, none⟩ = some (I 5000) := hc 4
      have e5 : Y.cell? ⟨bh, 5, none⟩ = some (I 5000) := hc 5
      have e6 : Y.cell? ⟨bh, 6, none⟩ = some (I 5000) := hc 6
      have e7 : Y.cell? ⟨bh, 7, none⟩ = some (I 5000) := hc 7
      have e8 : Y.cell? ⟨bh, 8, none⟩ = some (I 5000) := hc 8
      have e9 : Y.cell? ⟨bh, 9, none⟩ = some (I 5000) := hc 9
      have e10 : Y.cell? ⟨bh, 10, none⟩ = some (I 5000) := hc 10
      clear hc
      go_wp2_with fail
      refine (c8.out Y _ rfl).mono ?_
      rintro e w15 ⟨rfl, hb⟩
      have B15 := Lib.hid (B14.out.trans (hb.mono B14.out.size))
      have HP6 := Lib.hid (HP5.out.below hb)
      have HU3 := Lib.hid (HU2.out.below hb)
      clear hb e0 e1 e2 e3 e4 e5 e6 e7 e8 e9 e10
      go_upto_region 14 with fail
      refine name_w fun Z hZ => ?_
      obtain ⟨bx, hbx⟩ : ∃ x, x = w15.heap.size := ⟨_, rfl⟩
      have z1 : Z.heap[bx]? = some (.cells #[I 70, I 71] 23 (0, 0)) := by rw [hZ, hbx]; exact heap_before (heap_last _ _ _ rfl)
      have z2 : Z.heap[bx + 1]? = some (.cells #[I 30, I 31] 23 (0, 0)) := by rw [hZ, hbx]; exact heap_last _ _ _ (by simp)
      have bZ : Below w15.heap.size w15 Z := by rw [hZ]; exact ((Below.refl _ _).alloc (Nat.le_refl _) _).alloc (by simp) _
      rw [← hbx]
      have y0 := ovr_cell (W := Z) (b := bx) (o := 0) (v := I 70) (by rw [cell_of_row _ _ _ _ _ _ z1]; rfl)
      have y1 := ovr_cell (W := Z) (b := bx) (o := 1) (v := I 71) (by rw [cell_of_row _ _ _ _ _ _ z1]; rfl)
      have y2 := ovr_cell (W := Z) (b := bx + 1) (o := 0) (v := I 30) (by rw [cell_of_row _ _ _ _ _ _ z2]; rfl)
      have y3 := ovr_cell (W := Z) (b := bx + 1) (o := 1) (v := I 31) (by rw [cell_of_row _ _ _ _ _ _ z2]; rfl)
      obtain ⟨b, cc, b', rfl, hc1, p1, p2⟩ := HP6.out.below bZ
      have CS := Lib.hid (c4.out 0 2 Z _ rfl V3 (HU3.out.below bZ))
      have B16 := Lib.hid (B15.out.trans (bZ.mono B15.out.size))
      clear hZ hbx z1 z2 bZ
      go_wp2_with fail
      refine CS.out.mono ?_
      rintro e w16 ⟨rfl, hb⟩
      have B17 := Lib.hid (B16.out.trans (hb.mono B16.out.size))
      obtain ⟨u, rfl⟩ : ∃ u, w16 = ovr Z u := ⟨w16, ovr_of hb⟩
      clear hb p1 p2
      go_wp2_with fail
      go_ret
      exact ⟨rfl, B17.out⟩
    · omega
end Go.Proofs.Yteibgenkklpoaaa.Un
