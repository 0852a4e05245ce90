/- The contract of Usable of package defect. -/
import Derived.Test.YteibgenkklpoaaaDp2
import Derived.Test.YteibgenkklpoaaaDu1
import Derived.Laws.EntriesVeiled
namespace Go.Proofs.Yteibgenkklpoaaa.Un
open Go.RowKit
/-- Whether a set has regions that are not wanted. -/
def badS (v x : Int) : Bool := decide (bits .andNot .u8 x v ≠ 0)
def rU8 (xs : List Int) (k _j : Nat) : Value := .int .u8 (at0 xs k)
theorem rd_u8 {w : World} {B n : Nat} {A : Option Addr} {xs : List Int} {k : Nat} (h : Rd w B 1 A n (rU8 xs)) (hk : k < n) : ∃ b o, A = some ⟨b, o, none⟩ ∧ b < B ∧ w.cell? ⟨b, o + k, none⟩ = some (.int .u8 (at0 xs k)) := by
  obtain ⟨b, o, e, hb, hc⟩ := h (by omega)
  have := hc k hk 0 (by decide)
  rw [Nat.mul_one, Nat.add_zero] at this
  exact ⟨b, o, e, hb, this⟩
set_option maxRecDepth 100000 in
set_option maxHeartbeats 1000000 in
theorem usable1_any (s v : Int) (q : Nat) (w : World) (e1 : w.cell? ⟨q, 0, none⟩ = some (.int .u8 v)) : Calls Try.prog 76 #[.int .u8 s, .pointer (some ⟨q, 0, none⟩)] w fun e w' => e = .returned (.bool (badS v s)) ∧ Below w.heap.size w w' := by
  have hf : Hid (badS v s = !(bits .andNot .u8 s v == 0)) := by
    show _ = _
    unfold badS
    by_cases h : bits .andNot .u8 s v = 0
    · rw [h]; rfl
    · rw [decide_eq_true h]; simp [h]
  obtain ⟨b, hb⟩ : ∃ b, bits .andNot .u8 s v = b := ⟨_, rfl⟩
  rw [hb] at hf
  go_enter Try.func76, Try.ntmps76
  go_wp2_with fail
  go_ret
  exact ⟨by rw [hf.out]; rfl, Below.refl _ _⟩
set_option maxHeartbeats 1000000 in
theorem set_ix (v : Int) (q : Nat) (A : Option Addr) (c : Nat) (xs : List Int) (w : World) (e1 : w.cell? ⟨q, 0, none⟩ = some (.int .u8 v)) (B : Nat) (hm : xs.length ≤ maxLen) (hx : Rd w B 1 A xs.length (rU8 xs)) (hB : B ≤ w.heap.size) :
    Calls Try.prog 100 #[.slice A xs.length c, .func (Fn.func 76) #[] #[.pointer (some ⟨q, 0, none⟩)]] w fun e w' => e = .returned (.int .i64 (ixOf (badS v) xs)) ∧ Below w.heap.size w w' := by
  unfold maxLen at hm
  have HX : Hid (∀ u, Rd (ovr w u) B 1 A xs.length (rU8 xs)) := fun u => hx.below ((ovr_below w u).mono hB)
  have E1 := Lib.hid (ovr_cell e1)
  clear e1
  obtain ⟨u0, hu0⟩ := ovr_self w
  have H0 := Lib.hid hu0
  clear hx hB hu0
  go_enter Try.func100, Try.ntmps100
  go_wp2
  go_loopw [8] (fun i wr => ∃ k : Nat, k ≤ xs.length ∧ i = .int .i64 k ∧ (∀ j, j < k → badS v (at0 xs j) = false) ∧ ∃ u, wr = ovr w u) (fun i _ => xs.length - (intOf i).toNat)
  case atStart => exact ⟨0, by omega, rfl, fun j hj => absurd hj (by omega), u0, H0.out⟩
  case round =>
    obtain ⟨k, hk, rfl, hb, u, rfl⟩ := hrel
    have Hb := Lib.hid hb
    clear hb
    by_cases hlt : k < xs.length
    · obtain ⟨b, o, rfl, _, x0⟩ := rd_u8 (HX.out u) hlt
      have ca := usable1_any (at0 xs k) v q (ovr w u) (E1.out u)
      rcases hp : badS v (at0 xs k) with _ | _
      · rw [hp] at ca
        have Ca := Lib.hid ca
        clear ca
        go_wp2_with fail
        refine Ca.out.mono ?_
        rintro e w1 ⟨rfl, hb1⟩
        obtain ⟨u1, rfl⟩ := ovr_next hb1
        clear hb1
        go_wp2_with fail
        go_roundw
        case rel => exact ⟨k + 1, by omega, by go_num, succ_case Hb.out hp, u1, rfl⟩
        case measure => simp [intOf]; omega
      · rw [hp] at ca
        have Ca := Lib.hid ca
        have hfin := Lib.hid (ixOf_at hlt hp Hb.out)
        clear ca
        go_wp2_with fail
        refine Ca.out.mono ?_
        rintro e w1 ⟨rfl, hb1⟩
        obtain ⟨u1, rfl⟩ := ovr_next hb1
        clear hb1
        go_wp2_with fail
        go_ret
        exact ⟨ret_int hfin.out.symm, ovr_below _ _⟩
    · have hfin : Hid (ixOf (badS v) xs = -1) := ixOf_none0 fun j hj => Hb.out j (by omega)
      go_wp2
      go_ret
      exact ⟨ret_int hfin.out.symm, ovr_below _ _⟩
set_option maxHeartbeats 1000000 in
theorem set_has (v : Int) (q : Nat) (A : Option Addr) (c : Nat) (xs : List Int) (w : World) (e1 : w.cell? ⟨q, 0, none⟩ = some (.int .u8 v)) (B : Nat) (hm : xs.length ≤ maxLen) (hx : Rd w B 1 A xs.length (rU8 xs)) (hB : B ≤ w.heap.size) :
    Calls Try.prog 75 #[.slice A xs.length c, .func (Fn.func 76) #[] #[.pointer (some ⟨q, 0, none⟩)]] w fun e w' => e = .returned (.bool (xs.any (badS v))) ∧ Below w.heap.size w w' := by
  have hfin := ixOf_any (p := badS v) (xs := xs)
  have cx := Lib.hid (set_ix v q A c xs w e1 B hm hx hB)
  clear hx hB hm e1
  go_enter Try.func75, Try.ntmps75
  go_wp2_with fail
  refine cx.out.mono ?_
  rintro e w' ⟨rfl, hb⟩
  have HB := Lib.hid hb
  clear hb
  go_wp2_with fail
  go_ret
  exact ⟨rfl, HB.out⟩
/-- The row of a slice, read. -/
theorem sl_rd {w : World} {b : Nat} {m : Mdl} {g : Gro} {x : Rng} (h : w.heap[b]? = some (.cells (slK m g x g.z.length) 29 (0, 0))) : Rd w w.heap.size 1 (some ⟨b, 0, none⟩) (slL m g x).length (rU8 (slL m g x)) := fun _ => by
  refine ⟨b, 0, rfl, (Array.getElem?_eq_some_iff.1 h).1, fun k hk j hj => ?_⟩
  have hk2 : k < g.z.length := by rw [slL, List.length_map] at hk; exact hk
  obtain rfl : j = 0 := by omega
  rw [show 0 + k * 1 + 0 = k by omega, cell_of_row _ _ _ _ _ _ h, slK_at m g x hk2, if_pos hk2]
  unfold rU8
  rw [at0_get hk, at0_get hk2]
  simp [slL]
def fineG (m : Mdl) (g : Gro) (v k : Int) : Bool := decide (k < lastX g.r) && !((slL m g ⟨k, min (k + 1) (lastX g.r)⟩).any (badS v))
def usN (g : Gro) : Nat := (lastX g.r - (at0 g.r 0).lo).toNat + 1
def usF (m : Mdl) (g : Gro) (v : Int) : List Rng := (usP (fineG m g v) (at0 g.r 0).lo (usN g)).2
def usE (m : Mdl) (g : Gro) (v : Int) : Int := if okMdl m && (okGro g && decide (v ≤ 31)) then 0 else 2
def RetU (m : Mdl) (g : Gro) (v : Int) (w : World) (e : Ending) (w' : World) : Prop :=
  ∃ V l, e = .returned (.tuple #[V, I (usE m g v)]) ∧ (usE m g v = 0 → l = usF m g v) ∧ (¬ usE m g v = 0 → l = []) ∧ w'.ownsRow w.heap.size 23 2 V l.length (rc l) ∧ Below w.heap.size w w'
theorem tab_asc {t : List Rng} (ht : Tab t) : (at0 t 0).lo < lastX t := by
  have := ht.n2
  exact ht.asc 0 (t.length - 1) (by omega) (by omega)
set_option maxRecDepth 100000 in
set_option maxHeartbeats 4000000 in
theorem usable_any (m : Mdl) (g : Gro) (v : Int) (A Z F : Option Addr) (a c d : Nat) (w : World) (B : Nat) (hB : B ≤ w.heap.size) (hg : GroIn w B g A Z F) :
    Calls Try.prog 36 #[.agg (mdA m), .agg (grA g A Z F a c d), .int .u8 v] w (RetU m g v w) := by
  have HG : Hid (∀ V, Below w.heap.size w V → GroIn V B g A Z F ∧ B ≤ V.heap.size) := fun V hV => ⟨hg.below hB hV, Nat.le_trans hB hV.size⟩
  have C1 := Lib.hid fun V => checkModel_any m V
  have C2 : Hid (∀ V, Below w.heap.size w V → Calls Try.prog 31 #[.agg (grA g A Z F a c d)] V fun e w' => e = .returned (I (erA (okGro g))) ∧ Below V.heap.size V w') := fun V hV => checkGrowth_any g A Z F a c d V B (HG.out V hV).2 (HG.out V hV).1
  have C3 : Hid (∀ V, Below w.heap.size w V → 0 < g.r.length → g.r.length ≤ 1000000 → Calls Try.prog 68 #[.slice A g.r.length a] V fun e w' => e = .returned (.tuple #[I (at0 g.r 0).lo, I (lastX g.r)]) ∧ Below V.heap.size V w') := fun V hV h0 hl => ends_any A a g.r V B h0 hl (HG.out V hV).1.r
  have C4 : Hid (∀ V, Below w.heap.size w V → ∀ fr tp, okMdl m = true → okGro g = true → (at0 g.r 0).lo ≤ fr ∧ fr ≤ tp ∧ tp ≤ lastX g.r → Calls Try.prog 69 #[.agg (mdA m), .agg (grA g A Z F a c d), I fr, I tp] V (RetSl m g ⟨fr, tp⟩ V)) := fun V hV fr tp h1 h2 h3 => slice_any m g fr tp A Z F a c d V B (HG.out V hV).2 (HG.out V hV).1 h1 h2 h3
  have hf : Hid (usE m g v = if okMdl m && (okGro g && decide (v ≤ 31)) then 0 else 2) := rfl
  clear hg hB
  obtain ⟨W, hW⟩ : ∃ W, W = (((w.alloc (.cells #[I m.sc, I (m.b 0).lo, I (m.b 0).hi, I (m.b 1).lo, I (m.b 1).hi, I (m.b 2).lo, I (m.b 2).hi, I (m.b 3).lo, I (m.b 3).hi] 26)).alloc (.cells #[.slice A g.r.length a, I g.o, .slice Z g.z.length c, .slice F g.f.length d] 77)).alloc (.cells #[.int .u8 v] 29)) := ⟨_, rfl⟩
  have rowW0 : W.heap[w.heap.size]? = some (.cells #[I m.sc, I (m.b 0).lo, I (m.b 0).hi, I (m.b 1).lo, I (m.b 1).hi, I (m.b 2).lo, I (m.b 2).hi, I (m.b 3).lo, I (m.b 3).hi] 26 (0, 0)) := by rw [hW]; exact heap_before (heap_before (heap_last _ _ _ rfl))
  have yW00 := ovr_cell (W := W) (b := w.heap.size) (o := 0) (v := I m.sc) (by rw [cell_of_row _ _ _ _ _ _ rowW0]; rfl)
  have yW01 := ovr_cell (W := W) (b := w.heap.size) (o := 1) (v := I (m.b 0).lo) (by rw [cell_of_row _ _ _ _ _ _ rowW0]; rfl)
  have yW02 := ovr_cell (W := W) (b := w.heap.size) (o := 2) (v := I (m.b 0).hi) (by rw [cell_of_row _ _ _ _ _ _ rowW0]; rfl)
  have yW03 := ovr_cell (W := W) (b := w.heap.size) (o := 3) (v := I (m.b 1).lo) (by rw [cell_of_row _ _ _ _ _ _ rowW0]; rfl)
  have yW04 := ovr_cell (W := W) (b := w.heap.size) (o := 4) (v := I (m.b 1).hi) (by rw [cell_of_row _ _ _ _ _ _ rowW0]; rfl)
  have yW05 := ovr_cell (W := W) (b := w.heap.size) (o := 5) (v := I (m.b 2).lo) (by rw [cell_of_row _ _ _ _ _ _ rowW0]; rfl)
  have yW06 := ovr_cell (W := W) (b := w.heap.size) (o := 6) (v := I (m.b 2).hi) (by rw [cell_of_row _ _ _ _ _ _ rowW0]; rfl)
  have yW07 := ovr_cell (W := W) (b := w.heap.size) (o := 7) (v := I (m.b 3).lo) (by rw [cell_of_row _ _ _ _ _ _ rowW0]; rfl)
  have yW08 := ovr_cell (W := W) (b := w.heap.size) (o := 8) (v := I (m.b 3).hi) (by rw [cell_of_row _ _ _ _ _ _ rowW0]; rfl)
  have RrowW0 := Lib.hid (ovr_row rowW0)
  clear rowW0
  have rowW1 : W.heap[w.heap.size + 1]? = some (.cells #[.slice A g.r.length a, I g.o, .slice Z g.z.length c, .slice F g.f.length d] 77 (0, 0)) := by rw [hW]; exact heap_before (heap_last _ _ _ (by simp))
  have yW10 := ovr_cell (W := W) (b := w.heap.size + 1) (o := 0) (v := .slice A g.r.length a) (by rw [cell_of_row _ _ _ _ _ _ rowW1]; rfl)
  have yW11 := ovr_cell (W := W) (b := w.heap.size + 1) (o := 1) (v := I g.o) (by rw [cell_of_row _ _ _ _ _ _ rowW1]; rfl)
  have yW12 := ovr_cell (W := W) (b := w.heap.size + 1) (o := 2) (v := .slice Z g.z.length c) (by rw [cell_of_row _ _ _ _ _ _ rowW1]; rfl)
  have yW13 := ovr_cell (W := W) (b := w.heap.size + 1) (o := 3) (v := .slice F g.f.length d) (by rw [cell_of_row _ _ _ _ _ _ rowW1]; rfl)
  have RrowW1 := Lib.hid (ovr_row rowW1)
  clear rowW1
  have rowW2 : W.heap[w.heap.size + 1 + 1]? = some (.cells #[.int .u8 v] 29 (0, 0)) := by rw [hW]; exact heap_last _ _ _ (by simp)
  have yW20 := ovr_cell (W := W) (b := w.heap.size + 1 + 1) (o := 0) (v := .int .u8 v) (by rw [cell_of_row _ _ _ _ _ _ rowW2]; rfl)
  have RrowW2 := Lib.hid (ovr_row rowW2)
  clear rowW2
  have HUW : Hid (∀ u, Below w.heap.size w (ovr W u)) := U3 hW
  have HW := Lib.hid hW
  clear hW
  go_enter Try.func36, Try.ntmps36
  go_upto_region 1 with (fail)
  rw [← HW.out]
  obtain ⟨u0, hu0⟩ := ovr_self W
  rw [hu0]
  clear hu0
  rcases h1 : okMdl m with _ | _ <;> rw [h1] at C1 hf
  · rw [erA_f] at C1
    go_wp2_with fail
    refine (C1.out _).mono ?_
    rintro e w1 ⟨rfl, hb1⟩
    obtain ⟨u1, rfl⟩ := ovr_next hb1
    clear hb1
    go_wp2_with fail
    go_ret2
    exact ⟨.slice none 0 0, [], by rw [hf.out]; rfl, fun h => absurd (hf.out.symm.trans h) (by show ¬ (2 : Int) = 0; decide), fun _ => rfl, ⟨rfl, .inl ⟨rfl, rfl⟩⟩, HUW.out _⟩
  rw [erA_t] at C1
  rcases h2 : okGro g with _ | _ <;> rw [h2] at C2 hf
  · rw [erA_f] at C2
    go_wp2_with fail
    refine (C1.out _).mono ?_
    rintro e w1 ⟨rfl, hb1⟩
    obtain ⟨u1, rfl⟩ := ovr_next hb1
    clear hb1
    go_wp2_with fail
    refine (C2.out _ (HUW.out u1)).mono ?_
    rintro e w1 ⟨rfl, hb1⟩
    obtain ⟨u2, rfl⟩ := ovr_next hb1
    clear hb1
    go_wp2_with fail
    go_ret2
    exact ⟨.slice none 0 0, [], by rw [hf.out]; rfl, fun h => absurd (hf.out.symm.trans h) (by show ¬ (2 : Int) = 0; decide), fun _ => rfl, ⟨rfl, .inl ⟨rfl, rfl⟩⟩, HUW.out _⟩
  rw [erA_t] at C2
  go_wp2_with fail
  refine (C1.out _).mono ?_
  rintro e w1 ⟨rfl, hb1⟩
  obtain ⟨u1, rfl⟩ := ovr_next hb1
  clear hb1
  go_wp2_with fail
  refine (C2.out _ (HUW.out u1)).mono ?_
  rintro e w1 ⟨rfl, hb1⟩
  obtain ⟨u2, rfl⟩ := ovr_next hb1
  clear hb1
  by_cases h3 : v ≤ 31
  case neg =>
    rw [decide_eq_false h3] at hf
    have h4 : 31 < v := by omega
    go_wp2_with fail
    go_ret2
    exact ⟨.slice none 0 0, [], by rw [hf.out]; rfl, fun h => absurd (hf.out.symm.trans h) (by show ¬ (2 : Int) = 0; decide), fun _ => rfl, ⟨rfl, .inl ⟨rfl, rfl⟩⟩, HUW.out _⟩
  rw [decide_eq_true h3] at hf
  have h4 : ¬ 31 < v := by omega
  replace hf : Hid (usE m g v = 0) := hf.out
  have GO := Lib.hid (okGro_ok h2)
  have C3' := Lib.hid (C3.out _ (HUW.out u2) (by have := GO.out.r.n2; omega) (by have := GO.out.r.n60; omega))
  have hft : Hid ((at0 g.r 0).lo < lastX g.r) := tab_asc GO.out.r
  have hfb : Hid (0 ≤ (at0 g.r 0).lo ∧ lastX g.r ≤ 3000) := ⟨GO.out.lo, GO.out.hi⟩
  obtain ⟨fst, hfst⟩ : ∃ x, (at0 g.r 0).lo = x := ⟨_, rfl⟩
  obtain ⟨lst, hlst⟩ : ∃ x, lastX g.r = x := ⟨_, rfl⟩
  have HFI : Hid (∀ k, fineG m g v k = (decide (k < lst) && !((slL m g ⟨k, min (k + 1) lst⟩).any (badS v)))) := fun k => by rw [← hlst]; rfl
  have HUF : Hid (usF m g v = (usP (fineG m g v) fst ((lst - fst).toNat + 1)).2) := by show _ = _; rw [← hlst, ← hfst]; rfl
  rw [hfst, hlst] at C3' hft hfb C4
  clear hfst hlst
  obtain ⟨i0, hi0, iz0, iz1, iz2⟩ := info_parts rng_info
  have HWB : Hid (Below w.heap.size w W) := below_self HUW.out
  go_wp2_with fail
  refine C3'.out.mono ?_
  rintro e w1 ⟨rfl, hb1⟩
  obtain ⟨u3, rfl⟩ := ovr_next hb1
  clear hb1
  go_wp2_with fail
  go_loopw [8, 11, 12] (fun v8 s11 i wr => ∃ n : Nat, n ≤ (lst - fst).toNat + 1 ∧ i = I (fst + n) ∧ s11 = I (usP (fineG m g v) fst n).1 ∧ wr.ownsRow W.heap.size 23 2 v8 (usP (fineG m g v) fst n).2.length (rc (usP (fineG m g v) fst n).2) ∧ Below W.heap.size W wr) (fun _ _ i _ => (lst + 1 - intOf i).toNat)
  case atStart => exact ⟨0, by omega, by simp, rfl, ⟨rfl, .inl ⟨rfl, rfl⟩⟩, ovr_below _ _⟩
  case round =>
    obtain ⟨n, hn, rfl, rfl, hown, hb⟩ := hrel
    rename World => Y
    have HBY := Lib.hid hb
    have hlen := usP_len (fineG m g v) fst n
    have hst : Hid (usP (fineG m g v) fst (n + 1) = if fineG m g v (fst + n) then (if (usP (fineG m g v) fst n).1 < 0 then (fst + n, (usP (fineG m g v) fst n).2) else usP (fineG m g v) fst n) else (if (usP (fineG m g v) fst n).1 < 0 then usP (fineG m g v) fst n else (-1, (usP (fineG m g v) fst n).2 ++ [⟨(usP (fineG m g v) fst n).1, fst + n⟩]))) := rfl
    obtain ⟨⟨s, l⟩, hsl⟩ : ∃ q, usP (fineG m g v) fst n = q := ⟨_, rfl⟩
    obtain ⟨κ, hκ⟩ : ∃ κ, fst + (n : Int) = κ := ⟨_, rfl⟩
    have HSL := Lib.hid hsl
    rw [hsl, hκ] at hst
    rw [hsl] at hown hlen
    simp only at hown hlen hst
    have HOWN := Lib.hid hown
    have HLEN : Hid (l.length ≤ 3001) := by show _ ≤ _; have := hft.out; have := hfb.out; omega
    have HK1 : Hid (fst + ((n + 1 : Nat) : Int) = κ + 1) := by show _ = _; omega
    rw [hsl, hκ]
    clear hsl hown hlen
    have HFK := Lib.hid (HFI.out κ)
    have hκ0 : Hid (fst ≤ κ) := by show _ ≤ _; omega
    by_cases hlt : κ ≤ lst
    · have HLT : Hid (n ≤ (lst - fst).toNat) := by show _ ≤ _; omega
      have kk : IntKind.i64.wrap (κ + 1) = κ + 1 := IntWalk.i64_in _ (by have := hfb.out; have := hκ0.out; omega)
      have MEAS : Hid ((lst + 1 - intOf (I (κ + 1))).toNat < (lst + 1 - intOf (I κ)).toNat) := by show (lst + 1 - (κ + 1)).toNat < (lst + 1 - κ).toNat; omega
      clear hκ
      have reY : ∀ v, ∃ x, ovr Y v = ovr W x := fun v => ovr_reB hb v
      have SW_yW00 := Lib.hid yW00
      replace yW00 := tr_cell reY yW00
      have SW_yW01 := Lib.hid yW01
      replace yW01 := tr_cell reY yW01
      have SW_yW02 := Lib.hid yW02
      replace yW02 := tr_cell reY yW02
      have SW_yW03 := Lib.hid yW03
      replace yW03 := tr_cell reY yW03
      have SW_yW04 := Lib.hid yW04
      replace yW04 := tr_cell reY yW04
      have SW_yW05 := Lib.hid yW05
      replace yW05 := tr_cell reY yW05
      have SW_yW06 := Lib.hid yW06
      replace yW06 := tr_cell reY yW06
      have SW_yW07 := Lib.hid yW07
      replace yW07 := tr_cell reY yW07
      have SW_yW08 := Lib.hid yW08
      replace yW08 := tr_cell reY yW08
      have SW_RrowW0 := Lib.hid RrowW0.out
      replace RrowW0 := Lib.hid (tr_row reY RrowW0.out)
      have SW_yW10 := Lib.hid yW10
      replace yW10 := tr_cell reY yW10
      have SW_yW11 := Lib.hid yW11
      replace yW11 := tr_cell reY yW11
      have SW_yW12 := Lib.hid yW12
      replace yW12 := tr_cell reY yW12
      have SW_yW13 := Lib.hid yW13
      replace yW13 := tr_cell reY yW13
      have SW_RrowW1 := Lib.hid RrowW1.out
      replace RrowW1 := Lib.hid (tr_row reY RrowW1.out)
      have SW_yW20 := Lib.hid yW20
      replace yW20 := tr_cell reY yW20
      have SW_RrowW2 := Lib.hid RrowW2.out
      replace RrowW2 := Lib.hid (tr_row reY RrowW2.out)
      have HUY : Hid (∀ u, Below w.heap.size w (ovr Y u)) := fun u => by obtain ⟨x, hx⟩ := reY u; rw [hx]; exact HUW.out x
      clear reY hb
      obtain ⟨u4, hu4⟩ := ovr_self Y
      rw [hu4]
      clear hu4
      by_cases hl2 : κ < lst
      · have CS := Lib.hid (C4.out (ovr Y u4) (HWB.out.trans ((HBY.out.trans ((ovr_below Y u4).mono HBY.out.size)).mono HWB.out.size)) κ (min (κ + 1) lst) h1 h2 ⟨hκ0.out, by omega, by omega⟩)
        go_wp2_with fail
        refine CS.out.mono ?_
        rintro e w1 ⟨b1, rfl, hb1, hr1, hbel1⟩
        obtain ⟨u5, rfl⟩ := ovr_next hbel1
        have CH := Lib.hid (set_has v (w.heap.size + 1 + 1) (some ⟨b1, 0, none⟩) g.z.length (slL m g ⟨κ, min (κ + 1) lst⟩) (ovr Y u5) (yW20 u5) _ (by rw [slL, List.length_map]; have := GO.out.z2; unfold maxLen; omega) (sl_rd hr1) (Nat.le_refl _))
        rw [show (slL m g ⟨κ, min (κ + 1) lst⟩).length = g.z.length from List.length_map ..] at CH
        clear hb1 hr1 hbel1
        go_wp2_with fail
        refine CH.out.mono ?_
        rintro e w1 ⟨rfl, hb1⟩
        obtain ⟨u6, rfl⟩ := ovr_next hb1
        clear hb1
        rcases hany : (slL m g ⟨κ, min (κ + 1) lst⟩).any (badS v) with _ | _
        · have hfk : Hid (fineG m g v κ = true) := by show _ = _; rw [HFK.out, hany, decide_eq_true hl2]; rfl
          have hst2 : Hid (usP (fineG m g v) fst (n + 1) = if s < 0 then (κ, l) else (s, l)) := by show _ = _; rw [hst.out, hfk.out]; rfl
          by_cases hs : s < 0
          · rw [if_pos hs] at hst2
            go_wp2_with fail
            exact ⟨⟨n + 1, by have := HLT.out; omega, by rw [HK1.out], by rw [hst2.out], by rw [hst2.out]; exact own_below HOWN.out (ovr_below Y u6), HBY.out.trans ((ovr_below Y u6).mono HBY.out.size)⟩, MEAS.out⟩
          · rw [if_neg hs] at hst2
            go_wp2_with fail
            exact ⟨⟨n + 1, by have := HLT.out; omega, by rw [HK1.out], by rw [hst2.out], by rw [hst2.out]; exact own_below HOWN.out (ovr_below Y u6), HBY.out.trans ((ovr_below Y u6).mono HBY.out.size)⟩, MEAS.out⟩
        · have hfk : Hid (fineG m g v κ = false) := by show _ = _; rw [HFK.out, hany]; simp
          have hst2 : Hid (usP (fineG m g v) fst (n + 1) = if s < 0 then (s, l) else (-1, l ++ [⟨s, κ⟩])) := by show _ = _; rw [hst.out, hfk.out]; rfl
          by_cases hs : s < 0
          · rw [if_pos hs] at hst2
            have hs2 : decide (0 ≤ s) = false := decide_eq_false (by omega)
            go_wp2_with fail
            exact ⟨⟨n + 1, by have := HLT.out; omega, by rw [HK1.out], by rw [hst2.out], by rw [hst2.out]; exact own_below HOWN.out (ovr_below Y u6), HBY.out.trans ((ovr_below Y u6).mono HBY.out.size)⟩, MEAS.out⟩
          · rw [if_neg hs] at hst2
            have hs2 : decide (0 ≤ s) = true := decide_eq_true (by omega)
            go_wp2_with (with_reducible show wpList _ _ _ _ _ _; refine wpList_append_own _ rfl _ _ 41 rfl W.heap.size 23 i0 _ 2 16 Try.underlying41 hi0 iz0 iz1 iz2 rfl (by decide) u8 l.length (rc l) rfl ((own_below HOWN.out (ovr_below Y u6)).alloc _) ⟨(ovr Y u6).heap.size, 0, none⟩ 1 1 [I s, I κ] rfl rfl (cells_row (heap_last _ _ _ rfl)) (by simp [Value.oneCell']) (by have := HLEN.out; unfold maxLen; omega) (by have := HLEN.out; omega) (Nat.le_trans HBY.out.size (by have := (ovr_below Y u6).size; simp; omega)) ?_)
            intro v' w2 own3 hg2 _
            have hb2 : Below W.heap.size W w2 := ((HBY.out.trans ((ovr_below Y u6).mono HBY.out.size)).alloc (Nat.le_trans HBY.out.size (ovr_below Y u6).size) _).grown hg2 (Nat.le_trans HBY.out.size (by have := (ovr_below Y u6).size; simp; omega)) (fun b hb => (HOWN.out.lt b hb).1)
            have HO3 := Lib.hid own3
            have HB2 := Lib.hid hb2
            clear own3 hg2 hb2
            go_wp2_with fail
            exact ⟨⟨n + 1, by have := HLT.out; omega, by rw [HK1.out], by rw [hst2.out], by rw [hst2.out, List.length_append, rc_app]; exact HO3.out, HB2.out⟩, MEAS.out⟩
      · have hfk : Hid (fineG m g v κ = false) := by show _ = _; rw [HFK.out, decide_eq_false hl2]; rfl
        have hst2 : Hid (usP (fineG m g v) fst (n + 1) = if s < 0 then (s, l) else (-1, l ++ [⟨s, κ⟩])) := by show _ = _; rw [hst.out, hfk.out]; rfl
        by_cases hs : s < 0
        · rw [if_pos hs] at hst2
          have hs2 : decide (0 ≤ s) = false := decide_eq_false (by omega)
          go_wp2_with fail
          exact ⟨⟨n + 1, by have := HLT.out; omega, by rw [HK1.out], by rw [hst2.out], by rw [hst2.out]; exact own_below HOWN.out (ovr_below Y u4), HBY.out.trans ((ovr_below Y u4).mono HBY.out.size)⟩, MEAS.out⟩
        · rw [if_neg hs] at hst2
          have hs2 : decide (0 ≤ s) = true := decide_eq_true (by omega)
          go_wp2_with (with_reducible show wpList _ _ _ _ _ _; refine wpList_append_own _ rfl _ _ 41 rfl W.heap.size 23 i0 _ 2 16 Try.underlying41 hi0 iz0 iz1 iz2 rfl (by decide) u8 l.length (rc l) rfl ((own_below HOWN.out (ovr_below Y u4)).alloc _) ⟨(ovr Y u4).heap.size, 0, none⟩ 1 1 [I s, I κ] rfl rfl (cells_row (heap_last _ _ _ rfl)) (by simp [Value.oneCell']) (by have := HLEN.out; unfold maxLen; omega) (by have := HLEN.out; omega) (Nat.le_trans HBY.out.size (by have := (ovr_below Y u4).size; simp; omega)) ?_)
          intro v' w2 own3 hg2 _
          have hb2 : Below W.heap.size W w2 := ((HBY.out.trans ((ovr_below Y u4).mono HBY.out.size)).alloc (Nat.le_trans HBY.out.size (ovr_below Y u4).size) _).grown hg2 (Nat.le_trans HBY.out.size (by have := (ovr_below Y u4).size; simp; omega)) (fun b hb => (HOWN.out.lt b hb).1)
          have HO3 := Lib.hid own3
          have HB2 := Lib.hid hb2
          clear own3 hg2 hb2
          go_wp2_with fail
          exact ⟨⟨n + 1, by have := HLT.out; omega, by rw [HK1.out], by rw [hst2.out], by rw [hst2.out, List.length_append, rc_app]; exact HO3.out, HB2.out⟩, MEAS.out⟩
    · have hn1 : n ≤ (lst - fst).toNat + 1 := hn
      have hk1 : fst + (n : Int) = κ := hκ
      have hft1 : fst < lst := hft.out
      have hnn : n = (lst - fst).toNat + 1 := by omega
      have HSL2 : Hid (usF m g v = l) := by show _ = _; rw [HUF.out, ← hnn, HSL.out]
      have hbf := HWB.out.trans (HBY.out.mono HWB.out.size)
      have HBF := Lib.hid hbf
      clear hbf hb hnn hn hκ
      go_wp2_with fail
      go_ret2
      exact ⟨u8, l, by rw [hf.out]; rfl, fun _ => HSL2.out.symm, fun h => absurd hf.out h, own_base HOWN.out HWB.out.size, HBF.out⟩
end Go.Proofs.Yteibgenkklpoaaa.Un
