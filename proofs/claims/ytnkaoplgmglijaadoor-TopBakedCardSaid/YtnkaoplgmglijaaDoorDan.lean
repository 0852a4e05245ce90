/- Contracts of least, most, falls, isStep of package defect: what falls out in a heat treatment. -/
import Derived.Test.YtnkaoplgmglijaaDoorDc
namespace Go.Proofs.YtnkaoplgmglijaaDoor.Un
open Go.RowKit
structure Hst where
 d : Int
 s : Nat → Rng
instance : Inhabited Hst := ⟨⟨0, fun _ => ⟨0, 0⟩⟩⟩
abbrev hsA (h : Hst) : Array Value := #[I h.d, I (h.s 0).lo, I (h.s 0).hi, I (h.s 1).lo, I (h.s 1).hi, I (h.s 2).lo, I (h.s 2).hi, I (h.s 3).lo, I (h.s 3).hi, I (h.s 4).lo, I (h.s 4).hi]
def Hst.c (h : Hst) (j : Nat) : Value := if j = 0 then I h.d else if j % 2 = 1 then I (h.s ((j - 1) / 2)).lo else I (h.s ((j - 1) / 2)).hi
def rH (xs : List Hst) (k j : Nat) : Value := (at0 xs k).c j
theorem rd_hst {w : World} {B n : Nat} {A : Option Addr} {xs : List Hst} {k : Nat} (h : Rd w B 11 A n (rH xs)) (hk : k < n) : ∃ b o, A = some ⟨b, o, none⟩ ∧ b < B ∧ ∀ j, j < 11 → w.cell? ⟨b, o + k * 11 + j, none⟩ = some ((at0 xs k).c j) := by
 obtain ⟨b, o, e, hb, hc⟩ := h (by omega)
 exact ⟨b, o, e, hb, fun j hj => hc k hk j hj⟩
def leP (a : Int) (r : Rng) : Int := (a * r.lo).tdiv 10000
def moP (a : Int) (r : Rng) : Int := (a * r.hi + 9999).tdiv 10000
def stOk (h : Hst) : Bool := decide (0 ≤ h.d) && (decide (h.d ≤ 1000000) && (List.range 5).all fun k => spanB (h.s k) 0 10000)
theorem stOk_iff {h : Hst} : stOk h = true ↔ 0 ≤ h.d ∧ h.d ≤ 1000000 ∧ ∀ k, k < 5 → spanB (h.s k) 0 10000 = true := by
 unfold stOk
 rw [Bool.and_eq_true, Bool.and_eq_true, decide_eq_true_eq, decide_eq_true_eq, List.all_eq_true]
 simp
theorem leP_bd {a : Int} {r : Rng} (ha : 0 ≤ a ∧ a ≤ 1000000) (hr : spanB r 0 10000 = true) : 0 ≤ leP a r ∧ leP a r ≤ a ∧ 0 ≤ a * r.lo ∧ a * r.lo ≤ 1000000 * 10000 := by
 have hr := spanB_iff.1 hr
 have h1 := mul_bd (a := a) (b := r.lo) (A := 1000000) (B := 10000) ha ⟨hr.1, by omega⟩
 have h2 : a * r.lo ≤ a * 10000 := Int.mul_le_mul_of_nonneg_left (by omega) ha.1
 unfold leP
 rw [Int.tdiv_eq_ediv_of_nonneg h1.1]
 exact ⟨Int.ediv_nonneg h1.1 (by omega), by omega, h1.1, h1.2⟩
theorem moP_bd {a : Int} {r : Rng} (ha : 0 ≤ a ∧ a ≤ 1000000) (hr : spanB r 0 10000 = true) : 0 ≤ moP a r ∧ moP a r ≤ a ∧ 0 ≤ a * r.hi ∧ a * r.hi ≤ 1000000 * 10000 := by
 have hr := spanB_iff.1 hr
 have h1 := mul_bd (a := a) (b := r.hi) (A := 1000000) (B := 10000) ha ⟨by omega, hr.2.2⟩
 have h2 : a * r.hi ≤ a * 10000 := Int.mul_le_mul_of_nonneg_left (by omega) ha.1
 unfold moP
 rw [Int.tdiv_eq_ediv_of_nonneg (by omega)]
 exact ⟨Int.ediv_nonneg (by omega) (by omega), by omega, h1.1, h1.2⟩
set_option maxRecDepth 100000 in
set_option maxHeartbeats 1000000 in
theorem least_any (a : Int) (r : Rng) (w : World) (ha : 0 ≤ a ∧ a ≤ 1000000) (hr : spanB r 0 10000 = true) : Calls Tryd.prog 39 #[I a, r.val] w fun e w' => e = .returned (I (leP a r)) ∧ Below w.heap.size w w' := by
 have hb := leP_bd ha hr
 obtain ⟨lo, hi⟩ := r
 have hb : 0 ≤ leP a ⟨lo, hi⟩ ∧ leP a ⟨lo, hi⟩ ≤ a ∧ 0 ≤ a * lo ∧ a * lo ≤ 1000000 * 10000 := hb
 have k1 : IntKind.i64.wrap (a * lo) = a * lo := IntWalk.i64_in _ (by omega)
 have k2 : IntKind.i64.wrap ((a * lo).tdiv 10000) = leP a ⟨lo, hi⟩ := by rw [show (a * lo).tdiv 10000 = leP a ⟨lo, hi⟩ from rfl]; exact IntWalk.i64_in _ (by omega)
 clear hb hr ha
 obtain ⟨W, hW⟩ : ∃ W, W = (w.alloc (.cells #[I lo, I hi] 23)) := ⟨_, rfl⟩
 have rowW0 : W.heap[w.heap.size]? = some (.cells #[I lo, I hi] 23 (0, 0)) := by rw [hW]; exact heap_last _ _ _ rfl
 have yW00 := ovr_cell (W := W) (b := w.heap.size) (o := 0) (v := I lo) (by rw [cell_of_row _ _ _ _ _ _ rowW0]; rfl)
 have yW01 := ovr_cell (W := W) (b := w.heap.size) (o := 1) (v := I hi) (by rw [cell_of_row _ _ _ _ _ _ rowW0]; rfl)
 have RrowW0 := Lib.hid (ovr_row rowW0)
 clear rowW0
 have HUW : Hid (∀ u, Below w.heap.size w (ovr W u)) := U1 hW
 have HW := Lib.hid hW
 clear hW
 go_enter Tryd.func39, Tryd.ntmps39
 go_upto_region 1 with (fail)
 rw [← HW.out]
 obtain ⟨u0, hu0⟩ := ovr_self W
 rw [hu0]
 clear hu0
 go_wp2_with fail
 go_ret
 exact ⟨rfl, HUW.out _⟩
set_option maxRecDepth 100000 in
set_option maxHeartbeats 1000000 in
theorem most_any (a : Int) (r : Rng) (w : World) (ha : 0 ≤ a ∧ a ≤ 1000000) (hr : spanB r 0 10000 = true) : Calls Tryd.prog 37 #[I a, r.val] w fun e w' => e = .returned (I (moP a r)) ∧ Below w.heap.size w w' := by
 have hb := moP_bd ha hr
 obtain ⟨lo, hi⟩ := r
 have hb : 0 ≤ moP a ⟨lo, hi⟩ ∧ moP a ⟨lo, hi⟩ ≤ a ∧ 0 ≤ a * hi ∧ a * hi ≤ 1000000 * 10000 := hb
 have k1 : IntKind.i64.wrap (a * hi) = a * hi := IntWalk.i64_in _ (by omega)
 have k3 : IntKind.i64.wrap (a * hi + 9999) = a * hi + 9999 := IntWalk.i64_in _ (by omega)
 have k2 : IntKind.i64.wrap ((a * hi + 9999).tdiv 10000) = moP a ⟨lo, hi⟩ := by rw [show (a * hi + 9999).tdiv 10000 = moP a ⟨lo, hi⟩ from rfl]; exact IntWalk.i64_in _ (by omega)
 clear hb hr ha
 obtain ⟨W, hW⟩ : ∃ W, W = (w.alloc (.cells #[I lo, I hi] 23)) := ⟨_, rfl⟩
 have rowW0 : W.heap[w.heap.size]? = some (.cells #[I lo, I hi] 23 (0, 0)) := by rw [hW]; exact heap_last _ _ _ rfl
 have yW00 := ovr_cell (W := W) (b := w.heap.size) (o := 0) (v := I lo) (by rw [cell_of_row _ _ _ _ _ _ rowW0]; rfl)
 have yW01 := ovr_cell (W := W) (b := w.heap.size) (o := 1) (v := I hi) (by rw [cell_of_row _ _ _ _ _ _ rowW0]; rfl)
 have RrowW0 := Lib.hid (ovr_row rowW0)
 clear rowW0
 have HUW : Hid (∀ u, Below w.heap.size w (ovr W u)) := U1 hW
 have HW := Lib.hid hW
 clear hW
 go_enter Tryd.func37, Tryd.ntmps37
 go_upto_region 1 with (fail)
 rw [← HW.out]
 obtain ⟨u0, hu0⟩ := ovr_self W
 rw [hu0]
 clear hu0
 go_wp2_with fail
 go_ret
 exact ⟨rfl, HUW.out _⟩
def flK (pf : Int → Rng → Int) (l : List Hst) (ox : Int) (k : Nat) : Nat → Int
 | 0 => 0
 | n + 1 => flK pf l ox k n + (if 0 < ox - flK pf l ox k n - (at0 l n).d then pf (ox - flK pf l ox k n - (at0 l n).d) ((at0 l n).s k) else 0)
theorem flK_bd {pf : Int → Rng → Int} (hpf : ∀ a r, 0 ≤ a ∧ a ≤ 1000000 → spanB r 0 10000 = true → 0 ≤ pf a r ∧ pf a r ≤ a) {l : List Hst} {ox : Int} {k : Nat} (hk : k < 5) (hox : 0 ≤ ox ∧ ox ≤ 1000000) : ∀ n, n ≤ l.length → (∀ i, i < n → stOk (at0 l i) = true) → 0 ≤ flK pf l ox k n ∧ flK pf l ox k n ≤ ox
 | 0, _, _ => ⟨Int.le_refl _, hox.1⟩
 | n + 1, hn, hl => by
   have ih := flK_bd hpf hk hox n (by omega) fun i hi => hl i (by omega)
   have hs := stOk_iff.1 (hl n (by omega))
   unfold flK
   split
   · rename_i h
     have := hpf (ox - flK pf l ox k n - (at0 l n).d) ((at0 l n).s k) ⟨by omega, by omega⟩ (hs.2.2 k hk)
     omega
   · omega
theorem hs_lo (h : Hst) {k : Nat} (hk : k < 5) : (hsA h)[1 + k * 2]? = some (I (h.s k).lo) := by
 match k, hk with
 | 0, _ => rfl
 | 1, _ => rfl
 | 2, _ => rfl
 | 3, _ => rfl
 | 4, _ => rfl
theorem hs_hi (h : Hst) {k : Nat} (hk : k < 5) : (hsA h)[1 + k * 2 + 1]? = some (I (h.s k).hi) := by
 match k, hk with
 | 0, _ => rfl
 | 1, _ => rfl
 | 2, _ => rfl
 | 3, _ => rfl
 | 4, _ => rfl
set_option maxRecDepth 100000 in
set_option maxHeartbeats 2000000 in
theorem lefalls (A : Option Addr) (c : Nat) (l : List Hst) (ox : Int) (k : Nat) (w : World) (B : Nat) (hl : l.length ≤ 1000) (hB : B ≤ w.heap.size) (hx : Rd w B 11 A l.length (rH l)) (hk : k < 5) (hox : 0 ≤ ox ∧ ox ≤ 1000000) (hst : ∀ i, i < l.length → stOk (at0 l i) = true) :
 Calls Tryd.prog 38 #[.func (Fn.func 39) #[] #[], .slice A l.length c, I ox, I k] w fun e w' => e = .returned (I (flK leP l ox k l.length)) ∧ Below w.heap.size w w' := by
 have HX : Hid (∀ V, Below w.heap.size w V → Rd V B 11 A l.length (rH l)) := fun V hV => hx.below (hV.mono hB)
 have HBD : Hid (∀ n, n ≤ l.length → 0 ≤ flK leP l ox k n ∧ flK leP l ox k n ≤ ox) := fun n hn => flK_bd (fun a r h1 h2 => ⟨(leP_bd h1 h2).1, (leP_bd h1 h2).2.1⟩) hk hox n hn fun i hi => hst i (by omega)
 have HST := Lib.hid hst
 have HOX := Lib.hid hox
 have HK := Lib.hid hk
 have HL := Lib.hid hl
 clear hx hB hst hox hk hl
 obtain ⟨u0, hu0⟩ := ovr_self w
 have H0 := Lib.hid hu0
 clear hu0
 go_enter Tryd.func38, Tryd.ntmps38
 go_wp2_with fail
 go_loopw [9, 15] (fun o i wr => ∃ (n : Nat) (u : World), n ≤ l.length ∧ i = .int .i64 n ∧ o = I (flK leP l ox k n) ∧ wr = ovr w u) (fun _ i _ => l.length - (intOf i).toNat)
 case atStart => exact ⟨0, u0, by omega, rfl, rfl, H0.out⟩
 case round =>
  obtain ⟨n, u, hnl, rfl, rfl, rfl⟩ := hrel
  by_cases hlt : n < l.length
  · obtain ⟨b, o, rfl, _, hc⟩ := rd_hst (HX.out _ (ovr_below w u)) hlt
    obtain ⟨h, hh⟩ : ∃ h, h = at0 l n := ⟨_, rfl⟩
    rw [← hh] at hc
    have e0 : (ovr w u).cell? ⟨b, o + n * 11, none⟩ = some (I h.d) := hc 0 (by omega)
    have e1 : (ovr w u).cell? ⟨b, o + n * 11 + 1, none⟩ = some (I (h.s 0).lo) := hc 1 (by omega)
    have e2 : (ovr w u).cell? ⟨b, o + n * 11 + 2, none⟩ = some (I (h.s 0).hi) := hc 2 (by omega)
    have e3 : (ovr w u).cell? ⟨b, o + n * 11 + 3, none⟩ = some (I (h.s 1).lo) := hc 3 (by omega)
    have e4 : (ovr w u).cell? ⟨b, o + n * 11 + 4, none⟩ = some (I (h.s 1).hi) := hc 4 (by omega)
    have e5 : (ovr w u).cell? ⟨b, o + n * 11 + 5, none⟩ = some (I (h.s 2).lo) := hc 5 (by omega)
    have e6 : (ovr w u).cell? ⟨b, o + n * 11 + 6, none⟩ = some (I (h.s 2).hi) := hc 6 (by omega)
    have e7 : (ovr w u).cell? ⟨b, o + n * 11 + 7, none⟩ = some (I (h.s 3).lo) := hc 7 (by omega)
    have e8 : (ovr w u).cell? ⟨b, o + n * 11 + 8, none⟩ = some (I (h.s 3).hi) := hc 8 (by omega)
    have e9 : (ovr w u).cell? ⟨b, o + n * 11 + 9, none⟩ = some (I (h.s 4).lo) := hc 9 (by omega)
    have e10 : (ovr w u).cell? ⟨b, o + n * 11 + 10, none⟩ = some (I (h.s 4).hi) := hc 10 (by omega)
    clear hc
    have HH := Lib.hid hh
    have HLT := Lib.hid hlt
    clear hh
    go_upto_region 5 with fail
    obtain ⟨T, hT⟩ : ∃ T, T = (ovr w u).heap.size := ⟨_, rfl⟩
    rw [← hT]
    refine name_w fun V hV => ?_
    have rV : V.heap[T]? = some (.cells (hsA h) 106 (0, 0)) := by rw [hV]; exact heap_last _ _ _ hT
    have bV : Below w.heap.size w V := by rw [hV]; exact (ovr_below w u).alloc (ovr_below w u).size _
    clear hV hT e0 e1 e2 e3 e4 e5 e6 e7 e8 e9 e10
    have y0 : ∀ u, (ovr V u).cell? ⟨T, 0, none⟩ = some (I h.d) := ovr_cell (by rw [cell_of_row _ _ _ _ _ _ rV]; rfl)
    have y1 : ∀ u, (ovr V u).cell? ⟨T, 1 + k * 2, none⟩ = some (I (h.s k).lo) := ovr_cell (by rw [cell_of_row _ _ _ _ _ _ rV]; exact hs_lo h HK.out)
    have y2 : ∀ u, (ovr V u).cell? ⟨T, 1 + k * 2 + 1, none⟩ = some (I (h.s k).hi) := ovr_cell (by rw [cell_of_row _ _ _ _ _ _ rV]; exact hs_hi h HK.out)
    have BV := Lib.hid bV
    clear rV bV
    have hs := stOk_iff.1 (HST.out n HLT.out)
    rw [← HH.out] at hs
    have hb := HBD.out n (by omega)
    have hb1 := HBD.out (n + 1) HLT.out
    have hfl : flK leP l ox k (n + 1) = flK leP l ox k n + (if 0 < ox - flK leP l ox k n - h.d then leP (ox - flK leP l ox k n - h.d) (h.s k) else 0) := by rw [HH.out]; rfl
    have hox := HOX.out
    obtain ⟨q, hq⟩ : ∃ q, q = flK leP l ox k n := ⟨_, rfl⟩
    obtain ⟨a, ha⟩ : ∃ a, a = ox - q - h.d := ⟨_, rfl⟩
    rw [← hq] at hb hfl ⊢
    rw [← ha] at hfl
    have k1 : IntKind.i64.wrap (ox - q) = ox - q := IntWalk.i64_in _ (by omega)
    have k2 : IntKind.i64.wrap (ox - q - h.d) = a := by rw [ha]; exact IntWalk.i64_in _ (by omega)
    by_cases hpos : 0 < a
    · rw [if_pos hpos] at hfl
      have cp := fun W => least_any a (h.s k) W ⟨by omega, by omega⟩ (hs.2.2 k HK.out)
      have k3 : IntKind.i64.wrap (q + leP a (h.s k)) = flK leP l ox k (n + 1) := by rw [← hfl]; exact IntWalk.i64_in _ (by omega)
      have d1 : decide (0 < a) = true := decide_eq_true hpos
      have CP := Lib.hid cp
      have hln : n < 1000 := by have := HL.out; have := HLT.out; omega
      have hk5 := HK.out
      clear hfl hs hb hb1 hox cp hq ha hpos
      obtain ⟨u1, hu1⟩ := ovr_self V
      rw [hu1]
      clear hu1
      go_wp2_with fail
      refine (CP.out _).mono ?_
      rintro e w1 ⟨rfl, hb1⟩
      obtain ⟨u2, rfl⟩ := ovr_next hb1
      clear hb1
      go_wp2_with fail
      exact ⟨⟨n + 1, _, HLT.out, rfl, rfl, ovr_of (BV.out.trans ((ovr_below V u2).mono BV.out.size))⟩, by have := HLT.out; simp [intOf]; omega⟩
    · rw [if_neg hpos, Int.add_zero] at hfl
      have HFL := Lib.hid hfl
      have d1 : decide (0 < a) = false := decide_eq_false hpos
      have hln : n < 1000 := by have := HL.out; have := HLT.out; omega
      clear hfl hs hb hb1 hox hq ha
      obtain ⟨u1, hu1⟩ := ovr_self V
      rw [hu1]
      clear hu1
      go_wp2_with fail
      exact ⟨⟨n + 1, _, HLT.out, rfl, by rw [HFL.out], ovr_of (BV.out.trans ((ovr_below V u1).mono BV.out.size))⟩, by have := HLT.out; simp [intOf]; omega⟩
  · have hn : n = l.length := by omega
    subst hn
    go_wp2_with fail
    go_ret
    exact ⟨rfl, ovr_below w u⟩
set_option maxRecDepth 100000 in
set_option maxHeartbeats 2000000 in
theorem mofalls (A : Option Addr) (c : Nat) (l : List Hst) (ox : Int) (k : Nat) (w : World) (B : Nat) (hl : l.length ≤ 1000) (hB : B ≤ w.heap.size) (hx : Rd w B 11 A l.length (rH l)) (hk : k < 5) (hox : 0 ≤ ox ∧ ox ≤ 1000000) (hst : ∀ i, i < l.length → stOk (at0 l i) = true) :
 Calls Tryd.prog 38 #[.func (Fn.func 37) #[] #[], .slice A l.length c, I ox, I k] w fun e w' => e = .returned (I (flK moP l ox k l.length)) ∧ Below w.heap.size w w' := by
 have HX : Hid (∀ V, Below w.heap.size w V → Rd V B 11 A l.length (rH l)) := fun V hV => hx.below (hV.mono hB)
 have HBD : Hid (∀ n, n ≤ l.length → 0 ≤ flK moP l ox k n ∧ flK moP l ox k n ≤ ox) := fun n hn => flK_bd (fun a r h1 h2 => ⟨(moP_bd h1 h2).1, (moP_bd h1 h2).2.1⟩) hk hox n hn fun i hi => hst i (by omega)
 have HST := Lib.hid hst
 have HOX := Lib.hid hox
 have HK := Lib.hid hk
 have HL := Lib.hid hl
 clear hx hB hst hox hk hl
 obtain ⟨u0, hu0⟩ := ovr_self w
 have H0 := Lib.hid hu0
 clear hu0
 go_enter Tryd.func38, Tryd.ntmps38
 go_wp2_with fail
 go_loopw [9, 15] (fun o i wr => ∃ (n : Nat) (u : World), n ≤ l.length ∧ i = .int .i64 n ∧ o = I (flK moP l ox k n) ∧ wr = ovr w u) (fun _ i _ => l.length - (intOf i).toNat)
 case atStart => exact ⟨0, u0, by omega, rfl, rfl, H0.out⟩
 case round =>
  obtain ⟨n, u, hnl, rfl, rfl, rfl⟩ := hrel
  by_cases hlt : n < l.length
  · obtain ⟨b, o, rfl, _, hc⟩ := rd_hst (HX.out _ (ovr_below w u)) hlt
    obtain ⟨h, hh⟩ : ∃ h, h = at0 l n := ⟨_, rfl⟩
    rw [← hh] at hc
    have e0 : (ovr w u).cell? ⟨b, o + n * 11, none⟩ = some (I h.d) := hc 0 (by omega)
    have e1 : (ovr w u).cell? ⟨b, o + n * 11 + 1, none⟩ = some (I (h.s 0).lo) := hc 1 (by omega)
    have e2 : (ovr w u).cell? ⟨b, o + n * 11 + 2, none⟩ = some (I (h.s 0).hi) := hc 2 (by omega)
    have e3 : (ovr w u).cell? ⟨b, o + n * 11 + 3, none⟩ = some (I (h.s 1).lo) := hc 3 (by omega)
    have e4 : (ovr w u).cell? ⟨b, o + n * 11 + 4, none⟩ = some (I (h.s 1).hi) := hc 4 (by omega)
    have e5 : (ovr w u).cell? ⟨b, o + n * 11 + 5, none⟩ = some (I (h.s 2).lo) := hc 5 (by omega)
    have e6 : (ovr w u).cell? ⟨b, o + n * 11 + 6, none⟩ = some (I (h.s 2).hi) := hc 6 (by omega)
    have e7 : (ovr w u).cell? ⟨b, o + n * 11 + 7, none⟩ = some (I (h.s 3).lo) := hc 7 (by omega)
    have e8 : (ovr w u).cell? ⟨b, o + n * 11 + 8, none⟩ = some (I (h.s 3).hi) := hc 8 (by omega)
    have e9 : (ovr w u).cell? ⟨b, o + n * 11 + 9, none⟩ = some (I (h.s 4).lo) := hc 9 (by omega)
    have e10 : (ovr w u).cell? ⟨b, o + n * 11 + 10, none⟩ = some (I (h.s 4).hi) := hc 10 (by omega)
    clear hc
    have HH := Lib.hid hh
    have HLT := Lib.hid hlt
    clear hh
    go_upto_region 5 with fail
    obtain ⟨T, hT⟩ : ∃ T, T = (ovr w u).heap.size := ⟨_, rfl⟩
    rw [← hT]
    refine name_w fun V hV => ?_
    have rV : V.heap[T]? = some (.cells (hsA h) 106 (0, 0)) := by rw [hV]; exact heap_last _ _ _ hT
    have bV : Below w.heap.size w V := by rw [hV]; exact (ovr_below w u).alloc (ovr_below w u).size _
    clear hV hT e0 e1 e2 e3 e4 e5 e6 e7 e8 e9 e10
    have y0 : ∀ u, (ovr V u).cell? ⟨T, 0, none⟩ = some (I h.d) := ovr_cell (by rw [cell_of_row _ _ _ _ _ _ rV]; rfl)
    have y1 : ∀ u, (ovr V u).cell? ⟨T, 1 + k * 2, none⟩ = some (I (h.s k).lo) := ovr_cell (by rw [cell_of_row _ _ _ _ _ _ rV]; exact hs_lo h HK.out)
    have y2 : ∀ u, (ovr V u).cell? ⟨T, 1 + k * 2 + 1, none⟩ = some (I (h.s k).hi) := ovr_cell (by rw [cell_of_row _ _ _ _ _ _ rV]; exact hs_hi h HK.out)
    have BV := Lib.hid bV
    clear rV bV
    have hs := stOk_iff.1 (HST.out n HLT.out)
    rw [← HH.out] at hs
    have hb := HBD.out n (by omega)
    have hb1 := HBD.out (n + 1) HLT.out
    have hfl : flK moP l ox k (n + 1) = flK moP l ox k n + (if 0 < ox - flK moP l ox k n - h.d then moP (ox - flK moP l ox k n - h.d) (h.s k) else 0) := by rw [HH.out]; rfl
    have hox := HOX.out
    obtain ⟨q, hq⟩ : ∃ q, q = flK moP l ox k n := ⟨_, rfl⟩
    obtain ⟨a, ha⟩ : ∃ a, a = ox - q - h.d := ⟨_, rfl⟩
    rw [← hq] at hb hfl ⊢
    rw [← ha] at hfl
    have k1 : IntKind.i64.wrap (ox - q) = ox - q := IntWalk.i64_in _ (by omega)
    have k2 : IntKind.i64.wrap (ox - q - h.d) = a := by rw [ha]; exact IntWalk.i64_in _ (by omega)
    by_cases hpos : 0 < a
    · rw [if_pos hpos] at hfl
      have cp := fun W => most_any a (h.s k) W ⟨by omega, by omega⟩ (hs.2.2 k HK.out)
      have k3 : IntKind.i64.wrap (q + moP a (h.s k)) = flK moP l ox k (n + 1) := by rw [← hfl]; exact IntWalk.i64_in _ (by omega)
      have d1 : decide (0 < a) = true := decide_eq_true hpos
      have CP := Lib.hid cp
      have hln : n < 1000 := by have := HL.out; have := HLT.out; omega
      have hk5 := HK.out
      clear hfl hs hb hb1 hox cp hq ha hpos
      obtain ⟨u1, hu1⟩ := ovr_self V
      rw [hu1]
      clear hu1
      go_wp2_with fail
      refine (CP.out _).mono ?_
      rintro e w1 ⟨rfl, hb1⟩
      obtain ⟨u2, rfl⟩ := ovr_next hb1
      clear hb1
      go_wp2_with fail
      exact ⟨⟨n + 1, _, HLT.out, rfl, rfl, ovr_of (BV.out.trans ((ovr_below V u2).mono BV.out.size))⟩, by have := HLT.out; simp [intOf]; omega⟩
    · rw [if_neg hpos, Int.add_zero] at hfl
      have HFL := Lib.hid hfl
      have d1 : decide (0 < a) = false := decide_eq_false hpos
      have hln : n < 1000 := by have := HL.out; have := HLT.out; omega
      clear hfl hs hb hb1 hox hq ha
      obtain ⟨u1, hu1⟩ := ovr_self V
      rw [hu1]
      clear hu1
      go_wp2_with fail
      exact ⟨⟨n + 1, _, HLT.out, rfl, by rw [HFL.out], ovr_of (BV.out.trans ((ovr_below V u1).mono BV.out.size))⟩, by have := HLT.out; simp [intOf]; omega⟩
  · have hn : n = l.length := by omega
    subst hn
    go_wp2_with fail
    go_ret
    exact ⟨rfl, ovr_below w u⟩
def notSp (r : Rng) : Bool := !spanB r 0 10000
set_option maxRecDepth 100000 in
set_option maxHeartbeats 1000000 in
theorem isStep1_any (r : Rng) (w : World) : Calls Tryd.prog 62 #[r.val] w fun e w' => e = .returned (.bool (notSp r)) ∧ Below w.heap.size w w' := by
 have c1 := Lib.hid fun W => isRange_any r 0 10000 W
 have hf : Hid (notSp r = !spanB r 0 10000) := rfl
 obtain ⟨lo, hi⟩ := r
 obtain ⟨W, hW⟩ : ∃ W, W = (w.alloc (.cells #[I lo, I hi] 23)) := ⟨_, rfl⟩
 have rowW0 : W.heap[w.heap.size]? = some (.cells #[I lo, I hi] 23 (0, 0)) := by rw [hW]; exact heap_last _ _ _ rfl
 have yW00 := ovr_cell (W := W) (b := w.heap.size) (o := 0) (v := I lo) (by rw [cell_of_row _ _ _ _ _ _ rowW0]; rfl)
 have yW01 := ovr_cell (W := W) (b := w.heap.size) (o := 1) (v := I hi) (by rw [cell_of_row _ _ _ _ _ _ rowW0]; rfl)
 have RrowW0 := Lib.hid (ovr_row rowW0)
 clear rowW0
 have HUW : Hid (∀ u, Below w.heap.size w (ovr W u)) := U1 hW
 have HW := Lib.hid hW
 clear hW
 rcases hq : spanB ⟨lo, hi⟩ 0 10000 with _ | _ <;> rw [hq] at c1 hf
 all_goals
  go_enter Tryd.func62, Tryd.ntmps62
  go_upto_region 1 with (fail)
  rw [← HW.out]
  obtain ⟨u0, hu0⟩ := ovr_self W
  rw [hu0]
  clear hu0
  go_wp2_with fail
  refine (c1.out _).mono ?_
  rintro e w1 ⟨rfl, hb1⟩
  obtain ⟨u1, rfl⟩ := ovr_next hb1
  clear hb1
  go_wp2_with fail
  go_ret
  exact ⟨by rw [hf.out]; rfl, HUW.out _⟩
set_option maxHeartbeats 1000000 in
theorem st1_ix (A : Option Addr) (c : Nat) (xs : List Rng) (w : World) (B : Nat) (hm : xs.length ≤ maxLen) (hB : B ≤ w.heap.size) (hx : Rd w B 2 A xs.length (rR xs)) :
 Calls Tryd.prog 80 #[.slice A xs.length c, .func (Fn.func 62) #[] #[]] w fun e w' => e = .returned (.int .i64 (ixOf notSp xs)) ∧ Below w.heap.size w w' := by
 unfold maxLen at hm
 have HX : Hid (∀ u, Rd (ovr w u) B 2 A xs.length (rR xs)) := fun u => hx.below ((ovr_below w u).mono hB)
 obtain ⟨u0, hu0⟩ := ovr_self w
 have H0 := Lib.hid hu0
 clear hx hB hu0
 go_enter Tryd.func80, Tryd.ntmps80
 go_wp2
 go_loopw [8] (fun i wr => ∃ k : Nat, k ≤ xs.length ∧ i = .int .i64 k ∧ (∀ j, j < k → notSp (at0 xs j) = false) ∧ ∃ u, wr = ovr w u) (fun i _ => xs.length - (intOf i).toNat)
 case atStart => exact ⟨0, by omega, rfl, fun j hj => absurd hj (by omega), u0, H0.out⟩
 case round =>
  obtain ⟨k, hk, rfl, hb, u, rfl⟩ := hrel
  have Hb := Lib.hid hb
  clear hb
  by_cases hlt : k < xs.length
  · obtain ⟨b, o, rfl, _, e0, e1⟩ := (HX.out u).rng hlt
    have ca := isStep1_any (at0 xs k) (ovr w u)
    rcases hp : notSp (at0 xs k) with _ | _
    · rw [hp] at ca
      have Ca := Lib.hid ca
      clear ca
      go_wp2_with fail
      refine Ca.out.mono ?_
      rintro e w1 ⟨rfl, hb1⟩
      obtain ⟨u1, rfl⟩ := ovr_next hb1
      clear hb1
      go_wp2_with fail
      go_roundw
      case rel => exact ⟨k + 1, by omega, by go_num, succ_case Hb.out hp, u1, rfl⟩
      case measure => simp [intOf]; omega
    · rw [hp] at ca
      have Ca := Lib.hid ca
      have hfin := Lib.hid (ixOf_at hlt hp Hb.out)
      clear ca
      go_wp2_with fail
      refine Ca.out.mono ?_
      rintro e w1 ⟨rfl, hb1⟩
      obtain ⟨u1, rfl⟩ := ovr_next hb1
      clear hb1
      go_wp2_with fail
      go_ret
      exact ⟨ret_int hfin.out.symm, ovr_below _ _⟩
  · have hfin : Hid (ixOf notSp xs = -1) := ixOf_none0 fun j hj => Hb.out j (by omega)
    go_wp2
    go_ret
    exact ⟨ret_int hfin.out.symm, ovr_below _ _⟩
set_option maxHeartbeats 1000000 in
theorem st1_has (A : Option Addr) (c : Nat) (xs : List Rng) (w : World) (B : Nat) (hm : xs.length ≤ maxLen) (hB : B ≤ w.heap.size) (hx : Rd w B 2 A xs.length (rR xs)) :
 Calls Tryd.prog 61 #[.slice A xs.length c, .func (Fn.func 62) #[] #[]] w fun e w' => e = .returned (.bool (xs.any notSp)) ∧ Below w.heap.size w w' := by
 have hfin := ixOf_any (p := notSp) (xs := xs)
 have cx := Lib.hid (st1_ix A c xs w B hm hB hx)
 clear hx hB hm
 go_enter Tryd.func61, Tryd.ntmps61
 go_wp2_with fail
 refine cx.out.mono ?_
 rintro e w' ⟨rfl, hb⟩
 have HB := Lib.hid hb
 clear hb
 go_wp2_with fail
 go_ret
 exact ⟨rfl, HB.out⟩
abbrev spL (h : Hst) : List Rng := [h.s 0, h.s 1, h.s 2, h.s 3, h.s 4]
theorem spL_any (h : Hst) : (spL h).any notSp = !((List.range 5).all fun k => spanB (h.s k) 0 10000) := by
 simp only [spL, List.any_cons, List.any_nil, Bool.or_false, notSp, show List.range 5 = [0, 1, 2, 3, 4] from rfl, List.all_cons, List.all_nil, Bool.and_true, Bool.not_and]
theorem spL_rd {w : World} {b : Nat} {t : TypeId} (h : Hst) (hr : w.heap[b]? = some (.cells (hsA h) t (0, 0))) : Rd w w.heap.size 2 (some ⟨b, 1, none⟩) 5 (rR (spL h)) := fun _ => by
 refine ⟨b, 1, rfl, (Array.getElem?_eq_some_iff.1 hr).1, fun k hk j hj => ?_⟩
 rw [cell_of_row _ _ _ _ _ _ hr]
 match k, hk, j, hj with
 | 0, _, 0, _ => rfl
 | 0, _, 1, _ => rfl
 | 1, _, 0, _ => rfl
 | 1, _, 1, _ => rfl
 | 2, _, 0, _ => rfl
 | 2, _, 1, _ => rfl
 | 3, _, 0, _ => rfl
 | 3, _, 1, _ => rfl
 | 4, _, 0, _ => rfl
 | 4, _, 1, _ => rfl
set_option maxRecDepth 100000 in
set_option maxHeartbeats 1000000 in
theorem isStep_any (h : Hst) (w : World) : Calls Tryd.prog 35 #[.agg (hsA h)] w fun e w' => e = .returned (.bool (stOk h)) ∧ Below w.heap.size w w' := by
 have hf : Hid (stOk h = (decide (0 ≤ h.d) && (decide (h.d ≤ 1000000) && (List.range 5).all fun k => spanB (h.s k) 0 10000))) := rfl
 have hl := spL_any h
 obtain ⟨W, hW⟩ : ∃ W, W = (w.alloc (.cells #[I h.d, I (h.s 0).lo, I (h.s 0).hi, I (h.s 1).lo, I (h.s 1).hi, I (h.s 2).lo, I (h.s 2).hi, I (h.s 3).lo, I (h.s 3).hi, I (h.s 4).lo, I (h.s 4).hi] 106)) := ⟨_, rfl⟩
 have rowW0 : W.heap[w.heap.size]? = some (.cells #[I h.d, I (h.s 0).lo, I (h.s 0).hi, I (h.s 1).lo, I (h.s 1).hi, I (h.s 2).lo, I (h.s 2).hi, I (h.s 3).lo, I (h.s 3).hi, I (h.s 4).lo, I (h.s 4).hi] 106 (0, 0)) := by rw [hW]; exact heap_last _ _ _ rfl
 have yW00 := ovr_cell (W := W) (b := w.heap.size) (o := 0) (v := I h.d) (by rw [cell_of_row _ _ _ _ _ _ rowW0]; rfl)
 have yW01 := ovr_cell (W := W) (b := w.heap.size) (o := 1) (v := I (h.s 0).lo) (by rw [cell_of_row _ _ _ _ _ _ rowW0]; rfl)
 have yW02 := ovr_cell (W := W) (b := w.heap.size) (o := 2) (v := I (h.s 0).hi) (by rw [cell_of_row _ _ _ _ _ _ rowW0]; rfl)
 have yW03 := ovr_cell (W := W) (b := w.heap.size) (o := 3) (v := I (h.s 1).lo) (by rw [cell_of_row _ _ _ _ _ _ rowW0]; rfl)
 have yW04 := ovr_cell (W := W) (b := w.heap.size) (o := 4) (v := I (h.s 1).hi) (by rw [cell_of_row _ _ _ _ _ _ rowW0]; rfl)
 have yW05 := ovr_cell (W := W) (b := w.heap.size) (o := 5) (v := I (h.s 2).lo) (by rw [cell_of_row _ _ _ _ _ _ rowW0]; rfl)
 have yW06 := ovr_cell (W := W) (b := w.heap.size) (o := 6) (v := I (h.s 2).hi) (by rw [cell_of_row _ _ _ _ _ _ rowW0]; rfl)
 have yW07 := ovr_cell (W := W) (b := w.heap.size) (o := 7) (v := I (h.s 3).lo) (by rw [cell_of_row _ _ _ _ _ _ rowW0]; rfl)
 have yW08 := ovr_cell (W := W) (b := w.heap.size) (o := 8) (v := I (h.s 3).hi) (by rw [cell_of_row _ _ _ _ _ _ rowW0]; rfl)
 have yW09 := ovr_cell (W := W) (b := w.heap.size) (o := 9) (v := I (h.s 4).lo) (by rw [cell_of_row _ _ _ _ _ _ rowW0]; rfl)
 have yW010 := ovr_cell (W := W) (b := w.heap.size) (o := 10) (v := I (h.s 4).hi) (by rw [cell_of_row _ _ _ _ _ _ rowW0]; rfl)
 have RrowW0 := Lib.hid (ovr_row rowW0)
 clear rowW0
 have HUW : Hid (∀ u, Below w.heap.size w (ovr W u)) := U1 hW
 have HW := Lib.hid hW
 clear hW
 rcases h1 : decide (0 ≤ h.d) with _ | _ <;> rw [h1] at hf
 · go_enter Tryd.func35, Tryd.ntmps35
   go_upto_region 1 with (fail)
   rw [← HW.out]
   obtain ⟨u0, hu0⟩ := ovr_self W
   rw [hu0]
   clear hu0
   go_wp2_with fail
   go_ret
   exact ⟨by rw [hf.out]; rfl, HUW.out _⟩
 rcases h2 : decide (h.d ≤ 1000000) with _ | _ <;> rw [h2] at hf
 · go_enter Tryd.func35, Tryd.ntmps35
   go_upto_region 1 with (fail)
   rw [← HW.out]
   obtain ⟨u0, hu0⟩ := ovr_self W
   rw [hu0]
   clear hu0
   go_wp2_with fail
   go_ret
   exact ⟨by rw [hf.out]; rfl, HUW.out _⟩
 have CC : Hid (∀ u, Calls Tryd.prog 61 #[.slice (some ⟨w.heap.size, 1, none⟩) 5 5, .func (Fn.func 62) #[] #[]] (ovr W u) fun e w' => e = .returned (.bool ((spL h).any notSp)) ∧ Below (ovr W u).heap.size (ovr W u) w') := fun u => st1_has (some ⟨w.heap.size, 1, none⟩) 5 (spL h) (ovr W u) _ (by unfold maxLen; show 5 ≤ _; omega) (Nat.le_refl _) (spL_rd h (RrowW0.out u))
 rw [hl] at CC
 clear hl
 rcases h3 : ((List.range 5).all fun k => spanB (h.s k) 0 10000) with _ | _ <;> rw [h3] at hf CC
 all_goals
  go_enter Tryd.func35, Tryd.ntmps35
  go_upto_region 1 with (fail)
  rw [← HW.out]
  obtain ⟨u0, hu0⟩ := ovr_self W
  rw [hu0]
  clear hu0
  go_wp2_with fail
  refine (CC.out _).mono ?_
  rintro e w1 ⟨rfl, hb1⟩
  obtain ⟨u1, rfl⟩ := ovr_next hb1
  clear hb1
  go_wp2_with fail
  go_ret
  exact ⟨by rw [hf.out]; rfl, HUW.out _⟩
def notSt (h : Hst) : Bool := !stOk h
set_option maxRecDepth 100000 in
set_option maxHeartbeats 1000000 in
theorem anneal1_any (h : Hst) (w : World) : Calls Tryd.prog 34 #[.agg (hsA h)] w fun e w' => e = .returned (.bool (notSt h)) ∧ Below w.heap.size w w' := by
 have c1 := Lib.hid fun W => isStep_any h W
 have hf : Hid (notSt h = !stOk h) := rfl
 obtain ⟨W, hW⟩ : ∃ W, W = (w.alloc (.cells #[I h.d, I (h.s 0).lo, I (h.s 0).hi, I (h.s 1).lo, I (h.s 1).hi, I (h.s 2).lo, I (h.s 2).hi, I (h.s 3).lo, I (h.s 3).hi, I (h.s 4).lo, I (h.s 4).hi] 106)) := ⟨_, rfl⟩
 have rowW0 : W.heap[w.heap.size]? = some (.cells #[I h.d, I (h.s 0).lo, I (h.s 0).hi, I (h.s 1).lo, I (h.s 1).hi, I (h.s 2).lo, I (h.s 2).hi, I (h.s 3).lo, I (h.s 3).hi, I (h.s 4).lo, I (h.s 4).hi] 106 (0, 0)) := by rw [hW]; exact heap_last _ _ _ rfl
 have yW00 := ovr_cell (W := W) (b := w.heap.size) (o := 0) (v := I h.d) (by rw [cell_of_row _ _ _ _ _ _ rowW0]; rfl)
 have yW01 := ovr_cell (W := W) (b := w.heap.size) (o := 1) (v := I (h.s 0).lo) (by rw [cell_of_row _ _ _ _ _ _ rowW0]; rfl)
 have yW02 := ovr_cell (W := W) (b := w.heap.size) (o := 2) (v := I (h.s 0).hi) (by rw [cell_of_row _ _ _ _ _ _ rowW0]; rfl)
 have yW03 := ovr_cell (W := W) (b := w.heap.size) (o := 3) (v := I (h.s 1).lo) (by rw [cell_of_row _ _ _ _ _ _ rowW0]; rfl)
 have yW04 := ovr_cell (W := W) (b := w.heap.size) (o := 4) (v := I (h.s 1).hi) (by rw [cell_of_row _ _ _ _ _ _ rowW0]; rfl)
 have yW05 := ovr_cell (W := W) (b := w.heap.size) (o := 5) (v := I (h.s 2).lo) (by rw [cell_of_row _ _ _ _ _ _ rowW0]; rfl)
 have yW06 := ovr_cell (W := W) (b := w.heap.size) (o := 6) (v := I (h.s 2).hi) (by rw [cell_of_row _ _ _ _ _ _ rowW0]; rfl)
 have yW07 := ovr_cell (W := W) (b := w.heap.size) (o := 7) (v := I (h.s 3).lo) (by rw [cell_of_row _ _ _ _ _ _ rowW0]; rfl)
 have yW08 := ovr_cell (W := W) (b := w.heap.size) (o := 8) (v := I (h.s 3).hi) (by rw [cell_of_row _ _ _ _ _ _ rowW0]; rfl)
 have yW09 := ovr_cell (W := W) (b := w.heap.size) (o := 9) (v := I (h.s 4).lo) (by rw [cell_of_row _ _ _ _ _ _ rowW0]; rfl)
 have yW010 := ovr_cell (W := W) (b := w.heap.size) (o := 10) (v := I (h.s 4).hi) (by rw [cell_of_row _ _ _ _ _ _ rowW0]; rfl)
 have RrowW0 := Lib.hid (ovr_row rowW0)
 clear rowW0
 have HUW : Hid (∀ u, Below w.heap.size w (ovr W u)) := U1 hW
 have HW := Lib.hid hW
 clear hW
 rcases hq : stOk h with _ | _ <;> rw [hq] at c1 hf
 all_goals
  go_enter Tryd.func34, Tryd.ntmps34
  go_upto_region 1 with (fail)
  rw [← HW.out]
  obtain ⟨u0, hu0⟩ := ovr_self W
  rw [hu0]
  clear hu0
  go_wp2_with fail
  refine (c1.out _).mono ?_
  rintro e w1 ⟨rfl, hb1⟩
  obtain ⟨u1, rfl⟩ := ovr_next hb1
  clear hb1
  go_wp2_with fail
  go_ret
  exact ⟨by rw [hf.out]; rfl, HUW.out _⟩
set_option maxHeartbeats 1000000 in
theorem an1_ix (A : Option Addr) (c : Nat) (xs : List Hst) (w : World) (B : Nat) (hm : xs.length ≤ maxLen) (hB : B ≤ w.heap.size) (hx : Rd w B 11 A xs.length (rH xs)) :
 Calls Tryd.prog 60 #[.slice A xs.length c, .func (Fn.func 34) #[] #[]] w fun e w' => e = .returned (.int .i64 (ixOf notSt xs)) ∧ Below w.heap.size w w' := by
 unfold maxLen at hm
 have HX : Hid (∀ u, Rd (ovr w u) B 11 A xs.length (rH xs)) := fun u => hx.below ((ovr_below w u).mono hB)
 obtain ⟨u0, hu0⟩ := ovr_self w
 have H0 := Lib.hid hu0
 clear hx hB hu0
 go_enter Tryd.func60, Tryd.ntmps60
 go_wp2
 go_loopw [8] (fun i wr => ∃ k : Nat, k ≤ xs.length ∧ i = .int .i64 k ∧ (∀ j, j < k → notSt (at0 xs j) = false) ∧ ∃ u, wr = ovr w u) (fun i _ => xs.length - (intOf i).toNat)
 case atStart => exact ⟨0, by omega, rfl, fun j hj => absurd hj (by omega), u0, H0.out⟩
 case round =>
  obtain ⟨k, hk, rfl, hb, u, rfl⟩ := hrel
  have Hb := Lib.hid hb
  clear hb
  by_cases hlt : k < xs.length
  · obtain ⟨b, o, rfl, _, hc⟩ := rd_hst (HX.out u) hlt
    have e0 : (ovr w u).cell? ⟨b, o + k * 11, none⟩ = some (I (at0 xs k).d) := hc 0 (by omega)
    have e1 : (ovr w u).cell? ⟨b, o + k * 11 + 1, none⟩ = some (I ((at0 xs k).s 0).lo) := hc 1 (by omega)
    have e2 : (ovr w u).cell? ⟨b, o + k * 11 + 2, none⟩ = some (I ((at0 xs k).s 0).hi) := hc 2 (by omega)
    have e3 : (ovr w u).cell? ⟨b, o + k * 11 + 3, none⟩ = some (I ((at0 xs k).s 1).lo) := hc 3 (by omega)
    have e4 : (ovr w u).cell? ⟨b, o + k * 11 + 4, none⟩ = some (I ((at0 xs k).s 1).hi) := hc 4 (by omega)
    have e5 : (ovr w u).cell? ⟨b, o + k * 11 + 5, none⟩ = some (I ((at0 xs k).s 2).lo) := hc 5 (by omega)
    have e6 : (ovr w u).cell? ⟨b, o + k * 11 + 6, none⟩ = some (I ((at0 xs k).s 2).hi) := hc 6 (by omega)
    have e7 : (ovr w u).cell? ⟨b, o + k * 11 + 7, none⟩ = some (I ((at0 xs k).s 3).lo) := hc 7 (by omega)
    have e8 : (ovr w u).cell? ⟨b, o + k * 11 + 8, none⟩ = some (I ((at0 xs k).s 3).hi) := hc 8 (by omega)
    have e9 : (ovr w u).cell? ⟨b, o + k * 11 + 9, none⟩ = some (I ((at0 xs k).s 4).lo) := hc 9 (by omega)
    have e10 : (ovr w u).cell? ⟨b, o + k * 11 + 10, none⟩ = some (I ((at0 xs k).s 4).hi) := hc 10 (by omega)
    clear hc
    have ca := anneal1_any (at0 xs k) (ovr w u)
    rcases hp : notSt (at0 xs k) with _ | _
    · rw [hp] at ca
      have Ca := Lib.hid ca
      clear ca
      go_wp2_with fail
      refine Ca.out.mono ?_
      rintro e w1 ⟨rfl, hb1⟩
      obtain ⟨u1, rfl⟩ := ovr_next hb1
      clear hb1
      go_wp2_with fail
      go_roundw
      case rel => exact ⟨k + 1, by omega, by go_num, succ_case Hb.out hp, u1, rfl⟩
      case measure => simp [intOf]; omega
    · rw [hp] at ca
      have Ca := Lib.hid ca
      have hfin := Lib.hid (ixOf_at hlt hp Hb.out)
      clear ca
      go_wp2_with fail
      refine Ca.out.mono ?_
      rintro e w1 ⟨rfl, hb1⟩
      obtain ⟨u1, rfl⟩ := ovr_next hb1
      clear hb1
      go_wp2_with fail
      go_ret
      exact ⟨ret_int hfin.out.symm, ovr_below _ _⟩
  · have hfin : Hid (ixOf notSt xs = -1) := ixOf_none0 fun j hj => Hb.out j (by omega)
    go_wp2
    go_ret
    exact ⟨ret_int hfin.out.symm, ovr_below _ _⟩
set_option maxHeartbeats 1000000 in
theorem an1_has (A : Option Addr) (c : Nat) (xs : List Hst) (w : World) (B : Nat) (hm : xs.length ≤ maxLen) (hB : B ≤ w.heap.size) (hx : Rd w B 11 A xs.length (rH xs)) :
 Calls Tryd.prog 33 #[.slice A xs.length c, .func (Fn.func 34) #[] #[]] w fun e w' => e = .returned (.bool (xs.any notSt)) ∧ Below w.heap.size w w' := by
 have hfin := ixOf_any (p := notSt) (xs := xs)
 have cx := Lib.hid (an1_ix A c xs w B hm hB hx)
 clear hx hB hm
 go_enter Tryd.func33, Tryd.ntmps33
 go_wp2_with fail
 refine cx.out.mono ?_
 rintro e w' ⟨rfl, hb⟩
 have HB := Lib.hid hb
 clear hb
 go_wp2_with fail
 go_ret
 exact ⟨rfl, HB.out⟩
end Go.Proofs.YtnkaoplgmglijaaDoor.Un
