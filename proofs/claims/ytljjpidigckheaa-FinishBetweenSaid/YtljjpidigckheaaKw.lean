/- Contract of Windows of package finish. -/
import Derived.Test.YtljjpidigckheaaKh
import Derived.Test.YtljjpidigckheaaKfp
namespace Go.Proofs.Ytljjpidigckheaa.Un
open Go.RowKit
def fr0 (l : List Frc) (k : Nat) : Frc := l.getD k ⟨0, 0⟩
def rFr (l : List Frc) (k j : Nat) : Value := if j = 0 then I (fr0 l k).n else I (fr0 l k).d
theorem rFr_snoc (l : List Frc) (q : Frc) : flat 2 (rFr (l ++ [q])) (l.length + 1) = flat 2 (rFr l) l.length ++ [I q.n, I q.d] := by
 rw [flat_succ 2 (by decide)]
 have e : flat 2 (rFr (l ++ [q])) l.length = flat 2 (rFr l) l.length := flat_congr fun k hk j _ => by
  unfold rFr fr0
  rw [List.getD_eq_getElem?_getD, List.getElem?_append_left hk, ← List.getD_eq_getElem?_getD]
 have e2 : fr0 (l ++ [q]) l.length = q := by
  unfold fr0
  rw [List.getD_eq_getElem?_getD, List.getElem?_append_right (Nat.le_refl _)]
  simp
 rw [e]
 congr 1
 show [rFr (l ++ [q]) l.length 0, rFr (l ++ [q]) l.length 1] = _
 unfold rFr
 rw [e2]
 rfl
def Row3 (g : Nat) (t : TypeId) (n : Nat) (gg : Nat → Nat → Value) (V : World) : Prop := ∃ cur, V.heap[g]? = some (.cells cur t (0, 0)) ∧ ∀ k, k < n → ∀ j, j < 3 → cur[k * 3 + j]? = some (gg k j)
theorem Row3.below {g n : Nat} {t : TypeId} {gg : Nat → Nat → Value} {V U : World} (h : Row3 g t n gg V) (hb : Below V.heap.size V U) : Row3 g t n gg U := by
 obtain ⟨cur, h1, h2⟩ := h
 exact ⟨cur, (hb.block _ (lt_of_row h1)).trans h1, h2⟩
theorem Row3.cell {g n : Nat} {t : TypeId} {gg : Nat → Nat → Value} {V : World} (h : Row3 g t n gg V) {k j : Nat} (hk : k < n) (hj : j < 3) : V.cell? ⟨g, k * 3 + j, none⟩ = some (gg k j) := by
 obtain ⟨cur, h1, h2⟩ := h
 rw [cell_of_row _ _ _ _ _ _ h1]
 exact h2 k hk j hj
theorem Row3.frozen {g n : Nat} {t : TypeId} {gg : Nat → Nat → Value} {V : World} (h : Row3 g t n gg V) (o : Nat) : V.frozen? ⟨g, o, none⟩ = false := by
 obtain ⟨cur, h1, _⟩ := h
 exact frozen_of_row _ _ _ _ _ h1
theorem Row3.rd {g n : Nat} {t : TypeId} {gg : Nat → Nat → Value} {V : World} (h : Row3 g t n gg V) : Rd V V.heap.size 3 (some ⟨g, 0, none⟩) n gg := fun _ => by
 refine ⟨g, 0, rfl, ?_, fun k hk j hj => ?_⟩
 · obtain ⟨cur, h1, _⟩ := h
   exact lt_of_row h1
 · rw [Nat.zero_add]
   exact h.cell hk hj
theorem Row3.set {g n i : Nat} {t : TypeId} {gg gg' : Nat → Nat → Value} {V : World} {z : Value} (h : Row3 g t n gg V) (_hi : i < n) (hz : gg' i 0 = z) (h1 : ∀ k, k < n → ∀ j, j < 3 → ¬ (k = i ∧ j = 0) → gg' k j = gg k j) : Row3 g t n gg' (V.setCell ⟨g, i * 3, none⟩ z) := by
 obtain ⟨cur, hr, hc⟩ := h
 refine ⟨_, rs hr (i * 3) z, fun k hk j hj => ?_⟩
 rw [Array.getElem?_setIfInBounds]
 by_cases he : k = i ∧ j = 0
 · obtain ⟨rfl, rfl⟩ := he
   have hs : k * 3 < cur.size := by
    have := hc k hk 0 (by omega)
    exact (Array.getElem?_eq_some_iff.1 this).1
   rw [if_pos (by omega), if_pos hs, hz]
 · rw [if_neg (by omega), h1 k hk j hj he]
   exact hc k hk j hj
theorem Row3.of_own {w : World} {base n : Nat} {e : TypeId} {v : Value} {gg : Nat → Nat → Value} (h : w.ownsRow base e 3 v n (flat 3 gg n)) (hn : 0 < n) : ∃ g c, v = .slice (some ⟨g, 0, none⟩) n c ∧ (n ≤ c ∧ c ≤ maxLen) ∧ base ≤ g ∧ Row3 g e n gg w := by
 rcases h.2 with ⟨_, h0⟩ | ⟨g, cap, cur, rfl, hg, hr, h1, h2, _, ht⟩
 · omega
 · refine ⟨g, cap, rfl, ⟨h1, h2⟩, hg, cur, hr, fun k hk j hj => ?_⟩
   have := flat_get gg hk hj
   rw [← ht, List.getElem?_take, if_pos (idx_lt hk hj)] at this
   simpa using this
def wnF (x : Sht) (w h k : Nat) : Frc := ds9 (fl9 (winL x.w.toNat w h (k % (x.w.toNat - w + 1)) (k / (x.w.toNat - w + 1))) (at0 x.s) true)
def wnL (x : Sht) (w h n : Nat) : List Frc := (List.range n).map (wnF x w h)
theorem wnL_len (x : Sht) (w h n : Nat) : (wnL x w h n).length = n := by simp [wnL]
theorem wnL_snoc (x : Sht) (w h n : Nat) : wnL x w h (n + 1) = wnL x w h n ++ [wnF x w h n] := by
 unfold wnL
 rw [List.range_succ, List.map_append]
 rfl
def wnE (x : Sht) (W H : Int) : Int := if okSh x then (if 2 ≤ W ∧ W ≤ x.w ∧ 2 ≤ H ∧ H ≤ x.h then 0 else 3) else 2
def wnX (x : Sht) (W H : Int) : List Frc := if wnE x W H = 0 then wnL x W.toNat H.toNat ((x.h.toNat - H.toNat + 1) * (x.w.toNat - W.toNat + 1)) else []
def RetWn (w : World) (l : List Frc) (er : Int) (e : Ending) (w' : World) : Prop := ∃ v, e = .returned (.tuple #[v, I er]) ∧ w'.ownsRow w.heap.size 49 2 v l.length (flat 2 (rFr l) l.length) ∧ Below w.heap.size w w'
structure BW (w : World) (x : Sht) (A : Option Addr) (n : Nat) (l : List Frc) (v : Value) (V : World) : Prop where
 own : V.ownsRow w.heap.size 49 2 v l.length (flat 2 (rFr l) l.length)
 ne : ∀ b, v.ownBlock = some b → b ≠ w.heap.size
 r3 : V.heap[w.heap.size]? = some (.cells (shA x A n) 37 (0, 0))
 bw : Below w.heap.size w V
theorem BW.below {w V U : World} {x : Sht} {A : Option Addr} {n : Nat} {l : List Frc} {v : Value} (h : BW w x A n l v V) (hb : Below V.heap.size V U) : BW w x A n l v U :=
 ⟨own_below h.own hb, h.ne, (hb.block _ (lt_of_row h.r3)).trans h.r3, h.bw.trans (hb.mono h.bw.size)⟩
theorem BW.next {w X Y : World} {x : Sht} {A : Option Addr} {n : Nat} {l : List Frc} {v v' : Value} {q : Frc} (h : BW w x A n l v X) (ho : Y.ownsRow w.heap.size 49 2 v' (l.length + 1) (flat 2 (rFr l) l.length ++ [I q.n, I q.d])) (hg : X.grownBy Y v.ownBlock) (hb : v'.ownBlock = v.ownBlock ∨ v'.ownBlock = some X.heap.size) : BW w x A n (l ++ [q]) v' Y := by
 have e : (l ++ [q]).length = l.length + 1 := by simp
 refine ⟨by rw [e, rFr_snoc]; exact ho, fun b hb2 => ?_, row_grown hg h.r3 (fun he => h.ne _ he rfl), h.bw.grown hg h.bw.size (fun k e => (h.own.lt k e).1)⟩
 rcases hb with hb | hb
 · exact h.ne b (hb.symm.trans hb2)
 · rw [hb] at hb2
   injection hb2 with hb2
   have := lt_of_row h.r3
   omega
def gW (W w x y i : Nat) (k j : Nat) : Value := if k < i ∧ j = 0 then I ((wAt W w x y k : Nat) : Int) else gP w k j
theorem frac_info9 : (Try.prog.info? 49).map (fun i => (i.zero, i.size, i.bytes)) = some (some (.agg #[I 0, I 0]), 2, 16) := by kernel_rfl
theorem winL_len (W w h x y : Nat) : (winL W w h x y).length = w * h := by unfold winL; rw [List.length_map, gridL_len]
theorem gW_rP {W w h x y : Nat} : ∀ k, k < w * h → ∀ j, j < 3 → gW W w x y (w * h) k j = rP (winL W w h x y) k j := fun k hk j hj => by
 have e : (winL W w h x y).getD k ⟨0, 0, 0⟩ = rePt (wAt W w x y) 0 0 (gPt w k) := by
  unfold winL
  have e1 := gridL_get (W := w) hk
  unfold pt9 at e1
  rw [List.getD_eq_getElem?_getD] at e1 ⊢
  rw [List.getElem?_map]
  rw [List.getElem?_eq_getElem (by rw [gridL_len]; exact hk)] at e1 ⊢
  simp only [Option.getD_some, Option.map_some] at e1 ⊢
  rw [e1]
 unfold gW rP
 rw [e]
 unfold rePt gPt
 simp only [Int.add_zero]
 by_cases h0 : j = 0
 · rw [if_pos ⟨hk, h0⟩, if_pos h0]
 · rw [if_neg (by omega), if_neg h0]
   unfold gP
   rw [if_neg h0, Int.natCast_emod, Int.natCast_ediv]
theorem win_in {W H w h x y : Nat} (hx : x + w ≤ W) (hy : y + h ≤ H) (hw : 2 ≤ w) (hW : W ≤ 6) (hH : H ≤ 6) : ∀ q ∈ winL W w h x y, InG q := fun q hq => by
 have h3 : W * H ≤ 6 * 6 := Nat.mul_le_mul hW hH
 have ha := win_at hx hy (by omega) q hq
 obtain ⟨r, hr, rfl⟩ := List.mem_map.1 hq
 have := grid_in (W := w) (H := h) ⟨by omega, by omega⟩ (by omega) r hr
 unfold InG rePt at *
 simp only at *
 omega
set_option maxRecDepth 100000 in
set_option maxHeartbeats 8000000 in
theorem windows_any (x : Sht) (WI HI : Int) (A : Option Addr) (n : Nat) (w : World) (B : Nat) (hn : x.s.length ≤ n ∧ n ≤ maxLen) (hB : B ≤ w.heap.size) (hx : Rd w B 2 A x.s.length (rR x.s)) :
 Calls Try.prog 36 #[.agg (shA x A n), I WI, I HI] w (RetWn w (wnX x WI HI) (wnE x WI HI)) := by
 have HRD : Hid (∀ V, Below w.heap.size w V → Rd V B 2 A x.s.length (rR x.s) ∧ B ≤ V.heap.size) := fun V hV => ⟨hx.below (hV.mono hB), Nat.le_trans hB hV.size⟩
 have HN := Lib.hid hn
 have hE : Hid (wnE x WI HI = if okSh x then (if 2 ≤ WI ∧ WI ≤ x.w ∧ 2 ≤ HI ∧ HI ≤ x.h then 0 else 3) else 2) := rfl
 have hX : Hid (∀ er : Int, wnE x WI HI = er → wnX x WI HI = if er = 0 then wnL x WI.toNat HI.toNat ((x.h.toNat - HI.toNat + 1) * (x.w.toNat - WI.toNat + 1)) else []) := fun er h => by unfold wnX; rw [h]
 clear hx hB hn
 obtain ⟨W, hW⟩ : ∃ W, W = (w.alloc (.cells #[I x.w, I x.h, I x.c.lo, I x.c.hi, .slice A x.s.length n] 37)) := ⟨_, rfl⟩
 have rowW0 : W.heap[w.heap.size]? = some (.cells #[I x.w, I x.h, I x.c.lo, I x.c.hi, .slice A x.s.length n] 37 (0, 0)) := by rw [hW]; exact heap_last _ _ _ rfl
 have yW00 := ovr_cell (W := W) (b := w.heap.size) (o := 0) (v := I x.w) (by rw [cell_of_row _ _ _ _ _ _ rowW0]; rfl)
 have yW01 := ovr_cell (W := W) (b := w.heap.size) (o := 1) (v := I x.h) (by rw [cell_of_row _ _ _ _ _ _ rowW0]; rfl)
 have yW02 := ovr_cell (W := W) (b := w.heap.size) (o := 2) (v := I x.c.lo) (by rw [cell_of_row _ _ _ _ _ _ rowW0]; rfl)
 have yW03 := ovr_cell (W := W) (b := w.heap.size) (o := 3) (v := I x.c.hi) (by rw [cell_of_row _ _ _ _ _ _ rowW0]; rfl)
 have yW04 := ovr_cell (W := W) (b := w.heap.size) (o := 4) (v := .slice A x.s.length n) (by rw [cell_of_row _ _ _ _ _ _ rowW0]; rfl)
 have RrowW0 := Lib.hid (ovr_row rowW0)
 clear rowW0
 have HUW : Hid (∀ u, Below w.heap.size w (ovr W u)) := U1 hW
 have HW := Lib.hid hW
 clear hW
 go_enter Try.func36, Try.ntmps36
 go_upto_region 1 with (fail)
 rw [← HW.out]
 obtain ⟨u0, hu0⟩ := ovr_self W
 rw [hu0]
 clear hu0
 have CS : Hid (∀ V, Below w.heap.size w V → Calls Try.prog 21 #[.agg #[I x.w, I x.h, I x.c.lo, I x.c.hi, .slice A x.s.length n]] V fun e w' => e = .returned (I (er9 (okSh x))) ∧ Below V.heap.size V w') := fun V hV => checkSheet_any x A n V B (HRD.out V hV).2 (HRD.out V hV).1
 rcases ho : okSh x with _ | _
 · rw [ho, er9_f] at CS
   go_wp2_with fail
   refine (CS.out _ (HUW.out u0)).mono ?_
   rintro e w1 ⟨rfl, hb1⟩
   obtain ⟨u1, rfl⟩ := ovr_next hb1
   clear hb1
   rw [ho] at hE
   have h2 : wnE x WI HI = 2 := hE.out
   have h3 := hX.out 2 h2
   have H2 := Lib.hid (And.intro h2 h3)
   clear h2 h3 hE hX
   go_wp2_with fail
   go_ret2
   rw [H2.out.1, H2.out.2]
   exact ⟨_, rfl, World.ownsRow_nil _ _ _ _, HUW.out _⟩
 rw [ho, er9_t] at CS
 go_wp2_with fail
 refine (CS.out _ (HUW.out u0)).mono ?_
 rintro e w1 ⟨rfl, hb1⟩
 obtain ⟨u1, rfl⟩ := ovr_next hb1
 clear hb1
 by_cases hc : 2 ≤ WI ∧ WI ≤ x.w ∧ 2 ≤ HI ∧ HI ≤ x.h
 case neg =>
  have h2 : wnE x WI HI = 3 := by rw [hE.out, ho]; simp only [if_true]; rw [if_neg hc]
  have h3 := hX.out 3 h2
  have H2 := Lib.hid (And.intro h2 h3)
  clear h2 h3 hE hX
  by_cases h1 : 2 ≤ WI
  case neg =>
   have d1 : decide (WI < 2) = true := decide_eq_true (by omega)
   clear hc
   go_wp2_with fail
   go_ret2
   rw [H2.out.1, H2.out.2]
   exact ⟨_, rfl, World.ownsRow_nil _ _ _ _, HUW.out _⟩
  have d1 : decide (WI < 2) = false := decide_eq_false (by omega)
  by_cases h2 : WI ≤ x.w
  case neg =>
   have d2 : decide (x.w < WI) = true := decide_eq_true (by omega)
   clear hc
   go_wp2_with fail
   go_ret2
   rw [H2.out.1, H2.out.2]
   exact ⟨_, rfl, World.ownsRow_nil _ _ _ _, HUW.out _⟩
  have d2 : decide (x.w < WI) = false := decide_eq_false (by omega)
  by_cases h3 : 2 ≤ HI
  case neg =>
   have d3 : decide (HI < 2) = true := decide_eq_true (by omega)
   clear hc
   go_wp2_with fail
   go_ret2
   rw [H2.out.1, H2.out.2]
   exact ⟨_, rfl, World.ownsRow_nil _ _ _ _, HUW.out _⟩
  have d3 : decide (HI < 2) = false := decide_eq_false (by omega)
  have d4 : decide (x.h < HI) = true := decide_eq_true (by omega)
  clear hc
  go_wp2_with fail
  go_ret2
  rw [H2.out.1, H2.out.2]
  exact ⟨_, rfl, World.ownsRow_nil _ _ _ _, HUW.out _⟩
 have h2 : wnE x WI HI = 0 := by rw [hE.out, ho]; simp only [if_true]; rw [if_pos hc]
 have h3 := hX.out 0 h2
 have H2 := Lib.hid (And.intro h2 h3)
 clear h2 h3 hE hX
 obtain ⟨c1, c2, c3, c4⟩ := hc
 have d1 : decide (WI < 2) = false := decide_eq_false (by omega)
 have d2 : decide (x.w < WI) = false := decide_eq_false (by omega)
 have d3 : decide (HI < 2) = false := decide_eq_false (by omega)
 have d4 : decide (x.h < HI) = false := decide_eq_false (by omega)
 obtain ⟨WW, HH, eW, eH, bW, bH, eL⟩ := sh_nat ho
 obtain ⟨p, rfl⟩ : ∃ p : Nat, WI = (p : Int) := ⟨WI.toNat, by omega⟩
 obtain ⟨q, rfl⟩ : ∃ p : Nat, HI = (p : Int) := ⟨HI.toNat, by omega⟩
 obtain ⟨nx, hnx⟩ : ∃ k, k = WW - p + 1 := ⟨_, rfl⟩
 obtain ⟨ny, hny⟩ : ∃ k, k = HH - q + 1 := ⟨_, rfl⟩
 have k1 : IntKind.i64.wrap (x.w - (p : Int)) = x.w - (p : Int) := IntWalk.i64_in _ (by omega)
 have k2 : IntKind.i64.wrap (x.w - (p : Int) + 1) = (nx : Int) := (IntWalk.i64_in _ (by omega)).trans (by omega)
 have k3 : IntKind.i64.wrap (x.h - (q : Int)) = x.h - (q : Int) := IntWalk.i64_in _ (by omega)
 have k4 : IntKind.i64.wrap (x.h - (q : Int) + 1) = (ny : Int) := (IntWalk.i64_in _ (by omega)).trans (by omega)
 have HEW := Lib.hid (And.intro eW (And.intro eH eL))
 have HWH := Lib.hid (And.intro bW bH)
 have HPQ : Hid ((2 ≤ p ∧ p ≤ WW) ∧ 2 ≤ q ∧ q ≤ HH) := ⟨⟨by omega, by omega⟩, by omega, by omega⟩
 have HNN := Lib.hid (And.intro hnx hny)
 have HXX := Lib.hid (And.intro (show nx ≤ 5 by omega) (show ny ≤ 5 by omega))
 have HO := Lib.hid ho
 clear eW eH eL bW bH c1 c2 c3 c4 hnx hny ho
 go_wp2_with fail
 have HB0 : Hid (BW w x A n (wnL x p q (0 * nx)) (.slice none 0 0) (ovr W u1)) := by
  rw [Nat.zero_mul]
  exact ⟨World.ownsRow_nil _ _ _ _, fun b h => (by cases h), RrowW0.out u1, HUW.out u1⟩
 clear d1 d2 d3 d4 k3 k4
 go_loopw [43, 8] (fun yv v wr => ∃ y : Nat, y ≤ ny ∧ yv = .int .i64 y ∧ BW w x A n (wnL x p q (y * nx)) v wr) (fun yv _ _ => ny - (intOf yv).toNat)
 case atStart => exact ⟨0, Nat.zero_le _, rfl, HB0.out⟩
 case round =>
  obtain ⟨y, hy, rfl, hbw⟩ := hrel
  rename World => V
  have HB := Lib.hid hbw
  clear hbw HB0
  by_cases hlt : y < ny
  case neg =>
   obtain rfl : y = ny := by omega
   have ki : decide ((y : Int) < (y : Int)) = false := decide_eq_false (by omega)
   clear hy hlt
   go_wp2_with fail
   go_ret2
   rw [H2.out.1, H2.out.2]
   obtain ⟨eW, eH, eL⟩ := HEW.out
   rw [if_pos (by trivial), eW, eH]
   have e : (Int.toNat (HH : Int) - Int.toNat (q : Int) + 1) * (Int.toNat (WW : Int) - Int.toNat (p : Int) + 1) = y * nx := by
        rw [HNN.out.1, HNN.out.2]
        rfl
   rw [e]
   exact ⟨_, rfl, HB.out.own, HB.out.bw⟩
  have HLT := Lib.hid hlt
  have hy5 : y ≤ 5 := by have := HXX.out; omega
  have ki : decide ((y : Int) < (ny : Int)) = true := decide_eq_true (by omega)
  have kin : decide (y < ny) = true := decide_eq_true hlt
  have r3 := HB.out.r3
  have y0 := cell_of_row _ _ 0 _ _ _ r3
  change _ = some (I x.w) at y0
  clear hy hlt r3
  go_wp2_with fail
  clear y0 k1 k2
  go_loopw [51, 8] (fun xv v wr => ∃ X : Nat, X ≤ nx ∧ xv = .int .i64 X ∧ BW w x A n (wnL x p q (y * nx + X)) v wr) (fun xv _ _ => nx - (intOf xv).toNat)
  case atStart => exact ⟨0, Nat.zero_le _, rfl, HB.out⟩
  case round =>
   obtain ⟨X, hX, rfl, hbw⟩ := hrel
   rename World => V
   have HC := Lib.hid hbw
   clear hbw HB
   by_cases hlt : X < nx
   case neg =>
        obtain rfl : X = nx := by omega
        have ki2 : decide ((X : Int) < (X : Int)) = false := decide_eq_false (by omega)
        clear hX hlt
        go_wp2_with fail
        go_roundw
        case rel => exact ⟨y + 1, HLT.out, by go_num, by rw [Nat.succ_mul]; exact HC.out⟩
        case measure => have := HLT.out; simp [intOf]; omega
   have HLX := Lib.hid hlt
   have hX5 : X ≤ 5 := by have := HXX.out; omega
   have ki2 : decide ((X : Int) < (nx : Int)) = true := decide_eq_true (by omega)
   have kin2 : decide (X < nx) = true := decide_eq_true hlt
   clear hX hlt
   go_wp2_with fail
   refine (grid_any p q V (by have := HPQ.out; have := HWH.out; omega) (by have := HPQ.out; have := HWH.out; omega)).mono ?_
   rintro e V1 ⟨vg, rfl, hown, hb1⟩
   have hpq4 : 4 ≤ p * q := by have := HPQ.out; exact Nat.mul_le_mul (show 2 ≤ p by omega) (show 2 ≤ q by omega)
   obtain ⟨g, gc, rfl, hgc, hge, hrow⟩ := Row3.of_own hown (by omega)
   have HR0 : Hid (Row3 g 131 (p * q) (gW x.w.toNat p X y 0) V1) := by
        obtain ⟨cur, h1, h2⟩ := hrow
        refine ⟨cur, h1, fun k hk j hj => ?_⟩
        rw [h2 k hk j hj]
        unfold gW
        rw [if_neg (by omega)]
   have HG := Lib.hid (And.intro hgc (And.intro hge hb1))
   have H4 := Lib.hid hpq4
   obtain ⟨N, hN⟩ : ∃ N, N = p * q := ⟨_, rfl⟩
   have hN36 : N ≤ 36 := by rw [hN]; have := HPQ.out; have := HWH.out; exact Nat.mul_le_mul (show p ≤ 6 by omega) (show q ≤ 6 by omega)
   have HN36 := Lib.hid hN36
   rw [← hN] at HR0 HG H4
   rw [← hN]
   have HNE := Lib.hid hN
   clear hown hb1 hpq4 hgc hge hrow hN
   go_wp2_with fail
   go_loopw [59] (fun iv wr => ∃ i : Nat, i ≤ N ∧ iv = .int .i64 i ∧ Below V.heap.size V wr ∧ Row3 g 131 N (gW x.w.toNat p X y i) wr) (fun iv _ => N - (intOf iv).toNat)
   case atStart => exact ⟨0, Nat.zero_le _, rfl, HG.out.2.2, HR0.out⟩
   case round =>
        obtain ⟨i, hi, rfl, hbU, hrow⟩ := hrel
        rename World => U
        have HU := Lib.hid (And.intro hbU hrow)
        clear hbU hrow HR0
        by_cases hlt : i < N
        case neg =>
         obtain rfl : i = N := by omega
         have ki3 : decide ((i : Int) < (i : Int)) = false := decide_eq_false (by omega)
         clear hi hlt
         have HWL : Hid ((winL x.w.toNat p q X y).length = i ∧ (∀ r ∈ winL x.w.toNat p q X y, InG r) ∧ ∀ r ∈ winL x.w.toNat p q X y, r.at_ < x.s.length) := by
          obtain ⟨eW, eH, eL⟩ := HEW.out
          have a1 : X + p ≤ WW := by have := HNN.out; have := HLX.out; have := HPQ.out; omega
          have a2 : y + q ≤ HH := by have := HNN.out; have := HLT.out; have := HPQ.out; omega
          have e : x.w.toNat = WW := by omega
          refine ⟨by rw [winL_len]; exact HNE.out.symm, ?_, ?_⟩
          · rw [e]
            exact win_in a1 a2 HPQ.out.1.1 HWH.out.1.2 HWH.out.2.2
          · rw [e, eL]
            exact win_at a1 a2 (by have := HPQ.out; omega)
         obtain ⟨L, hL⟩ : ∃ L, winL x.w.toNat p q X y = L := ⟨_, rfl⟩
         have hrd : Rd U U.heap.size 3 (some ⟨g, 0, none⟩) i (rP L) := by
          rw [← hL]
          refine Rd.cong9 HU.out.2.rd fun k hk j hj => ?_
          have hk' : k < p * q := by rw [← HNE.out]; exact hk
          have := gW_rP (W := x.w.toNat) (x := X) (y := y) k hk' j hj
          rw [← HNE.out] at this
          exact this
         rw [hL] at HWL
         have HSU := Lib.hid (HC.out.below HU.out.1)
         obtain ⟨pl, hpl⟩ : ∃ p, fl9 L (at0 x.s) false = p := ⟨_, rfl⟩
         obtain ⟨pg, hpg⟩ : ∃ p, fl9 L (at0 x.s) true = p := ⟨_, rfl⟩
         have hz := sh_z HO.out
         have CF : Hid (Calls Try.prog 64 #[.slice (some ⟨g, 0, none⟩) i gc, .slice A x.s.length n] U fun e w' => e = .returned (.tuple #[.agg (pfA pl), .agg (pfA pg)]) ∧ Below U.heap.size U w') := by
          have := flatness_any L (some ⟨g, 0, none⟩) gc A n x.s U.heap.size U HWL.out.2.1 (by rw [HWL.out.1]; exact HN36.out) (by rw [HWL.out.1]; exact HG.out.1) HWL.out.2.2 hz (Nat.le_refl _) (by rw [HWL.out.1]; exact hrd) ((HRD.out U HSU.out.bw).1.more (HRD.out U HSU.out.bw).2)
          rw [HWL.out.1, hpl, hpg] at this
          exact this
         have HPG : Hid ((pg.s = true → 0 < pg.b.sz ∧ fok ⟨pg.v, pg.b.sz⟩ = true) ∧ ds9 pg = wnF x p q (y * nx + X)) := by
          have h2 := fl9_fok (g := true) HWL.out.2.1 HWL.out.2.2 hz
          rw [hpg] at h2
          refine ⟨h2, ?_⟩
          have en : x.w.toNat - p + 1 = nx := by have := HEW.out.1; have := HNN.out.1; omega
          have hx := HLX.out
          unfold wnF
          rw [en, Nat.mul_comm y nx, Nat.mul_add_mod, Nat.mod_eq_of_lt hx, Nat.mul_add_div (by omega), Nat.div_eq_of_lt hx, Nat.add_zero, hL, hpg]
         have r3 := HSU.out.r3
         have y4 := cell_of_row _ _ 4 _ _ _ r3
         change _ = some (Value.slice A x.s.length n) at y4
         clear hL hrd hpl hpg hz r3
         go_wp2_with fail
         refine CF.out.mono ?_
         rintro e V1 ⟨rfl, hb1⟩
         have HS1 := Lib.hid (HSU.out.below hb1)
         clear hb1 CF y4 HSU
         obtain ⟨qg, hqg⟩ : ∃ q, q = V1.heap.size + 1 := ⟨_, rfl⟩
         have hA1 : ((V1.alloc (.cells #[I 0, I 0, I 0, I 0, I 0, I 0, I 0, I 0, I 0, I 0, I 0, I 0, I 0, I 0, I 0, I 0, I 0, I 0, .bool false] 137)).alloc (.cells #[I 0, I 0, I 0, I 0, I 0, I 0, I 0, I 0, I 0, I 0, I 0, I 0, I 0, I 0, I 0, I 0, I 0, I 0, .bool false] 137)).heap[V1.heap.size]? = some (.cells #[I 0, I 0, I 0, I 0, I 0, I 0, I 0, I 0, I 0, I 0, I 0, I 0, I 0, I 0, I 0, I 0, I 0, I 0, .bool false] 137 (0, 0)) := heap_before (heap_last _ _ _ rfl)
         have hA2 : ((V1.alloc (.cells #[I 0, I 0, I 0, I 0, I 0, I 0, I 0, I 0, I 0, I 0, I 0, I 0, I 0, I 0, I 0, I 0, I 0, I 0, .bool false] 137)).alloc (.cells #[I 0, I 0, I 0, I 0, I 0, I 0, I 0, I 0, I 0, I 0, I 0, I 0, I 0, I 0, I 0, I 0, I 0, I 0, .bool false] 137)).heap[V1.heap.size + 1]? = some (.cells #[I 0, I 0, I 0, I 0, I 0, I 0, I 0, I 0, I 0, I 0, I 0, I 0, I 0, I 0, I 0, I 0, I 0, I 0, .bool false] 137 (0, 0)) := heap_last _ _ _ (by simp)
         have HA1 := Lib.hid (And.intro hA1 hA2)
         have HBA : Hid (Below V1.heap.size V1 ((V1.alloc (.cells #[I 0, I 0, I 0, I 0, I 0, I 0, I 0, I 0, I 0, I 0, I 0, I 0, I 0, I 0, I 0, I 0, I 0, I 0, .bool false] 137)).alloc (.cells #[I 0, I 0, I 0, I 0, I 0, I 0, I 0, I 0, I 0, I 0, I 0, I 0, I 0, I 0, I 0, I 0, I 0, I 0, .bool false] 137))) := ((Below.refl _ _).alloc (Nat.le_refl _) _).alloc (by simp) _
         clear hA1 hA2
         go_upto_region 19 with (first | (with_reducible show wpList _ _ _ _ _ _; refine wpList_store_row rfl 137 _ _ rfl V1.heap.size rfl _ _ HA1.out.1 (pfA pl) rfl (by simp [Value.oneCell']) rfl (by kernel_rfl) ?_) | (with_reducible show wpList _ _ _ _ _ _; refine wpList_store_row rfl 137 _ _ rfl (V1.heap.size + 1) rfl _ _ ((Go.Proofs.Ytljjpidigckheaa.setRow_other (by omega)).trans HA1.out.2) (pfA pg) rfl (by simp [Value.oneCell']) rfl (by kernel_rfl) ?_))
         refine name_w fun Y hY => ?_
         have hbY : Below V1.heap.size V1 Y := by rw [hY]; exact below_setRow (below_setRow HBA.out (Nat.le_refl _) _) (by omega) _
         have rg : Y.heap[qg]? = some (.cells (pfA pg) 137 (0, 0)) := by rw [hY, hqg]; exact setRow_same ((Go.Proofs.Ytljjpidigckheaa.setRow_other (by omega)).trans HA1.out.2)
         have HS2 := Lib.hid (HS1.out.below hbY)
         have HRG := Lib.hid rg
         rw [← hqg]
         clear hqg hY hbY rg HS1 HA1 HBA
         go_wp2_with fail
         refine (flat_any pg qg Y HRG.out HPG.out.1).mono ?_
         rintro e V2 hfl
         obtain ⟨⟨S, n1, T, m1', rfl, _⟩, hb2⟩ := hfl
         obtain ⟨d, hd⟩ : ∃ d, ds9 pg = d := ⟨_, rfl⟩
         have HPD : Hid (wnF x p q (y * nx + X) = d) := HPG.out.2.symm.trans hd
         have HS3 := Lib.hid ((HS2.out.below hb2).below (U := V2.alloc (.cells #[I d.n, I d.d] 49)) ((Below.refl _ _).alloc (Nat.le_refl _) _))
         rw [hd]
         clear hb2 hd HRG HS2 HPG
         have hrd := fun w => run_dist (I d.n) (I d.d) (.slice S (flS pg).1.length n1) (.slice T (flS pg).2.length m1') w
         obtain ⟨i0, hi0, iz0, iz1, iz2⟩ := info_parts frac_info9
         obtain ⟨l, hl⟩ : ∃ l, wnL x p q (y * nx + X) = l := ⟨_, rfl⟩
         have HLN : Hid (wnL x p q (y * nx + X + 1) = l ++ [d]) := by show _ = _; rw [wnL_snoc, hl, HPD.out]
         have hll : l.length ≤ 36 := by
          rw [← hl, wnL_len]
          have := HXX.out
          have := Nat.mul_le_mul (show y ≤ 5 by omega) (show nx ≤ 5 by omega)
          omega
         rw [hl] at HS3
         clear hl
         go_wp2_with (with_reducible show wpList _ _ _ (⟨some 96, _, _, _, _, _⟩ :: _) _ _; refine Hid.out ?_)
         refine Lib.hid ?_
         refine wpList_append_own_at _ rfl _ _ 67 rfl w.heap.size 49 i0 _ 2 16 Try.underlying67 hi0 iz0 iz1 iz2 rfl (by decide) _ l.length (flat 2 (rFr l) l.length) rfl HS3.out.own ⟨V2.heap.size, 0, none⟩ 1 1 [I d.n, I d.d] rfl rfl (cells_row (heap_last _ _ _ rfl)) (by simp [Value.oneCell']) (by unfold maxLen; omega) (by omega) HS3.out.bw.size (fun v' w' a1 a2 a3 a4 => ?_)
         simp only [Act.put, List.setIfInBounds_toArray, List.set_cons_zero, List.set_cons_succ]
         go_wp2_with fail
         go_roundw
         case rel =>
          refine ⟨X + 1, HLX.out, by go_num, ?_⟩
          rw [← Nat.add_assoc, HLN.out]
          exact HS3.out.next a1 a2 a4
         case measure => have := HLX.out; simp [intOf]; omega
        have HLI := Lib.hid hlt
        have ki3 : decide ((i : Int) < (N : Int)) = true := decide_eq_true (by omega)
        have kin3 : decide (i < N) = true := decide_eq_true hlt
        have hl3 : i < N := hlt
        have hi36 : i ≤ 36 := by have := HN36.out; omega
        have e0 := HU.out.2.cell (k := i) (j := 0) hlt (by omega)
        have e1 := HU.out.2.cell (k := i) (j := 1) hlt (by omega)
        have e2 := HU.out.2.cell (k := i) (j := 2) hlt (by omega)
        have q0 : gW x.w.toNat p X y i i 0 = I (i : Int) := by unfold gW; rw [if_neg (by omega)]; rfl
        obtain ⟨dx, hdx⟩ : ∃ d, d = i % p := ⟨_, rfl⟩
        obtain ⟨dy, hdy⟩ : ∃ d, d = i / p := ⟨_, rfl⟩
        have q1 : gW x.w.toNat p X y i i 1 = I (dx : Int) := by
         unfold gW
         rw [if_neg (by omega), hdx]
         show I ((i : Int) % (p : Int)) = _
         rw [Int.natCast_emod]
        have q2 : gW x.w.toNat p X y i i 2 = I (dy : Int) := by
         unfold gW
         rw [if_neg (by omega), hdy]
         show I ((i : Int) / (p : Int)) = _
         rw [Int.natCast_ediv]
        rw [q0, Nat.add_zero] at e0
        rw [q1] at e1
        rw [q2] at e2
        have hdx5 : dx ≤ 5 := by
         have := Nat.mod_lt i (show 0 < p by have := HPQ.out; omega)
         have := HPQ.out
         have := HWH.out
         omega
        have hdy5 : dy < q := by
         rw [hdy, Nat.div_lt_iff_lt_mul (by have := HPQ.out; omega), Nat.mul_comm, ← HNE.out]
         exact hlt
        have hdyy : dy ≤ 5 := by have := HPQ.out; have := HWH.out; omega
        have hxw : 2 ≤ x.w ∧ x.w ≤ 6 := by have := HEW.out.1; have := HWH.out; omega
        have hml : 0 ≤ ((y : Int) + (dy : Int)) * x.w ∧ ((y : Int) + (dy : Int)) * x.w ≤ 60 := by
         have a1 := Int.mul_le_mul_of_nonneg_left hxw.2 (show 0 ≤ (y : Int) + (dy : Int) by omega)
         have a2 := Int.mul_nonneg (show 0 ≤ (y : Int) + (dy : Int) by omega) (show 0 ≤ x.w by omega)
         omega
        have j1 : IntKind.i64.wrap ((y : Int) + (dy : Int)) = (y : Int) + (dy : Int) := IntWalk.i64_in _ (by omega)
        have j2 : IntKind.i64.wrap (((y : Int) + (dy : Int)) * x.w) = ((y : Int) + (dy : Int)) * x.w := IntWalk.i64_in _ (by omega)
        have j3 : IntKind.i64.wrap (((y : Int) + (dy : Int)) * x.w + (X : Int)) = ((y : Int) + (dy : Int)) * x.w + (X : Int) := IntWalk.i64_in _ (by omega)
        have j4 : IntKind.i64.wrap (((y : Int) + (dy : Int)) * x.w + (X : Int) + (dx : Int)) = ((y : Int) + (dy : Int)) * x.w + (X : Int) + (dx : Int) := IntWalk.i64_in _ (by omega)
        have HWA : Hid (I (((y : Int) + (dy : Int)) * x.w + (X : Int) + (dx : Int)) = I ((wAt x.w.toNat p X y i : Nat) : Int)) := by
         show _ = _
         unfold wAt
         rw [← hdx, ← hdy, Int.natCast_add, Int.natCast_add, Int.natCast_mul, Int.natCast_add, Int.toNat_of_nonneg (by omega)]
        have r3 := ((HC.out.below HU.out.1).r3)
        have y0 := cell_row9 r3 (j := 0) (v := I x.w) rfl
        have z0 := ovr_cell e0
        have z1 := ovr_cell e1
        have z2 := ovr_cell e2
        clear hlt hdx hdy hdx5 hdy5 hdyy hxw hml r3 e0 e1 e2 q0 q1 q2
        go_upto_region 16 with fail
        refine wp_region_seq2 20 (fun _ => none) (by kernel_rfl) (by kernel_rfl) (by kernel_rfl) (by kernel_rfl) (by kernel_rfl) ?_
        simp only [List.take_succ_cons, List.take_zero, List.drop_succ_cons, List.drop_zero]
        repeat (first | (refine wpG_one rfl rfl rfl ?_; intro K hK; go_big_quiet_op; go_big_quiet_on) | (refine wpG_skip rfl ?_; simp only [Act.put, List.setIfInBounds_toArray, List.set_cons_zero, List.set_cons_succ]))
        refine wpG_nil (fun w5 hw5 hG => ?_)
        have hr5 := HU.out.2.below (show Below U.heap.size U w5 from hw5.le)
        have HR5 := Lib.hid (And.intro hr5 (HU.out.1.trans ((show Below U.heap.size U w5 from hw5.le).mono HU.out.1.size)))
        have g0 : w5.cell? ⟨g, i * 3, none⟩ = some (I (i : Int)) := z0 w5 |> fun h => by
         obtain ⟨v, hv⟩ : ∃ v, w5 = ovr U v := ⟨w5, ovr_of hw5.le⟩
         rw [hv]
         exact z0 v
        have g1 := hr5.frozen (i * 3)
        clear hG hw5 z0 z1 z2 y0 hr5 j1 j2 j3 j4
        refine wpTailIn_cons Wd.wide (by intro c h; cases h) ?_
        unfold Oper.wp
        go_simp
        refine wpTailIn_cons Wd.wide (by intro c h; cases h) ?_
        unfold Oper.wp
        go_simp
        refine wpTailIn_cons Wd.wide (by intro c h; cases h) ?_
        unfold Oper.wp
        go_simp
        refine wpTailIn_nil ?_
        (try simp only [Act.put])
        go_wp2_with fail
        refine ⟨⟨i + 1, HLI.out, by go_num, sc_below HR5.out.2 HG.out.2.1 _ _, HR5.out.1.set HLI.out ?_ ?_⟩, ?_⟩
        · unfold gW
          rw [if_pos ⟨by omega, rfl⟩]
          exact HWA.out.symm
        · intro k hk j hj hne
          unfold gW
          by_cases h1 : k < i ∧ j = 0
          · rw [if_pos h1, if_pos ⟨by omega, h1.2⟩]
          · rw [if_neg h1, if_neg (by omega)]
        · have := HLI.out
          simp [intOf]
          omega
end Go.Proofs.Ytljjpidigckheaa.Un
