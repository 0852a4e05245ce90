/- Contracts of limits.has, amounts, heights of package finish. Contract of CheckGauges of package finish. Contracts of CheckSheet, hull, Thickness of package finish. Contracts of hull and Thickness of package finish. Contract of Variation of package finish. -/
import Derived.Test.YtliolnfcgaflcaaGreatU5
import Derived.Test.YtliolnfcgaflcaaGreatHp
import Derived.Test.YtliolnfcgaflcaaGreatJo
import Derived.Test.YtliolnfcgaflcaaGreatMkg
import Derived.Test.YtliolnfcgaflcaaGreatSqf
namespace Go.Proofs.YtliolnfcgaflcaaGreat.Un
open Go.RowKit
def spn9 (r : Rng) (l h : Int) : Bool := decide (l ≤ r.lo) && (decide (r.lo ≤ r.hi) && decide (r.hi ≤ h))
theorem spn9_iff {r : Rng} {l h : Int} : spn9 r l h = true ↔ l ≤ r.lo ∧ r.lo ≤ r.hi ∧ r.hi ≤ h := by
 unfold spn9
 rw [Bool.and_eq_true, Bool.and_eq_true, decide_eq_true_eq, decide_eq_true_eq, decide_eq_true_eq]
def bad9 (l h : Int) (r : Rng) : Bool := !spn9 r l h
set_option maxRecDepth 100000 in
set_option maxHeartbeats 1000000 in
theorem has1_any (r : Rng) (l h : Int) (b : Nat) (w : World) (hb : b < w.heap.size) (hc0 : w.cell? ⟨b, 0, none⟩ = some (I l)) (hc1 : w.cell? ⟨b, 1, none⟩ = some (I h)) :
 Calls Tryz.prog 51 #[.agg #[I r.lo, I r.hi], .pointer (some ⟨b, 0, none⟩)] w fun e w' => e = .returned (.bool (bad9 l h r)) ∧ Below w.heap.size w w' := by
 obtain ⟨W, hW⟩ : ∃ W, W = w.alloc (.cells #[I r.lo, I r.hi] 24) := ⟨_, rfl⟩
 have hB : Hid (Below w.heap.size w W) := by show _; rw [hW]; exact (Below.refl _ _).alloc (Nat.le_refl _) _
 have x0 : W.cell? ⟨b, 0, none⟩ = some (I l) := by rw [hW]; exact (((Below.refl _ _).alloc (Nat.le_refl _) _).cell (p := ⟨b, 0, none⟩) hb).trans hc0
 have x1 : W.cell? ⟨b, 1, none⟩ = some (I h) := by rw [hW]; exact (((Below.refl _ _).alloc (Nat.le_refl _) _).cell (p := ⟨b, 1, none⟩) hb).trans hc1
 have r0 : W.heap[w.heap.size]? = some (.cells #[I r.lo, I r.hi] 24 (0, 0)) := by rw [hW]; exact heap_last _ _ _ rfl
 have y0 : W.cell? ⟨w.heap.size, 0, none⟩ = some (I r.lo) := by rw [cell_of_row _ _ _ _ _ _ r0]; rfl
 have y1 : W.cell? ⟨w.heap.size, 1, none⟩ = some (I r.hi) := by rw [cell_of_row _ _ _ _ _ _ r0]; rfl
 have HW := Lib.hid hW
 have hf : Hid (bad9 l h r = !(decide (l ≤ r.lo) && (decide (r.lo ≤ r.hi) && decide (r.hi ≤ h)))) := rfl
 clear hW hc0 hc1 r0
 by_cases h1 : l ≤ r.lo
 case neg =>
  rw [decide_eq_false h1] at hf
  have d1 : decide (r.lo < l) = true := decide_eq_true (by omega)
  clear h1
  go_enter Tryz.func51, Tryz.ntmps51
  go_upto_region 1 with (fail)
  rw [← HW.out]
  go_wp2_with fail
  go_ret
  exact ⟨by rw [hf.out]; rfl, hB.out⟩
 by_cases h2 : r.lo ≤ r.hi
 case neg =>
  rw [decide_eq_true h1, decide_eq_false h2] at hf
  have d1 : decide (r.lo < l) = false := decide_eq_false (by omega)
  have d2 : decide (r.hi < r.lo) = true := decide_eq_true (by omega)
  clear h1 h2
  go_enter Tryz.func51, Tryz.ntmps51
  go_upto_region 1 with (fail)
  rw [← HW.out]
  go_wp2_with fail
  go_ret
  exact ⟨by rw [hf.out]; rfl, hB.out⟩
 have d1 : decide (r.lo < l) = false := decide_eq_false (by omega)
 have d2 : decide (r.hi < r.lo) = false := decide_eq_false (by omega)
 by_cases h3 : r.hi ≤ h
 case neg =>
  rw [decide_eq_true h1, decide_eq_true h2, decide_eq_false h3] at hf
  have d3 : decide (h < r.hi) = true := decide_eq_true (by omega)
  clear h1 h2 h3
  go_enter Tryz.func51, Tryz.ntmps51
  go_upto_region 1 with (fail)
  rw [← HW.out]
  go_wp2_with fail
  go_ret
  exact ⟨by rw [hf.out]; rfl, hB.out⟩
 rw [decide_eq_true h1, decide_eq_true h2, decide_eq_true h3] at hf
 have d3 : decide (h < r.hi) = false := decide_eq_false (by omega)
 clear h1 h2 h3
 go_enter Tryz.func51, Tryz.ntmps51
 go_upto_region 1 with (fail)
 rw [← HW.out]
 go_wp2_with fail
 go_ret
 exact ⟨by rw [hf.out]; rfl, hB.out⟩
set_option maxHeartbeats 1000000 in
theorem ix_has (l h : Int) (b : Nat) (A : Option Addr) (c : Nat) (xs : List Rng) (w : World) (B : Nat) (hm : xs.length ≤ maxLen) (hB : B ≤ w.heap.size) (hx : Rd w B 2 A xs.length (rR xs)) (hb : b < w.heap.size) (hc0 : w.cell? ⟨b, 0, none⟩ = some (I l)) (hc1 : w.cell? ⟨b, 1, none⟩ = some (I h)) :
 Calls Tryz.prog 78 #[.slice A xs.length c, .func (Fn.func 51) #[] #[.pointer (some ⟨b, 0, none⟩)]] w fun e w' => e = .returned (.int .i64 (ixOf (bad9 l h) xs)) ∧ Below w.heap.size w w' := by
 unfold maxLen at hm
 have HX : Hid (∀ u, Rd (ovr w u) B 2 A xs.length (rR xs)) := fun u => hx.below ((ovr_below w u).mono hB)
 have HC : Hid (∀ u (r : Rng), Calls Tryz.prog 51 #[.agg #[I r.lo, I r.hi], .pointer (some ⟨b, 0, none⟩)] (ovr w u) fun e w' => e = .returned (.bool (bad9 l h r)) ∧ Below (ovr w u).heap.size (ovr w u) w') := fun u r =>
  has1_any r l h b (ovr w u) (Nat.lt_of_lt_of_le hb (ovr_below w u).size) (((ovr_below w u).cell (p := ⟨b, 0, none⟩) hb).trans hc0) (((ovr_below w u).cell (p := ⟨b, 1, none⟩) hb).trans hc1)
 obtain ⟨u0, hu0⟩ := ovr_self w
 have H0 := Lib.hid hu0
 clear hx hB hu0 hb hc0 hc1
 go_enter Tryz.func78, Tryz.ntmps78
 go_wp2
 go_loopw [8] (fun i wr => ∃ k : Nat, k ≤ xs.length ∧ i = .int .i64 k ∧ (∀ j, j < k → bad9 l h (at0 xs j) = false) ∧ ∃ u, wr = ovr w u) (fun i _ => xs.length - (intOf i).toNat)
 case atStart => exact ⟨0, by omega, rfl, fun j hj => absurd hj (by omega), u0, H0.out⟩
 case round =>
  obtain ⟨k, hk, rfl, hb, u, rfl⟩ := hrel
  have Hb := Lib.hid hb
  clear hb
  by_cases hlt : k < xs.length
  · obtain ⟨b', o, rfl, _, e0, e1⟩ := (HX.out u).rng hlt
    have ca := HC.out u (at0 xs k)
    rcases hp : bad9 l h (at0 xs k) with _ | _
    · rw [hp] at ca
      have Ca := Lib.hid ca
      clear ca
      go_wp2_with fail
      refine Ca.out.mono ?_
      rintro e w1 ⟨rfl, hb1⟩
      obtain ⟨u1, rfl⟩ := ovr_next hb1
      clear hb1
      go_wp2_with fail
      go_roundw
      case rel => exact ⟨k + 1, by omega, by go_num, succ_case Hb.out hp, u1, rfl⟩
      case measure => simp [intOf]; omega
    · rw [hp] at ca
      have Ca := Lib.hid ca
      have hfin := Lib.hid (ixOf_at hlt hp Hb.out)
      clear ca
      go_wp2_with fail
      refine Ca.out.mono ?_
      rintro e w1 ⟨rfl, hb1⟩
      obtain ⟨u1, rfl⟩ := ovr_next hb1
      clear hb1
      go_wp2_with fail
      go_ret
      exact ⟨ret_int hfin.out.symm, ovr_below _ _⟩
  · have hfin : Hid (ixOf (bad9 l h) xs = -1) := ixOf_none0 fun j hj => Hb.out j (by omega)
    go_wp2
    go_ret
    exact ⟨ret_int hfin.out.symm, ovr_below _ _⟩
set_option maxHeartbeats 1000000 in
theorem con_has (l h : Int) (b : Nat) (A : Option Addr) (c : Nat) (xs : List Rng) (w : World) (B : Nat) (hm : xs.length ≤ maxLen) (hB : B ≤ w.heap.size) (hx : Rd w B 2 A xs.length (rR xs)) (hb : b < w.heap.size) (hc0 : w.cell? ⟨b, 0, none⟩ = some (I l)) (hc1 : w.cell? ⟨b, 1, none⟩ = some (I h)) :
 Calls Tryz.prog 50 #[.slice A xs.length c, .func (Fn.func 51) #[] #[.pointer (some ⟨b, 0, none⟩)]] w fun e w' => e = .returned (.bool (xs.any (bad9 l h))) ∧ Below w.heap.size w w' := by
 have hfin := ixOf_any (p := bad9 l h) (xs := xs)
 have cx := Lib.hid (ix_has l h b A c xs w B hm hB hx hb hc0 hc1)
 clear hx hB hm hb hc0 hc1
 go_enter Tryz.func50, Tryz.ntmps50
 go_wp2_with fail
 refine cx.out.mono ?_
 rintro e w' ⟨rfl, hb⟩
 have HB := Lib.hid hb
 clear hb
 go_wp2_with fail
 go_ret
 exact ⟨rfl, HB.out⟩
def all9 (l h : Int) (xs : List Rng) : Bool := !xs.any (bad9 l h)
theorem all9_iff {l h : Int} {xs : List Rng} : all9 l h xs = true ↔ ∀ r ∈ xs, spn9 r l h = true := by
 unfold all9 bad9
 simp
theorem all9_one (l h : Int) (r : Rng) : all9 l h [r] = spn9 r l h := by
 unfold all9 bad9
 simp
set_option maxHeartbeats 1000000 in
theorem has_any (l h : Int) (A : Option Addr) (c : Nat) (xs : List Rng) (w : World) (B : Nat) (hm : xs.length ≤ maxLen) (hB : B ≤ w.heap.size) (hx : Rd w B 2 A xs.length (rR xs)) :
 Calls Tryz.prog 16 #[.agg #[I l, I h], .slice A xs.length c] w fun e w' => e = .returned (.bool (all9 l h xs)) ∧ Below w.heap.size w w' := by
 have hf : Hid (all9 l h xs = !xs.any (bad9 l h)) := rfl
 obtain ⟨W, hW⟩ : ∃ W, W = w.alloc (.cells #[I l, I h] 67) := ⟨_, rfl⟩
 have hB1 : Below w.heap.size w W := by rw [hW]; exact (Below.refl _ _).alloc (Nat.le_refl _) _
 have hsz : W.heap.size = w.heap.size + 1 := by rw [hW]; simp
 have r0 : W.heap[w.heap.size]? = some (.cells #[I l, I h] 67 (0, 0)) := by rw [hW]; exact heap_last _ _ _ rfl
 have y0 : W.cell? ⟨w.heap.size, 0, none⟩ = some (I l) := by rw [cell_of_row _ _ _ _ _ _ r0]; rfl
 have y1 : W.cell? ⟨w.heap.size, 1, none⟩ = some (I h) := by rw [cell_of_row _ _ _ _ _ _ r0]; rfl
 have cc := Lib.hid (con_has l h w.heap.size A c xs W B hm (Nat.le_trans hB hB1.size) (hx.below (hB1.mono hB)) (by omega) y0 y1)
 have HB := Lib.hid hB1
 have HW := Lib.hid hW
 have hmf := @makeFunc_run Tryz.prog
 clear hW hx hB hm y0 y1 r0 hB1 hsz
 rcases hq : xs.any (bad9 l h) with _ | _ <;> rw [hq] at hf cc
 all_goals
  go_enter Tryz.func16, Tryz.ntmps16
  go_upto_region 1 with (fail)
  rw [← HW.out]
  go_wp2_with fail
  refine cc.out.mono ?_
  rintro e w1 ⟨rfl, hb1⟩
  have hfin : Hid (Below w.heap.size w w1) := HB.out.trans (hb1.mono HB.out.size)
  clear hb1
  go_wp2_with fail
  go_ret
  exact ⟨by rw [hf.out]; rfl, hfin.out⟩
set_option maxHeartbeats 1000000 in
theorem heights_any (w : World) : Calls Tryz.prog 49 #[] w fun e w' => e = .returned (.agg #[I (-1000000), I 1000000]) ∧ Below w.heap.size w w' := by
 obtain ⟨W, hW⟩ : ∃ W, W = (w.alloc (.cells #[I 0, I 0] 67)) := ⟨_, rfl⟩
 have rowW0 : W.heap[w.heap.size]? = some (.cells #[I 0, I 0] 67 (0, 0)) := by rw [hW]; exact heap_last _ _ _ rfl
 have yW00 := ovr_cell (W := W) (b := w.heap.size) (o := 0) (v := I 0) (by rw [cell_of_row _ _ _ _ _ _ rowW0]; rfl)
 have yW01 := ovr_cell (W := W) (b := w.heap.size) (o := 1) (v := I 0) (by rw [cell_of_row _ _ _ _ _ _ rowW0]; rfl)
 have RrowW0 := Lib.hid (ovr_row rowW0)
 clear rowW0
 have HUW : Hid (∀ u, Below w.heap.size w (ovr W u)) := U1 hW
 have HW := Lib.hid hW
 clear hW
 go_enter Tryz.func49, Tryz.ntmps49
 go_upto_region 1 with (fail)
 rw [← HW.out]
 obtain ⟨u0, hu0⟩ := ovr_self W
 rw [hu0]
 clear hu0
 go_wp2_with (refine wpList_store_row rfl 67 _ _ rfl (w.heap.size) rfl _ _ (RrowW0.out _) _ rfl (one2 rfl rfl) rfl (by kernel_rfl) ?_)
 refine bodyPost_ret (results_cell_only rfl _ _ (w.heap.size) 67 _ (0, 0) _ rfl (setRow_same (RrowW0.out _)) Tryz.underlying67 rfl (by kernel_rfl)) rfl ?_
 exact ⟨rfl, below_setRow (HUW.out _) (by omega) _⟩
set_option maxHeartbeats 1000000 in
theorem amounts_any (w : World) : Calls Tryz.prog 64 #[] w fun e w' => e = .returned (.agg #[I 0, I 10000000]) ∧ Below w.heap.size w w' := by
 obtain ⟨W, hW⟩ : ∃ W, W = (w.alloc (.cells #[I 0, I 0] 67)) := ⟨_, rfl⟩
 have rowW0 : W.heap[w.heap.size]? = some (.cells #[I 0, I 0] 67 (0, 0)) := by rw [hW]; exact heap_last _ _ _ rfl
 have yW00 := ovr_cell (W := W) (b := w.heap.size) (o := 0) (v := I 0) (by rw [cell_of_row _ _ _ _ _ _ rowW0]; rfl)
 have yW01 := ovr_cell (W := W) (b := w.heap.size) (o := 1) (v := I 0) (by rw [cell_of_row _ _ _ _ _ _ rowW0]; rfl)
 have RrowW0 := Lib.hid (ovr_row rowW0)
 clear rowW0
 have HUW : Hid (∀ u, Below w.heap.size w (ovr W u)) := U1 hW
 have HW := Lib.hid hW
 clear hW
 go_enter Tryz.func64, Tryz.ntmps64
 go_upto_region 1 with (fail)
 rw [← HW.out]
 obtain ⟨u0, hu0⟩ := ovr_self W
 rw [hu0]
 clear hu0
 go_wp2_with (refine wpList_store_row rfl 67 _ _ rfl (w.heap.size) rfl _ _ (RrowW0.out _) _ rfl (one2 rfl rfl) rfl (by kernel_rfl) ?_)
 refine bodyPost_ret (results_cell_only rfl _ _ (w.heap.size) 67 _ (0, 0) _ rfl (setRow_same (RrowW0.out _)) Tryz.underlying67 rfl (by kernel_rfl)) rfl ?_
 exact ⟨rfl, below_setRow (HUW.out _) (by omega) _⟩
end Go.Proofs.YtliolnfcgaflcaaGreat.Un
namespace Go.Proofs.YtliolnfcgaflcaaGreat.Un
open Go.RowKit
def SlN (w0 : World) (cs : Array Value) (t : TypeId) (n : Nat) (u : Value) (w : World) : Prop := ∃ b, u = .slice (some ⟨b, 0, none⟩) n n ∧ w.heap[b]? = some (.cells cs t (0, 0)) ∧ w0.heap.size ≤ b
theorem sln_grow {w0 w : World} {cs : Array Value} {t : TypeId} {n : Nat} (h : Cl w0 w) : Le w (w.alloc (.cells cs t)) ∧ Box (SlN w0 cs t n) (.slice (some ⟨w.heap.size, 0, none⟩) n n) (w.alloc (.cells cs t)) :=
 ⟨(Below.refl _ _).alloc (Nat.le_refl _) _, fun _ h2 => ⟨_, rfl, (h2.block _ (by simp)).trans (heap_alloc_new w _), h.le.size⟩⟩
theorem SlN.at {w0 w : World} {cs : Array Value} {t : TypeId} {n b : Nat} (h : SlN w0 cs t n (.slice (some ⟨b, 0, none⟩) n n) w) : w.heap[b]? = some (.cells cs t (0, 0)) ∧ w0.heap.size ≤ b := by
 obtain ⟨b', e, h1, h2⟩ := h
 have : b = b' := by injection e with e1; injection e1 with e2; injection e2
 subst this
 exact ⟨h1, h2⟩
theorem rd_row1 {w : World} {b : Nat} {r : Rng} {t : TypeId} (h : w.heap[b]? = some (.cells #[I r.lo, I r.hi] t (0, 0))) : Rd w w.heap.size 2 (some ⟨b, 0, none⟩) 1 (rR [r]) :=
 Rd_new h 2 1 0 _ (fun k hk j hj => by
  rcases k with _ | k
  · rcases j with _ | _ | j
    · rfl
    · rfl
    · omega
  · omega)
theorem hasRow {w : World} {b : Nat} {r : Rng} {t : TypeId} (h : w.heap[b]? = some (.cells #[I r.lo, I r.hi] t (0, 0))) (l m : Int) :
 Calls Tryz.prog 16 #[.agg #[I l, I m], .slice (some ⟨b, 0, none⟩) 1 1] w fun e w' => e = .returned (.bool (spn9 r l m)) ∧ Below w.heap.size w w' := by
 have := has_any l m (some ⟨b, 0, none⟩) 1 [r] w w.heap.size (by unfold maxLen; simp) (Nat.le_refl _) (rd_row1 h)
 rwa [all9_one] at this
structure Gag where
 by_ : Int
 f : Rng
 o : Rng
 u : Int
deriving Inhabited
abbrev gagA (g : Gag) : Array Value := #[I g.by_, I g.f.lo, I g.f.hi, I g.o.lo, I g.o.hi, I g.u]
def rG (l : List Gag) (k j : Nat) : Value := if j = 0 then I (at0 l k).by_ else if j = 1 then I (at0 l k).f.lo else if j = 2 then I (at0 l k).f.hi else if j = 3 then I (at0 l k).o.lo else if j = 4 then I (at0 l k).o.hi else I (at0 l k).u
theorem rd_gag {w : World} {B n k : Nat} {A : Option Addr} {l : List Gag} (h : Rd w B 6 A n (rG l)) (hk : k < n) : ∃ b o, A = some ⟨b, o, none⟩ ∧ b < B ∧
 w.cell? ⟨b, o + k * 6, none⟩ = some (I (at0 l k).by_) ∧ w.cell? ⟨b, o + k * 6 + 1, none⟩ = some (I (at0 l k).f.lo) ∧ w.cell? ⟨b, o + k * 6 + 2, none⟩ = some (I (at0 l k).f.hi) ∧
 w.cell? ⟨b, o + k * 6 + 3, none⟩ = some (I (at0 l k).o.lo) ∧ w.cell? ⟨b, o + k * 6 + 4, none⟩ = some (I (at0 l k).o.hi) ∧ w.cell? ⟨b, o + k * 6 + 5, none⟩ = some (I (at0 l k).u) := by
 obtain ⟨b, o, e, hb, hc⟩ := h (by omega)
 exact ⟨b, o, e, hb, hc k hk 0 (by omega), hc k hk 1 (by omega), hc k hk 2 (by omega), hc k hk 3 (by omega), hc k hk 4 (by omega), hc k hk 5 (by omega)⟩
def er9 (b : Bool) : Int := if b then 0 else 2
def gagB (g : Gag) (i : Nat) : Bool := decide (-1 ≤ g.by_) && (decide (g.by_ < (i : Int)) && (spn9 g.f 1 2000000 && (spn9 g.o (-1000000) 1000000 && (decide (0 ≤ g.u) && decide (g.u ≤ 1000000)))))
def gagK (l : List Gag) : Nat → Bool
 | 0 => true | k + 1 => gagK l k && gagB (at0 l k) k
def okGag (l : List Gag) : Bool := decide (l.length ≤ 30) && gagK l l.length
theorem gagK_iff {l : List Gag} : ∀ {n : Nat}, gagK l n = true ↔ ∀ j, j < n → gagB (at0 l j) j = true
 | 0 => ⟨fun _ j hj => absurd hj (by omega), fun _ => rfl⟩
 | n + 1 => by
   show (gagK l n && gagB (at0 l n) n) = true ↔ _
   rw [Bool.and_eq_true, gagK_iff (n := n)]
   refine ⟨fun h j hj => ?_, fun h => ⟨fun j hj => h j (by omega), h n (by omega)⟩⟩
   rcases Nat.lt_or_ge j n with h1 | h1
   · exact h.1 j h1
   · obtain rfl : j = n := by omega
     exact h.2
theorem gagK_no {l : List Gag} {n m : Nat} (hn : n < m) (h : gagB (at0 l n) n = false) : gagK l m = false := by
 rcases hm : gagK l m with _ | _
 · rfl
 · rw [gagK_iff.1 hm n hn] at h; cases h
set_option maxRecDepth 100000 in
set_option maxHeartbeats 4000000 in
theorem checkGauges_any (A : Option Addr) (c : Nat) (l : List Gag) (w : World) (B : Nat) (hB : B ≤ w.heap.size) (hx : Rd w B 6 A l.length (rG l)) :
 Calls Tryz.prog 15 #[.slice A l.length c] w fun e w' => e = .returned (I (er9 (okGag l))) ∧ Below w.heap.size w w' := by
 have HX : Hid (∀ V, Below w.heap.size w V → Rd V B 6 A l.length (rG l)) := fun V hV => hx.below (hV.mono hB)
 clear hx hB
 by_cases h30 : 30 < l.length
 · have d1 : decide ((30 : Int) < (l.length : Int)) = true := decide_eq_true (by omega)
   have hf : Hid (okGag l = false) := by show _ = _; unfold okGag; rw [decide_eq_false (by omega)]; rfl
   clear h30
   go_enter Tryz.func15, Tryz.ntmps15
   go_wp2_with fail
   go_ret
   exact ⟨by rw [hf.out]; rfl, Below.refl _ _⟩
 have d1 : decide ((30 : Int) < (l.length : Int)) = false := decide_eq_false (by omega)
 have hf : Hid (okGag l = gagK l l.length) := by show _ = _; unfold okGag; rw [decide_eq_true (by omega)]; rfl
 have H30 : Hid (l.length ≤ 30) := by show _ ≤ _; omega
 clear h30
 obtain ⟨W, hW⟩ : ∃ W, W = (w.alloc (.cells #[I 1, I 2000000] 67)) := ⟨_, rfl⟩
 have rowW0 : W.heap[w.heap.size]? = some (.cells #[I 1, I 2000000] 67 (0, 0)) := by rw [hW]; exact heap_last _ _ _ rfl
 have yW00 := ovr_cell (W := W) (b := w.heap.size) (o := 0) (v := I 1) (by rw [cell_of_row _ _ _ _ _ _ rowW0]; rfl)
 have yW01 := ovr_cell (W := W) (b := w.heap.size) (o := 1) (v := I 2000000) (by rw [cell_of_row _ _ _ _ _ _ rowW0]; rfl)
 have RrowW0 := Lib.hid (ovr_row rowW0)
 clear rowW0
 have HUW : Hid (∀ u, Below w.heap.size w (ovr W u)) := U1 hW
 have HW := Lib.hid hW
 clear hW
 go_enter Tryz.func15, Tryz.ntmps15
 go_upto_region 4 with (fail)
 rw [← HW.out]
 obtain ⟨u0, hu0⟩ := ovr_self W
 rw [hu0]
 clear hu0
 clear d1
 go_wp2_with fail
 go_loopw [12] (fun i wr => ∃ (k : Nat) (u : World), k ≤ l.length ∧ i = .int .i64 k ∧ wr = ovr W u ∧ ∀ j, j < k → gagB (at0 l j) j = true) (fun i _ => l.length - (intOf i).toNat)
 case atStart => exact ⟨0, u0, by omega, rfl, rfl, fun j hj => absurd hj (by omega)⟩
 case round =>
  obtain ⟨k, u, hk, rfl, rfl, hall⟩ := hrel
  have HALL := Lib.hid hall
  clear hall
  by_cases hlt : k < l.length
  case neg =>
   obtain rfl : k = l.length := by omega
   have hf2 : Hid (okGag l = true) := by show _ = _; rw [hf.out]; exact gagK_iff.2 HALL.out
   go_wp2_with fail
   go_ret
   exact ⟨by rw [hf2.out]; rfl, HUW.out u⟩
  obtain ⟨b, o, rfl, _, e0, e1, e2, e3, e4, e5⟩ := rd_gag (HX.out _ (HUW.out u)) hlt
  have HNO : Hid (gagB (at0 l k) k = false → okGag l = false) := fun h => by rw [hf.out]; exact gagK_no hlt h
  have HYES : Hid (gagB (at0 l k) k = true → ∀ j, j < k + 1 → gagB (at0 l j) j = true) := fun h j hj => by
   rcases Nat.lt_or_ge j k with h1 | h1
   · exact HALL.out j h1
   · obtain rfl : j = k := by omega
     exact h
  have HLT := Lib.hid hlt
  have hk30 : k ≤ 30 := by have := H30.out; omega
  obtain ⟨g, hg⟩ : ∃ g, at0 l k = g := ⟨_, rfl⟩
  rw [hg] at e0 e1 e2 e3 e4 e5 HNO HYES
  have hB : Hid (gagB g k = (decide (-1 ≤ g.by_) && (decide (g.by_ < (k : Int)) && (spn9 g.f 1 2000000 && (spn9 g.o (-1000000) 1000000 && (decide (0 ≤ g.u) && decide (g.u ≤ 1000000))))))) := rfl
  clear hg
  go_upto_region 7 with (fail)
  clear e0 e1 e2 e3 e4 e5
  obtain ⟨X, hX⟩ : ∃ X, X = ((ovr W u).alloc (.cells #[I g.by_, I g.f.lo, I g.f.hi, I g.o.lo, I g.o.hi, I g.u] 71)) := ⟨_, rfl⟩
  have reX : ∀ v, ∃ x, ovr X v = ovr W x := fun v => ovr_re1 hX
  replace yW00 := tr_cell reX yW00
  replace yW01 := tr_cell reX yW01
  replace RrowW0 := Lib.hid (tr_row reX RrowW0.out)
  have rowX0 : X.heap[(ovr W u).heap.size]? = some (.cells #[I g.by_, I g.f.lo, I g.f.hi, I g.o.lo, I g.o.hi, I g.u] 71 (0, 0)) := by rw [hX]; exact heap_last _ _ _ rfl
  have yX00 := ovr_cell (W := X) (b := (ovr W u).heap.size) (o := 0) (v := I g.by_) (by rw [cell_of_row _ _ _ _ _ _ rowX0]; rfl)
  have yX01 := ovr_cell (W := X) (b := (ovr W u).heap.size) (o := 1) (v := I g.f.lo) (by rw [cell_of_row _ _ _ _ _ _ rowX0]; rfl)
  have yX02 := ovr_cell (W := X) (b := (ovr W u).heap.size) (o := 2) (v := I g.f.hi) (by rw [cell_of_row _ _ _ _ _ _ rowX0]; rfl)
  have yX03 := ovr_cell (W := X) (b := (ovr W u).heap.size) (o := 3) (v := I g.o.lo) (by rw [cell_of_row _ _ _ _ _ _ rowX0]; rfl)
  have yX04 := ovr_cell (W := X) (b := (ovr W u).heap.size) (o := 4) (v := I g.o.hi) (by rw [cell_of_row _ _ _ _ _ _ rowX0]; rfl)
  have yX05 := ovr_cell (W := X) (b := (ovr W u).heap.size) (o := 5) (v := I g.u) (by rw [cell_of_row _ _ _ _ _ _ rowX0]; rfl)
  have RrowX0 := Lib.hid (ovr_row rowX0)
  clear rowX0
  have HBX : Hid (∀ u, Below W.heap.size W (ovr X u)) := fun u => by obtain ⟨x, hx⟩ := reX u; rw [hx]; exact ovr_below _ _
  clear reX
  have HX := Lib.hid hX
  clear hX
  rw [← HX.out]
  have HUT : Hid (∀ V, Below X.heap.size X V → Below w.heap.size w V) := fun V h => by
   obtain ⟨v, rfl⟩ : ∃ v, V = ovr X v := ⟨V, ovr_of h⟩
   exact below_chain HUW.out HBX.out v
  have HUT2 : Hid (∀ V, Below X.heap.size X V → ∃ v, V = ovr W v) := fun V h => ⟨V, ovr_of ((below_self HBX.out).trans (h.mono (below_self HBX.out).size))⟩
  by_cases t1 : g.by_ < -1
  · have d1 : decide (g.by_ < -1) = true := decide_eq_true t1
    have hbad : gagB g k = false := by rw [hB.out, decide_eq_false (by omega)]; rfl
    refine Gg.wp_region_make (fun _ => none) (by kernel_rfl) (by kernel_rfl) (by kernel_rfl) ?_
    repeat (first | (refine Gg.wpG_one rfl rfl rfl ?_; intro K hK; go_big_quiet_op; go_big_quiet_on) | (refine Gg.wpG_skip rfl ?_; simp only [Act.put, List.setIfInBounds_toArray, List.set_cons_zero, List.set_cons_succ]))
    refine Gg.wpG_nil (fun w5 hw5 hG => ?_)
    go_wp2_with fail
    go_ret
    exact ⟨by rw [HNO.out hbad]; rfl, HUT.out w5 hw5.le⟩
  have d1 : decide (g.by_ < -1) = false := decide_eq_false t1
  by_cases t2 : (k : Int) ≤ g.by_
  · have d2 : decide ((k : Int) ≤ g.by_) = true := decide_eq_true t2
    have hbad : gagB g k = false := by rw [hB.out, decide_eq_false (p := g.by_ < (k : Int)) (by omega), Bool.false_and, Bool.and_false]
    refine Gg.wp_region_make (fun _ => none) (by kernel_rfl) (by kernel_rfl) (by kernel_rfl) ?_
    repeat (first | (refine Gg.wpG_one rfl rfl rfl ?_; intro K hK; go_big_quiet_op; go_big_quiet_on) | (refine Gg.wpG_skip rfl ?_; simp only [Act.put, List.setIfInBounds_toArray, List.set_cons_zero, List.set_cons_succ]))
    refine Gg.wpG_nil (fun w5 hw5 hG => ?_)
    go_wp2_with fail
    go_ret
    exact ⟨by rw [HNO.out hbad]; rfl, HUT.out w5 hw5.le⟩
  have d2 : decide ((k : Int) ≤ g.by_) = false := decide_eq_false t2
  rw [decide_eq_true (p := -1 ≤ g.by_) (by omega), decide_eq_true (p := g.by_ < (k : Int)) (by omega), Bool.true_and, Bool.true_and] at hB
  rcases t3 : spn9 g.f 1 2000000 with _ | _
  · have HF1 := Lib.hid t3
    have hbad : gagB g k = false := by rw [hB.out, t3]; rfl
    clear t3
    refine Gg.wp_region_make (fun j => if j = 13 then some (SlN X #[I g.f.lo, I g.f.hi] 24 1) else if j = 14 then some (fun u _ => u = .bool (spn9 g.f 1 2000000)) else none) (by kernel_rfl) (by kernel_rfl) (by kernel_rfl) ?_
    repeat (first | (refine Gg.wpG_one rfl rfl rfl ?_; intro K hK; go_big_quiet_op; go_big_quiet_on) | (refine Gg.wpG_skip rfl ?_; simp only [Act.put, List.setIfInBounds_toArray, List.set_cons_zero, List.set_cons_succ]))
    refine Gg.wpG_make (SlN X #[I g.f.lo, I g.f.hi] 24 1) rfl rfl (fun w' hw' hk => ?_) (fun u hu => ?_)
    · go_simp
      exact sln_grow hw'
    obtain ⟨_, _, b1, rfl, _, _⟩ := hu
    simp only [Act.put, List.setIfInBounds_toArray, List.set_cons_zero, List.set_cons_succ]
    repeat (first | (refine Gg.wpG_one rfl rfl rfl ?_; intro K hK; go_big_quiet_op; go_big_quiet_on) | (refine Gg.wpG_skip rfl ?_; simp only [Act.put, List.setIfInBounds_toArray, List.set_cons_zero, List.set_cons_succ]))
    refine Gg.wpG_make (fun u _ => u = .bool (spn9 g.f 1 2000000)) rfl rfl (fun w' hw' hk => ?_) (fun u hu => ?_)
    · have hk3 := (hk ⟨13, .data⟩ (by simp) rfl _ _ _ rfl (.inr (by simp [undef])) rfl (by simp) rfl).now.at
      go_simp
      exact call_grow (hasRow hk3.1 1 2000000)
    obtain ⟨_, _, rfl⟩ := hu
    rw [HF1.out]
    simp only [Act.put, List.setIfInBounds_toArray, List.set_cons_zero, List.set_cons_succ]
    repeat (first | (refine Gg.wpG_one rfl rfl rfl ?_; intro K hK; go_big_quiet_op; go_big_quiet_on) | (refine Gg.wpG_skip rfl ?_; simp only [Act.put, List.setIfInBounds_toArray, List.set_cons_zero, List.set_cons_succ]))
    refine Gg.wpG_nil (fun w5 hw5 hG => ?_)
    go_wp2_with fail
    go_ret
    exact ⟨by rw [HNO.out hbad]; rfl, HUT.out w5 hw5.le⟩
  have HF1 := Lib.hid t3
  rw [t3, Bool.true_and] at hB
  clear t3
  rcases t4 : spn9 g.o (-1000000) 1000000 with _ | _
  · have HF2 := Lib.hid t4
    have hbad : gagB g k = false := by rw [hB.out, t4]; rfl
    clear t4
    refine Gg.wp_region_make (fun j => if j = 13 then some (SlN X #[I g.f.lo, I g.f.hi] 24 1) else if j = 14 then some (fun u _ => u = .bool (spn9 g.f 1 2000000)) else if j = 18 then some (fun u _ => u = .agg #[I (-1000000), I 1000000]) else if j = 21 then some (SlN X #[I g.o.lo, I g.o.hi] 24 1) else if j = 22 then some (fun u _ => u = .bool (spn9 g.o (-1000000) 1000000)) else none) (by kernel_rfl) (by kernel_rfl) (by kernel_rfl) ?_
    repeat (first | (refine Gg.wpG_one rfl rfl rfl ?_; intro K hK; go_big_quiet_op; go_big_quiet_on) | (refine Gg.wpG_skip rfl ?_; simp only [Act.put, List.setIfInBounds_toArray, List.set_cons_zero, List.set_cons_succ]))
    refine Gg.wpG_make (SlN X #[I g.f.lo, I g.f.hi] 24 1) rfl rfl (fun w' hw' hk => ?_) (fun u hu => ?_)
    · go_simp
      exact sln_grow hw'
    obtain ⟨_, _, b1, rfl, _, _⟩ := hu
    simp only [Act.put, List.setIfInBounds_toArray, List.set_cons_zero, List.set_cons_succ]
    repeat (first | (refine Gg.wpG_one rfl rfl rfl ?_; intro K hK; go_big_quiet_op; go_big_quiet_on) | (refine Gg.wpG_skip rfl ?_; simp only [Act.put, List.setIfInBounds_toArray, List.set_cons_zero, List.set_cons_succ]))
    refine Gg.wpG_make (fun u _ => u = .bool (spn9 g.f 1 2000000)) rfl rfl (fun w' hw' hk => ?_) (fun u hu => ?_)
    · have hk3 := (hk ⟨13, .data⟩ (by simp) rfl _ _ _ rfl (.inr (by simp [undef])) rfl (by simp) rfl).now.at
      go_simp
      exact call_grow (hasRow hk3.1 1 2000000)
    obtain ⟨_, _, rfl⟩ := hu
    rw [HF1.out]
    simp only [Act.put, List.setIfInBounds_toArray, List.set_cons_zero, List.set_cons_succ]
    repeat (first | (refine Gg.wpG_one rfl rfl rfl ?_; intro K hK; go_big_quiet_op; go_big_quiet_on) | (refine Gg.wpG_skip rfl ?_; simp only [Act.put, List.setIfInBounds_toArray, List.set_cons_zero, List.set_cons_succ]))
    refine Gg.wpG_make (fun u _ => u = .agg #[I (-1000000), I 1000000]) rfl rfl (fun w' hw' hk => ?_) (fun u hu => ?_)
    · go_simp
      exact call_grow (heights_any w')
    obtain ⟨_, _, rfl⟩ := hu
    simp only [Act.put, List.setIfInBounds_toArray, List.set_cons_zero, List.set_cons_succ]
    repeat (first | (refine Gg.wpG_one rfl rfl rfl ?_; intro K hK; go_big_quiet_op; go_big_quiet_on) | (refine Gg.wpG_skip rfl ?_; simp only [Act.put, List.setIfInBounds_toArray, List.set_cons_zero, List.set_cons_succ]))
    refine Gg.wpG_make (SlN X #[I g.o.lo, I g.o.hi] 24 1) rfl rfl (fun w' hw' hk => ?_) (fun u hu => ?_)
    · go_simp
      exact sln_grow hw'
    obtain ⟨_, _, b2, rfl, _, _⟩ := hu
    simp only [Act.put, List.setIfInBounds_toArray, List.set_cons_zero, List.set_cons_succ]
    repeat (first | (refine Gg.wpG_one rfl rfl rfl ?_; intro K hK; go_big_quiet_op; go_big_quiet_on) | (refine Gg.wpG_skip rfl ?_; simp only [Act.put, List.setIfInBounds_toArray, List.set_cons_zero, List.set_cons_succ]))
    refine Gg.wpG_make (fun u _ => u = .bool (spn9 g.o (-1000000) 1000000)) rfl rfl (fun w' hw' hk => ?_) (fun u hu => ?_)
    · have hk3 := (hk ⟨21, .data⟩ (by simp) rfl _ _ _ rfl (.inr (by simp [undef])) rfl (by simp) rfl).now.at
      go_simp
      exact call_grow (hasRow hk3.1 (-1000000) 1000000)
    obtain ⟨_, _, rfl⟩ := hu
    rw [HF2.out]
    simp only [Act.put, List.setIfInBounds_toArray, List.set_cons_zero, List.set_cons_succ]
    repeat (first | (refine Gg.wpG_one rfl rfl rfl ?_; intro K hK; go_big_quiet_op; go_big_quiet_on) | (refine Gg.wpG_skip rfl ?_; simp only [Act.put, List.setIfInBounds_toArray, List.set_cons_zero, List.set_cons_succ]))
    refine Gg.wpG_nil (fun w5 hw5 hG => ?_)
    go_wp2_with fail
    go_ret
    exact ⟨by rw [HNO.out hbad]; rfl, HUT.out w5 hw5.le⟩
  have HF2 := Lib.hid t4
  rw [t4, Bool.true_and] at hB
  clear t4
  by_cases t5 : g.u < 0
  · have d5 : decide (g.u < 0) = true := decide_eq_true t5
    have hbad : gagB g k = false := by rw [hB.out, decide_eq_false (by omega)]; rfl
    refine Gg.wp_region_make (fun j => if j = 13 then some (SlN X #[I g.f.lo, I g.f.hi] 24 1) else if j = 14 then some (fun u _ => u = .bool (spn9 g.f 1 2000000)) else if j = 18 then some (fun u _ => u = .agg #[I (-1000000), I 1000000]) else if j = 21 then some (SlN X #[I g.o.lo, I g.o.hi] 24 1) else if j = 22 then some (fun u _ => u = .bool (spn9 g.o (-1000000) 1000000)) else none) (by kernel_rfl) (by kernel_rfl) (by kernel_rfl) ?_
    repeat (first | (refine Gg.wpG_one rfl rfl rfl ?_; intro K hK; go_big_quiet_op; go_big_quiet_on) | (refine Gg.wpG_skip rfl ?_; simp only [Act.put, List.setIfInBounds_toArray, List.set_cons_zero, List.set_cons_succ]))
    refine Gg.wpG_make (SlN X #[I g.f.lo, I g.f.hi] 24 1) rfl rfl (fun w' hw' hk => ?_) (fun u hu => ?_)
    · go_simp
      exact sln_grow hw'
    obtain ⟨_, _, b1, rfl, _, _⟩ := hu
    simp only [Act.put, List.setIfInBounds_toArray, List.set_cons_zero, List.set_cons_succ]
    repeat (first | (refine Gg.wpG_one rfl rfl rfl ?_; intro K hK; go_big_quiet_op; go_big_quiet_on) | (refine Gg.wpG_skip rfl ?_; simp only [Act.put, List.setIfInBounds_toArray, List.set_cons_zero, List.set_cons_succ]))
    refine Gg.wpG_make (fun u _ => u = .bool (spn9 g.f 1 2000000)) rfl rfl (fun w' hw' hk => ?_) (fun u hu => ?_)
    · have hk3 := (hk ⟨13, .data⟩ (by simp) rfl _ _ _ rfl (.inr (by simp [undef])) rfl (by simp) rfl).now.at
      go_simp
      exact call_grow (hasRow hk3.1 1 2000000)
    obtain ⟨_, _, rfl⟩ := hu
    rw [HF1.out]
    simp only [Act.put, List.setIfInBounds_toArray, List.set_cons_zero, List.set_cons_succ]
    repeat (first | (refine Gg.wpG_one rfl rfl rfl ?_; intro K hK; go_big_quiet_op; go_big_quiet_on) | (refine Gg.wpG_skip rfl ?_; simp only [Act.put, List.setIfInBounds_toArray, List.set_cons_zero, List.set_cons_succ]))
    refine Gg.wpG_make (fun u _ => u = .agg #[I (-1000000), I 1000000]) rfl rfl (fun w' hw' hk => ?_) (fun u hu => ?_)
    · go_simp
      exact call_grow (heights_any w')
    obtain ⟨_, _, rfl⟩ := hu
    simp only [Act.put, List.setIfInBounds_toArray, List.set_cons_zero, List.set_cons_succ]
    repeat (first | (refine Gg.wpG_one rfl rfl rfl ?_; intro K hK; go_big_quiet_op; go_big_quiet_on) | (refine Gg.wpG_skip rfl ?_; simp only [Act.put, List.setIfInBounds_toArray, List.set_cons_zero, List.set_cons_succ]))
    refine Gg.wpG_make (SlN X #[I g.o.lo, I g.o.hi] 24 1) rfl rfl (fun w' hw' hk => ?_) (fun u hu => ?_)
    · go_simp
      exact sln_grow hw'
    obtain ⟨_, _, b2, rfl, _, _⟩ := hu
    simp only [Act.put, List.setIfInBounds_toArray, List.set_cons_zero, List.set_cons_succ]
    repeat (first | (refine Gg.wpG_one rfl rfl rfl ?_; intro K hK; go_big_quiet_op; go_big_quiet_on) | (refine Gg.wpG_skip rfl ?_; simp only [Act.put, List.setIfInBounds_toArray, List.set_cons_zero, List.set_cons_succ]))
    refine Gg.wpG_make (fun u _ => u = .bool (spn9 g.o (-1000000) 1000000)) rfl rfl (fun w' hw' hk => ?_) (fun u hu => ?_)
    · have hk3 := (hk ⟨21, .data⟩ (by simp) rfl _ _ _ rfl (.inr (by simp [undef])) rfl (by simp) rfl).now.at
      go_simp
      exact call_grow (hasRow hk3.1 (-1000000) 1000000)
    obtain ⟨_, _, rfl⟩ := hu
    rw [HF2.out]
    simp only [Act.put, List.setIfInBounds_toArray, List.set_cons_zero, List.set_cons_succ]
    repeat (first | (refine Gg.wpG_one rfl rfl rfl ?_; intro K hK; go_big_quiet_op; go_big_quiet_on) | (refine Gg.wpG_skip rfl ?_; simp only [Act.put, List.setIfInBounds_toArray, List.set_cons_zero, List.set_cons_succ]))
    refine Gg.wpG_nil (fun w5 hw5 hG => ?_)
    go_wp2_with fail
    go_ret
    exact ⟨by rw [HNO.out hbad]; rfl, HUT.out w5 hw5.le⟩
  have d5 : decide (g.u < 0) = false := decide_eq_false t5
  by_cases t6 : 1000000 < g.u
  · have d6 : decide (1000000 < g.u) = true := decide_eq_true t6
    have hbad : gagB g k = false := by rw [hB.out, decide_eq_false (p := g.u ≤ 1000000) (by omega), Bool.and_false]
    refine Gg.wp_region_make (fun j => if j = 13 then some (SlN X #[I g.f.lo, I g.f.hi] 24 1) else if j = 14 then some (fun u _ => u = .bool (spn9 g.f 1 2000000)) else if j = 18 then some (fun u _ => u = .agg #[I (-1000000), I 1000000]) else if j = 21 then some (SlN X #[I g.o.lo, I g.o.hi] 24 1) else if j = 22 then some (fun u _ => u = .bool (spn9 g.o (-1000000) 1000000)) else none) (by kernel_rfl) (by kernel_rfl) (by kernel_rfl) ?_
    repeat (first | (refine Gg.wpG_one rfl rfl rfl ?_; intro K hK; go_big_quiet_op; go_big_quiet_on) | (refine Gg.wpG_skip rfl ?_; simp only [Act.put, List.setIfInBounds_toArray, List.set_cons_zero, List.set_cons_succ]))
    refine Gg.wpG_make (SlN X #[I g.f.lo, I g.f.hi] 24 1) rfl rfl (fun w' hw' hk => ?_) (fun u hu => ?_)
    · go_simp
      exact sln_grow hw'
    obtain ⟨_, _, b1, rfl, _, _⟩ := hu
    simp only [Act.put, List.setIfInBounds_toArray, List.set_cons_zero, List.set_cons_succ]
    repeat (first | (refine Gg.wpG_one rfl rfl rfl ?_; intro K hK; go_big_quiet_op; go_big_quiet_on) | (refine Gg.wpG_skip rfl ?_; simp only [Act.put, List.setIfInBounds_toArray, List.set_cons_zero, List.set_cons_succ]))
    refine Gg.wpG_make (fun u _ => u = .bool (spn9 g.f 1 2000000)) rfl rfl (fun w' hw' hk => ?_) (fun u hu => ?_)
    · have hk3 := (hk ⟨13, .data⟩ (by simp) rfl _ _ _ rfl (.inr (by simp [undef])) rfl (by simp) rfl).now.at
      go_simp
      exact call_grow (hasRow hk3.1 1 2000000)
    obtain ⟨_, _, rfl⟩ := hu
    rw [HF1.out]
    simp only [Act.put, List.setIfInBounds_toArray, List.set_cons_zero, List.set_cons_succ]
    repeat (first | (refine Gg.wpG_one rfl rfl rfl ?_; intro K hK; go_big_quiet_op; go_big_quiet_on) | (refine Gg.wpG_skip rfl ?_; simp only [Act.put, List.setIfInBounds_toArray, List.set_cons_zero, List.set_cons_succ]))
    refine Gg.wpG_make (fun u _ => u = .agg #[I (-1000000), I 1000000]) rfl rfl (fun w' hw' hk => ?_) (fun u hu => ?_)
    · go_simp
      exact call_grow (heights_any w')
    obtain ⟨_, _, rfl⟩ := hu
    simp only [Act.put, List.setIfInBounds_toArray, List.set_cons_zero, List.set_cons_succ]
    repeat (first | (refine Gg.wpG_one rfl rfl rfl ?_; intro K hK; go_big_quiet_op; go_big_quiet_on) | (refine Gg.wpG_skip rfl ?_; simp only [Act.put, List.setIfInBounds_toArray, List.set_cons_zero, List.set_cons_succ]))
    refine Gg.wpG_make (SlN X #[I g.o.lo, I g.o.hi] 24 1) rfl rfl (fun w' hw' hk => ?_) (fun u hu => ?_)
    · go_simp
      exact sln_grow hw'
    obtain ⟨_, _, b2, rfl, _, _⟩ := hu
    simp only [Act.put, List.setIfInBounds_toArray, List.set_cons_zero, List.set_cons_succ]
    repeat (first | (refine Gg.wpG_one rfl rfl rfl ?_; intro K hK; go_big_quiet_op; go_big_quiet_on) | (refine Gg.wpG_skip rfl ?_; simp only [Act.put, List.setIfInBounds_toArray, List.set_cons_zero, List.set_cons_succ]))
    refine Gg.wpG_make (fun u _ => u = .bool (spn9 g.o (-1000000) 1000000)) rfl rfl (fun w' hw' hk => ?_) (fun u hu => ?_)
    · have hk3 := (hk ⟨21, .data⟩ (by simp) rfl _ _ _ rfl (.inr (by simp [undef])) rfl (by simp) rfl).now.at
      go_simp
      exact call_grow (hasRow hk3.1 (-1000000) 1000000)
    obtain ⟨_, _, rfl⟩ := hu
    rw [HF2.out]
    simp only [Act.put, List.setIfInBounds_toArray, List.set_cons_zero, List.set_cons_succ]
    repeat (first | (refine Gg.wpG_one rfl rfl rfl ?_; intro K hK; go_big_quiet_op; go_big_quiet_on) | (refine Gg.wpG_skip rfl ?_; simp only [Act.put, List.setIfInBounds_toArray, List.set_cons_zero, List.set_cons_succ]))
    refine Gg.wpG_nil (fun w5 hw5 hG => ?_)
    go_wp2_with fail
    go_ret
    exact ⟨by rw [HNO.out hbad]; rfl, HUT.out w5 hw5.le⟩
  have d6 : decide (1000000 < g.u) = false := decide_eq_false t6
  have hgood : gagB g k = true := by rw [hB.out, decide_eq_true (by omega), decide_eq_true (by omega)]; rfl
  have HG := Lib.hid (HYES.out hgood)
  refine Gg.wp_region_make (fun j => if j = 13 then some (SlN X #[I g.f.lo, I g.f.hi] 24 1) else if j = 14 then some (fun u _ => u = .bool (spn9 g.f 1 2000000)) else if j = 18 then some (fun u _ => u = .agg #[I (-1000000), I 1000000]) else if j = 21 then some (SlN X #[I g.o.lo, I g.o.hi] 24 1) else if j = 22 then some (fun u _ => u = .bool (spn9 g.o (-1000000) 1000000)) else none) (by kernel_rfl) (by kernel_rfl) (by kernel_rfl) ?_
  repeat (first | (refine Gg.wpG_one rfl rfl rfl ?_; intro K hK; go_big_quiet_op; go_big_quiet_on) | (refine Gg.wpG_skip rfl ?_; simp only [Act.put, List.setIfInBounds_toArray, List.set_cons_zero, List.set_cons_succ]))
  refine Gg.wpG_make (SlN X #[I g.f.lo, I g.f.hi] 24 1) rfl rfl (fun w' hw' hk => ?_) (fun u hu => ?_)
  · go_simp
    exact sln_grow hw'
  obtain ⟨_, _, b1, rfl, _, _⟩ := hu
  simp only [Act.put, List.setIfInBounds_toArray, List.set_cons_zero, List.set_cons_succ]
  repeat (first | (refine Gg.wpG_one rfl rfl rfl ?_; intro K hK; go_big_quiet_op; go_big_quiet_on) | (refine Gg.wpG_skip rfl ?_; simp only [Act.put, List.setIfInBounds_toArray, List.set_cons_zero, List.set_cons_succ]))
  refine Gg.wpG_make (fun u _ => u = .bool (spn9 g.f 1 2000000)) rfl rfl (fun w' hw' hk => ?_) (fun u hu => ?_)
  · have hk3 := (hk ⟨13, .data⟩ (by simp) rfl _ _ _ rfl (.inr (by simp [undef])) rfl (by simp) rfl).now.at
    go_simp
    exact call_grow (hasRow hk3.1 1 2000000)
  obtain ⟨_, _, rfl⟩ := hu
  rw [HF1.out]
  simp only [Act.put, List.setIfInBounds_toArray, List.set_cons_zero, List.set_cons_succ]
  repeat (first | (refine Gg.wpG_one rfl rfl rfl ?_; intro K hK; go_big_quiet_op; go_big_quiet_on) | (refine Gg.wpG_skip rfl ?_; simp only [Act.put, List.setIfInBounds_toArray, List.set_cons_zero, List.set_cons_succ]))
  refine Gg.wpG_make (fun u _ => u = .agg #[I (-1000000), I 1000000]) rfl rfl (fun w' hw' hk => ?_) (fun u hu => ?_)
  · go_simp
    exact call_grow (heights_any w')
  obtain ⟨_, _, rfl⟩ := hu
  simp only [Act.put, List.setIfInBounds_toArray, List.set_cons_zero, List.set_cons_succ]
  repeat (first | (refine Gg.wpG_one rfl rfl rfl ?_; intro K hK; go_big_quiet_op; go_big_quiet_on) | (refine Gg.wpG_skip rfl ?_; simp only [Act.put, List.setIfInBounds_toArray, List.set_cons_zero, List.set_cons_succ]))
  refine Gg.wpG_make (SlN X #[I g.o.lo, I g.o.hi] 24 1) rfl rfl (fun w' hw' hk => ?_) (fun u hu => ?_)
  · go_simp
    exact sln_grow hw'
  obtain ⟨_, _, b2, rfl, _, _⟩ := hu
  simp only [Act.put, List.setIfInBounds_toArray, List.set_cons_zero, List.set_cons_succ]
  repeat (first | (refine Gg.wpG_one rfl rfl rfl ?_; intro K hK; go_big_quiet_op; go_big_quiet_on) | (refine Gg.wpG_skip rfl ?_; simp only [Act.put, List.setIfInBounds_toArray, List.set_cons_zero, List.set_cons_succ]))
  refine Gg.wpG_make (fun u _ => u = .bool (spn9 g.o (-1000000) 1000000)) rfl rfl (fun w' hw' hk => ?_) (fun u hu => ?_)
  · have hk3 := (hk ⟨21, .data⟩ (by simp) rfl _ _ _ rfl (.inr (by simp [undef])) rfl (by simp) rfl).now.at
    go_simp
    exact call_grow (hasRow hk3.1 (-1000000) 1000000)
  obtain ⟨_, _, rfl⟩ := hu
  rw [HF2.out]
  simp only [Act.put, List.setIfInBounds_toArray, List.set_cons_zero, List.set_cons_succ]
  repeat (first | (refine Gg.wpG_one rfl rfl rfl ?_; intro K hK; go_big_quiet_op; go_big_quiet_on) | (refine Gg.wpG_skip rfl ?_; simp only [Act.put, List.setIfInBounds_toArray, List.set_cons_zero, List.set_cons_succ]))
  refine Gg.wpG_nil (fun w5 hw5 hG => ?_)
  obtain ⟨v5, rfl⟩ := HUT2.out w5 hw5.le
  go_wp2_with fail
  go_roundw
  case rel => exact ⟨k + 1, v5, HLT.out, by go_num, rfl, HG.out⟩
  case measure => have := HLT.out; simp [intOf]; omega
end Go.Proofs.YtliolnfcgaflcaaGreat.Un
namespace Go.Proofs.YtliolnfcgaflcaaGreat.Un
open Go.RowKit
structure Sht where
 w : Int
 h : Int
 c : Rng
 s : List Rng
abbrev shA (x : Sht) (A : Option Addr) (n : Nat) : Array Value := #[I x.w, I x.h, I x.c.lo, I x.c.hi, .slice A x.s.length n]
def okSh (x : Sht) : Bool := decide (2 ≤ x.w) && (decide (x.w ≤ 6) && (decide (2 ≤ x.h) && (decide (x.h ≤ 6) && (decide ((x.s.length : Int) = x.w * x.h) && (all9 (-1000000) 1000000 x.s && spn9 x.c 0 10000000)))))
theorem okSh_iff {x : Sht} : okSh x = true ↔ (2 ≤ x.w ∧ x.w ≤ 6) ∧ (2 ≤ x.h ∧ x.h ≤ 6) ∧ (x.s.length : Int) = x.w * x.h ∧ all9 (-1000000) 1000000 x.s = true ∧ spn9 x.c 0 10000000 = true := by
 unfold okSh
 simp only [Bool.and_eq_true, decide_eq_true_eq]
 constructor
 · rintro ⟨h1, h2, h3, h4, h5, h6, h7⟩
   exact ⟨⟨h1, h2⟩, ⟨h3, h4⟩, h5, h6, h7⟩
 · rintro ⟨⟨h1, h2⟩, ⟨h3, h4⟩, h5, h6, h7⟩
   exact ⟨h1, h2, h3, h4, h5, h6, h7⟩
theorem sh_small {x : Sht} (h : okSh x = true) : x.s.length ≤ 36 := by
 obtain ⟨h1, h2, h3, _⟩ := okSh_iff.1 h
 have a := Int.mul_le_mul h1.2 h2.2 (by omega) (by omega : (0 : Int) ≤ 6)
 omega
set_option maxRecDepth 100000 in
set_option maxHeartbeats 4000000 in
theorem checkSheet_any (x : Sht) (A : Option Addr) (n : Nat) (w : World) (B : Nat) (hB : B ≤ w.heap.size) (hx : Rd w B 2 A x.s.length (rR x.s)) :
 Calls Tryz.prog 34 #[.agg (shA x A n)] w fun e w' => e = .returned (I (er9 (okSh x))) ∧ Below w.heap.size w w' := by
 have HX : Hid (∀ V, Below w.heap.size w V → Rd V B 2 A x.s.length (rR x.s) ∧ B ≤ V.heap.size) := fun V hV => ⟨hx.below (hV.mono hB), Nat.le_trans hB hV.size⟩
 have hf : Hid (okSh x = (decide (2 ≤ x.w) && (decide (x.w ≤ 6) && (decide (2 ≤ x.h) && (decide (x.h ≤ 6) && (decide ((x.s.length : Int) = x.w * x.h) && (all9 (-1000000) 1000000 x.s && spn9 x.c 0 10000000))))))) := rfl
 clear hx hB
 obtain ⟨W, hW⟩ : ∃ W, W = (w.alloc (.cells #[I x.w, I x.h, I x.c.lo, I x.c.hi, .slice A x.s.length n] 91)) := ⟨_, rfl⟩
 have rowW0 : W.heap[w.heap.size]? = some (.cells #[I x.w, I x.h, I x.c.lo, I x.c.hi, .slice A x.s.length n] 91 (0, 0)) := by rw [hW]; exact heap_last _ _ _ rfl
 have yW00 := ovr_cell (W := W) (b := w.heap.size) (o := 0) (v := I x.w) (by rw [cell_of_row _ _ _ _ _ _ rowW0]; rfl)
 have yW01 := ovr_cell (W := W) (b := w.heap.size) (o := 1) (v := I x.h) (by rw [cell_of_row _ _ _ _ _ _ rowW0]; rfl)
 have yW02 := ovr_cell (W := W) (b := w.heap.size) (o := 2) (v := I x.c.lo) (by rw [cell_of_row _ _ _ _ _ _ rowW0]; rfl)
 have yW03 := ovr_cell (W := W) (b := w.heap.size) (o := 3) (v := I x.c.hi) (by rw [cell_of_row _ _ _ _ _ _ rowW0]; rfl)
 have yW04 := ovr_cell (W := W) (b := w.heap.size) (o := 4) (v := .slice A x.s.length n) (by rw [cell_of_row _ _ _ _ _ _ rowW0]; rfl)
 have RrowW0 := Lib.hid (ovr_row rowW0)
 clear rowW0
 have HUW : Hid (∀ u, Below w.heap.size w (ovr W u)) := U1 hW
 have HW := Lib.hid hW
 clear hW
 have HUT : Hid (∀ V, Below W.heap.size W V → Below w.heap.size w V) := fun V h => by
  obtain ⟨v, rfl⟩ : ∃ v, V = ovr W v := ⟨V, ovr_of h⟩
  exact HUW.out v
 go_enter Tryz.func34, Tryz.ntmps34
 go_upto_region 1 with (fail)
 rw [← HW.out]
 by_cases t1 : x.w < 2
 · have d1 : decide (x.w < 2) = true := decide_eq_true t1
   have HNO : Hid (okSh x = false) := by show _ = _; rw [hf.out, decide_eq_false (by omega)]; rfl
   refine Gg.wp_region_make (fun _ => none) (by kernel_rfl) (by kernel_rfl) (by kernel_rfl) ?_
   repeat (first | (refine Gg.wpG_one rfl rfl rfl ?_; intro K hK; go_big_quiet_op; go_big_quiet_on) | (refine Gg.wpG_skip rfl ?_; simp only [Act.put, List.setIfInBounds_toArray, List.set_cons_zero, List.set_cons_succ]))
   refine Gg.wpG_nil (fun w5 hw5 hG => ?_)
   go_wp2_with fail
   go_ret
   exact ⟨by rw [HNO.out]; rfl, HUT.out w5 hw5.le⟩
 have d1 : decide (x.w < 2) = false := decide_eq_false t1
 by_cases t2 : 6 < x.w
 · have d2 : decide (6 < x.w) = true := decide_eq_true t2
   have HNO : Hid (okSh x = false) := by show _ = _; rw [hf.out, decide_eq_false (p := x.w ≤ 6) (by omega), Bool.false_and, Bool.and_false]
   refine Gg.wp_region_make (fun _ => none) (by kernel_rfl) (by kernel_rfl) (by kernel_rfl) ?_
   repeat (first | (refine Gg.wpG_one rfl rfl rfl ?_; intro K hK; go_big_quiet_op; go_big_quiet_on) | (refine Gg.wpG_skip rfl ?_; simp only [Act.put, List.setIfInBounds_toArray, List.set_cons_zero, List.set_cons_succ]))
   refine Gg.wpG_nil (fun w5 hw5 hG => ?_)
   go_wp2_with fail
   go_ret
   exact ⟨by rw [HNO.out]; rfl, HUT.out w5 hw5.le⟩
 have d2 : decide (6 < x.w) = false := decide_eq_false t2
 rw [decide_eq_true (p := 2 ≤ x.w) (by omega), decide_eq_true (p := x.w ≤ 6) (by omega), Bool.true_and, Bool.true_and] at hf
 by_cases t3 : x.h < 2
 · have d3 : decide (x.h < 2) = true := decide_eq_true t3
   have HNO : Hid (okSh x = false) := by show _ = _; rw [hf.out, decide_eq_false (by omega)]; rfl
   refine Gg.wp_region_make (fun _ => none) (by kernel_rfl) (by kernel_rfl) (by kernel_rfl) ?_
   repeat (first | (refine Gg.wpG_one rfl rfl rfl ?_; intro K hK; go_big_quiet_op; go_big_quiet_on) | (refine Gg.wpG_skip rfl ?_; simp only [Act.put, List.setIfInBounds_toArray, List.set_cons_zero, List.set_cons_succ]))
   refine Gg.wpG_nil (fun w5 hw5 hG => ?_)
   go_wp2_with fail
   go_ret
   exact ⟨by rw [HNO.out]; rfl, HUT.out w5 hw5.le⟩
 have d3 : decide (x.h < 2) = false := decide_eq_false t3
 by_cases t4 : 6 < x.h
 · have d4 : decide (6 < x.h) = true := decide_eq_true t4
   have HNO : Hid (okSh x = false) := by show _ = _; rw [hf.out, decide_eq_false (p := x.h ≤ 6) (by omega), Bool.false_and, Bool.and_false]
   refine Gg.wp_region_make (fun _ => none) (by kernel_rfl) (by kernel_rfl) (by kernel_rfl) ?_
   repeat (first | (refine Gg.wpG_one rfl rfl rfl ?_; intro K hK; go_big_quiet_op; go_big_quiet_on) | (refine Gg.wpG_skip rfl ?_; simp only [Act.put, List.setIfInBounds_toArray, List.set_cons_zero, List.set_cons_succ]))
   refine Gg.wpG_nil (fun w5 hw5 hG => ?_)
   go_wp2_with fail
   go_ret
   exact ⟨by rw [HNO.out]; rfl, HUT.out w5 hw5.le⟩
 have d4 : decide (6 < x.h) = false := decide_eq_false t4
 rw [decide_eq_true (p := 2 ≤ x.h) (by omega), decide_eq_true (p := x.h ≤ 6) (by omega), Bool.true_and, Bool.true_and] at hf
 have hmu : IntKind.i64.wrap (x.w * x.h) = x.w * x.h := IntWalk.i64_in _ (by
  have a := Int.mul_le_mul (show x.w ≤ 6 by omega) (show x.h ≤ 6 by omega) (by omega) (by omega : (0 : Int) ≤ 6)
  have b := Int.mul_nonneg (show 0 ≤ x.w by omega) (show 0 ≤ x.h by omega)
  omega)
 have h36 : x.w * x.h ≤ 36 := by
  have a := Int.mul_le_mul (show x.w ≤ 6 by omega) (show x.h ≤ 6 by omega) (by omega) (by omega : (0 : Int) ≤ 6)
  omega
 obtain ⟨m, hm⟩ : ∃ m, x.w * x.h = m := ⟨_, rfl⟩
 rw [hm] at hf hmu h36
 have H36 := Lib.hid h36
 clear t1 t2 t3 t4 h36
 rw [← hm] at hmu
 by_cases t5 : (x.s.length : Int) = m
 case neg =>
  have d5 : ((x.s.length : Int) != x.w * x.h) = true := by rw [hm]; simpa using t5
  have HNO : Hid (okSh x = false) := by show _ = _; rw [hf.out, decide_eq_false t5]; rfl
  clear t5 hm
  refine Gg.wp_region_make (fun _ => none) (by kernel_rfl) (by kernel_rfl) (by kernel_rfl) ?_
  repeat (first | (refine Gg.wpG_one rfl rfl rfl ?_; intro K hK; go_big_quiet_op; go_big_quiet_on) | (refine Gg.wpG_skip rfl ?_; simp only [Act.put, List.setIfInBounds_toArray, List.set_cons_zero, List.set_cons_succ]))
  refine Gg.wpG_nil (fun w5 hw5 hG => ?_)
  go_wp2_with fail
  go_ret
  exact ⟨by rw [HNO.out]; rfl, HUT.out w5 hw5.le⟩
 have d5 : ((x.s.length : Int) != x.w * x.h) = false := by rw [hm]; simpa using t5
 rw [decide_eq_true t5, Bool.true_and] at hf
 have HS : Hid (∀ V, Below w.heap.size w V → Calls Tryz.prog 16 #[.agg #[I (-1000000), I 1000000], .slice A x.s.length n] V fun e w' => e = .returned (.bool (all9 (-1000000) 1000000 x.s)) ∧ Below V.heap.size V w') := fun V hV =>
  has_any (-1000000) 1000000 A n x.s V B (by unfold maxLen; have := H36.out; omega) (HX.out V hV).2 (HX.out V hV).1
 clear t5 hm
 rcases t6 : all9 (-1000000) 1000000 x.s with _ | _
 · have HF1 := Lib.hid t6
   have HNO : Hid (okSh x = false) := by show _ = _; rw [hf.out, t6]; rfl
   clear t6
   refine Gg.wp_region_make (fun j => if j = 30 then some (fun u _ => u = .agg #[I (-1000000), I 1000000]) else if j = 33 then some (fun u _ => u = .bool (all9 (-1000000) 1000000 x.s)) else none) (by kernel_rfl) (by kernel_rfl) (by kernel_rfl) ?_
   repeat (first | (refine Gg.wpG_one rfl rfl rfl ?_; intro K hK; go_big_quiet_op; go_big_quiet_on) | (refine Gg.wpG_skip rfl ?_; simp only [Act.put, List.setIfInBounds_toArray, List.set_cons_zero, List.set_cons_succ]))
   refine Gg.wpG_make (fun u _ => u = .agg #[I (-1000000), I 1000000]) rfl rfl (fun w' hw' hk => ?_) (fun u hu => ?_)
   · go_simp
     exact call_grow (heights_any w')
   obtain ⟨_, _, rfl⟩ := hu
   simp only [Act.put, List.setIfInBounds_toArray, List.set_cons_zero, List.set_cons_succ]
   repeat (first | (refine Gg.wpG_one rfl rfl rfl ?_; intro K hK; go_big_quiet_op; go_big_quiet_on) | (refine Gg.wpG_skip rfl ?_; simp only [Act.put, List.setIfInBounds_toArray, List.set_cons_zero, List.set_cons_succ]))
   refine Gg.wpG_make (fun u _ => u = .bool (all9 (-1000000) 1000000 x.s)) rfl rfl (fun w' hw' hk => ?_) (fun u hu => ?_)
   · go_simp
     exact call_grow (HS.out w' (HUT.out w' hw'.le))
   obtain ⟨_, _, rfl⟩ := hu
   rw [HF1.out]
   simp only [Act.put, List.setIfInBounds_toArray, List.set_cons_zero, List.set_cons_succ]
   repeat (first | (refine Gg.wpG_one rfl rfl rfl ?_; intro K hK; go_big_quiet_op; go_big_quiet_on) | (refine Gg.wpG_skip rfl ?_; simp only [Act.put, List.setIfInBounds_toArray, List.set_cons_zero, List.set_cons_succ]))
   refine Gg.wpG_nil (fun w5 hw5 hG => ?_)
   go_wp2_with fail
   go_ret
   exact ⟨by rw [HNO.out]; rfl, HUT.out w5 hw5.le⟩
 have HF1 := Lib.hid t6
 rw [t6, Bool.true_and] at hf
 clear t6
 rcases t7 : spn9 x.c 0 10000000 with _ | _
 · have HF2 := Lib.hid t7
   have HNO : Hid (okSh x = false) := by show _ = _; rw [hf.out, t7]
   clear t7
   refine Gg.wp_region_make (fun j => if j = 30 then some (fun u _ => u = .agg #[I (-1000000), I 1000000]) else if j = 33 then some (fun u _ => u = .bool (all9 (-1000000) 1000000 x.s)) else if j = 37 then some (fun u _ => u = .agg #[I 0, I 10000000]) else if j = 40 then some (SlN W #[I x.c.lo, I x.c.hi] 24 1) else if j = 41 then some (fun u _ => u = .bool (spn9 x.c 0 10000000)) else none) (by kernel_rfl) (by kernel_rfl) (by kernel_rfl) ?_
   repeat (first | (refine Gg.wpG_one rfl rfl rfl ?_; intro K hK; go_big_quiet_op; go_big_quiet_on) | (refine Gg.wpG_skip rfl ?_; simp only [Act.put, List.setIfInBounds_toArray, List.set_cons_zero, List.set_cons_succ]))
   refine Gg.wpG_make (fun u _ => u = .agg #[I (-1000000), I 1000000]) rfl rfl (fun w' hw' hk => ?_) (fun u hu => ?_)
   · go_simp
     exact call_grow (heights_any w')
   obtain ⟨_, _, rfl⟩ := hu
   simp only [Act.put, List.setIfInBounds_toArray, List.set_cons_zero, List.set_cons_succ]
   repeat (first | (refine Gg.wpG_one rfl rfl rfl ?_; intro K hK; go_big_quiet_op; go_big_quiet_on) | (refine Gg.wpG_skip rfl ?_; simp only [Act.put, List.setIfInBounds_toArray, List.set_cons_zero, List.set_cons_succ]))
   refine Gg.wpG_make (fun u _ => u = .bool (all9 (-1000000) 1000000 x.s)) rfl rfl (fun w' hw' hk => ?_) (fun u hu => ?_)
   · go_simp
     exact call_grow (HS.out w' (HUT.out w' hw'.le))
   obtain ⟨_, _, rfl⟩ := hu
   rw [HF1.out]
   simp only [Act.put, List.setIfInBounds_toArray, List.set_cons_zero, List.set_cons_succ]
   repeat (first | (refine Gg.wpG_one rfl rfl rfl ?_; intro K hK; go_big_quiet_op; go_big_quiet_on) | (refine Gg.wpG_skip rfl ?_; simp only [Act.put, List.setIfInBounds_toArray, List.set_cons_zero, List.set_cons_succ]))
   refine Gg.wpG_make (fun u _ => u = .agg #[I 0, I 10000000]) rfl rfl (fun w' hw' hk => ?_) (fun u hu => ?_)
   · go_simp
     exact call_grow (amounts_any w')
   obtain ⟨_, _, rfl⟩ := hu
   simp only [Act.put, List.setIfInBounds_toArray, List.set_cons_zero, List.set_cons_succ]
   repeat (first | (refine Gg.wpG_one rfl rfl rfl ?_; intro K hK; go_big_quiet_op; go_big_quiet_on) | (refine Gg.wpG_skip rfl ?_; simp only [Act.put, List.setIfInBounds_toArray, List.set_cons_zero, List.set_cons_succ]))
   refine Gg.wpG_make (SlN W #[I x.c.lo, I x.c.hi] 24 1) rfl rfl (fun w' hw' hk => ?_) (fun u hu => ?_)
   · go_simp
     exact sln_grow hw'
   obtain ⟨_, _, b2, rfl, _, _⟩ := hu
   simp only [Act.put, List.setIfInBounds_toArray, List.set_cons_zero, List.set_cons_succ]
   repeat (first | (refine Gg.wpG_one rfl rfl rfl ?_; intro K hK; go_big_quiet_op; go_big_quiet_on) | (refine Gg.wpG_skip rfl ?_; simp only [Act.put, List.setIfInBounds_toArray, List.set_cons_zero, List.set_cons_succ]))
   refine Gg.wpG_make (fun u _ => u = .bool (spn9 x.c 0 10000000)) rfl rfl (fun w' hw' hk => ?_) (fun u hu => ?_)
   · have hk3 := (hk ⟨40, .data⟩ (by simp) rfl _ _ _ rfl (.inr (by simp [undef])) rfl (by simp) rfl).now.at
     go_simp
     exact call_grow (hasRow hk3.1 0 10000000)
   obtain ⟨_, _, rfl⟩ := hu
   rw [HF2.out]
   simp only [Act.put, List.setIfInBounds_toArray, List.set_cons_zero, List.set_cons_succ]
   repeat (first | (refine Gg.wpG_one rfl rfl rfl ?_; intro K hK; go_big_quiet_op; go_big_quiet_on) | (refine Gg.wpG_skip rfl ?_; simp only [Act.put, List.setIfInBounds_toArray, List.set_cons_zero, List.set_cons_succ]))
   refine Gg.wpG_nil (fun w5 hw5 hG => ?_)
   go_wp2_with fail
   go_ret
   exact ⟨by rw [HNO.out]; rfl, HUT.out w5 hw5.le⟩
 have HF2 := Lib.hid t7
 have HNO : Hid (okSh x = true) := by show _ = _; rw [hf.out, t7]
 clear t7
 refine Gg.wp_region_make (fun j => if j = 30 then some (fun u _ => u = .agg #[I (-1000000), I 1000000]) else if j = 33 then some (fun u _ => u = .bool (all9 (-1000000) 1000000 x.s)) else if j = 37 then some (fun u _ => u = .agg #[I 0, I 10000000]) else if j = 40 then some (SlN W #[I x.c.lo, I x.c.hi] 24 1) else if j = 41 then some (fun u _ => u = .bool (spn9 x.c 0 10000000)) else none) (by kernel_rfl) (by kernel_rfl) (by kernel_rfl) ?_
 repeat (first | (refine Gg.wpG_one rfl rfl rfl ?_; intro K hK; go_big_quiet_op; go_big_quiet_on) | (refine Gg.wpG_skip rfl ?_; simp only [Act.put, List.setIfInBounds_toArray, List.set_cons_zero, List.set_cons_succ]))
 refine Gg.wpG_make (fun u _ => u = .agg #[I (-1000000), I 1000000]) rfl rfl (fun w' hw' hk => ?_) (fun u hu => ?_)
 · go_simp
   exact call_grow (heights_any w')
 obtain ⟨_, _, rfl⟩ := hu
 simp only [Act.put, List.setIfInBounds_toArray, List.set_cons_zero, List.set_cons_succ]
 repeat (first | (refine Gg.wpG_one rfl rfl rfl ?_; intro K hK; go_big_quiet_op; go_big_quiet_on) | (refine Gg.wpG_skip rfl ?_; simp only [Act.put, List.setIfInBounds_toArray, List.set_cons_zero, List.set_cons_succ]))
 refine Gg.wpG_make (fun u _ => u = .bool (all9 (-1000000) 1000000 x.s)) rfl rfl (fun w' hw' hk => ?_) (fun u hu => ?_)
 · go_simp
   exact call_grow (HS.out w' (HUT.out w' hw'.le))
 obtain ⟨_, _, rfl⟩ := hu
 rw [HF1.out]
 simp only [Act.put, List.setIfInBounds_toArray, List.set_cons_zero, List.set_cons_succ]
 repeat (first | (refine Gg.wpG_one rfl rfl rfl ?_; intro K hK; go_big_quiet_op; go_big_quiet_on) | (refine Gg.wpG_skip rfl ?_; simp only [Act.put, List.setIfInBounds_toArray, List.set_cons_zero, List.set_cons_succ]))
 refine Gg.wpG_make (fun u _ => u = .agg #[I 0, I 10000000]) rfl rfl (fun w' hw' hk => ?_) (fun u hu => ?_)
 · go_simp
   exact call_grow (amounts_any w')
 obtain ⟨_, _, rfl⟩ := hu
 simp only [Act.put, List.setIfInBounds_toArray, List.set_cons_zero, List.set_cons_succ]
 repeat (first | (refine Gg.wpG_one rfl rfl rfl ?_; intro K hK; go_big_quiet_op; go_big_quiet_on) | (refine Gg.wpG_skip rfl ?_; simp only [Act.put, List.setIfInBounds_toArray, List.set_cons_zero, List.set_cons_succ]))
 refine Gg.wpG_make (SlN W #[I x.c.lo, I x.c.hi] 24 1) rfl rfl (fun w' hw' hk => ?_) (fun u hu => ?_)
 · go_simp
   exact sln_grow hw'
 obtain ⟨_, _, b2, rfl, _, _⟩ := hu
 simp only [Act.put, List.setIfInBounds_toArray, List.set_cons_zero, List.set_cons_succ]
 repeat (first | (refine Gg.wpG_one rfl rfl rfl ?_; intro K hK; go_big_quiet_op; go_big_quiet_on) | (refine Gg.wpG_skip rfl ?_; simp only [Act.put, List.setIfInBounds_toArray, List.set_cons_zero, List.set_cons_succ]))
 refine Gg.wpG_make (fun u _ => u = .bool (spn9 x.c 0 10000000)) rfl rfl (fun w' hw' hk => ?_) (fun u hu => ?_)
 · have hk3 := (hk ⟨40, .data⟩ (by simp) rfl _ _ _ rfl (.inr (by simp [undef])) rfl (by simp) rfl).now.at
   go_simp
   exact call_grow (hasRow hk3.1 0 10000000)
 obtain ⟨_, _, rfl⟩ := hu
 rw [HF2.out]
 simp only [Act.put, List.setIfInBounds_toArray, List.set_cons_zero, List.set_cons_succ]
 repeat (first | (refine Gg.wpG_one rfl rfl rfl ?_; intro K hK; go_big_quiet_op; go_big_quiet_on) | (refine Gg.wpG_skip rfl ?_; simp only [Act.put, List.setIfInBounds_toArray, List.set_cons_zero, List.set_cons_succ]))
 refine Gg.wpG_nil (fun w5 hw5 hG => ?_)
 go_wp2_with fail
 go_ret
 exact ⟨by rw [HNO.out]; rfl, HUT.out w5 hw5.le⟩
end Go.Proofs.YtliolnfcgaflcaaGreat.Un
namespace Go.Proofs.YtliolnfcgaflcaaGreat.Un
open Go.RowKit
def hu9 (xs : List Rng) : Rng := foK huF xs (xs.length - 1)
theorem foK_hu (xs : List Rng) : ∀ k, k < xs.length → (∀ j, j ≤ k → (foK huF xs k).lo ≤ (at0 xs j).lo ∧ (at0 xs j).hi ≤ (foK huF xs k).hi) ∧ (∃ j, j ≤ k ∧ (foK huF xs k).lo = (at0 xs j).lo) ∧ ∃ j, j ≤ k ∧ (foK huF xs k).hi = (at0 xs j).hi
 | 0, _ => ⟨fun j hj => by obtain rfl : j = 0 := by omega
                           exact ⟨Int.le_refl _, Int.le_refl _⟩, ⟨0, Nat.le_refl _, rfl⟩, 0, Nat.le_refl _, rfl⟩
 | k + 1, h => by
   obtain ⟨h1, ⟨j2, h2, e2⟩, j3, h3, e3⟩ := foK_hu xs k (by omega)
   have el : (foK huF xs (k + 1)).lo = min (foK huF xs k).lo (at0 xs (k + 1)).lo := rfl
   have eh : (foK huF xs (k + 1)).hi = max (foK huF xs k).hi (at0 xs (k + 1)).hi := rfl
   refine ⟨fun j hj => ?_, ?_, ?_⟩
   · rw [el, eh]
     rcases Nat.lt_or_ge j (k + 1) with hh | hh
     · have := h1 j (by omega); omega
     · obtain rfl : j = k + 1 := by omega
       omega
   · rw [el]
     rcases Int.le_total (foK huF xs k).lo (at0 xs (k + 1)).lo with hh | hh
     · exact ⟨j2, by omega, by rw [← e2]; omega⟩
     · exact ⟨k + 1, Nat.le_refl _, by omega⟩
   · rw [eh]
     rcases Int.le_total (foK huF xs k).hi (at0 xs (k + 1)).hi with hh | hh
     · exact ⟨k + 1, Nat.le_refl _, by omega⟩
     · exact ⟨j3, by omega, by rw [← e3]; omega⟩
theorem hu9_spec {xs : List Rng} (h : 0 < xs.length) : (∀ j, j < xs.length → (hu9 xs).lo ≤ (at0 xs j).lo ∧ (at0 xs j).hi ≤ (hu9 xs).hi) ∧ (∃ j, j < xs.length ∧ (hu9 xs).lo = (at0 xs j).lo) ∧ ∃ j, j < xs.length ∧ (hu9 xs).hi = (at0 xs j).hi := by
 obtain ⟨h1, ⟨j2, h2, e2⟩, j3, h3, e3⟩ := foK_hu xs (xs.length - 1) (by omega)
 exact ⟨fun j hj => h1 j (by omega), ⟨j2, by omega, e2⟩, j3, by omega, e3⟩
theorem all9_at {l h : Int} {xs : List Rng} (ha : all9 l h xs = true) {j : Nat} (hj : j < xs.length) : l ≤ (at0 xs j).lo ∧ (at0 xs j).lo ≤ (at0 xs j).hi ∧ (at0 xs j).hi ≤ h := by
 have := all9_iff.1 ha (at0 xs j) (by rw [at0_get hj]; exact List.getElem_mem hj)
 exact spn9_iff.1 this
theorem hu9_bd {l h : Int} {xs : List Rng} (h0 : 0 < xs.length) (ha : all9 l h xs = true) : l ≤ (hu9 xs).lo ∧ (hu9 xs).lo ≤ (hu9 xs).hi ∧ (hu9 xs).hi ≤ h := by
 obtain ⟨h1, ⟨j2, h2, e2⟩, j3, h3, e3⟩ := hu9_spec h0
 have a2 := all9_at ha h2
 have a3 := all9_at ha h3
 have a1 := h1 j2 h2
 omega
theorem rngsOk_of {l h : Int} {xs : List Rng} (hl : -1000000000000000 ≤ l) (hh : h ≤ 1000000000000000) (ha : all9 l h xs = true) : rngsOk xs = true := by
 unfold rngsOk
 rw [Bool.not_eq_true']
 rcases hq : xs.any badR with _ | _
 · rfl
 · obtain ⟨r, hr, hb⟩ := List.any_eq_true.1 hq
   have := spn9_iff.1 (all9_iff.1 ha r hr)
   unfold badR at hb
   rw [rngOk_iff.2 (by omega)] at hb
   cases hb
theorem foF_hu {xs : List Rng} (h0 : 0 < xs.length) (h100 : xs.length ≤ 100) {l h : Int} (hl : -1000000000000000 ≤ l) (hh : h ≤ 1000000000000000) (ha : all9 l h xs = true) : foF huF xs = (hu9 xs, 0) := by
 unfold foF
 have hc : chk xs = 0 := by unfold chk; rw [if_neg (by omega), rngsOk_of hl hh ha]; rfl
 rw [if_pos hc, if_neg (by omega)]
 have hb := hu9_bd h0 ha
 unfold hu9 at hb
 rw [if_neg (by omega)]
 rfl
theorem sh_pos {x : Sht} (h : okSh x = true) : 0 < x.s.length := by
 obtain ⟨h1, h2, h3, _⟩ := okSh_iff.1 h
 have := Int.mul_pos (show 0 < x.w by omega) (show 0 < x.h by omega)
 omega
theorem er9_t : er9 true = 0 := rfl
theorem er9_f : er9 false = 2 := rfl
def th9 (x : Sht) : Rng := ⟨x.c.lo + (hu9 x.s).lo, x.c.hi + (hu9 x.s).hi⟩
theorem suF_two {a b : Rng} (ha : rngOk a = true) (hb : rngOk b = true) : suF [a, b] = fiF (a.lo + b.lo) (a.hi + b.hi) := by
 have hr : rngsOk [a, b] = true := by unfold rngsOk badR; simp [ha, hb]
 have hc : chk [a, b] = 0 := by unfold chk; rw [if_neg (by simp), hr]; rfl
 unfold suF
 rw [if_pos hc]
 show fiF (0 + a.lo + b.lo) (0 + a.hi + b.hi) = _
 rw [Int.zero_add, Int.zero_add]
theorem fiF_ok {lo hi : Int} (h1 : -1000000000000000 ≤ lo ∧ lo ≤ 1000000000000000) (h2 : -1000000000000000 ≤ hi ∧ hi ≤ 1000000000000000) : fiF lo hi = (⟨lo, hi⟩, 0) := by
 unfold fiF
 rw [numB_iff.2 h1, numB_iff.2 h2]
 rfl
def thF (x : Sht) : Rng × Int := if okSh x then (th9 x, 0) else (⟨0, 0⟩, 2)
theorem th9_su {x : Sht} (h : okSh x = true) : suF [hu9 x.s, x.c] = (th9 x, 0) := by
 have h1 := hu9_bd (sh_pos h) (okSh_iff.1 h).2.2.2.1
 have h2 := spn9_iff.1 (okSh_iff.1 h).2.2.2.2
 rw [suF_two (rngOk_iff.2 (by omega)) (rngOk_iff.2 (by omega)), fiF_ok (by omega) (by omega)]
 unfold th9
 rw [Int.add_comm x.c.lo, Int.add_comm x.c.hi]
theorem rd_row2 {w : World} {b : Nat} {r s : Rng} {t : TypeId} (h : w.heap[b]? = some (.cells #[I r.lo, I r.hi, I s.lo, I s.hi] t (0, 0))) : Rd w w.heap.size 2 (some ⟨b, 0, none⟩) 2 (rR [r, s]) :=
 Rd_new h 2 2 0 _ (fun k hk j hj => by
  rcases k with _ | _ | k
  · rcases j with _ | _ | j
    · rfl
    · rfl
    · omega
  · rcases j with _ | _ | j
    · rfl
    · rfl
    · omega
  · omega)
theorem sumRow {w : World} {b : Nat} {r s : Rng} {t : TypeId} (h : w.heap[b]? = some (.cells #[I r.lo, I r.hi, I s.lo, I s.hi] t (0, 0))) :
 Calls Tryz.prog 20 #[.slice (some ⟨b, 0, none⟩) 2 2] w (RetRn w (suF [r, s])) :=
 sum_any (some ⟨b, 0, none⟩) 2 2 [r, s] w w.heap.size rfl (by unfold maxLen; omega) (Nat.le_refl _) (rd_row2 h)
end Go.Proofs.YtliolnfcgaflcaaGreat.Un
namespace Go.Proofs.YtliolnfcgaflcaaGreat.Un
open Go.RowKit
theorem results_cell_ttt {P : Program} {fn : Func} {p t1 t2 t3 : Tmp} {ty : TypeId} (h : fn.results = #[.cell p ty, .tmp t1, .tmp t2, .tmp t3]) (tmps : Array Value) (w : World) (g : Nat) (t : TypeId) (cs : Array Value) (fr : Nat × Nat) (d : TypeDesc)
 (hp : tmps.getD p undef = .pointer (some ⟨g, 0, none⟩)) (hg : w.heap[g]? = some (.cells cs t fr))
 (hu : P.underlying ty = some d) (hd : (match d with | .struct _ | .array _ _ => true | _ => false) = true) (hi : (P.info? ty).map (·.size) = some cs.size) :
 (results fn tmps).run P w = .ok (.tuple #[.agg cs, tmps.getD t1 undef, tmps.getD t2 undef, tmps.getD t3 undef]) w := by
 have hp' : tmps[p]?.getD undef = .pointer (some ⟨g, 0, none⟩) := by simpa using hp
 simp [results, h, hp', asAddr, run_loadVar_row w g t ty cs fr d hg hu hd hi]
theorem sc_below {k : Nat} {a w : World} (h : Below k a w) {b : Nat} (hb : k ≤ b) (o : Nat) (v : Value) : Below k a (w.setCell ⟨b, o, none⟩ v) := h.setCell (p := ⟨b, o, none⟩) hb v
theorem sc_size (w : World) (b o : Nat) (v : Value) : w.heap.size ≤ (w.setCell ⟨b, o, none⟩ v).heap.size := (sc_below (Below.refl 0 w) (Nat.zero_le b) o v).size
theorem sc_other {w : World} {k b o : Nat} {v : Value} {x : Obj} (h : w.heap[k]? = some x) (hn : k ≠ b) : (w.setCell ⟨b, o, none⟩ v).heap[k]? = some x := (heap_setCell_other w ⟨b, o, none⟩ k v hn).trans h
structure Vst where
 lo : Int
 hi : Int
 a : Int
 b : Int
def vaS (xs : List Rng) (i : Nat) (s : Vst) (k : Nat) : Vst :=
 if i ≠ k ∧ s.hi < (at0 xs i).hi - (at0 xs k).lo then ⟨max s.lo ((at0 xs i).lo - (at0 xs k).hi), (at0 xs i).hi - (at0 xs k).lo, i, k⟩ else ⟨max s.lo ((at0 xs i).lo - (at0 xs k).hi), s.hi, s.a, s.b⟩
def vaI (xs : List Rng) (i : Nat) (s : Vst) : Nat → Vst
 | 0 => s | k + 1 => vaS xs i (vaI xs i s k) k
def vaO (xs : List Rng) : Nat → Vst
 | 0 => ⟨0, -1, 0, 0⟩ | i + 1 => vaI xs i (vaO xs i) xs.length
def va9 (x : Sht) : Vst := if okSh x then vaO x.s x.s.length else ⟨0, 0, 0, 0⟩
def vaE (x : Sht) : Int := er9 (okSh x)
def VaB (s : Vst) : Prop := (0 ≤ s.lo ∧ s.lo ≤ 2000000) ∧ -2000000 ≤ s.hi ∧ s.hi ≤ 2000000
theorem vaS_bd {xs : List Rng} (ha : all9 (-1000000) 1000000 xs = true) {i k : Nat} (hi : i < xs.length) (hk : k < xs.length) {s : Vst} (h : VaB s) : VaB (vaS xs i s k) := by
 have a1 := all9_at ha hi
 have a2 := all9_at ha hk
 unfold VaB at *
 unfold vaS
 split <;> simp only <;> omega
theorem vaI_bd {xs : List Rng} (ha : all9 (-1000000) 1000000 xs = true) {i : Nat} (hi : i < xs.length) {s : Vst} (h : VaB s) : ∀ k, k ≤ xs.length → VaB (vaI xs i s k)
 | 0, _ => h
 | k + 1, hk => vaS_bd ha hi (by omega) (vaI_bd ha hi h k (by omega))
theorem vaO_bd {xs : List Rng} (ha : all9 (-1000000) 1000000 xs = true) : ∀ i, i ≤ xs.length → VaB (vaO xs i)
 | 0, _ => by unfold VaB vaO; simp
 | i + 1, hi => vaI_bd ha (by omega) (vaO_bd ha i (by omega)) xs.length (Nat.le_refl _)
def VaW (w0 : World) (x : Sht) (A : Option Addr) (n : Nat) (s : Vst) (wr : World) : Prop := Below w0.heap.size w0 wr ∧ w0.heap.size + 2 ≤ wr.heap.size ∧ wr.heap[w0.heap.size]? = some (.cells #[I x.w, I x.h, I x.c.lo, I x.c.hi, .slice A x.s.length n] 91 (0, 0)) ∧ wr.heap[w0.heap.size + 1]? = some (.cells #[I s.lo, I s.hi] 24 (0, 0))
end Go.Proofs.YtliolnfcgaflcaaGreat.Un
