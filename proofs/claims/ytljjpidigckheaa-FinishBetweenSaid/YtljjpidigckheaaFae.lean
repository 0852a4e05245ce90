/- Contracts of limits.has, amounts, heights of package finish. Contract of CheckGauges of package finish. Contracts of CheckSheet, hull, Thickness of package finish. Contracts of hull and Thickness of package finish. Contract of Variation of package finish. -/
import Derived.Test.YtljjpidigckheaaU5
import Derived.Test.YtljjpidigckheaaHp
import Derived.Test.YtljjpidigckheaaJo
import Derived.Test.YtljjpidigckheaaMkg
import Derived.Test.YtljjpidigckheaaSqf
namespace Go.Proofs.Ytljjpidigckheaa.Un
open Go.RowKit
def spn9 (r : Rng) (l h : Int) : Bool := decide (l ≤ r.lo) && (decide (r.lo ≤ r.hi) && decide (r.hi ≤ h))
theorem spn9_iff {r : Rng} {l h : Int} : spn9 r l h = true ↔ l ≤ r.lo ∧ r.lo ≤ r.hi ∧ r.hi ≤ h := by
 unfold spn9
 rw [Bool.and_eq_true, Bool.and_eq_true, decide_eq_true_eq, decide_eq_true_eq, decide_eq_true_eq]
def bad9 (l h : Int) (r : Rng) : Bool := !spn9 r l h
set_option maxRecDepth 100000 in
set_option maxHeartbeats 1000000 in
theorem has1_any (r : Rng) (l h : Int) (b : Nat) (w : World) (hb : b < w.heap.size) (hc0 : w.cell? ⟨b, 0, none⟩ = some (I l)) (hc1 : w.cell? ⟨b, 1, none⟩ = some (I h)) :
 Calls Try.prog 88 #[.agg #[I r.lo, I r.hi], .pointer (some ⟨b, 0, none⟩)] w fun e w' => e = .returned (.bool (bad9 l h r)) ∧ Below w.heap.size w w' := by
 obtain ⟨W, hW⟩ : ∃ W, W = w.alloc (.cells #[I r.lo, I r.hi] 24) := ⟨_, rfl⟩
 have hB : Hid (Below w.heap.size w W) := by show _; rw [hW]; exact (Below.refl _ _).alloc (Nat.le_refl _) _
 have x0 : W.cell? ⟨b, 0, none⟩ = some (I l) := by rw [hW]; exact (((Below.refl _ _).alloc (Nat.le_refl _) _).cell (p := ⟨b, 0, none⟩) hb).trans hc0
 have x1 : W.cell? ⟨b, 1, none⟩ = some (I h) := by rw [hW]; exact (((Below.refl _ _).alloc (Nat.le_refl _) _).cell (p := ⟨b, 1, none⟩) hb).trans hc1
 have r0 : W.heap[w.heap.size]? = some (.cells #[I r.lo, I r.hi] 24 (0, 0)) := by rw [hW]; exact heap_last _ _ _ rfl
 have y0 : W.cell? ⟨w.heap.size, 0, none⟩ = some (I r.lo) := by rw [cell_of_row _ _ _ _ _ _ r0]; rfl
 have y1 : W.cell? ⟨w.heap.size, 1, none⟩ = some (I r.hi) := by rw [cell_of_row _ _ _ _ _ _ r0]; rfl
 have HW := Lib.hid hW
 have hf : Hid (bad9 l h r = !(decide (l ≤ r.lo) && (decide (r.lo ≤ r.hi) && decide (r.hi ≤ h)))) := rfl
 clear hW hc0 hc1 r0
 by_cases h1 : l ≤ r.lo
 case neg =>
  rw [decide_eq_false h1] at hf
  have d1 : decide (r.lo < l) = true := decide_eq_true (by omega)
  clear h1
  go_enter Try.func88, Try.ntmps88
  go_upto_region 1 with (fail)
  rw [← HW.out]
  go_wp2_with fail
  go_ret
  exact ⟨by rw [hf.out]; rfl, hB.out⟩
 by_cases h2 : r.lo ≤ r.hi
 case neg =>
  rw [decide_eq_true h1, decide_eq_false h2] at hf
  have d1 : decide (r.lo < l) = false := decide_eq_false (by omega)
  have d2 : decide (r.hi < r.lo) = true := decide_eq_true (by omega)
  clear h1 h2
  go_enter Try.func88, Try.ntmps88
  go_upto_region 1 with (fail)
  rw [← HW.out]
  go_wp2_with fail
  go_ret
  exact ⟨by rw [hf.out]; rfl, hB.out⟩
 have d1 : decide (r.lo < l) = false := decide_eq_false (by omega)
 have d2 : decide (r.hi < r.lo) = false := decide_eq_false (by omega)
 by_cases h3 : r.hi ≤ h
 case neg =>
  rw [decide_eq_true h1, decide_eq_true h2, decide_eq_false h3] at hf
  have d3 : decide (h < r.hi) = true := decide_eq_true (by omega)
  clear h1 h2 h3
  go_enter Try.func88, Try.ntmps88
  go_upto_region 1 with (fail)
  rw [← HW.out]
  go_wp2_with fail
  go_ret
  exact ⟨by rw [hf.out]; rfl, hB.out⟩
 rw [decide_eq_true h1, decide_eq_true h2, decide_eq_true h3] at hf
 have d3 : decide (h < r.hi) = false := decide_eq_false (by omega)
 clear h1 h2 h3
 go_enter Try.func88, Try.ntmps88
 go_upto_region 1 with (fail)
 rw [← HW.out]
 go_wp2_with fail
 go_ret
 exact ⟨by rw [hf.out]; rfl, hB.out⟩
set_option maxHeartbeats 1000000 in
theorem ix_has (l h : Int) (b : Nat) (A : Option Addr) (c : Nat) (xs : List Rng) (w : World) (B : Nat) (hm : xs.length ≤ maxLen) (hB : B ≤ w.heap.size) (hx : Rd w B 2 A xs.length (rR xs)) (hb : b < w.heap.size) (hc0 : w.cell? ⟨b, 0, none⟩ = some (I l)) (hc1 : w.cell? ⟨b, 1, none⟩ = some (I h)) :
 Calls Try.prog 114 #[.slice A xs.length c, .func (Fn.func 88) #[] #[.pointer (some ⟨b, 0, none⟩)]] w fun e w' => e = .returned (.int .i64 (ixOf (bad9 l h) xs)) ∧ Below w.heap.size w w' := by
 unfold maxLen at hm
 have HX : Hid (∀ u, Rd (ovr w u) B 2 A xs.length (rR xs)) := fun u => hx.below ((ovr_below w u).mono hB)
 have HC : Hid (∀ u (r : Rng), Calls Try.prog 88 #[.agg #[I r.lo, I r.hi], .pointer (some ⟨b, 0, none⟩)] (ovr w u) fun e w' => e = .returned (.bool (bad9 l h r)) ∧ Below (ovr w u).heap.size (ovr w u) w') := fun u r =>
  has1_any r l h b (ovr w u) (Nat.lt_of_lt_of_le hb (ovr_below w u).size) (((ovr_below w u).cell (p := ⟨b, 0, none⟩) hb).trans hc0) (((ovr_below w u).cell (p := ⟨b, 1, none⟩) hb).trans hc1)
 obtain ⟨u0, hu0⟩ := ovr_self w
 have H0 := Lib.hid hu0
 clear hx hB hu0 hb hc0 hc1
 go_enter Try.func114, Try.ntmps114
 go_wp2
 go_loopw [8] (fun i wr => ∃ k : Nat, k ≤ xs.length ∧ i = .int .i64 k ∧ (∀ j, j < k → bad9 l h (at0 xs j) = false) ∧ ∃ u, wr = ovr w u) (fun i _ => xs.length - (intOf i).toNat)
 case atStart => exact ⟨0, by omega, rfl, fun j hj => absurd hj (by omega), u0, H0.out⟩
 case round =>
  obtain ⟨k, hk, rfl, hb, u, rfl⟩ := hrel
  have Hb := Lib.hid hb
  clear hb
  by_cases hlt : k < xs.length
  · obtain ⟨b', o, rfl, _, e0, e1⟩ := (HX.out u).rng hlt
    have ca := HC.out u (at0 xs k)
    rcases hp : bad9 l h (at0 xs k) with _ | _
    · rw [hp] at ca
      have Ca := Lib.hid ca
      clear ca
      go_wp2_with fail
      refine Ca.out.mono ?_
      rintro e w1 ⟨rfl, hb1⟩
      obtain ⟨u1, rfl⟩ := ovr_next hb1
      clear hb1
      go_wp2_with fail
      go_roundw
      case rel => exact ⟨k + 1, by omega, by go_num, succ_case Hb.out hp, u1, rfl⟩
      case measure => simp [intOf]; omega
    · rw [hp] at ca
      have Ca := Lib.hid ca
      have hfin := Lib.hid (ixOf_at hlt hp Hb.out)
      clear ca
      go_wp2_with fail
      refine Ca.out.mono ?_
      rintro e w1 ⟨rfl, hb1⟩
      obtain ⟨u1, rfl⟩ := ovr_next hb1
      clear hb1
      go_wp2_with fail
      go_ret
      exact ⟨ret_int hfin.out.symm, ovr_below _ _⟩
  · have hfin : Hid (ixOf (bad9 l h) xs = -1) := ixOf_none0 fun j hj => Hb.out j (by omega)
    go_wp2
    go_ret
    exact ⟨ret_int hfin.out.symm, ovr_below _ _⟩
set_option maxHeartbeats 1000000 in
theorem con_has (l h : Int) (b : Nat) (A : Option Addr) (c : Nat) (xs : List Rng) (w : World) (B : Nat) (hm : xs.length ≤ maxLen) (hB : B ≤ w.heap.size) (hx : Rd w B 2 A xs.length (rR xs)) (hb : b < w.heap.size) (hc0 : w.cell? ⟨b, 0, none⟩ = some (I l)) (hc1 : w.cell? ⟨b, 1, none⟩ = some (I h)) :
 Calls Try.prog 87 #[.slice A xs.length c, .func (Fn.func 88) #[] #[.pointer (some ⟨b, 0, none⟩)]] w fun e w' => e = .returned (.bool (xs.any (bad9 l h))) ∧ Below w.heap.size w w' := by
 have hfin := ixOf_any (p := bad9 l h) (xs := xs)
 have cx := Lib.hid (ix_has l h b A c xs w B hm hB hx hb hc0 hc1)
 clear hx hB hm hb hc0 hc1
 go_enter Try.func87, Try.ntmps87
 go_wp2_with fail
 refine cx.out.mono ?_
 rintro e w' ⟨rfl, hb⟩
 have HB := Lib.hid hb
 clear hb
 go_wp2_with fail
 go_ret
 exact ⟨rfl, HB.out⟩
def all9 (l h : Int) (xs : List Rng) : Bool := !xs.any (bad9 l h)
theorem all9_iff {l h : Int} {xs : List Rng} : all9 l h xs = true ↔ ∀ r ∈ xs, spn9 r l h = true := by
 unfold all9 bad9
 simp
theorem all9_one (l h : Int) (r : Rng) : all9 l h [r] = spn9 r l h := by
 unfold all9 bad9
 simp
set_option maxHeartbeats 1000000 in
theorem has_any (l h : Int) (A : Option Addr) (c : Nat) (xs : List Rng) (w : World) (B : Nat) (hm : xs.length ≤ maxLen) (hB : B ≤ w.heap.size) (hx : Rd w B 2 A xs.length (rR xs)) :
 Calls Try.prog 49 #[.agg #[I l, I h], .slice A xs.length c] w fun e w' => e = .returned (.bool (all9 l h xs)) ∧ Below w.heap.size w w' := by
 have hf : Hid (all9 l h xs = !xs.any (bad9 l h)) := rfl
 obtain ⟨W, hW⟩ : ∃ W, W = w.alloc (.cells #[I l, I h] 116) := ⟨_, rfl⟩
 have hB1 : Below w.heap.size w W := by rw [hW]; exact (Below.refl _ _).alloc (Nat.le_refl _) _
 have hsz : W.heap.size = w.heap.size + 1 := by rw [hW]; simp
 have r0 : W.heap[w.heap.size]? = some (.cells #[I l, I h] 116 (0, 0)) := by rw [hW]; exact heap_last _ _ _ rfl
 have y0 : W.cell? ⟨w.heap.size, 0, none⟩ = some (I l) := by rw [cell_of_row _ _ _ _ _ _ r0]; rfl
 have y1 : W.cell? ⟨w.heap.size, 1, none⟩ = some (I h) := by rw [cell_of_row _ _ _ _ _ _ r0]; rfl
 have cc := Lib.hid (con_has l h w.heap.size A c xs W B hm (Nat.le_trans hB hB1.size) (hx.below (hB1.mono hB)) (by omega) y0 y1)
 have HB := Lib.hid hB1
 have HW := Lib.hid hW
 have hmf := @makeFunc_run Try.prog
 clear hW hx hB hm y0 y1 r0 hB1 hsz
 rcases hq : xs.any (bad9 l h) with _ | _ <;> rw [hq] at hf cc
 all_goals
  go_enter Try.func49, Try.ntmps49
  go_upto_region 1 with (fail)
  rw [← HW.out]
  go_wp2_with fail
  refine cc.out.mono ?_
  rintro e w1 ⟨rfl, hb1⟩
  have hfin : Hid (Below w.heap.size w w1) := HB.out.trans (hb1.mono HB.out.size)
  clear hb1
  go_wp2_with fail
  go_ret
  exact ⟨by rw [hf.out]; rfl, hfin.out⟩
set_option maxHeartbeats 1000000 in
theorem heights_any (w : World) : Calls Try.prog 50 #[] w fun e w' => e = .returned (.agg #[I (-1000000), I 1000000]) ∧ Below w.heap.size w w' := by
 obtain ⟨W, hW⟩ : ∃ W, W = (w.alloc (.cells #[I 0, I 0] 116)) := ⟨_, rfl⟩
 have rowW0 : W.heap[w.heap.size]? = some (.cells #[I 0, I 0] 116 (0, 0)) := by rw [hW]; exact heap_last _ _ _ rfl
 have yW00 := ovr_cell (W := W) (b := w.heap.size) (o := 0) (v := I 0) (by rw [cell_of_row _ _ _ _ _ _ rowW0]; rfl)
 have yW01 := ovr_cell (W := W) (b := w.heap.size) (o := 1) (v := I 0) (by rw [cell_of_row _ _ _ _ _ _ rowW0]; rfl)
 have RrowW0 := Lib.hid (ovr_row rowW0)
 clear rowW0
 have HUW : Hid (∀ u, Below w.heap.size w (ovr W u)) := U1 hW
 have HW := Lib.hid hW
 clear hW
 go_enter Try.func50, Try.ntmps50
 go_upto_region 1 with (fail)
 rw [← HW.out]
 obtain ⟨u0, hu0⟩ := ovr_self W
 rw [hu0]
 clear hu0
 go_wp2_with (refine wpList_store_row rfl 116 _ _ rfl (w.heap.size) rfl _ _ (RrowW0.out _) _ rfl (one2 rfl rfl) rfl (by kernel_rfl) ?_)
 refine bodyPost_ret (results_cell_only rfl _ _ (w.heap.size) 116 _ (0, 0) _ rfl (setRow_same (RrowW0.out _)) Try.underlying116 rfl (by kernel_rfl)) rfl ?_
 exact ⟨rfl, below_setRow (HUW.out _) (by omega) _⟩
set_option maxHeartbeats 1000000 in
theorem amounts_any (w : World) : Calls Try.prog 59 #[] w fun e w' => e = .returned (.agg #[I 0, I 10000000]) ∧ Below w.heap.size w w' := by
 obtain ⟨W, hW⟩ : ∃ W, W = (w.alloc (.cells #[I 0, I 0] 116)) := ⟨_, rfl⟩
 have rowW0 : W.heap[w.heap.size]? = some (.cells #[I 0, I 0] 116 (0, 0)) := by rw [hW]; exact heap_last _ _ _ rfl
 have yW00 := ovr_cell (W := W) (b := w.heap.size) (o := 0) (v := I 0) (by rw [cell_of_row _ _ _ _ _ _ rowW0]; rfl)
 have yW01 := ovr_cell (W := W) (b := w.heap.size) (o := 1) (v := I 0) (by rw [cell_of_row _ _ _ _ _ _ rowW0]; rfl)
 have RrowW0 := Lib.hid (ovr_row rowW0)
 clear rowW0
 have HUW : Hid (∀ u, Below w.heap.size w (ovr W u)) := U1 hW
 have HW := Lib.hid hW
 clear hW
 go_enter Try.func59, Try.ntmps59
 go_upto_region 1 with (fail)
 rw [← HW.out]
 obtain ⟨u0, hu0⟩ := ovr_self W
 rw [hu0]
 clear hu0
 go_wp2_with (refine wpList_store_row rfl 116 _ _ rfl (w.heap.size) rfl _ _ (RrowW0.out _) _ rfl (one2 rfl rfl) rfl (by kernel_rfl) ?_)
 refine bodyPost_ret (results_cell_only rfl _ _ (w.heap.size) 116 _ (0, 0) _ rfl (setRow_same (RrowW0.out _)) Try.underlying116 rfl (by kernel_rfl)) rfl ?_
 exact ⟨rfl, below_setRow (HUW.out _) (by omega) _⟩
end Go.Proofs.Ytljjpidigckheaa.Un
namespace Go.Proofs.Ytljjpidigckheaa.Un
open Go.RowKit
def SlN (w0 : World) (cs : Array Value) (t : TypeId) (n : Nat) (u : Value) (w : World) : Prop := ∃ b, u = .slice (some ⟨b, 0, none⟩) n n ∧ w.heap[b]? = some (.cells cs t (0, 0)) ∧ w0.heap.size ≤ b
theorem sln_grow {w0 w : World} {cs : Array Value} {t : TypeId} {n : Nat} (h : Cl w0 w) : Le w (w.alloc (.cells cs t)) ∧ Box (SlN w0 cs t n) (.slice (some ⟨w.heap.size, 0, none⟩) n n) (w.alloc (.cells cs t)) :=
 ⟨(Below.refl _ _).alloc (Nat.le_refl _) _, fun _ h2 => ⟨_, rfl, (h2.block _ (by simp)).trans (heap_alloc_new w _), h.le.size⟩⟩
theorem SlN.at {w0 w : World} {cs : Array Value} {t : TypeId} {n b : Nat} (h : SlN w0 cs t n (.slice (some ⟨b, 0, none⟩) n n) w) : w.heap[b]? = some (.cells cs t (0, 0)) ∧ w0.heap.size ≤ b := by
 obtain ⟨b', e, h1, h2⟩ := h
 have : b = b' := by injection e with e1; injection e1 with e2; injection e2
 subst this
 exact ⟨h1, h2⟩
theorem rd_row1 {w : World} {b : Nat} {r : Rng} {t : TypeId} (h : w.heap[b]? = some (.cells #[I r.lo, I r.hi] t (0, 0))) : Rd w w.heap.size 2 (some ⟨b, 0, none⟩) 1 (rR [r]) :=
 Rd_new h 2 1 0 _ (fun k hk j hj => by
  rcases k with _ | k
  · rcases j with _ | _ | j
    · rfl
    · rfl
    · omega
  · omega)
theorem hasRow {w : World} {b : Nat} {r : Rng} {t : TypeId} (h : w.heap[b]? = some (.cells #[I r.lo, I r.hi] t (0, 0))) (l m : Int) :
 Calls Try.prog 49 #[.agg #[I l, I m], .slice (some ⟨b, 0, none⟩) 1 1] w fun e w' => e = .returned (.bool (spn9 r l m)) ∧ Below w.heap.size w w' := by
 have := has_any l m (some ⟨b, 0, none⟩) 1 [r] w w.heap.size (by unfold maxLen; simp) (Nat.le_refl _) (rd_row1 h)
 rwa [all9_one] at this
structure Gag where
 by_ : Int
 f : Rng
 o : Rng
 u : Int
deriving Inhabited
abbrev gagA (g : Gag) : Array Value := #[I g.by_, I g.f.lo, I g.f.hi, I g.o.lo, I g.o.hi, I g.u]
def rG (l : List Gag) (k j : Nat) : Value := if j = 0 then I (at0 l k).by_ else if j = 1 then I (at0 l k).f.lo else if j = 2 then I (at0 l k).f.hi else if j = 3 then I (at0 l k).o.lo else if j = 4 then I (at0 l k).o.hi else I (at0 l k).u
theorem rd_gag {w : World} {B n k : Nat} {A : Option Addr} {l : List Gag} (h : Rd w B 6 A n (rG l)) (hk : k < n) : ∃ b o, A = some ⟨b, o, none⟩ ∧ b < B ∧
 w.cell? ⟨b, o + k * 6, none⟩ = some (I (at0 l k).by_) ∧ w.cell? ⟨b, o + k * 6 + 1, none⟩ = some (I (at0 l k).f.lo) ∧ w.cell? ⟨b, o + k * 6 + 2, none⟩ = some (I (at0 l k).f.hi) ∧
 w.cell? ⟨b, o + k * 6 + 3, none⟩ = some (I (at0 l k).o.lo) ∧ w.cell? ⟨b, o + k * 6 + 4, none⟩ = some (I (at0 l k).o.hi) ∧ w.cell? ⟨b, o + k * 6 + 5, none⟩ = some (I (at0 l k).u) := by
 obtain ⟨b, o, e, hb, hc⟩ := h (by omega)
 exact ⟨b, o, e, hb, hc k hk 0 (by omega), hc k hk 1 (by omega), hc k hk 2 (by omega), hc k hk 3 (by omega), hc k hk 4 (by omega), hc k hk 5 (by omega)⟩
def er9 (b : Bool) : Int := if b then 0 else 2
def gagB (g : Gag) (i : Nat) : Bool := decide (-1 ≤ g.by_) && (decide (g.by_ < (i : Int)) && (spn9 g.f 1 2000000 && (spn9 g.o (-1000000) 1000000 && (decide (0 ≤ g.u) && decide (g.u ≤ 1000000)))))
def gagK (l : List Gag) : Nat → Bool
 | 0 => true | k + 1 => gagK l k && gagB (at0 l k) k
def okGag (l : List Gag) : Bool := decide (l.length ≤ 30) && gagK l l.length
theorem gagK_iff {l : List Gag} : ∀ {n : Nat}, gagK l n = true ↔ ∀ j, j < n → gagB (at0 l j) j = true
 | 0 => ⟨fun _ j hj => absurd hj (by omega), fun _ => rfl⟩
 | n + 1 => by
   show (gagK l n && gagB (at0 l n) n) = true ↔ _
   rw [Bool.and_eq_true, gagK_iff (n := n)]
   refine ⟨fun h j hj => ?_, fun h => ⟨fun j hj => h j (by omega), h n (by omega)⟩⟩
   rcases Nat.lt_or_ge j n with h1 | h1
   · exact h.1 j h1
   · obtain rfl : j = n := by omega
     exact h.2
theorem gagK_no {l : List Gag} {n m : Nat} (hn : n < m) (h : gagB (at0 l n) n = false) : gagK l m = false := by
 rcases hm : gagK l m with _ | _
 · rfl
 · rw [gagK_iff.1 hm n hn] at h; cases h
set_option maxRecDepth 100000 in
set_option maxHeartbeats 4000000 in
theorem checkGauges_any (A : Option Addr) (c : Nat) (l : List Gag) (w : World) (B : Nat) (hB : B ≤ w.heap.size) (hx : Rd w B 6 A l.length (rG l)) :
 Calls Try.prog 17 #[.slice A l.length c] w fun e w' => e = .returned (I (er9 (okGag l))) ∧ Below w.heap.size w w' := by
 have HX : Hid (∀ V, Below w.heap.size w V → Rd V B 6 A l.length (rG l)) := fun V hV => hx.below (hV.mono hB)
 clear hx hB
 by_cases h30 : 30 < l.length
 · have d1 : decide ((30 : Int) < (l.length : Int)) = true := decide_eq_true (by omega)
   have hf : Hid (okGag l = false) := by show _ = _; unfold okGag; rw [decide_eq_false (by omega)]; rfl
   clear h30
   go_enter Try.func17, Try.ntmps17
   go_wp2_with fail
   go_ret
   exact ⟨by rw [hf.out]; rfl, Below.refl _ _⟩
 have d1 : decide ((30 : Int) < (l.length : Int)) = false := decide_eq_false (by omega)
 have hf : Hid (okGag l = gagK l l.length) := by show _ = _; unfold okGag; rw [decide_eq_true (by omega)]; rfl
 have H30 : Hid (l.length ≤ 30) := by show _ ≤ _; omega
 clear h30
 obtain ⟨W, hW⟩ : ∃ W, W = (w.alloc (.cells #[I 1, I 2000000] 116)) := ⟨_, rfl⟩
 have rowW0 : W.heap[w.heap.size]? = some (.cells #[I 1, I 2000000] 116 (0, 0)) := by rw [hW]; exact heap_last _ _ _ rfl
 have yW00 := ovr_cell (W := W) (b := w.heap.size) (o := 0) (v := I 1) (by rw [cell_of_row _ _ _ _ _ _ rowW0]; rfl)
 have yW01 := ovr_cell (W := W) (b := w.heap.size) (o := 1) (v := I 2000000) (by rw [cell_of_row _ _ _ _ _ _ rowW0]; rfl)
 have RrowW0 := Lib.hid (ovr_row rowW0)
 clear rowW0
 have HUW : Hid (∀ u, Below w.heap.size w (ovr W u)) := U1 hW
 have HW := Lib.hid hW
 clear hW
 go_enter Try.func17, Try.ntmps17
 go_upto_region 4 with (fail)
 rw [← HW.out]
 obtain ⟨u0, hu0⟩ := ovr_self W
 rw [hu0]
 clear hu0
 clear d1
 go_wp2_with fail
 go_loopw [12] (fun i wr => ∃ (k : Nat) (u : World), k ≤ l.length ∧ i = .int .i64 k ∧ wr = ovr W u ∧ ∀ j, j < k → gagB (at0 l j) j = true) (fun i _ => l.length - (intOf i).toNat)
 case atStart => exact ⟨0, u0, by omega, rfl, rfl, fun j hj => absurd hj (by omega)⟩
 case round =>
  obtain ⟨k, u, hk, rfl, rfl, hall⟩ := hrel
  have HALL := Lib.hid hall
  clear hall
  by_cases hlt : k < l.length
  case neg =>
   obtain rfl : k = l.length := by omega
   have hf2 : Hid (okGag l = true) := by show _ = _; rw [hf.out]; exact gagK_iff.2 HALL.out
   go_wp2_with fail
   go_ret
   exact ⟨by rw [hf2.out]; rfl, HUW.out u⟩
  obtain ⟨b, o, rfl, _, e0, e1, e2, e3, e4, e5⟩ := rd_gag (HX.out _ (HUW.out u)) hlt
  have HNO : Hid (gagB (at0 l k) k = false → okGag l = false) := fun h => by rw [hf.out]; exact gagK_no hlt h
  have HYES : Hid (gagB (at0 l k) k = true → ∀ j, j < k + 1 → gagB (at0 l j) j = true) := fun h j hj => by
   rcases Nat.lt_or_ge j k with h1 | h1
   · exact HALL.out j h1
   · obtain rfl : j = k := by omega
     exact h
  have HLT := Lib.hid hlt
  have hk30 : k ≤ 30 := by have := H30.out; omega
  obtain ⟨g, hg⟩ : ∃ g, at0 l k = g := ⟨_, rfl⟩
  rw [hg] at e0 e1 e2 e3 e4 e5 HNO HYES
  have hB : Hid (gagB g k = (decide (-1 ≤ g.by_) && (decide (g.by_ < (k : Int)) && (spn9 g.f 1 2000000 && (spn9 g.o (-1000000) 1000000 && (decide (0 ≤ g.u) && decide (g.u ≤ 1000000))))))) := rfl
  clear hg
  go_upto_region 7 with (fail)
  clear e0 e1 e2 e3 e4 e5
  obtain ⟨X, hX⟩ : ∃ X, X = ((ovr W u).alloc (.cells #[I g.by_, I g.f.lo, I g.f.hi, I g.o.lo, I g.o.hi, I g.u] 108)) := ⟨_, rfl⟩
  have reX : ∀ v, ∃ x, ovr X v = ovr W x := fun v => ovr_re1 hX
  replace yW00 := tr_cell reX yW00
  replace yW01 := tr_cell reX yW01
  replace RrowW0 := Lib.hid (tr_row reX RrowW0.out)
  have rowX0 : X.heap[(ovr W u).heap.size]? = some (.cells #[I g.by_, I g.f.lo, I g.f.hi, I g.o.lo, I g.o.hi, I g.u] 108 (0, 0)) := by rw [hX]; exact heap_last _ _ _ rfl
  have yX00 := ovr_cell (W := X) (b := (ovr W u).heap.size) (o := 0) (v := I g.by_) (by rw [cell_of_row _ _ _ _ _ _ rowX0]; rfl)
  have yX01 := ovr_cell (W := X) (b := (ovr W u).heap.size) (o := 1) (v := I g.f.lo) (by rw [cell_of_row _ _ _ _ _ _ rowX0]; rfl)
  have yX02 := ovr_cell (W := X) (b := (ovr W u).heap.size) (o := 2) (v := I g.f.hi) (by rw [cell_of_row _ _ _ _ _ _ rowX0]; rfl)
  have yX03 := ovr_cell (W := X) (b := (ovr W u).heap.size) (o := 3) (v := I g.o.lo) (by rw [cell_of_row _ _ _ _ _ _ rowX0]; rfl)
  have yX04 := ovr_cell (W := X) (b := (ovr W u).heap.size) (o := 4) (v := I g.o.hi) (by rw [cell_of_row _ _ _ _ _ _ rowX0]; rfl)
  have yX05 := ovr_cell (W := X) (b := (ovr W u).heap.size) (o := 5) (v := I g.u) (by rw [cell_of_row _ _ _ _ _ _ rowX0]; rfl)
  have RrowX0 := Lib.hid (ovr_row rowX0)
  clear rowX0
  have HBX : Hid (∀ u, Below W.heap.size W (ovr X u)) := fun u => by obtain ⟨x, hx⟩ := reX u; rw [hx]; exact ovr_below _ _
  clear reX
  have HX := Lib.hid hX
  clear hX
  rw [← HX.out]
  have HUT : Hid (∀ V, Below X.heap.size X V → Below w.heap.size w V) := fun V h => by
   obtain ⟨v, rfl⟩ : ∃ v, V = ovr X v := ⟨V, ovr_of h⟩
   exact below_chain HUW.out HBX.out v
  have HUT2 : Hid (∀ V, Below X.heap.size X V → ∃ v, V = ovr W v) := fun V h => ⟨V, ovr_of ((below_self HBX.out).trans (h.mono (below_self HBX.out).size))⟩
  by_cases t1 : g.by_ < -1
  · have d1 : decide (g.by_ < -1) = true := decide_eq_true t1
    have hbad : gagB g k = false := by rw [hB.out, decide_eq_false (by omega)]; rfl
    refine Gg.wp_region_make (fun _ => none) (by kernel_rfl) (by kernel_rfl) (by kernel_rfl) ?_
    repeat (first | (refine Gg.wpG_one rfl rfl rfl ?_; intro K hK; go_big_quiet_op; go_big_quiet_on) | (refine Gg.wpG_skip rfl ?_; simp only [Act.put, List.setIfInBounds_toArray, List.set_cons_zero, List.set_cons_succ]))
    refine Gg.wpG_nil (fun w5 hw5 hG => ?_)
    go_wp2_with fail
    go_ret
    exact ⟨by rw [HNO.out hbad]; rfl, HUT.out w5 hw5.le⟩
  have d1 : decide (g.by_ < -1) = false := decide_eq_false t1
  by_cases t2 : (k : Int) ≤ g.by_
  · have d2 : decide ((k : Int) ≤ g.by_) = true := decide_eq_true t2
    have hbad : gagB g k = false := by rw [hB.out, decide_eq_false (p := g.by_ < (k : Int)) (by omega), Bool.false_and, Bool.and_false]
    refine Gg.wp_region_make (fun _ => none) (by kernel_rfl) (by kernel_rfl) (by kernel_rfl) ?_
    repeat (first | (refine Gg.wpG_one rfl rfl rfl ?_; intro K hK; go_big_quiet_op; go_big_quiet_on) | (refine Gg.wpG_skip rfl ?_; simp only [Act.put, List.setIfInBounds_toArray, List.set_cons_zero, List.set_cons_succ]))
    refine Gg.wpG_nil (fun w5 hw5 hG => ?_)
    go_wp2_with fail
    go_ret
    exact ⟨by rw [HNO.out hbad]; rfl, HUT.out w5 hw5.le⟩
  have d2 : decide ((k : Int) ≤ g.by_) = false := decide_eq_false t2
  rw [decide_eq_true (p := -1 ≤ g.by_) (by omega), decide_eq_true (p := g.by_ < (k : Int)) (by omega), Bool.true_and, Bool.true_and] at hB
  rcases t3 : spn9 g.f 1 2000000 with _ | _
  · have HF1 := Lib.hid t3
    have hbad : gagB g k = false := by rw [hB.out, t3]; rfl
    clear t3
    refine Gg.wp_region_make (fun j => if j = 13 then some (SlN X #[I g.f.lo, I g.f.hi] 24 1) else if j = 14 then some (fun u _ => u = .bool (spn9 g.f 1 2000000)) else none) (by kernel_rfl) (by kernel_rfl) (by kernel_rfl) ?_
    repeat (first | (refine Gg.wpG_one rfl rfl rfl ?_; intro K hK; go_big_quiet_op; go_big_quiet_on) | (refine Gg.wpG_skip rfl ?_; simp only [Act.put, List.setIfInBounds_toArray, List.set_cons_zero, List.set_cons_succ]))
    refine Gg.wpG_make (SlN X #[I g.f.lo, I g.f.hi] 24 1) rfl rfl (fun w' hw' hk => ?_) (fun u hu => ?_)
    · go_simp
      exact sln_grow hw'
    obtain ⟨_, _, b1, rfl, _, _⟩ := hu
    simp only [Act.put, List.setIfInBounds_toArray, List.set_cons_zero, List.set_cons_succ]
    repeat (first | (refine Gg.wpG_one rfl rfl rfl ?_; intro K hK; go_big_quiet_op; go_big_quiet_on) | (refine Gg.wpG_skip rfl ?_; simp only [Act.put, List.setIfInBounds_toArray, List.set_cons_zero, List.set_cons_succ]))
    refine Gg.wpG_make (fun u _ => u = .bool (spn9 g.f 1 2000000)) rfl rfl (fun w' hw' hk => ?_) (fun u hu => ?_)
    · have hk3 := (hk ⟨13, .data⟩ (by simp) rfl _ _ _ rfl (.inr (by simp [undef])) rfl (by simp) rfl).now.at
      go_simp
      exact call_grow (hasRow hk3.1 1 2000000)
    obtain ⟨_, _, rfl⟩ := hu
    rw [HF1.out]
    simp only [Act.put, List.setIfInBounds_toArray, List.set_cons_zero, List.set_cons_succ]
    repeat (first | (refine Gg.wpG_one rfl rfl rfl ?_; intro K hK; go_big_quiet_op; go_big_quiet_on) | (refine Gg.wpG_skip rfl ?_; simp only [Act.put, List.setIfInBounds_toArray, List.set_cons_zero, List.set_cons_succ]))
    refine Gg.wpG_nil (fun w5 hw5 hG => ?_)
    go_wp2_with fail
    go_ret
    exact ⟨by rw [HNO.out hbad]; rfl, HUT.out w5 hw5.le⟩
  have HF1 := Lib.hid t3
  rw [t3, Bool.true_and] at hB
  clear t3
  rcases t4 : spn9 g.o (-1000000) 1000000 with _ | _
  · have HF2 := Lib.hid t4
    have hbad : gagB g k = false := by rw [hB.out, t4]; rfl
    clear t4
    refine Gg.wp_region_make (fun j => if j = 13 then some (SlN X #[I g.f.lo, I g.f.hi] 24 1) else if j = 14 then some (fun u _ => u = .bool (spn9 g.f 1 2000000)) else if j = 18 then some (fun u _ => u = .agg #[I (-1000000), I 1000000]) else if j = 21 then some (SlN X #[I g.o.lo, I g.o.hi] 24 1) else if j = 22 then some (fun u _ => u = .bool (spn9 g.o (-1000000) 1000000)) else none) (by kernel_rfl) (by kernel_rfl) (by kernel_rfl) ?_
    repeat (first | (refine Gg.wpG_one rfl rfl rfl ?_; intro K hK; go_big_quiet_op; go_big_quiet_on) | (refine Gg.wpG_skip rfl ?_; simp only [Act.put, List.setIfInBounds_toArray, List.set_cons_zero, List.set_cons_succ]))
    refine Gg.wpG_make (SlN X #[I g.f.lo, I g.f.hi] 24 1) rfl rfl (fun w' hw' hk => ?_) (fun u hu => ?_)
    · go_simp
      exact sln_grow hw'
    obtain ⟨_, _, b1, rfl, _, _⟩ := hu
    simp only [Act.put, List.setIfInBounds_toArray, List.set_cons_zero, List.set_cons_succ]
    repeat (first | (refine Gg.wpG_one rfl rfl rfl ?_; intro K hK; go_big_quiet_op; go_big_quiet_on) | (refine Gg.wpG_skip rfl ?_; simp only [Act.put, List.setIfInBounds_toArray, List.set_cons_zero, List.set_cons_succ]))
    refine Gg.wpG_make (fun u _ => u = .bool (spn9 g.f 1 2000000)) rfl rfl (fun w' hw' hk => ?_) (fun u hu => ?_)
    · have hk3 := (hk ⟨13, .data⟩ (by simp) rfl _ _ _ rfl (.inr (by simp [undef])) rfl (by simp) rfl).now.at
      go_simp
      exact call_grow (hasRow hk3.1 1 2000000)
    obtain ⟨_, _, rfl⟩ := hu
    rw [HF1.out]
    simp only [Act.put, List.setIfInBounds_toArray, List.set_cons_zero, List.set_cons_succ]
    repeat (first | (refine Gg.wpG_one rfl rfl rfl ?_; intro K hK; go_big_quiet_op; go_big_quiet_on) | (refine Gg.wpG_skip rfl ?_; simp only [Act.put, List.setIfInBounds_toArray, List.set_cons_zero, List.set_cons_succ]))
    refine Gg.wpG_make (fun u _ => u = .agg #[I (-1000000), I 1000000]) rfl rfl (fun w' hw' hk => ?_) (fun u hu => ?_)
    · go_simp
      exact call_grow (heights_any w')
    obtain ⟨_, _, rfl⟩ := hu
    simp only [Act.put, List.setIfInBounds_toArray, List.set_cons_zero, List.set_cons_succ]
    repeat (first | (refine Gg.wpG_one rfl rfl rfl ?_; intro K hK; go_big_quiet_op; go_big_quiet_on) | (refine Gg.wpG_skip rfl ?_; simp only [Act.put, List.setIfInBounds_toArray, List.set_cons_zero, List.set_cons_succ]))
    refine Gg.wpG_make (SlN X #[I g.o.lo, I g.o.hi] 24 1) rfl rfl (fun w' hw' hk => ?_) (fun u hu => ?_)
    · go_simp
      exact sln_grow hw'
    obtain ⟨_, _, b2, rfl, _, _⟩ := hu
    simp only [Act.put, List.setIfInBounds_toArray, List.set_cons_zero, List.set_cons_succ]
    repeat (first | (refine Gg.wpG_one rfl rfl rfl ?_; intro K hK; go_big_quiet_op; go_big_quiet_on) | (refine Gg.wpG_skip rfl ?_; simp only [Act.put, List.setIfInBounds_toArray, List.set_cons_zero, List.set_cons_succ]))
    refine Gg.wpG_make (fun u _ => u = .bool (spn9 g.o (-1000000) 1000000)) rfl rfl (fun w' hw' hk => ?_) (fun u hu => ?_)
    · have hk3 := (hk ⟨21, .data⟩ (by simp) rfl _ _ _ rfl (.inr (by simp [undef])) rfl (by simp) rfl).now.at
      go_simp
      exact call_grow (hasRow hk3.1 (-1000000) 1000000)
    obtain ⟨_, _, rfl⟩ := hu
    rw [HF2.out]
    simp only [Act.put, List.setIfInBounds_toArray, List.set_cons_zero, List.set_cons_succ]
    repeat (first | (refine Gg.wpG_one rfl rfl rfl ?_; intro K hK; go_big_quiet_op; go_big_quiet_on) | (refine Gg.wpG_skip rfl ?_; simp only [Act.put, List.setIfInBounds_toArray, List.set_cons_zero, List.set_cons_succ]))
    refine Gg.wpG_nil (fun w5 hw5 hG => ?_)
    go_wp2_with fail
    go_ret
    exact ⟨by rw [HNO.out hbad]; rfl, HUT.out w5 hw5.le⟩
  have HF2 := Lib.hid t4
  rw [t4, Bool.true_and] at hB
  clear t4
  by_cases t5 : g.u < 0
  · have d5 : decide (g.u < 0) = true := decide_eq_true t5
    have hbad : gagB g k = false := by rw [hB.out, decide_eq_false (by omega)]; rfl
    refine Gg.wp_region_make (fun j => if j = 13 then some (SlN X #[I g.f.lo, I g.f.hi] 24 1) else if j = 14 then some (fun u _ => u = .bool (spn9 g.f 1 2000000)) else if j = 18 then some (fun u _ => u = .agg #[I (-1000000), I 1000000]) else if j = 21 then some (SlN X #[I g.o.lo, I g.o.hi] 24 1) else if j = 22 then some (fun u _ => u = .bool (spn9 g.o (-1000000) 1000000)) else none) (by kernel_rfl) (by kernel_rfl) (by kernel_rfl) ?_
    repeat (first | (refine Gg.wpG_one rfl rfl rfl ?_; intro K hK; go_big_quiet_op; go_big_quiet_on) | (refine Gg.wpG_skip rfl ?_; simp only [Act.put, List.setIfInBounds_toArray, List.set_cons_zero, List.set_cons_succ]))
    refine Gg.wpG_make (SlN X #[I g.f.lo, I g.f.hi] 24 1) rfl rfl (fun w' hw' hk => ?_) (fun u hu => ?_)
    · go_simp
      exact sln_grow hw'
    obtain ⟨_, _, b1, rfl, _, _⟩ := hu
    simp only [Act.put, List.setIfInBounds_toArray, List.set_cons_zero, List.set_cons_succ]
    repeat (first | (refine Gg.wpG_one rfl rfl rfl ?_; intro K hK; go_big_quiet_op; go_big_quiet_on) | (refine Gg.wpG_skip rfl ?_; simp only [Act.put, List.setIfInBounds_toArray, List.set_cons_zero, List.set_cons_succ]))
    refine Gg.wpG_make (fun u _ => u = .bool (spn9 g.f 1 2000000)) rfl rfl (fun w' hw' hk => ?_) (fun u hu => ?_)
    · have hk3 := (hk ⟨13, .data⟩ (by simp) rfl _ _ _ rfl (.inr (by simp [undef])) rfl (by simp) rfl).now.at
      go_simp
      exact call_grow (hasRow hk3.1 1 2000000)
    obtain ⟨_, _, rfl⟩ := hu
    rw [HF1.out]
    simp only [Act.put, List.setIfInBounds_toArray, List.set_cons_zero, List.set_cons_succ]
    repeat (first | (refine Gg.wpG_one rfl rfl rfl ?_; intro K hK; go_big_quiet_op; go_big_quiet_on) | (refine Gg.wpG_skip rfl ?_; simp only [Act.put, List.setIfInBounds_toArray, List.set_cons_zero, List.set_cons_succ]))
    refine Gg.wpG_make (fun u _ => u = .agg #[I (-1000000), I 1000000]) rfl rfl (fun w' hw' hk => ?_) (fun u hu => ?_)
    · go_simp
      exact call_grow (heights_any w')
    obtain ⟨_, _, rfl⟩ := hu
    simp only [Act.put, List.setIfInBounds_toArray, List.set_cons_zero, List.set_cons_succ]
    repeat (first | (refine Gg.wpG_one rfl rfl rfl ?_; intro K hK; go_big_quiet_op; go_big_quiet_on) | (refine Gg.wpG_skip rfl ?_; simp only [Act.put, List.setIfInBounds_toArray, List.set_cons_zero, List.set_cons_succ]))
    refine Gg.wpG_make (SlN X #[I g.o.lo, I g.o.hi] 24 1) rfl rfl (fun w' hw' hk => ?_) (fun u hu => ?_)
    · go_simp
      exact sln_grow hw'
    obtain ⟨_, _, b2, rfl, _, _⟩ := hu
    simp only [Act.put, List.setIfInBounds_toArray, List.set_cons_zero, List.set_cons_succ]
    repeat (first | (refine Gg.wpG_one rfl rfl rfl ?_; intro K hK; go_big_quiet_op; go_big_quiet_on) | (refine Gg.wpG_skip rfl ?_; simp only [Act.put, List.setIfInBounds_toArray, List.set_cons_zero, List.set_cons_succ]))
    refine Gg.wpG_make (fun u _ => u = .bool (spn9 g.o (-1000000) 1000000)) rfl rfl (fun w' hw' hk => ?_) (fun u hu => ?_)
    · have hk3 := (hk ⟨21, .data⟩ (by simp) rfl _ _ _ rfl (.inr (by simp [undef])) rfl (by simp) rfl).now.at
      go_simp
      exact call_grow (hasRow hk3.1 (-1000000) 1000000)
    obtain ⟨_, _, rfl⟩ := hu
    rw [HF2.out]
    simp only [Act.put, List.setIfInBounds_toArray, List.set_cons_zero, List.set_cons_succ]
    repeat (first | (refine Gg.wpG_one rfl rfl rfl ?_; intro K hK; go_big_quiet_op; go_big_quiet_on) | (refine Gg.wpG_skip rfl ?_; simp only [Act.put, List.setIfInBounds_toArray, List.set_cons_zero, List.set_cons_succ]))
    refine Gg.wpG_nil (fun w5 hw5 hG => ?_)
    go_wp2_with fail
    go_ret
    exact ⟨by rw [HNO.out hbad]; rfl, HUT.out w5 hw5.le⟩
  have d5 : decide (g.u < 0) = false := decide_eq_false t5
  by_cases t6 : 1000000 < g.u
  · have d6 : decide (1000000 < g.u) = true := decide_eq_true t6
    have hbad : gagB g k = false := by rw [hB.out, decide_eq_false (p := g.u ≤ 1000000) (by omega), Bool.and_false]
    refine Gg.wp_region_make (fun j => if j = 13 then some (SlN X #[I g.f.lo, I g.f.hi] 24 1) else if j = 14 then some (fun u _ => u = .bool (spn9 g.f 1 2000000)) else if j = 18 then some (fun u _ => u = .agg #[I (-1000000), I 1000000]) else if j = 21 then some (SlN X #[I g.o.lo, I g.o.hi] 24 1) else if j = 22 then some (fun u _ => u = .bool (spn9 g.o (-1000000) 1000000)) else none) (by kernel_rfl) (by kernel_rfl) (by kernel_rfl) ?_
    repeat (first | (refine Gg.wpG_one rfl rfl rfl ?_; intro K hK; go_big_quiet_op; go_big_quiet_on) | (refine Gg.wpG_skip rfl ?_; simp only [Act.put, List.setIfInBounds_toArray, List.set_cons_zero, List.set_cons_succ]))
    refine Gg.wpG_make (SlN X #[I g.f.lo, I g.f.hi] 24 1) rfl rfl (fun w' hw' hk => ?_) (fun u hu => ?_)
    · go_simp
      exact sln_grow hw'
    obtain ⟨_, _, b1, rfl, _, _⟩ := hu
    simp only [Act.put, List.setIfInBounds_toArray, List.set_cons_zero, List.set_cons_succ]
    repeat (first | (refine Gg.wpG_one rfl rfl rfl ?_; intro K hK; go_big_quiet_op; go_big_quiet_on) | (refine Gg.wpG_skip rfl ?_; simp only [Act.put, List.setIfInBounds_toArray, List.set_cons_zero, List.set_cons_succ]))
    refine Gg.wpG_make (fun u _ => u = .bool (spn9 g.f 1 2000000)) rfl rfl (fun w' hw' hk => ?_) (fun u hu => ?_)
    · have hk3 := (hk ⟨13, .data⟩ (by simp) rfl _ _ _ rfl (.inr (by simp [undef])) rfl (by simp) rfl).now.at
      go_simp
      exact call_grow (hasRow hk3.1 1 2000000)
    obtain ⟨_, _, rfl⟩ := hu
    rw [HF1.out]
    simp only [Act.put, List.setIfInBounds_toArray, List.set_cons_zero, List.set_cons_succ]
    repeat (first | (refine Gg.wpG_one rfl rfl rfl ?_; intro K hK; go_big_quiet_op; go_big_quiet_on) | (refine Gg.wpG_skip rfl ?_; simp only [Act.put, List.setIfInBounds_toArray, List.set_cons_zero, List.set_cons_succ]))
    refine Gg.wpG_make (fun u _ => u = .agg #[I (-1000000), I 1000000]) rfl rfl (fun w' hw' hk => ?_) (fun u hu => ?_)
    · go_simp
      exact call_grow (heights_any w')
    obtain ⟨_, _, rfl⟩ := hu
    simp only [Act.put, List.setIfInBounds_toArray, List.set_cons_zero, List.set_cons_succ]
    repeat (first | (refine Gg.wpG_one rfl rfl rfl ?_; intro K hK; go_big_quiet_op; go_big_quiet_on) | (refine Gg.wpG_skip rfl ?_; simp only [Act.put, List.setIfInBounds_toArray, List.set_cons_zero, List.set_cons_succ]))
    refine Gg.wpG_make (SlN X #[I g.o.lo, I g.o.hi] 24 1) rfl rfl (fun w' hw' hk => ?_) (fun u hu => ?_)
    · go_simp
      exact sln_grow hw'
    obtain ⟨_, _, b2, rfl, _, _⟩ := hu
    simp only [Act.put, List.setIfInBounds_toArray, List.set_cons_zero, List.set_cons_succ]
    repeat (first | (refine Gg.wpG_one rfl rfl rfl ?_; intro K hK; go_big_quiet_op; go_big_quiet_on) | (refine Gg.wpG_skip rfl ?_; simp only [Act.put, List.setIfInBounds_toArray, List.set_cons_zero, List.set_cons_succ]))
    refine Gg.wpG_make (fun u _ => u = .bool (spn9 g.o (-1000000) 1000000)) rfl rfl (fun w' hw' hk => ?_) (fun u hu => ?_)
    · have hk3 := (hk ⟨21, .data⟩ (by simp) rfl _ _ _ rfl (.inr (by simp [undef])) rfl (by simp) rfl).now.at
      go_simp
      exact call_grow (hasRow hk3.1 (-1000000) 1000000)
    obtain ⟨_, _, rfl⟩ := hu
    rw [HF2.out]
    simp only [Act.put, List.setIfInBounds_toArray, List.set_cons_zero, List.set_cons_succ]
    repeat (first | (refine Gg.wpG_one rfl rfl rfl ?_; intro K hK; go_big_quiet_op; go_big_quiet_on) | (refine Gg.wpG_skip rfl ?_; simp only [Act.put, List.setIfInBounds_toArray, List.set_cons_zero, List.set_cons_succ]))
    refine Gg.wpG_nil (fun w5 hw5 hG => ?_)
    go_wp2_with fail
    go_ret
    exact ⟨by rw [HNO.out hbad]; rfl, HUT.out w5 hw5.le⟩
  have d6 : decide (1000000 < g.u) = false := decide_eq_false t6
  have hgood : gagB g k = true := by rw [hB.out, decide_eq_true (by omega), decide_eq_true (by omega)]; rfl
  have HG := Lib.hid (HYES.out hgood)
  refine Gg.wp_region_make (fun j => if j = 13 then some (SlN X #[I g.f.lo, I g.f.hi] 24 1) else if j = 14 then some (fun u _ => u = .bool (spn9 g.f 1 2000000)) else if j = 18 then some (fun u _ => u = .agg #[I (-1000000), I 1000000]) else if j = 21 then some (SlN X #[I g.o.lo, I g.o.hi] 24 1) else if j = 22 then some (fun u _ => u = .bool (spn9 g.o (-1000000) 1000000)) else none) (by kernel_rfl) (by kernel_rfl) (by kernel_rfl) ?_
  repeat (first | (refine Gg.wpG_one rfl rfl rfl ?_; intro K hK; go_big_quiet_op; go_big_quiet_on) | (refine Gg.wpG_skip rfl ?_; simp only [Act.put, List.setIfInBounds_toArray, List.set_cons_zero, List.set_cons_succ]))
  refine Gg.wpG_make (SlN X #[I g.f.lo, I g.f.hi] 24 1) rfl rfl (fun w' hw' hk => ?_) (fun u hu => ?_)
  · go_simp
    exact sln_grow hw'
  obtain ⟨_, _, b1, rfl, _, _⟩ := hu
  simp only [Act.put, List.setIfInBounds_toArray, List.set_cons_zero, List.set_cons_succ]
  repeat (first | (refine Gg.wpG_one rfl rfl rfl ?_; intro K hK; go_big_quiet_op; go_big_quiet_on) | (refine Gg.wpG_skip rfl ?_; simp only [Act.put, List.setIfInBounds_toArray, List.set_cons_zero, List.set_cons_succ]))
  refine Gg.wpG_make (fun u _ => u = .bool (spn9 g.f 1 2000000)) rfl rfl (fun w' hw' hk => ?_) (fun u hu => ?_)
  · have hk3 := (hk ⟨13, .data⟩ (by simp) rfl _ _ _ rfl (.inr (by simp [undef])) rfl (by simp) rfl).now.at
    go_simp
    exact call_grow (hasRow hk3.1 1 2000000)
  obtain ⟨_, _, rfl⟩ := hu
  rw [HF1.out]
  simp only [Act.put, List.setIfInBounds_toArray, List.set_cons_zero, List.set_cons_succ]
  repeat (first | (refine Gg.wpG_one rfl rfl rfl ?_; intro K hK; go_big_quiet_op; go_big_quiet_on) | (refine Gg.wpG_skip rfl ?_; simp only [Act.put, List.setIfInBounds_toArray, List.set_cons_zero, List.set_cons_succ]))
  refine Gg.wpG_make (fun u _ => u = .agg #[I (-1000000), I 1000000]) rfl rfl (fun w' hw' hk => ?_) (fun u hu => ?_)
  · go_simp
    exact call_grow (heights_any w')
  obtain ⟨_, _, rfl⟩ := hu
  simp only [Act.put, List.setIfInBounds_toArray, List.set_cons_zero, List.set_cons_succ]
  repeat (first | (refine Gg.wpG_one rfl rfl rfl ?_; intro K hK; go_big_quiet_op; go_big_quiet_on) | (refine Gg.wpG_skip rfl ?_; simp only [Act.put, List.setIfInBounds_toArray, List.set_cons_zero, List.set_cons_succ]))
  refine Gg.wpG_make (SlN X #[I g.o.lo, I g.o.hi] 24 1) rfl rfl (fun w' hw' hk => ?_) (fun u hu => ?_)
  · go_simp
    exact sln_grow hw'
  obtain ⟨_, _, b2, rfl, _, _⟩ := hu
  simp only [Act.put, List.setIfInBounds_toArray, List.set_cons_zero, List.set_cons_succ]
  repeat (first | (refine Gg.wpG_one rfl rfl rfl ?_; intro K hK; go_big_quiet_op; go_big_quiet_on) | (refine Gg.wpG_skip rfl ?_; simp only [Act.put, List.setIfInBounds_toArray, List.set_cons_zero, List.set_cons_succ]))
  refine Gg.wpG_make (fun u _ => u = .bool (spn9 g.o (-1000000) 1000000)) rfl rfl (fun w' hw' hk => ?_) (fun u hu => ?_)
  · have hk3 := (hk ⟨21, .data⟩ (by simp) rfl _ _ _ rfl (.inr (by simp [undef])) rfl (by simp) rfl).now.at
    go_simp
    exact call_grow (hasRow hk3.1 (-1000000) 1000000)
  obtain ⟨_, _, rfl⟩ := hu
  rw [HF2.out]
  simp only [Act.put, List.setIfInBounds_toArray, List.set_cons_zero, List.set_cons_succ]
  repeat (first | (refine Gg.wpG_one rfl rfl rfl ?_; intro K hK; go_big_quiet_op; go_big_quiet_on) | (refine Gg.wpG_skip rfl ?_; simp only [Act.put, List.setIfInBounds_toArray, List.set_cons_zero, List.set_cons_succ]))
  refine Gg.wpG_nil (fun w5 hw5 hG => ?_)
  obtain ⟨v5, rfl⟩ := HUT2.out w5 hw5.le
  go_wp2_with fail
  go_roundw
  case rel => exact ⟨k + 1, v5, HLT.out, by go_num, rfl, HG.out⟩
  case measure => have := HLT.out; simp [intOf]; omega
end Go.Proofs.Ytljjpidigckheaa.Un
namespace Go.Proofs.Ytljjpidigckheaa.Un
open Go.RowKit
structure Sht where
 w : Int
 h : Int
 c : Rng
 s : List Rng
abbrev shA (x : Sht) (A : Option Addr) (n : Nat) : Array Value := #[I x.w, I x.h, I x.c.lo, I x.c.hi, .slice A x.s.length n]
def okSh (x : Sht) : Bool := decide (2 ≤ x.w) && (decide (x.w ≤ 6) && (decide (2 ≤ x.h) && (decide (x.h ≤ 6) && (decide ((x.s.length : Int) = x.w * x.h) && (all9 (-1000000) 1000000 x.s && spn9 x.c 0 10000000)))))
theorem okSh_iff {x : Sht} : okSh x = true ↔ (2 ≤ x.w ∧ x.w ≤ 6) ∧ (2 ≤ x.h ∧ x.h ≤ 6) ∧ (x.s.length : Int) = x.w * x.h ∧ all9 (-1000000) 1000000 x.s = true ∧ spn9 x.c 0 10000000 = true := by
 unfold okSh
 simp only [Bool.and_eq_true, decide_eq_true_eq]
 constructor
 · rintro ⟨h1, h2, h3, h4, h5, h6, h7⟩
   exact ⟨⟨h1, h2⟩, ⟨h3, h4⟩, h5, h6, h7⟩
 · rintro ⟨⟨h1, h2⟩, ⟨h3, h4⟩, h5, h6, h7⟩
   exact ⟨h1, h2, h3, h4, h5, h6, h7⟩
theorem sh_small {x : Sht} (h : okSh x = true) : x.s.length ≤ 36 := by
 obtain ⟨h1, h2, h3, _⟩ := okSh_iff.1 h
 have a := Int.mul_le_mul h1.2 h2.2 (by omega) (by omega : (0 : Int) ≤ 6)
 omega
set_option maxRecDepth 100000 in
set_option maxHeartbeats 4000000 in
theorem checkSheet_any (x : Sht) (A : Option Addr) (n : Nat) (w : World) (B : Nat) (hB : B ≤ w.heap.size) (hx : Rd w B 2 A x.s.length (rR x.s)) :
 Calls Try.prog 21 #[.agg (shA x A n)] w fun e w' => e = .returned (I (er9 (okSh x))) ∧ Below w.heap.size w w' := by
 have HX : Hid (∀ V, Below w.heap.size w V → Rd V B 2 A x.s.length (rR x.s) ∧ B ≤ V.heap.size) := fun V hV => ⟨hx.below (hV.mono hB), Nat.le_trans hB hV.size⟩
 have hf : Hid (okSh x = (decide (2 ≤ x.w) && (decide (x.w ≤ 6) && (decide (2 ≤ x.h) && (decide (x.h ≤ 6) && (decide ((x.s.length : Int) = x.w * x.h) && (all9 (-1000000) 1000000 x.s && spn9 x.c 0 10000000))))))) := rfl
 clear hx hB
 obtain ⟨W, hW⟩ : ∃ W, W = (w.alloc (.cells #[I x.w, I x.h, I x.c.lo, I x.c.hi, .slice A x.s.length n] 37)) := ⟨_, rfl⟩
 have rowW0 : W.heap[w.heap.size]? = some (.cells #[I x.w, I x.h, I x.c.lo, I x.c.hi, .slice A x.s.length n] 37 (0, 0)) := by rw [hW]; exact heap_last _ _ _ rfl
 have yW00 := ovr_cell (W := W) (b := w.heap.size) (o := 0) (v := I x.w) (by rw [cell_of_row _ _ _ _ _ _ rowW0]; rfl)
 have yW01 := ovr_cell (W := W) (b := w.heap.size) (o := 1) (v := I x.h) (by rw [cell_of_row _ _ _ _ _ _ rowW0]; rfl)
 have yW02 := ovr_cell (W := W) (b := w.heap.size) (o := 2) (v := I x.c.lo) (by rw [cell_of_row _ _ _ _ _ _ rowW0]; rfl)
 have yW03 := ovr_cell (W := W) (b := w.heap.size) (o := 3) (v := I x.c.hi) (by rw [cell_of_row _ _ _ _ _ _ rowW0]; rfl)
 have yW04 := ovr_cell (W := W) (b := w.heap.size) (o := 4) (v := .slice A x.s.length n) (by rw [cell_of_row _ _ _ _ _ _ rowW0]; rfl)
 have RrowW0 := Lib.hid (ovr_row rowW0)
 clear rowW0
 have HUW : Hid (∀ u, Below w.heap.size w (ovr W u)) := U1 hW
 have HW := Lib.hid hW
 clear hW
 have HUT : Hid (∀ V, Below W.heap.size W V → Below w.heap.size w V) := fun V h => by
  obtain ⟨v, rfl⟩ : ∃ v, V = ovr W v := ⟨V, ovr_of h⟩
  exact HUW.out v
 go_enter Try.func21, Try.ntmps21
 go_upto_region 1 with (fail)
 rw [← HW.out]
 by_cases t1 : x.w < 2
 · have d1 : decide (x.w < 2) = true := decide_eq_true t1
   have HNO : Hid (okSh x = false) := by show _ = _; rw [hf.out, decide_eq_false (by omega)]; rfl
   refine Gg.wp_region_make (fun _ => none) (by kernel_rfl) (by kernel_rfl) (by kernel_rfl) ?_
   repeat (first | (refine Gg.wpG_one rfl rfl rfl ?_; intro K hK; go_big_quiet_op; go_big_quiet_on) | (refine Gg.wpG_skip rfl ?_; simp only [Act.put, List.setIfInBounds_toArray, List.set_cons_zero, List.set_cons_succ]))
   refine Gg.wpG_nil (fun w5 hw5 hG => ?_)
   go_wp2_with fail
   go_ret
   exact ⟨by rw [HNO.out]; rfl, HUT.out w5 hw5.le⟩
 have d1 : decide (x.w < 2) = false := decide_eq_false t1
 by_cases t2 : 6 < x.w
 · have d2 : decide (6 < x.w) = true := decide_eq_true t2
   have HNO : Hid (okSh x = false) := by show _ = _; rw [hf.out, decide_eq_false (p := x.w ≤ 6) (by omega), Bool.false_and, Bool.and_false]
   refine Gg.wp_region_make (fun _ => none) (by kernel_rfl) (by kernel_rfl) (by kernel_rfl) ?_
   repeat (first | (refine Gg.wpG_one rfl rfl rfl ?_; intro K hK; go_big_quiet_op; go_big_quiet_on) | (refine Gg.wpG_skip rfl ?_; simp only [Act.put, List.setIfInBounds_toArray, List.set_cons_zero, List.set_cons_succ]))
   refine Gg.wpG_nil (fun w5 hw5 hG => ?_)
   go_wp2_with fail
   go_ret
   exact ⟨by rw [HNO.out]; rfl, HUT.out w5 hw5.le⟩
 have d2 : decide (6 < x.w) = false := decide_eq_false t2
 rw [decide_eq_true (p := 2 ≤ x.w) (by omega), decide_eq_true (p := x.w ≤ 6) (by omega), Bool.true_and, Bool.true_and] at hf
 by_cases t3 : x.h < 2
 · have d3 : decide (x.h < 2) = true := decide_eq_true t3
   have HNO : Hid (okSh x = false) := by show _ = _; rw [hf.out, decide_eq_false (by omega)]; rfl
   refine Gg.wp_region_make (fun _ => none) (by kernel_rfl) (by kernel_rfl) (by kernel_rfl) ?_
   repeat (first | (refine Gg.wpG_one rfl rfl rfl ?_; intro K hK; go_big_quiet_op; go_big_quiet_on) | (refine Gg.wpG_skip rfl ?_; simp only [Act.put, List.setIfInBounds_toArray, List.set_cons_zero, List.set_cons_succ]))
   refine Gg.wpG_nil (fun w5 hw5 hG => ?_)
   go_wp2_with fail
   go_ret
   exact ⟨by rw [HNO.out]; rfl, HUT.out w5 hw5.le⟩
 have d3 : decide (x.h < 2) = false := decide_eq_false t3
 by_cases t4 : 6 < x.h
 · have d4 : decide (6 < x.h) = true := decide_eq_true t4
   have HNO : Hid (okSh x = false) := by show _ = _; rw [hf.out, decide_eq_false (p := x.h ≤ 6) (by omega), Bool.false_and, Bool.and_false]
   refine Gg.wp_region_make (fun _ => none) (by kernel_rfl) (by kernel_rfl) (by kernel_rfl) ?_
   repeat (first | (refine Gg.wpG_one rfl rfl rfl ?_; intro K hK; go_big_quiet_op; go_big_quiet_on) | (refine Gg.wpG_skip rfl ?_; simp only [Act.put, List.setIfInBounds_toArray, List.set_cons_zero, List.set_cons_succ]))
   refine Gg.wpG_nil (fun w5 hw5 hG => ?_)
   go_wp2_with fail
   go_ret
   exact ⟨by rw [HNO.out]; rfl, HUT.out w5 hw5.le⟩
 have d4 : decide (6 < x.h) = false := decide_eq_false t4
 rw [decide_eq_true (p := 2 ≤ x.h) (by omega), decide_eq_true (p := x.h ≤ 6) (by omega), Bool.true_and, Bool.true_and] at hf
 have hmu : IntKind.i64.wrap (x.w * x.h) = x.w * x.h := IntWalk.i64_in _ (by
  have a := Int.mul_le_mul (show x.w ≤ 6 by omega) (show x.h ≤ 6 by omega) (by omega) (by omega : (0 : Int) ≤ 6)
  have b := Int.mul_nonneg (show 0 ≤ x.w by omega) (show 0 ≤ x.h by omega)
  omega)
 have h36 : x.w * x.h ≤ 36 := by
  have a := Int.mul_le_mul (show x.w ≤ 6 by omega) (show x.h ≤ 6 by omega) (by omega) (by omega : (0 : Int) ≤ 6)
  omega
 obtain ⟨m, hm⟩ : ∃ m, x.w * x.h = m := ⟨_, rfl⟩
 rw [hm] at hf hmu h36
 have H36 := Lib.hid h36
 clear t1 t2 t3 t4 h36
 rw [← hm] at hmu
 by_cases t5 : (x.s.length : Int) = m
 case neg =>
  have d5 : ((x.s.length : Int) != x.w * x.h) = true := by rw [hm]; simpa using t5
  have HNO : Hid (okSh x = false) := by show _ = _; rw [hf.out, decide_eq_false t5]; rfl
  clear t5 hm
  refine Gg.wp_region_make (fun _ => none) (by kernel_rfl) (by kernel_rfl) (by kernel_rfl) ?_
  repeat (first | (refine Gg.wpG_one rfl rfl rfl ?_; intro K hK; go_big_quiet_op; go_big_quiet_on) | (refine Gg.wpG_skip rfl ?_; simp only [Act.put, List.setIfInBounds_toArray, List.set_cons_zero, List.set_cons_succ]))
  refine Gg.wpG_nil (fun w5 hw5 hG => ?_)
  go_wp2_with fail
  go_ret
  exact ⟨by rw [HNO.out]; rfl, HUT.out w5 hw5.le⟩
 have d5 : ((x.s.length : Int) != x.w * x.h) = false := by rw [hm]; simpa using t5
 rw [decide_eq_true t5, Bool.true_and] at hf
 have HS : Hid (∀ V, Below w.heap.size w V → Calls Try.prog 49 #[.agg #[I (-1000000), I 1000000], .slice A x.s.length n] V fun e w' => e = .returned (.bool (all9 (-1000000) 1000000 x.s)) ∧ Below V.heap.size V w') := fun V hV =>
  has_any (-1000000) 1000000 A n x.s V B (by unfold maxLen; have := H36.out; omega) (HX.out V hV).2 (HX.out V hV).1
 clear t5 hm
 rcases t6 : all9 (-1000000) 1000000 x.s with _ | _
 · have HF1 := Lib.hid t6
   have HNO : Hid (okSh x = false) := by show _ = _; rw [hf.out, t6]; rfl
   clear t6
   refine Gg.wp_region_make (fun j => if j = 30 then some (fun u _ => u = .agg #[I (-1000000), I 1000000]) else if j = 33 then some (fun u _ => u = .bool (all9 (-1000000) 1000000 x.s)) else none) (by kernel_rfl) (by kernel_rfl) (by kernel_rfl) ?_
   repeat (first | (refine Gg.wpG_one rfl rfl rfl ?_; intro K hK; go_big_quiet_op; go_big_quiet_on) | (refine Gg.wpG_skip rfl ?_; simp only [Act.put, List.setIfInBounds_toArray, List.set_cons_zero, List.set_cons_succ]))
   refine Gg.wpG_make (fun u _ => u = .agg #[I (-1000000), I 1000000]) rfl rfl (fun w' hw' hk => ?_) (fun u hu => ?_)
   · go_simp
     exact call_grow (heights_any w')
   obtain ⟨_, _, rfl⟩ := hu
   simp only [Act.put, List.setIfInBounds_toArray, List.set_cons_zero, List.set_cons_succ]
   repeat (first | (refine Gg.wpG_one rfl rfl rfl ?_; intro K hK; go_big_quiet_op; go_big_quiet_on) | (refine Gg.wpG_skip rfl ?_; simp only [Act.put, List.setIfInBounds_toArray, List.set_cons_zero, List.set_cons_succ]))
   refine Gg.wpG_make (fun u _ => u = .bool (all9 (-1000000) 1000000 x.s)) rfl rfl (fun w' hw' hk => ?_) (fun u hu => ?_)
   · go_simp
     exact call_grow (HS.out w' (HUT.out w' hw'.le))
   obtain ⟨_, _, rfl⟩ := hu
   rw [HF1.out]
   simp only [Act.put, List.setIfInBounds_toArray, List.set_cons_zero, List.set_cons_succ]
   repeat (first | (refine Gg.wpG_one rfl rfl rfl ?_; intro K hK; go_big_quiet_op; go_big_quiet_on) | (refine Gg.wpG_skip rfl ?_; simp only [Act.put, List.setIfInBounds_toArray, List.set_cons_zero, List.set_cons_succ]))
   refine Gg.wpG_nil (fun w5 hw5 hG => ?_)
   go_wp2_with fail
   go_ret
   exact ⟨by rw [HNO.out]; rfl, HUT.out w5 hw5.le⟩
 have HF1 := Lib.hid t6
 rw [t6, Bool.true_and] at hf
 clear t6
 rcases t7 : spn9 x.c 0 10000000 with _ | _
 · have HF2 := Lib.hid t7
   have HNO : Hid (okSh x = false) := by show _ = _; rw [hf.out, t7]
   clear t7
   refine Gg.wp_region_make (fun j => if j = 30 then some (fun u _ => u = .agg #[I (-1000000), I 1000000]) else if j = 33 then some (fun u _ => u = .bool (all9 (-1000000) 1000000 x.s)) else if j = 37 then some (fun u _ => u = .agg #[I 0, I 10000000]) else if j = 40 then some (SlN W #[I x.c.lo, I x.c.hi] 24 1) else if j = 41 then some (fun u _ => u = .bool (spn9 x.c 0 10000000)) else none) (by kernel_rfl) (by kernel_rfl) (by kernel_rfl) ?_
   repeat (first | (refine Gg.wpG_one rfl rfl rfl ?_; intro K hK; go_big_quiet_op; go_big_quiet_on) | (refine Gg.wpG_skip rfl ?_; simp only [Act.put, List.setIfInBounds_toArray, List.set_cons_zero, List.set_cons_succ]))
   refine Gg.wpG_make (fun u _ => u = .agg #[I (-1000000), I 1000000]) rfl rfl (fun w' hw' hk => ?_) (fun u hu => ?_)
   · go_simp
     exact call_grow (heights_any w')
   obtain ⟨_, _, rfl⟩ := hu
   simp only [Act.put, List.setIfInBounds_toArray, List.set_cons_zero, List.set_cons_succ]
   repeat (first | (refine Gg.wpG_one rfl rfl rfl ?_; intro K hK; go_big_quiet_op; go_big_quiet_on) | (refine Gg.wpG_skip rfl ?_; simp only [Act.put, List.setIfInBounds_toArray, List.set_cons_zero, List.set_cons_succ]))
   refine Gg.wpG_make (fun u _ => u = .bool (all9 (-1000000) 1000000 x.s)) rfl rfl (fun w' hw' hk => ?_) (fun u hu => ?_)
   · go_simp
     exact call_grow (HS.out w' (HUT.out w' hw'.le))
   obtain ⟨_, _, rfl⟩ := hu
   rw [HF1.out]
   simp only [Act.put, List.setIfInBounds_toArray, List.set_cons_zero, List.set_cons_succ]
   repeat (first | (refine Gg.wpG_one rfl rfl rfl ?_; intro K hK; go_big_quiet_op; go_big_quiet_on) | (refine Gg.wpG_skip rfl ?_; simp only [Act.put, List.setIfInBounds_toArray, List.set_cons_zero, List.set_cons_succ]))
   refine Gg.wpG_make (fun u _ => u = .agg #[I 0, I 10000000]) rfl rfl (fun w' hw' hk => ?_) (fun u hu => ?_)
   · go_simp
     exact call_grow (amounts_any w')
   obtain ⟨_, _, rfl⟩ := hu
   simp only [Act.put, List.setIfInBounds_toArray, List.set_cons_zero, List.set_cons_succ]
   repeat (first | (refine Gg.wpG_one rfl rfl rfl ?_; intro K hK; go_big_quiet_op; go_big_quiet_on) | (refine Gg.wpG_skip rfl ?_; simp only [Act.put, List.setIfInBounds_toArray, List.set_cons_zero, List.set_cons_succ]))
   refine Gg.wpG_make (SlN W #[I x.c.lo, I x.c.hi] 24 1) rfl rfl (fun w' hw' hk => ?_) (fun u hu => ?_)
   · go_simp
     exact sln_grow hw'
   obtain ⟨_, _, b2, rfl, _, _⟩ := hu
   simp only [Act.put, List.setIfInBounds_toArray, List.set_cons_zero, List.set_cons_succ]
   repeat (first | (refine Gg.wpG_one rfl rfl rfl ?_; intro K hK; go_big_quiet_op; go_big_quiet_on) | (refine Gg.wpG_skip rfl ?_; simp only [Act.put, List.setIfInBounds_toArray, List.set_cons_zero, List.set_cons_succ]))
   refine Gg.wpG_make (fun u _ => u = .bool (spn9 x.c 0 10000000)) rfl rfl (fun w' hw' hk => ?_) (fun u hu => ?_)
   · have hk3 := (hk ⟨40, .data⟩ (by simp) rfl _ _ _ rfl (.inr (by simp [undef])) rfl (by simp) rfl).now.at
     go_simp
     exact call_grow (hasRow hk3.1 0 10000000)
   obtain ⟨_, _, rfl⟩ := hu
   rw [HF2.out]
   simp only [Act.put, List.setIfInBounds_toArray, List.set_cons_zero, List.set_cons_succ]
   repeat (first | (refine Gg.wpG_one rfl rfl rfl ?_; intro K hK; go_big_quiet_op; go_big_quiet_on) | (refine Gg.wpG_skip rfl ?_; simp only [Act.put, List.setIfInBounds_toArray, List.set_cons_zero, List.set_cons_succ]))
   refine Gg.wpG_nil (fun w5 hw5 hG => ?_)
   go_wp2_with fail
   go_ret
   exact ⟨by rw [HNO.out]; rfl, HUT.out w5 hw5.le⟩
 have HF2 := Lib.hid t7
 have HNO : Hid (okSh x = true) := by show _ = _; rw [hf.out, t7]
 clear t7
 refine Gg.wp_region_make (fun j => if j = 30 then some (fun u _ => u = .agg #[I (-1000000), I 1000000]) else if j = 33 then some (fun u _ => u = .bool (all9 (-1000000) 1000000 x.s)) else if j = 37 then some (fun u _ => u = .agg #[I 0, I 10000000]) else if j = 40 then some (SlN W #[I x.c.lo, I x.c.hi] 24 1) else if j = 41 then some (fun u _ => u = .bool (spn9 x.c 0 10000000)) else none) (by kernel_rfl) (by kernel_rfl) (by kernel_rfl) ?_
 repeat (first | (refine Gg.wpG_one rfl rfl rfl ?_; intro K hK; go_big_quiet_op; go_big_quiet_on) | (refine Gg.wpG_skip rfl ?_; simp only [Act.put, List.setIfInBounds_toArray, List.set_cons_zero, List.set_cons_succ]))
 refine Gg.wpG_make (fun u _ => u = .agg #[I (-1000000), I 1000000]) rfl rfl (fun w' hw' hk => ?_) (fun u hu => ?_)
 · go_simp
   exact call_grow (heights_any w')
 obtain ⟨_, _, rfl⟩ := hu
 simp only [Act.put, List.setIfInBounds_toArray, List.set_cons_zero, List.set_cons_succ]
 repeat (first | (refine Gg.wpG_one rfl rfl rfl ?_; intro K hK; go_big_quiet_op; go_big_quiet_on) | (refine Gg.wpG_skip rfl ?_; simp only [Act.put, List.setIfInBounds_toArray, List.set_cons_zero, List.set_cons_succ]))
 refine Gg.wpG_make (fun u _ => u = .bool (all9 (-1000000) 1000000 x.s)) rfl rfl (fun w' hw' hk => ?_) (fun u hu => ?_)
 · go_simp
   exact call_grow (HS.out w' (HUT.out w' hw'.le))
 obtain ⟨_, _, rfl⟩ := hu
 rw [HF1.out]
 simp only [Act.put, List.setIfInBounds_toArray, List.set_cons_zero, List.set_cons_succ]
 repeat (first | (refine Gg.wpG_one rfl rfl rfl ?_; intro K hK; go_big_quiet_op; go_big_quiet_on) | (refine Gg.wpG_skip rfl ?_; simp only [Act.put, List.setIfInBounds_toArray, List.set_cons_zero, List.set_cons_succ]))
 refine Gg.wpG_make (fun u _ => u = .agg #[I 0, I 10000000]) rfl rfl (fun w' hw' hk => ?_) (fun u hu => ?_)
 · go_simp
   exact call_grow (amounts_any w')
 obtain ⟨_, _, rfl⟩ := hu
 simp only [Act.put, List.setIfInBounds_toArray, List.set_cons_zero, List.set_cons_succ]
 repeat (first | (refine Gg.wpG_one rfl rfl rfl ?_; intro K hK; go_big_quiet_op; go_big_quiet_on) | (refine Gg.wpG_skip rfl ?_; simp only [Act.put, List.setIfInBounds_toArray, List.set_cons_zero, List.set_cons_succ]))
 refine Gg.wpG_make (SlN W #[I x.c.lo, I x.c.hi] 24 1) rfl rfl (fun w' hw' hk => ?_) (fun u hu => ?_)
 · go_simp
   exact sln_grow hw'
 obtain ⟨_, _, b2, rfl, _, _⟩ := hu
 simp only [Act.put, List.setIfInBounds_toArray, List.set_cons_zero, List.set_cons_succ]
 repeat (first | (refine Gg.wpG_one rfl rfl rfl ?_; intro K hK; go_big_quiet_op; go_big_quiet_on) | (refine Gg.wpG_skip rfl ?_; simp only [Act.put, List.setIfInBounds_toArray, List.set_cons_zero, List.set_cons_succ]))
 refine Gg.wpG_make (fun u _ => u = .bool (spn9 x.c 0 10000000)) rfl rfl (fun w' hw' hk => ?_) (fun u hu => ?_)
 · have hk3 := (hk ⟨40, .data⟩ (by simp) rfl _ _ _ rfl (.inr (by simp [undef])) rfl (by simp) rfl).now.at
   go_simp
   exact call_grow (hasRow hk3.1 0 10000000)
 obtain ⟨_, _, rfl⟩ := hu
 rw [HF2.out]
 simp only [Act.put, List.setIfInBounds_toArray, List.set_cons_zero, List.set_cons_succ]
 repeat (first | (refine Gg.wpG_one rfl rfl rfl ?_; intro K hK; go_big_quiet_op; go_big_quiet_on) | (refine Gg.wpG_skip rfl ?_; simp only [Act.put, List.setIfInBounds_toArray, List.set_cons_zero, List.set_cons_succ]))
 refine Gg.wpG_nil (fun w5 hw5 hG => ?_)
 go_wp2_with fail
 go_ret
 exact ⟨by rw [HNO.out]; rfl, HUT.out w5 hw5.le⟩
end Go.Proofs.Ytljjpidigckheaa.Un
namespace Go.Proofs.Ytljjpidigckheaa.Un
open Go.RowKit
def hu9 (xs : List Rng) : Rng := foK huF xs (xs.length - 1)
theorem foK_hu (xs : List Rng) : ∀ k, k < xs.length → (∀ j, j ≤ k → (foK huF xs k).lo ≤ (at0 xs j).lo ∧ (at0 xs j).hi ≤ (foK huF xs k).hi) ∧ (∃ j, j ≤ k ∧ (foK huF xs k).lo = (at0 xs j).lo) ∧ ∃ j, j ≤ k ∧ (foK huF xs k).hi = (at0 xs j).hi
 | 0, _ => ⟨fun j hj => by obtain rfl : j = 0 := by omega
                           exact ⟨Int.le_refl _, Int.le_refl _⟩, ⟨0, Nat.le_refl _, rfl⟩, 0, Nat.le_refl _, rfl⟩
 | k + 1, h => by
   obtain ⟨h1, ⟨j2, h2, e2⟩, j3, h3, e3⟩ := foK_hu xs k (by omega)
   have el : (foK huF xs (k + 1)).lo = min (foK huF xs k).lo (at0 xs (k + 1)).lo := rfl
   have eh : (foK huF xs (k + 1)).hi = max (foK huF xs k).hi (at0 xs (k + 1)).hi := rfl
   refine ⟨fun j hj => ?_, ?_, ?_⟩
   · rw [el, eh]
     rcases Nat.lt_or_ge j (k + 1) with hh | hh
     · have := h1 j (by omega); omega
     · obtain rfl : j = k + 1 := by omega
       omega
   · rw [el]
     rcases Int.le_total (foK huF xs k).lo (at0 xs (k + 1)).lo with hh | hh
     · exact ⟨j2, by omega, by rw [← e2]; omega⟩
     · exact ⟨k + 1, Nat.le_refl _, by omega⟩
   · rw [eh]
     rcases Int.le_total (foK huF xs k).hi (at0 xs (k + 1)).hi with hh | hh
     · exact ⟨k + 1, Nat.le_refl _, by omega⟩
     · exact ⟨j3, by omega, by rw [← e3]; omega⟩
theorem hu9_spec {xs : List Rng} (h : 0 < xs.length) : (∀ j, j < xs.length → (hu9 xs).lo ≤ (at0 xs j).lo ∧ (at0 xs j).hi ≤ (hu9 xs).hi) ∧ (∃ j, j < xs.length ∧ (hu9 xs).lo = (at0 xs j).lo) ∧ ∃ j, j < xs.length ∧ (hu9 xs).hi = (at0 xs j).hi := by
 obtain ⟨h1, ⟨j2, h2, e2⟩, j3, h3, e3⟩ := foK_hu xs (xs.length - 1) (by omega)
 exact ⟨fun j hj => h1 j (by omega), ⟨j2, by omega, e2⟩, j3, by omega, e3⟩
theorem all9_at {l h : Int} {xs : List Rng} (ha : all9 l h xs = true) {j : Nat} (hj : j < xs.length) : l ≤ (at0 xs j).lo ∧ (at0 xs j).lo ≤ (at0 xs j).hi ∧ (at0 xs j).hi ≤ h := by
 have := all9_iff.1 ha (at0 xs j) (by rw [at0_get hj]; exact List.getElem_mem hj)
 exact spn9_iff.1 this
theorem hu9_bd {l h : Int} {xs : List Rng} (h0 : 0 < xs.length) (ha : all9 l h xs = true) : l ≤ (hu9 xs).lo ∧ (hu9 xs).lo ≤ (hu9 xs).hi ∧ (hu9 xs).hi ≤ h := by
 obtain ⟨h1, ⟨j2, h2, e2⟩, j3, h3, e3⟩ := hu9_spec h0
 have a2 := all9_at ha h2
 have a3 := all9_at ha h3
 have a1 := h1 j2 h2
 omega
theorem rngsOk_of {l h : Int} {xs : List Rng} (hl : -1000000000000000 ≤ l) (hh : h ≤ 1000000000000000) (ha : all9 l h xs = true) : rngsOk xs = true := by
 unfold rngsOk
 rw [Bool.not_eq_true']
 rcases hq : xs.any badR with _ | _
 · rfl
 · obtain ⟨r, hr, hb⟩ := List.any_eq_true.1 hq
   have := spn9_iff.1 (all9_iff.1 ha r hr)
   unfold badR at hb
   rw [rngOk_iff.2 (by omega)] at hb
   cases hb
theorem foF_hu {xs : List Rng} (h0 : 0 < xs.length) (h100 : xs.length ≤ 100) {l h : Int} (hl : -1000000000000000 ≤ l) (hh : h ≤ 1000000000000000) (ha : all9 l h xs = true) : foF huF xs = (hu9 xs, 0) := by
 unfold foF
 have hc : chk xs = 0 := by unfold chk; rw [if_neg (by omega), rngsOk_of hl hh ha]; rfl
 rw [if_pos hc, if_neg (by omega)]
 have hb := hu9_bd h0 ha
 unfold hu9 at hb
 rw [if_neg (by omega)]
 rfl
theorem sh_pos {x : Sht} (h : okSh x = true) : 0 < x.s.length := by
 obtain ⟨h1, h2, h3, _⟩ := okSh_iff.1 h
 have := Int.mul_pos (show 0 < x.w by omega) (show 0 < x.h by omega)
 omega
set_option maxRecDepth 100000 in
set_option maxHeartbeats 2000000 in
theorem hull9_any (x : Sht) (A : Option Addr) (n : Nat) (w : World) (B : Nat) (ho : okSh x = true) (hn : x.s.length ≤ n ∧ n ≤ maxLen) (hB : B ≤ w.heap.size) (hx : Rd w B 2 A x.s.length (rR x.s)) :
 Calls Try.prog 60 #[.agg (shA x A n)] w fun e w' => e = .returned (hu9 x.s).val ∧ Below w.heap.size w w' := by
 have cf : Hid (∀ V, Below w.heap.size w V → Calls Try.prog 100 #[.slice A x.s.length n] V fun e w' => e = .returned (.tuple #[.agg #[I (hu9 x.s).lo, I (hu9 x.s).hi], I 0]) ∧ Below V.heap.size V w') := fun V hV => by
  have h9 := hull_any A x.s.length n x.s V B rfl hn.1 hn.2 (Nat.le_trans hB hV.size) (hx.below (hV.mono hB))
  rw [foF_hu (sh_pos ho) (by have := sh_small ho; omega) (by decide) (by decide) (okSh_iff.1 ho).2.2.2.1] at h9
  exact h9
 clear hx hB ho hn
 obtain ⟨h, hh⟩ : ∃ h, hu9 x.s = h := ⟨_, rfl⟩
 rw [hh] at cf ⊢
 clear hh
 obtain ⟨W, hW⟩ : ∃ W, W = ((w.alloc (.cells #[I x.w, I x.h, I x.c.lo, I x.c.hi, .slice A x.s.length n] 37)).alloc (.cells #[I 0, I 0] 24)) := ⟨_, rfl⟩
 have rowW0 : W.heap[w.heap.size]? = some (.cells #[I x.w, I x.h, I x.c.lo, I x.c.hi, .slice A x.s.length n] 37 (0, 0)) := by rw [hW]; exact heap_before (heap_last _ _ _ rfl)
 have yW00 := ovr_cell (W := W) (b := w.heap.size) (o := 0) (v := I x.w) (by rw [cell_of_row _ _ _ _ _ _ rowW0]; rfl)
 have yW01 := ovr_cell (W := W) (b := w.heap.size) (o := 1) (v := I x.h) (by rw [cell_of_row _ _ _ _ _ _ rowW0]; rfl)
 have yW02 := ovr_cell (W := W) (b := w.heap.size) (o := 2) (v := I x.c.lo) (by rw [cell_of_row _ _ _ _ _ _ rowW0]; rfl)
 have yW03 := ovr_cell (W := W) (b := w.heap.size) (o := 3) (v := I x.c.hi) (by rw [cell_of_row _ _ _ _ _ _ rowW0]; rfl)
 have yW04 := ovr_cell (W := W) (b := w.heap.size) (o := 4) (v := .slice A x.s.length n) (by rw [cell_of_row _ _ _ _ _ _ rowW0]; rfl)
 have RrowW0 := Lib.hid (ovr_row rowW0)
 clear rowW0
 have rowW1 : W.heap[w.heap.size + 1]? = some (.cells #[I 0, I 0] 24 (0, 0)) := by rw [hW]; exact heap_last _ _ _ (by simp)
 have yW10 := ovr_cell (W := W) (b := w.heap.size + 1) (o := 0) (v := I 0) (by rw [cell_of_row _ _ _ _ _ _ rowW1]; rfl)
 have yW11 := ovr_cell (W := W) (b := w.heap.size + 1) (o := 1) (v := I 0) (by rw [cell_of_row _ _ _ _ _ _ rowW1]; rfl)
 have RrowW1 := Lib.hid (ovr_row rowW1)
 clear rowW1
 have HUW : Hid (∀ u, Below w.heap.size w (ovr W u)) := U2 hW
 have HW := Lib.hid hW
 clear hW
 go_enter Try.func60, Try.ntmps60
 go_upto_region 1 with (fail)
 rw [← HW.out]
 obtain ⟨u0, hu0⟩ := ovr_self W
 rw [hu0]
 clear hu0
 go_wp2_with fail
 refine (cf.out _ (HUW.out _)).mono ?_
 rintro e w1 ⟨rfl, hb1⟩
 obtain ⟨u1, rfl⟩ := ovr_next hb1
 clear hb1
 go_upto_region 2 with fail
 obtain ⟨X, hX⟩ : ∃ X, X = ((ovr W u1).alloc (.cells #[I h.lo, I h.hi] 24)) := ⟨_, rfl⟩
 have reX : ∀ v, ∃ x, ovr X v = ovr W x := fun v => ovr_re1 hX
 replace yW00 := tr_cell reX yW00
 replace yW01 := tr_cell reX yW01
 replace yW02 := tr_cell reX yW02
 replace yW03 := tr_cell reX yW03
 replace yW04 := tr_cell reX yW04
 replace RrowW0 := Lib.hid (tr_row reX RrowW0.out)
 replace yW10 := tr_cell reX yW10
 replace yW11 := tr_cell reX yW11
 replace RrowW1 := Lib.hid (tr_row reX RrowW1.out)
 have rowX0 : X.heap[(ovr W u1).heap.size]? = some (.cells #[I h.lo, I h.hi] 24 (0, 0)) := by rw [hX]; exact heap_last _ _ _ rfl
 have yX00 := ovr_cell (W := X) (b := (ovr W u1).heap.size) (o := 0) (v := I h.lo) (by rw [cell_of_row _ _ _ _ _ _ rowX0]; rfl)
 have yX01 := ovr_cell (W := X) (b := (ovr W u1).heap.size) (o := 1) (v := I h.hi) (by rw [cell_of_row _ _ _ _ _ _ rowX0]; rfl)
 have RrowX0 := Lib.hid (ovr_row rowX0)
 clear rowX0
 have HBX : Hid (∀ u, Below W.heap.size W (ovr X u)) := fun u => by obtain ⟨x, hx⟩ := reX u; rw [hx]; exact ovr_below _ _
 have HUX : Hid (∀ u, Below w.heap.size w (ovr X u)) := fun u => by obtain ⟨x, hx⟩ := reX u; rw [hx]; exact HUW.out x
 clear reX
 have HX := Lib.hid hX
 clear hX
 rw [← HX.out]
 obtain ⟨u2, hu2⟩ := ovr_self X
 rw [hu2]
 clear hu2
 go_wp2_with (refine wpList_store_row rfl 24 _ _ rfl (w.heap.size + 1) rfl _ _ (RrowW1.out _) _ rfl (one2 rfl rfl) rfl (by kernel_rfl) ?_)
 refine bodyPost_ret (results_cell_only rfl _ _ (w.heap.size + 1) 24 _ (0, 0) _ rfl (setRow_same (RrowW1.out _)) Try.underlying24 rfl (by kernel_rfl)) rfl ?_
 exact ⟨rfl, below_setRow (HUX.out _) (by omega) _⟩
theorem er9_t : er9 true = 0 := rfl
theorem er9_f : er9 false = 2 := rfl
def th9 (x : Sht) : Rng := ⟨x.c.lo + (hu9 x.s).lo, x.c.hi + (hu9 x.s).hi⟩
theorem suF_two {a b : Rng} (ha : rngOk a = true) (hb : rngOk b = true) : suF [a, b] = fiF (a.lo + b.lo) (a.hi + b.hi) := by
 have hr : rngsOk [a, b] = true := by unfold rngsOk badR; simp [ha, hb]
 have hc : chk [a, b] = 0 := by unfold chk; rw [if_neg (by simp), hr]; rfl
 unfold suF
 rw [if_pos hc]
 show fiF (0 + a.lo + b.lo) (0 + a.hi + b.hi) = _
 rw [Int.zero_add, Int.zero_add]
theorem fiF_ok {lo hi : Int} (h1 : -1000000000000000 ≤ lo ∧ lo ≤ 1000000000000000) (h2 : -1000000000000000 ≤ hi ∧ hi ≤ 1000000000000000) : fiF lo hi = (⟨lo, hi⟩, 0) := by
 unfold fiF
 rw [numB_iff.2 h1, numB_iff.2 h2]
 rfl
def thF (x : Sht) : Rng × Int := if okSh x then (th9 x, 0) else (⟨0, 0⟩, 2)
theorem th9_su {x : Sht} (h : okSh x = true) : suF [hu9 x.s, x.c] = (th9 x, 0) := by
 have h1 := hu9_bd (sh_pos h) (okSh_iff.1 h).2.2.2.1
 have h2 := spn9_iff.1 (okSh_iff.1 h).2.2.2.2
 rw [suF_two (rngOk_iff.2 (by omega)) (rngOk_iff.2 (by omega)), fiF_ok (by omega) (by omega)]
 unfold th9
 rw [Int.add_comm x.c.lo, Int.add_comm x.c.hi]
theorem rd_row2 {w : World} {b : Nat} {r s : Rng} {t : TypeId} (h : w.heap[b]? = some (.cells #[I r.lo, I r.hi, I s.lo, I s.hi] t (0, 0))) : Rd w w.heap.size 2 (some ⟨b, 0, none⟩) 2 (rR [r, s]) :=
 Rd_new h 2 2 0 _ (fun k hk j hj => by
  rcases k with _ | _ | k
  · rcases j with _ | _ | j
    · rfl
    · rfl
    · omega
  · rcases j with _ | _ | j
    · rfl
    · rfl
    · omega
  · omega)
theorem sumRow {w : World} {b : Nat} {r s : Rng} {t : TypeId} (h : w.heap[b]? = some (.cells #[I r.lo, I r.hi, I s.lo, I s.hi] t (0, 0))) :
 Calls Try.prog 54 #[.slice (some ⟨b, 0, none⟩) 2 2] w (RetRn w (suF [r, s])) :=
 sum_any (some ⟨b, 0, none⟩) 2 2 [r, s] w w.heap.size rfl (by unfold maxLen; omega) (Nat.le_refl _) (rd_row2 h)
set_option maxRecDepth 100000 in
set_option maxHeartbeats 2000000 in
theorem thickness_any (x : Sht) (A : Option Addr) (n : Nat) (w : World) (B : Nat) (hn : x.s.length ≤ n ∧ n ≤ maxLen) (hB : B ≤ w.heap.size) (hx : Rd w B 2 A x.s.length (rR x.s)) :
 Calls Try.prog 23 #[.agg (shA x A n)] w (RetRn w (thF x)) := by
 have HX : Hid (∀ V, Below w.heap.size w V → Rd V B 2 A x.s.length (rR x.s) ∧ B ≤ V.heap.size) := fun V hV => ⟨hx.below (hV.mono hB), Nat.le_trans hB hV.size⟩
 have CS : Hid (∀ V, Below w.heap.size w V → Calls Try.prog 21 #[.agg #[I x.w, I x.h, I x.c.lo, I x.c.hi, .slice A x.s.length n]] V fun e w' => e = .returned (I (er9 (okSh x))) ∧ Below V.heap.size V w') := fun V hV => checkSheet_any x A n V B (HX.out V hV).2 (HX.out V hV).1
 have CH : Hid (okSh x = true → ∀ V, Below w.heap.size w V → Calls Try.prog 60 #[.agg #[I x.w, I x.h, I x.c.lo, I x.c.hi, .slice A x.s.length n]] V fun e w' => e = .returned (hu9 x.s).val ∧ Below V.heap.size V w') := fun ho V hV => hull9_any x A n V B ho hn (HX.out V hV).2 (HX.out V hV).1
 have hf : Hid (thF x = if okSh x then (th9 x, (0 : Int)) else (⟨0, 0⟩, 2)) := rfl
 clear hx hB hn
 obtain ⟨W, hW⟩ : ∃ W, W = ((w.alloc (.cells #[I x.w, I x.h, I x.c.lo, I x.c.hi, .slice A x.s.length n] 37)).alloc (.cells #[I 0, I 0] 24)) := ⟨_, rfl⟩
 have rowW0 : W.heap[w.heap.size]? = some (.cells #[I x.w, I x.h, I x.c.lo, I x.c.hi, .slice A x.s.length n] 37 (0, 0)) := by rw [hW]; exact heap_before (heap_last _ _ _ rfl)
 have yW00 := ovr_cell (W := W) (b := w.heap.size) (o := 0) (v := I x.w) (by rw [cell_of_row _ _ _ _ _ _ rowW0]; rfl)
 have yW01 := ovr_cell (W := W) (b := w.heap.size) (o := 1) (v := I x.h) (by rw [cell_of_row _ _ _ _ _ _ rowW0]; rfl)
 have yW02 := ovr_cell (W := W) (b := w.heap.size) (o := 2) (v := I x.c.lo) (by rw [cell_of_row _ _ _ _ _ _ rowW0]; rfl)
 have yW03 := ovr_cell (W := W) (b := w.heap.size) (o := 3) (v := I x.c.hi) (by rw [cell_of_row _ _ _ _ _ _ rowW0]; rfl)
 have yW04 := ovr_cell (W := W) (b := w.heap.size) (o := 4) (v := .slice A x.s.length n) (by rw [cell_of_row _ _ _ _ _ _ rowW0]; rfl)
 have RrowW0 := Lib.hid (ovr_row rowW0)
 clear rowW0
 have rowW1 : W.heap[w.heap.size + 1]? = some (.cells #[I 0, I 0] 24 (0, 0)) := by rw [hW]; exact heap_last _ _ _ (by simp)
 have yW10 := ovr_cell (W := W) (b := w.heap.size + 1) (o := 0) (v := I 0) (by rw [cell_of_row _ _ _ _ _ _ rowW1]; rfl)
 have yW11 := ovr_cell (W := W) (b := w.heap.size + 1) (o := 1) (v := I 0) (by rw [cell_of_row _ _ _ _ _ _ rowW1]; rfl)
 have RrowW1 := Lib.hid (ovr_row rowW1)
 clear rowW1
 have HUW : Hid (∀ u, Below w.heap.size w (ovr W u)) := U2 hW
 have HW := Lib.hid hW
 clear hW
 go_enter Try.func23, Try.ntmps23
 go_upto_region 1 with (fail)
 rw [← HW.out]
 obtain ⟨u0, hu0⟩ := ovr_self W
 rw [hu0]
 clear hu0
 rcases ho : okSh x with _ | _
 · rw [ho, er9_f] at CS
   rw [ho] at hf
   clear CH ho
   go_wp2_with fail
   refine (CS.out _ (HUW.out _)).mono ?_
   rintro e w1 ⟨rfl, hb1⟩
   obtain ⟨u1, rfl⟩ := ovr_next hb1
   clear hb1
   go_wp2_with (refine wpList_store_row rfl 24 _ _ rfl (w.heap.size + 1) rfl _ _ (RrowW1.out _) _ rfl (one2 rfl rfl) rfl (by kernel_rfl) ?_)
   refine bodyPost_ret (results_cell_tmp rfl _ _ (w.heap.size + 1) 24 _ (0, 0) _ rfl (setRow_same (RrowW1.out _)) Try.underlying24 rfl (by kernel_rfl)) rfl ?_
   exact ⟨by rw [hf.out]; rfl, below_setRow (HUW.out _) (by omega) _⟩
 rw [ho, er9_t] at CS
 rw [ho] at hf
 have HO := Lib.hid ho
 have HSU := Lib.hid (th9_su ho)
 clear ho
 go_wp2_with fail
 refine (CS.out _ (HUW.out _)).mono ?_
 rintro e w1 ⟨rfl, hb1⟩
 obtain ⟨u1, rfl⟩ := ovr_next hb1
 clear hb1
 go_upto_region 3 with fail
 have hbX := ovr_below W u1
 obtain ⟨X, hX⟩ : ∃ X, X = ovr W u1 := ⟨_, rfl⟩
 rw [← hX] at hbX
 rw [← hX]
 have hX' := Lib.hid hX
 clear hX
 have hbX' := Lib.hid hbX
 have reX : ∀ v, ∃ x, ovr X v = ovr W x := fun v => ovr_reB hbX v
 replace yW00 := tr_cell reX yW00
 replace yW01 := tr_cell reX yW01
 replace yW02 := tr_cell reX yW02
 replace yW03 := tr_cell reX yW03
 replace yW04 := tr_cell reX yW04
 replace RrowW0 := Lib.hid (tr_row reX RrowW0.out)
 replace yW10 := tr_cell reX yW10
 replace yW11 := tr_cell reX yW11
 replace RrowW1 := Lib.hid (tr_row reX RrowW1.out)
 have HUX : Hid (∀ u, Below w.heap.size w (ovr X u)) := fun u => by obtain ⟨x, hx⟩ := reX u; rw [hx]; exact HUW.out x
 clear reX hbX
 have CX : Hid (∀ V, Cl X V → Calls Try.prog 60 #[.agg #[I x.w, I x.h, I x.c.lo, I x.c.hi, .slice A x.s.length n]] V fun e w' => e = .returned (hu9 x.s).val ∧ Below V.heap.size V w') := fun V hV => by
  obtain ⟨v, rfl⟩ : ∃ v, V = ovr X v := ⟨V, ovr_of hV.le⟩
  exact CH.out HO.out _ (HUX.out v)
 obtain ⟨h, hh⟩ : ∃ h, hu9 x.s = h := ⟨_, rfl⟩
 obtain ⟨t, ht⟩ : ∃ t, th9 x = t := ⟨_, rfl⟩
 rw [hh, ht] at HSU
 rw [hh] at CX
 rw [ht] at hf
 clear hh ht CH CS HO
 refine wp_region_seq 8 (fun j => if j = 1 then some (fun u _ => u = h.val) else if j = 4 then some (SlN X #[I h.lo, I h.hi, I x.c.lo, I x.c.hi] 24 2) else if j = 5 then some (fun u _ => u = .tuple #[t.val, I 0]) else none) (by kernel_rfl) (by kernel_rfl) (by kernel_rfl) (by kernel_rfl) ?_
 simp only [List.take_succ_cons, List.take_zero, List.drop_succ_cons, List.drop_zero]
 repeat (first | (refine wpG_one rfl rfl rfl ?_; intro K hK; go_big_quiet_op; go_big_quiet_on) | (refine wpG_skip rfl ?_; simp only [Act.put, List.setIfInBounds_toArray, List.set_cons_zero, List.set_cons_succ]))
 refine wpG_make (fun u _ => u = h.val) rfl rfl (fun w' hw' hk => ?_) (fun u hu => ?_)
 · go_simp
   exact call_grow (CX.out w' hw')
 obtain ⟨_, _, rfl⟩ := hu
 simp only [Act.put, List.setIfInBounds_toArray, List.set_cons_zero, List.set_cons_succ]
 repeat (first | (refine wpG_one rfl rfl rfl ?_; intro K hK; go_big_quiet_op; go_big_quiet_on) | (refine wpG_skip rfl ?_; simp only [Act.put, List.setIfInBounds_toArray, List.set_cons_zero, List.set_cons_succ]))
 refine wpG_make (SlN X #[I h.lo, I h.hi, I x.c.lo, I x.c.hi] 24 2) rfl rfl (fun w' hw' hk => ?_) (fun u hu => ?_)
 · go_simp
   exact sln_grow hw'
 obtain ⟨_, _, b2, rfl, _, _⟩ := hu
 simp only [Act.put, List.setIfInBounds_toArray, List.set_cons_zero, List.set_cons_succ]
 repeat (first | (refine wpG_one rfl rfl rfl ?_; intro K hK; go_big_quiet_op; go_big_quiet_on) | (refine wpG_skip rfl ?_; simp only [Act.put, List.setIfInBounds_toArray, List.set_cons_zero, List.set_cons_succ]))
 refine wpG_make (fun u _ => u = .tuple #[t.val, I 0]) rfl rfl (fun w' hw' hk => ?_) (fun u hu => ?_)
 · have hk3 := (hk ⟨4, .data⟩ (by simp) rfl _ _ _ rfl rfl rfl (by simp) rfl).now.at
   have h9 := sumRow hk3.1
   rw [HSU.out] at h9
   go_simp
   exact call_grow h9
 obtain ⟨_, _, rfl⟩ := hu
 simp only [Act.put, List.setIfInBounds_toArray, List.set_cons_zero, List.set_cons_succ]
 repeat (first | (refine wpG_one rfl rfl rfl ?_; intro K hK; go_big_quiet_op; go_big_quiet_on) | (refine wpG_skip rfl ?_; simp only [Act.put, List.setIfInBounds_toArray, List.set_cons_zero, List.set_cons_succ]))
 refine wpG_nil (fun w5 hw5 hG => ?_)
 clear hG
 obtain ⟨u5, rfl⟩ : ∃ x, w5 = ovr X x := ⟨w5, ovr_of hw5.le⟩
 clear hw5
 refine wpTail_cons ?_
 refine wp_store_row 24 _ _ rfl (w.heap.size + 1) rfl _ _ (RrowW1.out _) _ rfl (one2 rfl rfl) rfl (by kernel_rfl) ?_
 refine wpTail_cons ?_
 refine wp_assign _ (I 0) rfl rfl ?_
 refine wpTail_nil ?_
 simp only [Act.put, List.setIfInBounds_toArray, List.set_cons_zero, List.set_cons_succ]
 go_wp2_with fail
 refine bodyPost_ret (results_cell_tmp rfl _ _ (w.heap.size + 1) 24 _ (0, 0) _ rfl (setRow_same (RrowW1.out _)) Try.underlying24 rfl (by kernel_rfl)) rfl ?_
 exact ⟨by rw [hf.out]; rfl, below_setRow (HUX.out _) (by omega) _⟩
end Go.Proofs.Ytljjpidigckheaa.Un
namespace Go.Proofs.Ytljjpidigckheaa.Un
open Go.RowKit
theorem results_cell_ttt {P : Program} {fn : Func} {p t1 t2 t3 : Tmp} {ty : TypeId} (h : fn.results = #[.cell p ty, .tmp t1, .tmp t2, .tmp t3]) (tmps : Array Value) (w : World) (g : Nat) (t : TypeId) (cs : Array Value) (fr : Nat × Nat) (d : TypeDesc)
 (hp : tmps.getD p undef = .pointer (some ⟨g, 0, none⟩)) (hg : w.heap[g]? = some (.cells cs t fr))
 (hu : P.underlying ty = some d) (hd : (match d with | .struct _ | .array _ _ => true | _ => false) = true) (hi : (P.info? ty).map (·.size) = some cs.size) :
 (results fn tmps).run P w = .ok (.tuple #[.agg cs, tmps.getD t1 undef, tmps.getD t2 undef, tmps.getD t3 undef]) w := by
 have hp' : tmps[p]?.getD undef = .pointer (some ⟨g, 0, none⟩) := by simpa using hp
 simp [results, h, hp', asAddr, run_loadVar_row w g t ty cs fr d hg hu hd hi]
theorem sc_below {k : Nat} {a w : World} (h : Below k a w) {b : Nat} (hb : k ≤ b) (o : Nat) (v : Value) : Below k a (w.setCell ⟨b, o, none⟩ v) := h.setCell (p := ⟨b, o, none⟩) hb v
theorem sc_size (w : World) (b o : Nat) (v : Value) : w.heap.size ≤ (w.setCell ⟨b, o, none⟩ v).heap.size := (sc_below (Below.refl 0 w) (Nat.zero_le b) o v).size
theorem sc_other {w : World} {k b o : Nat} {v : Value} {x : Obj} (h : w.heap[k]? = some x) (hn : k ≠ b) : (w.setCell ⟨b, o, none⟩ v).heap[k]? = some x := (heap_setCell_other w ⟨b, o, none⟩ k v hn).trans h
structure Vst where
 lo : Int
 hi : Int
 a : Int
 b : Int
def vaS (xs : List Rng) (i : Nat) (s : Vst) (k : Nat) : Vst :=
 if i ≠ k ∧ s.hi < (at0 xs i).hi - (at0 xs k).lo then ⟨max s.lo ((at0 xs i).lo - (at0 xs k).hi), (at0 xs i).hi - (at0 xs k).lo, i, k⟩ else ⟨max s.lo ((at0 xs i).lo - (at0 xs k).hi), s.hi, s.a, s.b⟩
def vaI (xs : List Rng) (i : Nat) (s : Vst) : Nat → Vst
 | 0 => s | k + 1 => vaS xs i (vaI xs i s k) k
def vaO (xs : List Rng) : Nat → Vst
 | 0 => ⟨0, -1, 0, 0⟩ | i + 1 => vaI xs i (vaO xs i) xs.length
def va9 (x : Sht) : Vst := if okSh x then vaO x.s x.s.length else ⟨0, 0, 0, 0⟩
def vaE (x : Sht) : Int := er9 (okSh x)
def VaB (s : Vst) : Prop := (0 ≤ s.lo ∧ s.lo ≤ 2000000) ∧ -2000000 ≤ s.hi ∧ s.hi ≤ 2000000
theorem vaS_bd {xs : List Rng} (ha : all9 (-1000000) 1000000 xs = true) {i k : Nat} (hi : i < xs.length) (hk : k < xs.length) {s : Vst} (h : VaB s) : VaB (vaS xs i s k) := by
 have a1 := all9_at ha hi
 have a2 := all9_at ha hk
 unfold VaB at *
 unfold vaS
 split <;> simp only <;> omega
theorem vaI_bd {xs : List Rng} (ha : all9 (-1000000) 1000000 xs = true) {i : Nat} (hi : i < xs.length) {s : Vst} (h : VaB s) : ∀ k, k ≤ xs.length → VaB (vaI xs i s k)
 | 0, _ => h
 | k + 1, hk => vaS_bd ha hi (by omega) (vaI_bd ha hi h k (by omega))
theorem vaO_bd {xs : List Rng} (ha : all9 (-1000000) 1000000 xs = true) : ∀ i, i ≤ xs.length → VaB (vaO xs i)
 | 0, _ => by unfold VaB vaO; simp
 | i + 1, hi => vaI_bd ha (by omega) (vaO_bd ha i (by omega)) xs.length (Nat.le_refl _)
def VaW (w0 : World) (x : Sht) (A : Option Addr) (n : Nat) (s : Vst) (wr : World) : Prop := Below w0.heap.size w0 wr ∧ w0.heap.size + 2 ≤ wr.heap.size ∧ wr.heap[w0.heap.size]? = some (.cells #[I x.w, I x.h, I x.c.lo, I x.c.hi, .slice A x.s.length n] 37 (0, 0)) ∧ wr.heap[w0.heap.size + 1]? = some (.cells #[I s.lo, I s.hi] 24 (0, 0))
set_option maxRecDepth 100000 in
set_option maxHeartbeats 4000000 in
theorem variation_any (x : Sht) (A : Option Addr) (n : Nat) (w : World) (B : Nat) (hB : B ≤ w.heap.size) (hx : Rd w B 2 A x.s.length (rR x.s)) :
 Calls Try.prog 24 #[.agg (shA x A n)] w fun e w' => e = .returned (.tuple #[.agg #[I (va9 x).lo, I (va9 x).hi], I (va9 x).a, I (va9 x).b, I (vaE x)]) ∧ Below w.heap.size w w' := by
 have HX : Hid (∀ V, Below w.heap.size w V → Rd V B 2 A x.s.length (rR x.s) ∧ B ≤ V.heap.size) := fun V hV => ⟨hx.below (hV.mono hB), Nat.le_trans hB hV.size⟩
 have CS : Hid (∀ V, Below w.heap.size w V → Calls Try.prog 21 #[.agg #[I x.w, I x.h, I x.c.lo, I x.c.hi, .slice A x.s.length n]] V fun e w' => e = .returned (I (er9 (okSh x))) ∧ Below V.heap.size V w') := fun V hV => checkSheet_any x A n V B (HX.out V hV).2 (HX.out V hV).1
 have hf : Hid (va9 x = if okSh x then vaO x.s x.s.length else ⟨0, 0, 0, 0⟩) := rfl
 have he : Hid (vaE x = er9 (okSh x)) := rfl
 clear hx hB
 obtain ⟨W, hW⟩ : ∃ W, W = ((w.alloc (.cells #[I x.w, I x.h, I x.c.lo, I x.c.hi, .slice A x.s.length n] 37)).alloc (.cells #[I 0, I 0] 24)) := ⟨_, rfl⟩
 have rowW0 : W.heap[w.heap.size]? = some (.cells #[I x.w, I x.h, I x.c.lo, I x.c.hi, .slice A x.s.length n] 37 (0, 0)) := by rw [hW]; exact heap_before (heap_last _ _ _ rfl)
 have yW00 := ovr_cell (W := W) (b := w.heap.size) (o := 0) (v := I x.w) (by rw [cell_of_row _ _ _ _ _ _ rowW0]; rfl)
 have yW01 := ovr_cell (W := W) (b := w.heap.size) (o := 1) (v := I x.h) (by rw [cell_of_row _ _ _ _ _ _ rowW0]; rfl)
 have yW02 := ovr_cell (W := W) (b := w.heap.size) (o := 2) (v := I x.c.lo) (by rw [cell_of_row _ _ _ _ _ _ rowW0]; rfl)
 have yW03 := ovr_cell (W := W) (b := w.heap.size) (o := 3) (v := I x.c.hi) (by rw [cell_of_row _ _ _ _ _ _ rowW0]; rfl)
 have yW04 := ovr_cell (W := W) (b := w.heap.size) (o := 4) (v := .slice A x.s.length n) (by rw [cell_of_row _ _ _ _ _ _ rowW0]; rfl)
 have RrowW0 := Lib.hid (ovr_row rowW0)
 clear rowW0
 have rowW1 : W.heap[w.heap.size + 1]? = some (.cells #[I 0, I 0] 24 (0, 0)) := by rw [hW]; exact heap_last _ _ _ (by simp)
 have yW10 := ovr_cell (W := W) (b := w.heap.size + 1) (o := 0) (v := I 0) (by rw [cell_of_row _ _ _ _ _ _ rowW1]; rfl)
 have yW11 := ovr_cell (W := W) (b := w.heap.size + 1) (o := 1) (v := I 0) (by rw [cell_of_row _ _ _ _ _ _ rowW1]; rfl)
 have RrowW1 := Lib.hid (ovr_row rowW1)
 clear rowW1
 have HUW : Hid (∀ u, Below w.heap.size w (ovr W u)) := U2 hW
 have HW := Lib.hid hW
 clear hW
 go_enter Try.func24, Try.ntmps24
 go_upto_region 1 with (fail)
 rw [← HW.out]
 obtain ⟨u0, hu0⟩ := ovr_self W
 rw [hu0]
 clear hu0
 rcases ho : okSh x with _ | _
 · rw [ho, er9_f] at CS he
   rw [ho] at hf
   clear ho
   go_wp2_with fail
   refine (CS.out _ (HUW.out _)).mono ?_
   rintro e w1 ⟨rfl, hb1⟩
   obtain ⟨u1, rfl⟩ := ovr_next hb1
   clear hb1
   go_wp2_with (with_reducible show wpList _ _ _ _ _ _; refine wpList_store_row rfl 24 _ _ rfl (w.heap.size + 1) rfl _ _ (RrowW1.out _) #[I 0, I 0] rfl (one2 rfl rfl) rfl (by kernel_rfl) ?_)
   refine bodyPost_ret (results_cell_ttt rfl _ _ (w.heap.size + 1) 24 _ (0, 0) _ rfl (setRow_same (RrowW1.out _)) Try.underlying24 rfl (by kernel_rfl)) rfl ?_
   exact ⟨by rw [hf.out, he.out]; rfl, below_setRow (HUW.out _) (by omega) _⟩
 rw [ho, er9_t] at CS he
 rw [ho] at hf
 have HA := Lib.hid (okSh_iff.1 ho).2.2.2.1
 have H36 := Lib.hid (sh_small ho)
 clear ho
 go_wp2_with fail
 refine (CS.out _ (HUW.out _)).mono ?_
 rintro e w1 ⟨rfl, hb1⟩
 obtain ⟨u1, rfl⟩ := ovr_next hb1
 clear hb1
 go_upto_region 4 with (with_reducible show wpList _ _ _ _ _ _; refine wpList_store_part rfl 3 _ _ rfl (w.heap.size + 1) 1 1 rfl #[I 0, I 0] #[I 0, I (-1)] #[I (-1)] 24 (RrowW1.out _) (by decide) (I (-1)) rfl rfl (by simp [Value.oneCell']) rfl (by kernel_rfl) rfl ?_)
 simp only [Act.put]
 refine name_w fun V hV => ?_
 have HVW : Hid (VaW w x A n (vaO x.s 0) V) := by
  show VaW _ _ _ _ _ _
  rw [hV]
  exact ⟨below_setRow (HUW.out u1) (by omega) _, by rw [setRow_size]; exact (Array.getElem?_eq_some_iff.1 (RrowW1.out u1)).1, (setRow_other (by omega)).trans (RrowW0.out u1), setRow_same (RrowW1.out u1)⟩
 clear hV
 obtain ⟨_, _, row0, row1⟩ := HVW.out
 have yV00 := ovr_cell (W := V) (b := w.heap.size) (o := 0) (v := I x.w) (by rw [cell_of_row _ _ _ _ _ _ row0]; rfl)
 have zV00 : ∀ u, (ovr V u).frozen? ⟨w.heap.size, 0, none⟩ = false := fun u => frozen_of_row _ _ _ _ _ (ovr_row row0 u)
 have yV01 := ovr_cell (W := V) (b := w.heap.size) (o := 1) (v := I x.h) (by rw [cell_of_row _ _ _ _ _ _ row0]; rfl)
 have zV01 : ∀ u, (ovr V u).frozen? ⟨w.heap.size, 1, none⟩ = false := fun u => frozen_of_row _ _ _ _ _ (ovr_row row0 u)
 have yV02 := ovr_cell (W := V) (b := w.heap.size) (o := 2) (v := I x.c.lo) (by rw [cell_of_row _ _ _ _ _ _ row0]; rfl)
 have zV02 : ∀ u, (ovr V u).frozen? ⟨w.heap.size, 2, none⟩ = false := fun u => frozen_of_row _ _ _ _ _ (ovr_row row0 u)
 have yV03 := ovr_cell (W := V) (b := w.heap.size) (o := 3) (v := I x.c.hi) (by rw [cell_of_row _ _ _ _ _ _ row0]; rfl)
 have zV03 : ∀ u, (ovr V u).frozen? ⟨w.heap.size, 3, none⟩ = false := fun u => frozen_of_row _ _ _ _ _ (ovr_row row0 u)
 have yV04 := ovr_cell (W := V) (b := w.heap.size) (o := 4) (v := .slice A x.s.length n) (by rw [cell_of_row _ _ _ _ _ _ row0]; rfl)
 have zV04 : ∀ u, (ovr V u).frozen? ⟨w.heap.size, 4, none⟩ = false := fun u => frozen_of_row _ _ _ _ _ (ovr_row row0 u)
 have RrowV0 := Lib.hid (ovr_row row0)
 clear row0
 clear row1
 obtain ⟨v0, hv0⟩ := ovr_self V
 rw [hv0]
 clear hv0
 have HVv : Hid (VaW w x A n (vaO x.s 0) (ovr V v0)) := ⟨HVW.out.1.trans ((ovr_below V v0).mono HVW.out.1.size), Nat.le_trans HVW.out.2.1 (ovr_below V v0).size, ((ovr_below V v0).block _ (by have := HVW.out.2.1; omega)).trans HVW.out.2.2.1, ((ovr_below V v0).block _ (by have := HVW.out.2.1; omega)).trans HVW.out.2.2.2⟩
 go_wp2_with fail
 clear RrowV0
 go_loopw [18, 3, 4] (fun iv av bv wr => ∃ (i : Nat) (s : Vst), i ≤ x.s.length ∧ iv = .int .i64 i ∧ av = I s.a ∧ bv = I s.b ∧ s = vaO x.s i ∧ VaW w x A n s wr) (fun iv _ _ _ => x.s.length - (intOf iv).toNat)
 case atStart => exact ⟨0, _, by omega, rfl, rfl, rfl, rfl, HVv.out⟩
 case round =>
  obtain ⟨i, s, hi, rfl, rfl, rfl, hs, hvw⟩ := hrel
  have HS := Lib.hid hs
  have HVS := Lib.hid hvw
  clear hs hvw HVv HVW
  obtain ⟨hb, hsz, row0, row1⟩ := HVS.out
  by_cases hlt : i < x.s.length
  case neg =>
   obtain rfl : i = x.s.length := by omega
   have HFI : Hid (va9 x = s) := by show _ = _; rw [hf.out, HS.out]; rfl
   have ywr00 := ovr_cell (W := wr) (b := w.heap.size + 1) (o := 0) (v := I s.lo) (by rw [cell_of_row _ _ _ _ _ _ row1]; rfl)
   have zwr00 : ∀ u, (ovr wr u).frozen? ⟨w.heap.size + 1, 0, none⟩ = false := fun u => frozen_of_row _ _ _ _ _ (ovr_row row1 u)
   have ywr01 := ovr_cell (W := wr) (b := w.heap.size + 1) (o := 1) (v := I s.hi) (by rw [cell_of_row _ _ _ _ _ _ row1]; rfl)
   have zwr01 : ∀ u, (ovr wr u).frozen? ⟨w.heap.size + 1, 1, none⟩ = false := fun u => frozen_of_row _ _ _ _ _ (ovr_row row1 u)
   have Rrowwr0 := Lib.hid (ovr_row row1)
   clear row1
   have Hb := Lib.hid hb
   have Hsz := Lib.hid hsz
   clear row0 hb hsz
   obtain ⟨u5, hu5⟩ := ovr_self wr
   rw [hu5]
   clear hu5
   go_wp2_with (with_reducible show wpList _ _ _ _ _ _; refine wpList_store_row rfl 24 _ _ rfl (w.heap.size + 1) rfl _ _ (Rrowwr0.out _) #[I s.lo, I s.hi] rfl (one2 rfl rfl) rfl (by kernel_rfl) ?_)
   refine bodyPost_ret (results_cell_ttt rfl _ _ (w.heap.size + 1) 24 _ (0, 0) _ rfl (setRow_same (Rrowwr0.out _)) Try.underlying24 rfl (by kernel_rfl)) rfl ?_
   exact ⟨by rw [HFI.out, he.out]; rfl, below_setRow (Hb.out.trans ((ovr_below _ _).mono Hb.out.size)) (by omega) _⟩
  obtain ⟨b, o, rfl, _, e0, e1⟩ := (HX.out _ hb).1.rng hlt
  have z0 := ovr_cell e0
  have z1 := ovr_cell e1
  have HAI := Lib.hid (all9_at HA.out hlt)
  have HBI : Hid (VaB s) := by show VaB s; rw [HS.out]; exact vaO_bd HA.out i (by omega)
  have HLT := Lib.hid hlt
  have hi36 : i ≤ 36 := by have := H36.out; omega
  have HVI : Hid (∀ k, vaI x.s i s (k + 1) = vaS x.s i (vaI x.s i s k) k) := fun k => rfl
  have HVO : Hid (vaI x.s i s x.s.length = vaO x.s (i + 1)) := by show _ = _; rw [HS.out]; rfl
  obtain ⟨p, hp⟩ : ∃ p, at0 x.s i = p := ⟨_, rfl⟩
  rw [hp] at z0 z1 HAI
  have HP := Lib.hid hp
  clear hp e0 e1
  have ywr00 := ovr_cell (W := wr) (b := w.heap.size) (o := 0) (v := I x.w) (by rw [cell_of_row _ _ _ _ _ _ row0]; rfl)
  have zwr00 : ∀ u, (ovr wr u).frozen? ⟨w.heap.size, 0, none⟩ = false := fun u => frozen_of_row _ _ _ _ _ (ovr_row row0 u)
  have ywr01 := ovr_cell (W := wr) (b := w.heap.size) (o := 1) (v := I x.h) (by rw [cell_of_row _ _ _ _ _ _ row0]; rfl)
  have zwr01 : ∀ u, (ovr wr u).frozen? ⟨w.heap.size, 1, none⟩ = false := fun u => frozen_of_row _ _ _ _ _ (ovr_row row0 u)
  have ywr02 := ovr_cell (W := wr) (b := w.heap.size) (o := 2) (v := I x.c.lo) (by rw [cell_of_row _ _ _ _ _ _ row0]; rfl)
  have zwr02 : ∀ u, (ovr wr u).frozen? ⟨w.heap.size, 2, none⟩ = false := fun u => frozen_of_row _ _ _ _ _ (ovr_row row0 u)
  have ywr03 := ovr_cell (W := wr) (b := w.heap.size) (o := 3) (v := I x.c.hi) (by rw [cell_of_row _ _ _ _ _ _ row0]; rfl)
  have zwr03 : ∀ u, (ovr wr u).frozen? ⟨w.heap.size, 3, none⟩ = false := fun u => frozen_of_row _ _ _ _ _ (ovr_row row0 u)
  have ywr04 := ovr_cell (W := wr) (b := w.heap.size) (o := 4) (v := .slice (some ⟨b, o, none⟩) x.s.length n) (by rw [cell_of_row _ _ _ _ _ _ row0]; rfl)
  have zwr04 : ∀ u, (ovr wr u).frozen? ⟨w.heap.size, 4, none⟩ = false := fun u => frozen_of_row _ _ _ _ _ (ovr_row row0 u)
  have Rrowwr0 := Lib.hid (ovr_row row0)
  clear row0
  clear row1 hb hsz
  obtain ⟨u5, hu5⟩ := ovr_self wr
  rw [hu5]
  clear hu5
  go_upto_region 7 with fail
  obtain ⟨q, hq⟩ : ∃ q, q = (ovr wr u5).heap.size := ⟨_, rfl⟩
  rw [← hq]
  refine name_w fun V2 hV2 => ?_
  have HV2 : Hid (VaW w x (some ⟨b, o, none⟩) n (vaI x.s i s 0) V2 ∧ V2.heap[q]? = some (.cells #[I p.lo, I p.hi] 24 (0, 0)) ∧ w.heap.size + 2 ≤ q) := by
   have hb9 : Below wr.heap.size wr V2 := by rw [hV2]; exact (ovr_below wr u5).alloc (ovr_below wr u5).size _
   obtain ⟨g1, g2, g3, g4⟩ := HVS.out
   refine ⟨⟨g1.trans (hb9.mono g1.size), Nat.le_trans g2 hb9.size, (hb9.block _ (by omega)).trans g3, (hb9.block _ (by omega)).trans g4⟩, ?_, by rw [hq]; exact Nat.le_trans g2 (ovr_below wr u5).size⟩
   rw [hV2]
   exact heap_last _ _ _ hq
  clear hV2 hq Rrowwr0 z0 z1
  obtain ⟨⟨_, _, row0, _⟩, _, _⟩ := HV2.out
  have yV200 := ovr_cell (W := V2) (b := w.heap.size) (o := 0) (v := I x.w) (by rw [cell_of_row _ _ _ _ _ _ row0]; rfl)
  have zV200 : ∀ u, (ovr V2 u).frozen? ⟨w.heap.size, 0, none⟩ = false := fun u => frozen_of_row _ _ _ _ _ (ovr_row row0 u)
  have yV201 := ovr_cell (W := V2) (b := w.heap.size) (o := 1) (v := I x.h) (by rw [cell_of_row _ _ _ _ _ _ row0]; rfl)
  have zV201 : ∀ u, (ovr V2 u).frozen? ⟨w.heap.size, 1, none⟩ = false := fun u => frozen_of_row _ _ _ _ _ (ovr_row row0 u)
  have yV202 := ovr_cell (W := V2) (b := w.heap.size) (o := 2) (v := I x.c.lo) (by rw [cell_of_row _ _ _ _ _ _ row0]; rfl)
  have zV202 : ∀ u, (ovr V2 u).frozen? ⟨w.heap.size, 2, none⟩ = false := fun u => frozen_of_row _ _ _ _ _ (ovr_row row0 u)
  have yV203 := ovr_cell (W := V2) (b := w.heap.size) (o := 3) (v := I x.c.hi) (by rw [cell_of_row _ _ _ _ _ _ row0]; rfl)
  have zV203 : ∀ u, (ovr V2 u).frozen? ⟨w.heap.size, 3, none⟩ = false := fun u => frozen_of_row _ _ _ _ _ (ovr_row row0 u)
  have yV204 := ovr_cell (W := V2) (b := w.heap.size) (o := 4) (v := .slice (some ⟨b, o, none⟩) x.s.length n) (by rw [cell_of_row _ _ _ _ _ _ row0]; rfl)
  have zV204 : ∀ u, (ovr V2 u).frozen? ⟨w.heap.size, 4, none⟩ = false := fun u => frozen_of_row _ _ _ _ _ (ovr_row row0 u)
  have RrowV20 := Lib.hid (ovr_row row0)
  clear row0
  obtain ⟨u6, hu6⟩ := ovr_self V2
  rw [hu6]
  clear hu6
  have HV2u : Hid (VaW w x (some ⟨b, o, none⟩) n (vaI x.s i s 0) (ovr V2 u6) ∧ (ovr V2 u6).heap[q]? = some (.cells #[I p.lo, I p.hi] 24 (0, 0))) := by
   have hb9 := ovr_below V2 u6
   obtain ⟨⟨g1, g2, g3, g4⟩, g5, g6⟩ := HV2.out
   exact ⟨⟨g1.trans (hb9.mono g1.size), Nat.le_trans g2 hb9.size, (hb9.block _ (by omega)).trans g3, (hb9.block _ (by omega)).trans g4⟩, (hb9.block _ (Array.getElem?_eq_some_iff.1 g5).1).trans g5⟩
  have HQ := Lib.hid HV2.out.2.2
  go_wp2_with fail
  clear RrowV20 HV2
  go_loopw [26, 3, 4] (fun iv av bv wr2 => ∃ (k : Nat) (t : Vst), k ≤ x.s.length ∧ iv = .int .i64 k ∧ av = I t.a ∧ bv = I t.b ∧ t = vaI x.s i s k ∧ VaW w x (some ⟨b, o, none⟩) n t wr2 ∧ wr2.heap[q]? = some (.cells #[I p.lo, I p.hi] 24 (0, 0))) (fun iv _ _ _ => x.s.length - (intOf iv).toNat)
  case atStart => exact ⟨0, _, by omega, rfl, rfl, rfl, rfl, HV2u.out⟩
  case round =>
   obtain ⟨k, t, hk, rfl, rfl, rfl, ht, hvw, hrq⟩ := hrel
   rename World => Y
   have HT := Lib.hid ht
   have HVT := Lib.hid hvw
   have HRQ := Lib.hid hrq
   clear ht hvw HV2u
   obtain ⟨hb, hsz, row0, row1⟩ := HVT.out
   by_cases hkl : k < x.s.length
   case neg =>
        obtain rfl : k = x.s.length := by omega
        have HFI : Hid (t = vaO x.s (i + 1)) := by show _ = _; rw [HT.out, HVO.out]
        clear row0 row1 hb hsz hrq
        go_wp2_with fail
        go_roundw
        case rel => exact ⟨i + 1, t, HLT.out, by go_num, rfl, rfl, HFI.out, HVT.out⟩
        case measure => have := HLT.out; simp [intOf]; omega
   obtain ⟨b', o', hbo, _, e0, e1⟩ := (HX.out _ hb).1.rng hkl
   obtain ⟨rfl, rfl⟩ : b' = b ∧ o' = o := by
        injection hbo with hbo
        injection hbo with h1 h2
        exact ⟨h1.symm, h2.symm⟩
   have z0 := ovr_cell e0
   have z1 := ovr_cell e1
   have HKI := Lib.hid (all9_at HA.out hkl)
   have HBT := Lib.hid (vaI_bd HA.out HLT.out HBI.out k (by omega))
   have HKL := Lib.hid hkl
   have hk36 : k ≤ 36 := by have := H36.out; omega
   have HSt : Hid (vaI x.s i s (k + 1) = vaS x.s i t k) := by show _ = _; rw [HVI.out, ← HT.out]
   rw [← HT.out] at HBT
   obtain ⟨r, hr⟩ : ∃ r, at0 x.s k = r := ⟨_, rfl⟩
   rw [hr] at z0 z1 HKI
   have HST : Hid (vaS x.s i t k = if i ≠ k ∧ t.hi < p.hi - r.lo then ⟨max t.lo (p.lo - r.hi), p.hi - r.lo, i, k⟩ else ⟨max t.lo (p.lo - r.hi), t.hi, t.a, t.b⟩) := by
        show _ = _
        unfold vaS
        rw [HP.out, hr]
   clear hr e0 e1 hbo
   have yY00 := ovr_cell (W := Y) (b := w.heap.size) (o := 0) (v := I x.w) (by rw [cell_of_row _ _ _ _ _ _ row0]; rfl)
   have zY00 : ∀ u, (ovr Y u).frozen? ⟨w.heap.size, 0, none⟩ = false := fun u => frozen_of_row _ _ _ _ _ (ovr_row row0 u)
   have yY01 := ovr_cell (W := Y) (b := w.heap.size) (o := 1) (v := I x.h) (by rw [cell_of_row _ _ _ _ _ _ row0]; rfl)
   have zY01 : ∀ u, (ovr Y u).frozen? ⟨w.heap.size, 1, none⟩ = false := fun u => frozen_of_row _ _ _ _ _ (ovr_row row0 u)
   have yY02 := ovr_cell (W := Y) (b := w.heap.size) (o := 2) (v := I x.c.lo) (by rw [cell_of_row _ _ _ _ _ _ row0]; rfl)
   have zY02 : ∀ u, (ovr Y u).frozen? ⟨w.heap.size, 2, none⟩ = false := fun u => frozen_of_row _ _ _ _ _ (ovr_row row0 u)
   have yY03 := ovr_cell (W := Y) (b := w.heap.size) (o := 3) (v := I x.c.hi) (by rw [cell_of_row _ _ _ _ _ _ row0]; rfl)
   have zY03 : ∀ u, (ovr Y u).frozen? ⟨w.heap.size, 3, none⟩ = false := fun u => frozen_of_row _ _ _ _ _ (ovr_row row0 u)
   have yY04 := ovr_cell (W := Y) (b := w.heap.size) (o := 4) (v := .slice (some ⟨b', o', none⟩) x.s.length n) (by rw [cell_of_row _ _ _ _ _ _ row0]; rfl)
   have zY04 : ∀ u, (ovr Y u).frozen? ⟨w.heap.size, 4, none⟩ = false := fun u => frozen_of_row _ _ _ _ _ (ovr_row row0 u)
   have RrowY0 := Lib.hid (ovr_row row0)
   clear row0
   have yY10 := ovr_cell (W := Y) (b := w.heap.size + 1) (o := 0) (v := I t.lo) (by rw [cell_of_row _ _ _ _ _ _ row1]; rfl)
   have zY10 : ∀ u, (ovr Y u).frozen? ⟨w.heap.size + 1, 0, none⟩ = false := fun u => frozen_of_row _ _ _ _ _ (ovr_row row1 u)
   have yY11 := ovr_cell (W := Y) (b := w.heap.size + 1) (o := 1) (v := I t.hi) (by rw [cell_of_row _ _ _ _ _ _ row1]; rfl)
   have zY11 : ∀ u, (ovr Y u).frozen? ⟨w.heap.size + 1, 1, none⟩ = false := fun u => frozen_of_row _ _ _ _ _ (ovr_row row1 u)
   have RrowY1 := Lib.hid (ovr_row row1)
   clear row1
   have yY20 := ovr_cell (W := Y) (b := q) (o := 0) (v := I p.lo) (by rw [cell_of_row _ _ _ _ _ _ hrq]; rfl)
   have zY20 : ∀ u, (ovr Y u).frozen? ⟨q, 0, none⟩ = false := fun u => frozen_of_row _ _ _ _ _ (ovr_row hrq u)
   have yY21 := ovr_cell (W := Y) (b := q) (o := 1) (v := I p.hi) (by rw [cell_of_row _ _ _ _ _ _ hrq]; rfl)
   have zY21 : ∀ u, (ovr Y u).frozen? ⟨q, 1, none⟩ = false := fun u => frozen_of_row _ _ _ _ _ (ovr_row hrq u)
   have RrowY2 := Lib.hid (ovr_row hrq)
   clear hrq
   clear hb hsz
   obtain ⟨u7, hu7⟩ := ovr_self Y
   rw [hu7]
   clear hu7
   go_upto_region 10 with fail
   obtain ⟨X, hX⟩ : ∃ X, X = ((ovr Y u7).alloc (.cells #[I r.lo, I r.hi] 24)) := ⟨_, rfl⟩
   have reX : ∀ v, ∃ x, ovr X v = ovr Y x := fun v => ovr_re1 hX
   replace yY00 := tr_cell reX yY00
   replace zY00 := tr_froz reX zY00
   replace yY01 := tr_cell reX yY01
   replace zY01 := tr_froz reX zY01
   replace yY02 := tr_cell reX yY02
   replace zY02 := tr_froz reX zY02
   replace yY03 := tr_cell reX yY03
   replace zY03 := tr_froz reX zY03
   replace yY04 := tr_cell reX yY04
   replace zY04 := tr_froz reX zY04
   replace RrowY0 := Lib.hid (tr_row reX RrowY0.out)
   replace yY10 := tr_cell reX yY10
   replace zY10 := tr_froz reX zY10
   replace yY11 := tr_cell reX yY11
   replace zY11 := tr_froz reX zY11
   replace RrowY1 := Lib.hid (tr_row reX RrowY1.out)
   replace yY20 := tr_cell reX yY20
   replace zY20 := tr_froz reX zY20
   replace yY21 := tr_cell reX yY21
   replace zY21 := tr_froz reX zY21
   replace RrowY2 := Lib.hid (tr_row reX RrowY2.out)
   have rowX0 : X.heap[(ovr Y u7).heap.size]? = some (.cells #[I r.lo, I r.hi] 24 (0, 0)) := by rw [hX]; exact heap_last _ _ _ rfl
   have yX00 := ovr_cell (W := X) (b := (ovr Y u7).heap.size) (o := 0) (v := I r.lo) (by rw [cell_of_row _ _ _ _ _ _ rowX0]; rfl)
   have yX01 := ovr_cell (W := X) (b := (ovr Y u7).heap.size) (o := 1) (v := I r.hi) (by rw [cell_of_row _ _ _ _ _ _ rowX0]; rfl)
   have RrowX0 := Lib.hid (ovr_row rowX0)
   clear rowX0
   have HBX : Hid (∀ u, Below Y.heap.size Y (ovr X u)) := fun u => by obtain ⟨x, hx⟩ := reX u; rw [hx]; exact ovr_below _ _
   clear reX
   have HX := Lib.hid hX
   clear hX
   rw [← HX.out]
   obtain ⟨u8, hu8⟩ := ovr_self X
   rw [hu8]
   clear hu8
   have HBY : Hid (∀ V, Below X.heap.size X V → VaW w x (some ⟨b', o', none⟩) n t V ∧ V.heap[q]? = some (.cells #[I p.lo, I p.hi] 24 (0, 0)) ∧ Below Y.heap.size Y V) := fun V hV => by
        have hb9 : Below Y.heap.size Y V := (below_self HBX.out).trans (hV.mono (below_self HBX.out).size)
        obtain ⟨g1, g2, g3, g4⟩ := HVT.out
        exact ⟨⟨g1.trans (hb9.mono g1.size), Nat.le_trans g2 hb9.size, (hb9.block _ (by omega)).trans g3, (hb9.block _ (by omega)).trans g4⟩, (hb9.block _ (Array.getElem?_eq_some_iff.1 HRQ.out).1).trans HRQ.out, hb9⟩
   have k1 : IntKind.i64.wrap (p.hi - r.lo) = p.hi - r.lo := IntWalk.i64_in _ (by have := HAI.out; have := HKI.out; omega)
   have k2 : IntKind.i64.wrap (p.lo - r.hi) = p.lo - r.hi := IntWalk.i64_in _ (by have := HAI.out; have := HKI.out; omega)
   by_cases h1 : i = k
   · have d1 : ((i : Int) != (k : Int)) = false := by subst h1; simp
     rw [if_neg (fun h => h.1 h1)] at HST
     clear h1
     go_upto_region 12 with fail
     refine name_w fun V3 hV3 => ?_
     have F3 : Hid (Below w.heap.size w V3 ∧ w.heap.size + 2 ≤ V3.heap.size ∧ V3.heap[w.heap.size]? = some (.cells #[I x.w, I x.h, I x.c.lo, I x.c.hi, .slice (some ⟨b', o', none⟩) x.s.length n] 37 (0, 0)) ∧ V3.heap[w.heap.size + 1]? = some (.cells #[I t.lo, I (t.hi)] 24 (0, 0)) ∧ V3.heap[q]? = some (.cells #[I p.lo, I p.hi] 24 (0, 0)) ∧ V3.heap[(ovr Y u7).heap.size]? = some (.cells #[I r.lo, I r.hi] 24 (0, 0))) := by
      obtain ⟨⟨g1, g2, g3, g4⟩, g5, _⟩ := HBY.out (ovr X u8) (ovr_below X u8)
      have hyq : w.heap.size + 2 ≤ (ovr Y u7).heap.size := Nat.le_trans HVT.out.2.1 (ovr_below Y u7).size
      have hq2 := HQ.out
      rw [hV3]
      exact ⟨g1, g2, g3, g4, g5, RrowX0.out u8⟩
     clear hV3 RrowY0 RrowY1 RrowY2 RrowX0 k1 d1
     obtain ⟨_, _, _, r1, rq, rr⟩ := F3.out
     have yV300 := ovr_cell (W := V3) (b := w.heap.size + 1) (o := 0) (v := I t.lo) (by rw [cell_of_row _ _ _ _ _ _ r1]; rfl)
     have zV300 : ∀ u, (ovr V3 u).frozen? ⟨w.heap.size + 1, 0, none⟩ = false := fun u => frozen_of_row _ _ _ _ _ (ovr_row r1 u)
     have yV301 := ovr_cell (W := V3) (b := w.heap.size + 1) (o := 1) (v := I (t.hi)) (by rw [cell_of_row _ _ _ _ _ _ r1]; rfl)
     have zV301 : ∀ u, (ovr V3 u).frozen? ⟨w.heap.size + 1, 1, none⟩ = false := fun u => frozen_of_row _ _ _ _ _ (ovr_row r1 u)
     have RrowV30 := Lib.hid (ovr_row r1)
     clear r1
     have yV310 := ovr_cell (W := V3) (b := q) (o := 0) (v := I p.lo) (by rw [cell_of_row _ _ _ _ _ _ rq]; rfl)
     have zV310 : ∀ u, (ovr V3 u).frozen? ⟨q, 0, none⟩ = false := fun u => frozen_of_row _ _ _ _ _ (ovr_row rq u)
     have yV311 := ovr_cell (W := V3) (b := q) (o := 1) (v := I p.hi) (by rw [cell_of_row _ _ _ _ _ _ rq]; rfl)
     have zV311 : ∀ u, (ovr V3 u).frozen? ⟨q, 1, none⟩ = false := fun u => frozen_of_row _ _ _ _ _ (ovr_row rq u)
     have RrowV31 := Lib.hid (ovr_row rq)
     clear rq
     have yV320 := ovr_cell (W := V3) (b := (ovr Y u7).heap.size) (o := 0) (v := I r.lo) (by rw [cell_of_row _ _ _ _ _ _ rr]; rfl)
     have zV320 : ∀ u, (ovr V3 u).frozen? ⟨(ovr Y u7).heap.size, 0, none⟩ = false := fun u => frozen_of_row _ _ _ _ _ (ovr_row rr u)
     have yV321 := ovr_cell (W := V3) (b := (ovr Y u7).heap.size) (o := 1) (v := I r.hi) (by rw [cell_of_row _ _ _ _ _ _ rr]; rfl)
     have zV321 : ∀ u, (ovr V3 u).frozen? ⟨(ovr Y u7).heap.size, 1, none⟩ = false := fun u => frozen_of_row _ _ _ _ _ (ovr_row rr u)
     have RrowV32 := Lib.hid (ovr_row rr)
     clear rr
     obtain ⟨u9, hu9⟩ := ovr_self V3
     rw [hu9]
     clear hu9
     go_wp2_with (with_reducible show wpList _ _ _ _ _ _; refine wpList_store_part rfl 3 _ _ rfl (w.heap.size + 1) 0 1 rfl #[I t.lo, I (t.hi)] #[I (max t.lo (p.lo - r.hi)), I (t.hi)] #[I (max t.lo (p.lo - r.hi))] 24 (RrowV30.out _) (by decide) (I (max t.lo (p.lo - r.hi))) rfl rfl (by simp [Value.oneCell']) rfl (by kernel_rfl) rfl ?_)
     have F4 : Hid (VaW w x (some ⟨b', o', none⟩) n (vaI x.s i s (k + 1)) ((ovr V3 u9).setCell ⟨w.heap.size + 1, 0, none⟩ (I (max t.lo (p.lo - r.hi)))) ∧ ((ovr V3 u9).setCell ⟨w.heap.size + 1, 0, none⟩ (I (max t.lo (p.lo - r.hi)))).heap[q]? = some (.cells #[I p.lo, I p.hi] 24 (0, 0))) := by
      show VaW _ _ _ _ _ _ ∧ _
      obtain ⟨g1, g2, g3, g4, g5, _⟩ := F3.out
      have hq2 := HQ.out
      rw [HSt.out, HST.out]
      have hb9 := ovr_below V3 u9
      exact ⟨⟨sc_below (g1.trans (hb9.mono g1.size)) (by omega) 0 _, Nat.le_trans (Nat.le_trans g2 hb9.size) (sc_size _ _ _ _), sc_other ((hb9.block _ (by omega)).trans g3) (by omega), rs (RrowV30.out u9) 0 _⟩, sc_other (RrowV31.out u9) (by omega)⟩
     exact ⟨⟨k + 1, vaI x.s i s (k + 1), HKL.out, rfl, by rw [HSt.out, HST.out], by rw [HSt.out, HST.out], rfl, F4.out⟩, by have := HKL.out; simp [intOf]; omega⟩
   have d1 : ((i : Int) != (k : Int)) = true := by simp; omega
   by_cases h2 : t.hi < p.hi - r.lo
   case neg =>
        have d2 : decide (t.hi < p.hi - r.lo) = false := decide_eq_false h2
        rw [if_neg (fun h => h2 h.2)] at HST
        clear h1 h2
        go_upto_region 12 with fail
        refine name_w fun V3 hV3 => ?_
        have F3 : Hid (Below w.heap.size w V3 ∧ w.heap.size + 2 ≤ V3.heap.size ∧ V3.heap[w.heap.size]? = some (.cells #[I x.w, I x.h, I x.c.lo, I x.c.hi, .slice (some ⟨b', o', none⟩) x.s.length n] 37 (0, 0)) ∧ V3.heap[w.heap.size + 1]? = some (.cells #[I t.lo, I (t.hi)] 24 (0, 0)) ∧ V3.heap[q]? = some (.cells #[I p.lo, I p.hi] 24 (0, 0)) ∧ V3.heap[(ovr Y u7).heap.size]? = some (.cells #[I r.lo, I r.hi] 24 (0, 0))) := by
         obtain ⟨⟨g1, g2, g3, g4⟩, g5, _⟩ := HBY.out (ovr X u8) (ovr_below X u8)
         have hyq : w.heap.size + 2 ≤ (ovr Y u7).heap.size := Nat.le_trans HVT.out.2.1 (ovr_below Y u7).size
         have hq2 := HQ.out
         rw [hV3]
         exact ⟨g1, g2, g3, g4, g5, RrowX0.out u8⟩
        clear hV3 RrowY0 RrowY1 RrowY2 RrowX0 k1 d1
        obtain ⟨_, _, _, r1, rq, rr⟩ := F3.out
        have yV300 := ovr_cell (W := V3) (b := w.heap.size + 1) (o := 0) (v := I t.lo) (by rw [cell_of_row _ _ _ _ _ _ r1]; rfl)
        have zV300 : ∀ u, (ovr V3 u).frozen? ⟨w.heap.size + 1, 0, none⟩ = false := fun u => frozen_of_row _ _ _ _ _ (ovr_row r1 u)
        have yV301 := ovr_cell (W := V3) (b := w.heap.size + 1) (o := 1) (v := I (t.hi)) (by rw [cell_of_row _ _ _ _ _ _ r1]; rfl)
        have zV301 : ∀ u, (ovr V3 u).frozen? ⟨w.heap.size + 1, 1, none⟩ = false := fun u => frozen_of_row _ _ _ _ _ (ovr_row r1 u)
        have RrowV30 := Lib.hid (ovr_row r1)
        clear r1
        have yV310 := ovr_cell (W := V3) (b := q) (o := 0) (v := I p.lo) (by rw [cell_of_row _ _ _ _ _ _ rq]; rfl)
        have zV310 : ∀ u, (ovr V3 u).frozen? ⟨q, 0, none⟩ = false := fun u => frozen_of_row _ _ _ _ _ (ovr_row rq u)
        have yV311 := ovr_cell (W := V3) (b := q) (o := 1) (v := I p.hi) (by rw [cell_of_row _ _ _ _ _ _ rq]; rfl)
        have zV311 : ∀ u, (ovr V3 u).frozen? ⟨q, 1, none⟩ = false := fun u => frozen_of_row _ _ _ _ _ (ovr_row rq u)
        have RrowV31 := Lib.hid (ovr_row rq)
        clear rq
        have yV320 := ovr_cell (W := V3) (b := (ovr Y u7).heap.size) (o := 0) (v := I r.lo) (by rw [cell_of_row _ _ _ _ _ _ rr]; rfl)
        have zV320 : ∀ u, (ovr V3 u).frozen? ⟨(ovr Y u7).heap.size, 0, none⟩ = false := fun u => frozen_of_row _ _ _ _ _ (ovr_row rr u)
        have yV321 := ovr_cell (W := V3) (b := (ovr Y u7).heap.size) (o := 1) (v := I r.hi) (by rw [cell_of_row _ _ _ _ _ _ rr]; rfl)
        have zV321 : ∀ u, (ovr V3 u).frozen? ⟨(ovr Y u7).heap.size, 1, none⟩ = false := fun u => frozen_of_row _ _ _ _ _ (ovr_row rr u)
        have RrowV32 := Lib.hid (ovr_row rr)
        clear rr
        obtain ⟨u9, hu9⟩ := ovr_self V3
        rw [hu9]
        clear hu9
        go_wp2_with (with_reducible show wpList _ _ _ _ _ _; refine wpList_store_part rfl 3 _ _ rfl (w.heap.size + 1) 0 1 rfl #[I t.lo, I (t.hi)] #[I (max t.lo (p.lo - r.hi)), I (t.hi)] #[I (max t.lo (p.lo - r.hi))] 24 (RrowV30.out _) (by decide) (I (max t.lo (p.lo - r.hi))) rfl rfl (by simp [Value.oneCell']) rfl (by kernel_rfl) rfl ?_)
        have F4 : Hid (VaW w x (some ⟨b', o', none⟩) n (vaI x.s i s (k + 1)) ((ovr V3 u9).setCell ⟨w.heap.size + 1, 0, none⟩ (I (max t.lo (p.lo - r.hi)))) ∧ ((ovr V3 u9).setCell ⟨w.heap.size + 1, 0, none⟩ (I (max t.lo (p.lo - r.hi)))).heap[q]? = some (.cells #[I p.lo, I p.hi] 24 (0, 0))) := by
         show VaW _ _ _ _ _ _ ∧ _
         obtain ⟨g1, g2, g3, g4, g5, _⟩ := F3.out
         have hq2 := HQ.out
         rw [HSt.out, HST.out]
         have hb9 := ovr_below V3 u9
         exact ⟨⟨sc_below (g1.trans (hb9.mono g1.size)) (by omega) 0 _, Nat.le_trans (Nat.le_trans g2 hb9.size) (sc_size _ _ _ _), sc_other ((hb9.block _ (by omega)).trans g3) (by omega), rs (RrowV30.out u9) 0 _⟩, sc_other (RrowV31.out u9) (by omega)⟩
        exact ⟨⟨k + 1, vaI x.s i s (k + 1), HKL.out, rfl, by rw [HSt.out, HST.out], by rw [HSt.out, HST.out], rfl, F4.out⟩, by have := HKL.out; simp [intOf]; omega⟩
   have d2 : decide (t.hi < p.hi - r.lo) = true := decide_eq_true h2
   rw [if_pos ⟨h1, h2⟩] at HST
   clear h1 h2
   go_upto_region 12 with fail
   refine name_w fun V3 hV3 => ?_
   have F3 : Hid (Below w.heap.size w V3 ∧ w.heap.size + 2 ≤ V3.heap.size ∧ V3.heap[w.heap.size]? = some (.cells #[I x.w, I x.h, I x.c.lo, I x.c.hi, .slice (some ⟨b', o', none⟩) x.s.length n] 37 (0, 0)) ∧ V3.heap[w.heap.size + 1]? = some (.cells #[I t.lo, I (p.hi - r.lo)] 24 (0, 0)) ∧ V3.heap[q]? = some (.cells #[I p.lo, I p.hi] 24 (0, 0)) ∧ V3.heap[(ovr Y u7).heap.size]? = some (.cells #[I r.lo, I r.hi] 24 (0, 0))) := by
        obtain ⟨⟨g1, g2, g3, g4⟩, g5, _⟩ := HBY.out (ovr X u8) (ovr_below X u8)
        have hyq : w.heap.size + 2 ≤ (ovr Y u7).heap.size := Nat.le_trans HVT.out.2.1 (ovr_below Y u7).size
        have hq2 := HQ.out
        rw [hV3]
        exact ⟨sc_below g1 (Nat.le_add_right _ _) 1 _, Nat.le_trans g2 (sc_size _ _ _ _), sc_other g3 (by omega), rs g4 1 _, sc_other g5 (by omega), sc_other (RrowX0.out u8) (by omega)⟩
   clear hV3 RrowY0 RrowY1 RrowY2 RrowX0 k1 d1
   obtain ⟨_, _, _, r1, rq, rr⟩ := F3.out
   have yV300 := ovr_cell (W := V3) (b := w.heap.size + 1) (o := 0) (v := I t.lo) (by rw [cell_of_row _ _ _ _ _ _ r1]; rfl)
   have zV300 : ∀ u, (ovr V3 u).frozen? ⟨w.heap.size + 1, 0, none⟩ = false := fun u => frozen_of_row _ _ _ _ _ (ovr_row r1 u)
   have yV301 := ovr_cell (W := V3) (b := w.heap.size + 1) (o := 1) (v := I (p.hi - r.lo)) (by rw [cell_of_row _ _ _ _ _ _ r1]; rfl)
   have zV301 : ∀ u, (ovr V3 u).frozen? ⟨w.heap.size + 1, 1, none⟩ = false := fun u => frozen_of_row _ _ _ _ _ (ovr_row r1 u)
   have RrowV30 := Lib.hid (ovr_row r1)
   clear r1
   have yV310 := ovr_cell (W := V3) (b := q) (o := 0) (v := I p.lo) (by rw [cell_of_row _ _ _ _ _ _ rq]; rfl)
   have zV310 : ∀ u, (ovr V3 u).frozen? ⟨q, 0, none⟩ = false := fun u => frozen_of_row _ _ _ _ _ (ovr_row rq u)
   have yV311 := ovr_cell (W := V3) (b := q) (o := 1) (v := I p.hi) (by rw [cell_of_row _ _ _ _ _ _ rq]; rfl)
   have zV311 : ∀ u, (ovr V3 u).frozen? ⟨q, 1, none⟩ = false := fun u => frozen_of_row _ _ _ _ _ (ovr_row rq u)
   have RrowV31 := Lib.hid (ovr_row rq)
   clear rq
   have yV320 := ovr_cell (W := V3) (b := (ovr Y u7).heap.size) (o := 0) (v := I r.lo) (by rw [cell_of_row _ _ _ _ _ _ rr]; rfl)
   have zV320 : ∀ u, (ovr V3 u).frozen? ⟨(ovr Y u7).heap.size, 0, none⟩ = false := fun u => frozen_of_row _ _ _ _ _ (ovr_row rr u)
   have yV321 := ovr_cell (W := V3) (b := (ovr Y u7).heap.size) (o := 1) (v := I r.hi) (by rw [cell_of_row _ _ _ _ _ _ rr]; rfl)
   have zV321 : ∀ u, (ovr V3 u).frozen? ⟨(ovr Y u7).heap.size, 1, none⟩ = false := fun u => frozen_of_row _ _ _ _ _ (ovr_row rr u)
   have RrowV32 := Lib.hid (ovr_row rr)
   clear rr
   obtain ⟨u9, hu9⟩ := ovr_self V3
   rw [hu9]
   clear hu9
   go_wp2_with (with_reducible show wpList _ _ _ _ _ _; refine wpList_store_part rfl 3 _ _ rfl (w.heap.size + 1) 0 1 rfl #[I t.lo, I (p.hi - r.lo)] #[I (max t.lo (p.lo - r.hi)), I (p.hi - r.lo)] #[I (max t.lo (p.lo - r.hi))] 24 (RrowV30.out _) (by decide) (I (max t.lo (p.lo - r.hi))) rfl rfl (by simp [Value.oneCell']) rfl (by kernel_rfl) rfl ?_)
   have F4 : Hid (VaW w x (some ⟨b', o', none⟩) n (vaI x.s i s (k + 1)) ((ovr V3 u9).setCell ⟨w.heap.size + 1, 0, none⟩ (I (max t.lo (p.lo - r.hi)))) ∧ ((ovr V3 u9).setCell ⟨w.heap.size + 1, 0, none⟩ (I (max t.lo (p.lo - r.hi)))).heap[q]? = some (.cells #[I p.lo, I p.hi] 24 (0, 0))) := by
        show VaW _ _ _ _ _ _ ∧ _
        obtain ⟨g1, g2, g3, g4, g5, _⟩ := F3.out
        have hq2 := HQ.out
        rw [HSt.out, HST.out]
        have hb9 := ovr_below V3 u9
        exact ⟨⟨sc_below (g1.trans (hb9.mono g1.size)) (by omega) 0 _, Nat.le_trans (Nat.le_trans g2 hb9.size) (sc_size _ _ _ _), sc_other ((hb9.block _ (by omega)).trans g3) (by omega), rs (RrowV30.out u9) 0 _⟩, sc_other (RrowV31.out u9) (by omega)⟩
   exact ⟨⟨k + 1, vaI x.s i s (k + 1), HKL.out, rfl, by rw [HSt.out, HST.out], by rw [HSt.out, HST.out], rfl, F4.out⟩, by have := HKL.out; simp [intOf]; omega⟩
end Go.Proofs.Ytljjpidigckheaa.Un
