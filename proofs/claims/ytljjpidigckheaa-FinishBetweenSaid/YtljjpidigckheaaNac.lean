/- The values of the document's examples of chapter 9. The document's examples of chapter 9, called. known() of chapter 9: its calls at their fixed arguments. -/
import Derived.Test.YtljjpidigckheaaMpr
import Derived.Test.YtljjpidigckheaaKp
import Derived.Test.YtljjpidigckheaaKw
import Derived.Test.YtljjpidigckheaaFg
import Derived.Test.YtljjpidigckheaaMs
namespace Go.Proofs.Ytljjpidigckheaa.Un
open Go.RowKit
def paL : List Gag := [⟨-1, ⟨1000000, 1000000⟩, ⟨0, 0⟩, 9⟩, ⟨0, ⟨999000, 1001000⟩, ⟨-1, 1⟩, 5⟩]
def smS : Sht := ⟨2, 2, ⟨700, 710⟩, [⟨0, 0⟩, ⟨2, 2⟩, ⟨3, 3⟩, ⟨1, 2⟩]⟩
def rmL : List Rmv := [⟨1, ⟨20, 25⟩, 1⟩]
def bsZ : List Int := [0, 0, 0, 4]
set_option maxRecDepth 100000 in
theorem ex_tr : trF paL 1 5 ⟨1000, 1000⟩ = (⟨998, 1002⟩, [1, 0], 0) := by kernel_rfl
set_option maxRecDepth 100000 in
theorem ex_ok : okSh smS = true := by kernel_rfl
theorem ex_th : thF smS = (⟨700, 713⟩, 0) := by kernel_rfl
theorem ex_va : va9 smS = ⟨3, 3, 2, 0⟩ := by kernel_rfl
theorem ex_ve : vaE smS = 0 := by kernel_rfl
theorem ex_re : rmEr smS rmL = 0 := by kernel_rfl
theorem ex_rx : rmX smS rmL = ⟨2, 2, ⟨675, 690⟩, [⟨-1, 1⟩, ⟨1, 3⟩, ⟨2, 4⟩, ⟨0, 3⟩]⟩ := by kernel_rfl
theorem ex_bo : okSh (bsX 2 2 bsZ) = true := by kernel_rfl
theorem ex_bd : ds9 (fl9 (gridL 2 4) (ex9 (at0 bsZ)) true) = ⟨1, 1⟩ := by kernel_rfl
theorem ex_f1 : ds9 (fl9 (shG smS) (at0 smS.s) false) = ⟨3, 4⟩ := by kernel_rfl
theorem ex_f2 : ds9 (fl9 (shG smS) (at0 smS.s) true) = ⟨1, 1⟩ := by kernel_rfl
theorem ex_pr : prX smS ⟨1, 1⟩ [0, 1, 2, 3] [-1, 1, 1, -1] true = true := by kernel_rfl
theorem ex_we : wnE smS 2 2 = 0 := by kernel_rfl
theorem ex_wx : wnX smS 2 2 = [⟨1, 1⟩] := by kernel_rfl
end Go.Proofs.Ytljjpidigckheaa.Un
namespace Go.Proofs.Ytljjpidigckheaa.Un
open Go.RowKit
def apB : List Rng := [⟨10, 12⟩, ⟨5, 6⟩]
theorem ex_ae : apE apB ⟨⟨100, 101⟩, [0, 1]⟩ ⟨⟨90, 90⟩, [0]⟩ = 0 := by kernel_rfl
theorem ex_ax : apX apB ⟨⟨100, 101⟩, [0, 1]⟩ ⟨⟨90, 90⟩, [0]⟩ = ⟨4, 6⟩ := by kernel_rfl
abbrev paA : Array Value := #[I (-1), I 1000000, I 1000000, I 0, I 0, I 9, I 0, I 999000, I 1001000, I (-1), I 1, I 5]
abbrev smA : Array Value := #[I 0, I 0, I 2, I 2, I 3, I 3, I 1, I 2]
set_option maxHeartbeats 1000000 in
theorem pair_any (w : World) : Calls Try.prog 47 #[] w fun e w' => ∃ b, e = .returned (.slice (some ⟨b, 0, none⟩) 2 2) ∧ w'.heap[b]? = some (.cells paA 108 (0, 0)) ∧ Below w.heap.size w w' := by
 go_enter Try.func47, Try.ntmps47
 go_wp2_with fail
 go_ret
 exact ⟨_, rfl, heap_last _ _ _ rfl, (Below.refl _ _).alloc (Nat.le_refl _) _⟩
set_option maxHeartbeats 1000000 in
theorem small_any (w : World) : Calls Try.prog 48 #[] w fun e w' => ∃ b, e = .returned (.agg #[I 2, I 2, I 700, I 710, .slice (some ⟨b, 0, none⟩) 4 4]) ∧ w'.heap[b]? = some (.cells smA 24 (0, 0)) ∧ Below w.heap.size w w' := by
 go_enter Try.func48, Try.ntmps48
 go_upto_region 1 with (fail)
 have hr : Hid (((w.alloc (.cells #[I 0, I 0, I 0, I 0, .slice none 0 0] 37)).alloc (.cells smA 24)).heap[w.heap.size]? = some (.cells #[I 0, I 0, I 0, I 0, .slice none 0 0] 37 (0, 0))) := Lib.hid ((((Below.refl (w.alloc _).heap.size _).alloc (Nat.le_refl _) _).block w.heap.size (by simp)).trans (heap_last _ _ _ rfl))
 go_wp2_with (with_reducible show wpList _ _ _ (⟨none, Op.store _ _ _, _, _, _, _⟩ :: _) _ _; refine Hid.out ?_)
 refine Lib.hid ?_
 refine wpList_store_row rfl 37 _ _ rfl w.heap.size rfl _ _ hr.out #[I 2, I 2, I 700, I 710, .slice (some ⟨w.heap.size + 1, 0, none⟩) 4 4] rfl (by simp [Value.oneCell']) rfl (by kernel_rfl) ?_
 go_wp2_with fail
 refine bodyPost_ret (results_cell_only rfl _ _ (w.heap.size) 37 _ (0, 0) _ rfl (setRow_same (hr.out)) Try.underlying37 rfl (by kernel_rfl)) rfl ?_
 exact ⟨_, rfl, (setRow_other (by omega)).trans (heap_last _ _ _ (by simp)), below_setRow (((Below.refl _ _).alloc (Nat.le_refl _) _).alloc (by simp) _) (Nat.le_refl _) _⟩
end Go.Proofs.Ytljjpidigckheaa.Un
namespace Go.Proofs.Ytljjpidigckheaa.Un
open Go.RowKit
theorem nc_R {w : World} {b : Nat} {cs : Array Value} {t : TypeId} {xs : List Rng} (h : w.heap[b]? = some (.cells cs t (0, 0))) (hc : cs.toList = flat 2 (rR xs) xs.length) : Rd w w.heap.size 2 (some ⟨b, 0, none⟩) xs.length (rR xs) := fun _ => by
 refine ⟨b, 0, rfl, (Array.getElem?_eq_some_iff.1 h).1, fun k hk j hj => ?_⟩
 rw [cell_of_row _ _ _ _ _ _ h, ← Array.getElem?_toList, hc, show 0 + k * 2 + j = k * 2 + j by omega, flat_get _ hk hj]
theorem nc_I {w : World} {b : Nat} {cs : Array Value} {t : TypeId} {xs : List Int} (h : w.heap[b]? = some (.cells cs t (0, 0))) (hc : cs.toList = flat 1 (rI xs) xs.length) : Rd w w.heap.size 1 (some ⟨b, 0, none⟩) xs.length (rI xs) := fun _ => by
 refine ⟨b, 0, rfl, (Array.getElem?_eq_some_iff.1 h).1, fun k hk j hj => ?_⟩
 rw [cell_of_row _ _ _ _ _ _ h, ← Array.getElem?_toList, hc, show 0 + k * 1 + j = k * 1 + j by omega, flat_get _ hk hj]
theorem nc_G {w : World} {b : Nat} {cs : Array Value} {t : TypeId} {xs : List Gag} (h : w.heap[b]? = some (.cells cs t (0, 0))) (hc : cs.toList = flat 6 (rG xs) xs.length) : Rd w w.heap.size 6 (some ⟨b, 0, none⟩) xs.length (rG xs) := fun _ => by
 refine ⟨b, 0, rfl, (Array.getElem?_eq_some_iff.1 h).1, fun k hk j hj => ?_⟩
 rw [cell_of_row _ _ _ _ _ _ h, ← Array.getElem?_toList, hc, show 0 + k * 6 + j = k * 6 + j by omega, flat_get _ hk hj]
theorem nc_V {w : World} {b : Nat} {cs : Array Value} {t : TypeId} {xs : List Rmv} (h : w.heap[b]? = some (.cells cs t (0, 0))) (hc : cs.toList = flat 4 (rV xs) xs.length) : Rd w w.heap.size 4 (some ⟨b, 0, none⟩) xs.length (rV xs) := fun _ => by
 refine ⟨b, 0, rfl, (Array.getElem?_eq_some_iff.1 h).1, fun k hk j hj => ?_⟩
 rw [cell_of_row _ _ _ _ _ _ h, ← Array.getElem?_toList, hc, show 0 + k * 4 + j = k * 4 + j by omega, flat_get _ hk hj]
theorem nc_new {w : World} {o : Obj} : Below w.heap.size w (w.alloc o) := (Below.refl _ _).alloc (Nat.le_refl _) o
theorem nc_one {X w' : World} {o : Obj} (h : Below (X.alloc o).heap.size (X.alloc o) w') : Below X.heap.size X w' := nc_new.trans (h.mono (by simp))
def RowV (b : Nat) (cs : Array Value) (t : TypeId) (w : World) : Prop := w.heap[b]? = some (.cells cs t (0, 0))
theorem RowV.below {b : Nat} {cs : Array Value} {t : TypeId} {w w' : World} (h : RowV b cs t w) (hb : Below w.heap.size w w') : RowV b cs t w' := (hb.block _ (lt_of_row h)).trans h
def PaV (V : Value) (w : World) : Prop := ∃ b, V = .slice (some ⟨b, 0, none⟩) 2 2 ∧ RowV b paA 108 w
theorem kn_pair (w : World) : Calls Try.prog 47 #[] w fun e w' => ∃ V, e = .returned V ∧ PaV V w' ∧ Below w.heap.size w w' := (pair_any w).mono fun _ _ ⟨b, he, hr, hb⟩ => ⟨_, he, ⟨b, rfl, hr⟩, hb⟩
def SmV (V : Value) (w : World) : Prop := ∃ b, V = .agg #[I 2, I 2, I 700, I 710, .slice (some ⟨b, 0, none⟩) 4 4] ∧ RowV b smA 24 w
theorem SmV.below {V : Value} {w w' : World} (h : SmV V w) (hb : Below w.heap.size w w') : SmV V w' := by
 obtain ⟨b, e, hr⟩ := h
 exact ⟨b, e, hr.below hb⟩
theorem kn_small (w : World) : Calls Try.prog 48 #[] w fun e w' => ∃ V, e = .returned V ∧ SmV V w' ∧ Below w.heap.size w w' := (small_any w).mono fun _ _ ⟨b, he, hr, hb⟩ => ⟨_, he, ⟨b, rfl, hr⟩, hb⟩
def TwoV (V : Value) (w : World) : Prop := ∃ b o c, V = .slice (some ⟨b, o, none⟩) 2 c ∧ w.cell? ⟨b, o, none⟩ = some (I 1) ∧ w.cell? ⟨b, o + 1, none⟩ = some (I 0)
theorem kn_trace (X : World) (P : Value) (hP : PaV P X) : Calls Try.prog 18 #[P, I 1, I 5, .agg #[I 1000, I 1000]] X fun e w' => ∃ V, e = .returned (.tuple #[.agg #[I 998, I 1002], V, I 0]) ∧ TwoV V w' ∧ Below X.heap.size X w' := by
 obtain ⟨b, rfl, hr⟩ := hP
 refine (trace_any paL 1 5 ⟨1000, 1000⟩ (some ⟨b, 0, none⟩) 2 X X.heap.size (Nat.le_refl _) (nc_G hr rfl)).mono ?_
 rw [ex_tr]
 rintro e w' ⟨A, c, rfl, _, _, hrd, hb⟩
 obtain ⟨g, o, rfl, _, hc⟩ := hrd (by decide)
 exact ⟨_, rfl, ⟨g, o, c, rfl, by simpa [rI, at0] using hc 0 (by decide) 0 (by decide), by simpa [rI, at0] using hc 1 (by decide) 0 (by decide)⟩, hb⟩
theorem sm_rd {b : Nat} {X : World} (hr : RowV b smA 24 X) : Rd X X.heap.size 2 (some ⟨b, 0, none⟩) smS.s.length (rR smS.s) := nc_R hr rfl
theorem sm_n : smS.s.length ≤ 4 ∧ 4 ≤ maxLen := by unfold maxLen; decide
theorem kn_thick (X : World) (P : Value) (hP : SmV P X) : Calls Try.prog 23 #[P] X fun e w' => e = .returned (.tuple #[.agg #[I 700, I 713], I 0]) ∧ Below X.heap.size X w' := by
 obtain ⟨b, rfl, hr⟩ := hP
 refine (thickness_any smS (some ⟨b, 0, none⟩) 4 X X.heap.size sm_n (Nat.le_refl _) (sm_rd hr)).mono ?_
 rw [ex_th]
 exact fun _ _ h => h
theorem kn_vary (X : World) (P : Value) (hP : SmV P X) : Calls Try.prog 24 #[P] X fun e w' => e = .returned (.tuple #[.agg #[I 3, I 3], I 2, I 0, I 0]) ∧ Below X.heap.size X w' := by
 obtain ⟨b, rfl, hr⟩ := hP
 refine (variation_any smS (some ⟨b, 0, none⟩) 4 X X.heap.size (Nat.le_refl _) (sm_rd hr)).mono ?_
 rw [ex_va, ex_ve]
 exact fun _ _ h => h
def ReV (V : Value) (w : World) : Prop := ∃ b o c, V = .agg #[I 2, I 2, I 675, I 690, .slice (some ⟨b, o, none⟩) 4 c] ∧ w.cell? ⟨b, o, none⟩ = some (I (-1)) ∧ w.cell? ⟨b, o + 1, none⟩ = some (I 1)
theorem kn_remove (X : World) (k : Nat) (hk : X.heap.size = k) (P : Value) (hP : SmV P X) : Calls Try.prog 41 #[P, .slice (some ⟨k, 0, none⟩) 1 1] (X.alloc (.cells #[I 1, I 20, I 25, I 1] 88)) fun e w' => ∃ V, e = .returned (.tuple #[V, I 0]) ∧ ReV V w' ∧ Below X.heap.size X w' := by
 subst hk
 obtain ⟨b, rfl, hr⟩ := hP.below (nc_new (o := .cells #[I 1, I 20, I 25, I 1] 88))
 have hl : RowV X.heap.size #[I 1, I 20, I 25, I 1] 88 (X.alloc (.cells #[I 1, I 20, I 25, I 1] 88)) := heap_last _ _ _ rfl
 refine (remove_any smS (some ⟨b, 0, none⟩) 4 rmL (some ⟨X.heap.size, 0, none⟩) 1 _ _ sm_n (Nat.le_refl _) (sm_rd hr) (nc_V hl rfl) (by decide)).mono ?_
 rw [ex_re, ex_rx]
 rintro e w' ⟨A, c, rfl, _, hrd, hb⟩
 obtain ⟨g, o, rfl, _, hc⟩ := hrd (by decide)
 exact ⟨_, rfl, ⟨g, o, c, rfl, by simpa [rR, at0, Rng.c] using hc 0 (by decide) 0 (by decide), by simpa [rR, at0, Rng.c] using hc 0 (by decide) 1 (by decide)⟩, nc_one hb⟩
theorem kn_best (X : World) (k : Nat) (hk : X.heap.size = k) : Calls Try.prog 28 #[I 2, I 2, .slice (some ⟨k, 0, none⟩) 4 4] (X.alloc (.cells #[I 0, I 0, I 0, I 4] 3)) fun e w' => ∃ a b c d, e = .returned (.tuple #[.agg #[I a, I b, I c, I d, I 1, I 1], I 0]) ∧ Below X.heap.size X w' := by
 subst hk
 have hl : RowV X.heap.size #[I 0, I 0, I 0, I 4] 3 (X.alloc (.cells #[I 0, I 0, I 0, I 4] 3)) := heap_last _ _ _ rfl
 refine (best_any 2 2 bsZ (some ⟨X.heap.size, 0, none⟩) 4 _ _ (by decide) (Nat.le_refl _) (nc_I hl rfl)).mono ?_
 rintro e w' ⟨⟨P, f, er, rfl, hP⟩, hb⟩
 rcases hP with ⟨_, rfl, _, _, hf, _⟩ | ⟨h, _⟩
 · have hf' : f = ⟨1, 1⟩ := hf.trans ex_bd
   rw [hf']
   exact ⟨P.a, P.b, P.c, P.d, rfl, nc_one hb⟩
 · rw [ex_bo] at h; cases h
theorem kn_flat (X : World) (P : Value) (hP : SmV P X) : Calls Try.prog 32 #[P] X fun e w' => ∃ S1 n1 m1 T1 k1 q1 S2 n2 m2 T2 k2 q2, e = .returned (.tuple #[.agg #[I 3, I 4, .slice S1 n1 m1, .slice T1 k1 q1], .agg #[I 1, I 1, .slice S2 n2 m2, .slice T2 k2 q2], I 0]) ∧ Below X.heap.size X w' := by
 obtain ⟨b, rfl, hr⟩ := hP
 refine (flatness0_any smS (some ⟨b, 0, none⟩) 4 X X.heap.size sm_n (Nat.le_refl _) (sm_rd hr)).mono ?_
 rintro e w' ⟨v1, v2, rfl, ⟨S, n, T, m, rfl, _⟩, ⟨S', n', T', m', rfl, _⟩, hb⟩
 have h0 : flF smS = (ff9 smS false, ff9 smS true, 0) := if_pos ex_ok
 have h1 : (flF smS).1.1 = ⟨3, 4⟩ := by rw [h0]; exact ex_f1
 have h2 : (flF smS).2.1.1 = ⟨1, 1⟩ := by rw [h0]; exact ex_f2
 have h3 : (flF smS).2.2 = 0 := by rw [h0]
 rw [h1, h2, h3]
 exact ⟨_, _, _, _, _, _, _, _, _, _, _, _, rfl, hb⟩
theorem kn_proves (X : World) (k1 k2 : Nat) (h1 : X.heap.size = k1) (h2 : X.heap.size + 1 = k2) (P : Value) (hP : SmV P X) : Calls Try.prog 34 #[P, .agg #[I 1, I 1, .slice (some ⟨k1, 0, none⟩) 4 4, .slice (some ⟨k2, 0, none⟩) 4 4], .bool true] ((X.alloc (.cells #[I 0, I 1, I 2, I 3] 3)).alloc (.cells #[I (-1), I 1, I 1, I (-1)] 3)) fun e w' => e = .returned (.tuple #[.bool true, I 0]) ∧ Below X.heap.size X w' := by
 subst h1 h2
 obtain ⟨b, rfl, hr⟩ := (hP.below (nc_new (o := .cells #[I 0, I 1, I 2, I 3] 3))).below (nc_new (o := .cells #[I (-1), I 1, I 1, I (-1)] 3))
 have hl : RowV X.heap.size #[I 0, I 1, I 2, I 3] 3 ((X.alloc (.cells #[I 0, I 1, I 2, I 3] 3)).alloc (.cells #[I (-1), I 1, I 1, I (-1)] 3)) := RowV.below (w := X.alloc (.cells #[I 0, I 1, I 2, I 3] 3)) (heap_last _ _ _ rfl) nc_new
 have hm : RowV (X.heap.size + 1) #[I (-1), I 1, I 1, I (-1)] 3 ((X.alloc (.cells #[I 0, I 1, I 2, I 3] 3)).alloc (.cells #[I (-1), I 1, I 1, I (-1)] 3)) := heap_last _ _ _ (by simp)
 refine (proves_any smS ⟨1, 1⟩ [0, 1, 2, 3] [-1, 1, 1, -1] true (some ⟨b, 0, none⟩) 4 (some ⟨X.heap.size, 0, none⟩) (some ⟨X.heap.size + 1, 0, none⟩) 4 4 _ _ (Nat.le_refl _) (sm_rd hr) (nc_I hl rfl) (nc_I hm rfl) (by unfold maxLen; decide)).mono ?_
 rw [ex_pr, ex_ok]
 exact fun _ _ ⟨he, hb⟩ => ⟨he, nc_one (nc_one hb)⟩
def WiV (V : Value) (w : World) : Prop := ∃ b c, V = .slice (some ⟨b, 0, none⟩) 1 c ∧ w.cell? ⟨b, 0, none⟩ = some (I 1) ∧ w.cell? ⟨b, 1, none⟩ = some (I 1)
theorem WiV.below {V : Value} {w w' : World} (h : WiV V w) (hb : Below w.heap.size w w') : WiV V w' := by
 obtain ⟨b, c, e, h1, h2⟩ := h
 exact ⟨b, c, e, by rw [ovr_of hb]; exact ovr_cell h1 _, by rw [ovr_of hb]; exact ovr_cell h2 _⟩
theorem kn_windows (X : World) (P : Value) (hP : SmV P X) : Calls Try.prog 36 #[P, I 2, I 2] X fun e w' => ∃ V, e = .returned (.tuple #[V, I 0]) ∧ WiV V w' ∧ Below X.heap.size X w' := by
 obtain ⟨b, rfl, hr⟩ := hP
 refine (windows_any smS 2 2 (some ⟨b, 0, none⟩) 4 X X.heap.size sm_n (Nat.le_refl _) (sm_rd hr)).mono ?_
 rw [ex_we, ex_wx]
 rintro e w' ⟨V, rfl, ho, hb⟩
 rcases ho with ⟨_, ⟨_, h2⟩ | ⟨g, cap, cur, rfl, _, hh, hc, _, hsz, ht⟩⟩
 · cases h2
 · refine ⟨_, rfl, ⟨g, cap, rfl, ?_, ?_⟩, hb⟩
   all_goals
    rw [cell_of_row _ _ _ _ _ _ hh, ← Array.getElem?_toList]
   · have h3 : (cur.toList.take (1 * 2))[0]? = some (I 1) := by rw [show 1 * 2 = [(⟨1, 1⟩ : Frc)].length * 2 from rfl, ht]; rfl
     rwa [List.getElem?_take_of_lt (by decide)] at h3
   · have h3 : (cur.toList.take (1 * 2))[1]? = some (I 1) := by rw [show 1 * 2 = [(⟨1, 1⟩ : Frc)].length * 2 from rfl, ht]; rfl
     rwa [List.getElem?_take_of_lt (by decide)] at h3
theorem kn_apart (X : World) (k1 k2 k3 : Nat) (h1 : X.heap.size = k1) (h2 : X.heap.size + 1 = k2) (h3 : X.heap.size + 1 + 1 = k3) : Calls Try.prog 38 #[.slice (some ⟨k1, 0, none⟩) 2 2, .agg #[I 100, I 101, .slice (some ⟨k2, 0, none⟩) 2 2], .agg #[I 90, I 90, .slice (some ⟨k3, 0, none⟩) 1 1]] (((X.alloc (.cells #[I 10, I 12, I 5, I 6] 24)).alloc (.cells #[I 0, I 1] 3)).alloc (.cells #[I 0] 3)) fun e w' => e = .returned (.tuple #[.agg #[I 4, I 6], I 0]) ∧ Below X.heap.size X w' := by
 subst h1 h2 h3
 have hA : RowV X.heap.size #[I 10, I 12, I 5, I 6] 24 (((X.alloc (.cells #[I 10, I 12, I 5, I 6] 24)).alloc (.cells #[I 0, I 1] 3)).alloc (.cells #[I 0] 3)) := (RowV.below (w := X.alloc (.cells #[I 10, I 12, I 5, I 6] 24)) (heap_last _ _ _ rfl) nc_new).below nc_new
 have hB : RowV (X.heap.size + 1) #[I 0, I 1] 3 (((X.alloc (.cells #[I 10, I 12, I 5, I 6] 24)).alloc (.cells #[I 0, I 1] 3)).alloc (.cells #[I 0] 3)) := RowV.below (w := (X.alloc (.cells #[I 10, I 12, I 5, I 6] 24)).alloc (.cells #[I 0, I 1] 3)) (heap_last _ _ _ (by simp)) nc_new
 have hC : RowV (X.heap.size + 1 + 1) #[I 0] 3 (((X.alloc (.cells #[I 10, I 12, I 5, I 6] 24)).alloc (.cells #[I 0, I 1] 3)).alloc (.cells #[I 0] 3)) := heap_last _ _ _ (by simp)
 refine (apart_any apB (some ⟨X.heap.size, 0, none⟩) 2 ⟨⟨100, 101⟩, [0, 1]⟩ ⟨⟨90, 90⟩, [0]⟩ (some ⟨X.heap.size + 1, 0, none⟩) (some ⟨X.heap.size + 1 + 1, 0, none⟩) 2 1 _ _ (Nat.le_refl _) (nc_R hA rfl) (nc_I hB rfl) (nc_I hC rfl) (by decide)).mono ?_
 rw [ex_ae, ex_ax]
 exact fun _ _ ⟨he, hb⟩ => ⟨he, nc_one (nc_one (nc_one hb))⟩
end Go.Proofs.Ytljjpidigckheaa.Un
