/- The document's examples: silicon, ramp, and what the plain functions say of them. -/
import Derived.Test.YteibgenkklpoaaaDw3
import Derived.Test.YteibgenkklpoaaaDu2
import Derived.Test.YteibgenkklpoaaaDp3
namespace Go.Proofs.Yteibgenkklpoaaa.Un
open Go.RowKit
def sil : Mdl := ⟨1, fun k => if k = 0 then ⟨2, 2⟩ else if k = 1 then ⟨3, 4⟩ else if k = 2 then ⟨5, 5⟩ else ⟨6, 8⟩⟩
def rmp : Gro := ⟨[⟨0, 10⟩, ⟨10, 20⟩], 0, [⟨2, 2⟩], [⟨0, 10000⟩, ⟨10, 10000⟩]⟩
def hex : Hst := ⟨40, fun _ => ⟨5000, 5000⟩⟩
theorem ex_reg : rgsF sil ⟨10, 14⟩ ⟨2, 2⟩ = (28, 0) := by decide +kernel
theorem ex_ck : ckF sil [⟨2, 2⟩, ⟨2, 3⟩] 6 = 0 := by decide +kernel
theorem ex_why : whyF sil [⟨2, 2⟩] 6 11 = .tuple #[I 0, I 3, I 0] := by
  have h1 : ckF sil [⟨2, 2⟩] 6 = 0 := by decide +kernel
  have h2 : whyL sil 6 11 [⟨2, 2⟩] = some (0, 3) := by decide +kernel
  unfold whyF
  rw [if_neg (by rw [h1]; decide), if_neg (by omega), h2]
  rfl
theorem ex_pr : prE sil rmp [0, 2] = 0 := by decide +kernel
theorem ex_sl : slV sil rmp ⟨0, 2⟩ ⟨2, 2⟩ = 12 := by decide +kernel
theorem ex_usE : usE sil rmp 12 = 0 := by decide +kernel
theorem ex_us : usF sil rmp 12 = [⟨0, 2⟩] := by decide +kernel
theorem ex_an : anF [hex] ⟨100, 101⟩ 31 = (⟨70, 71⟩, ⟨30, 31⟩, 0) := by decide +kernel
theorem ex_win {l : List Rng} (h : WinR sil [⟨2, 2⟩, ⟨2, 3⟩] 6 l) : l = [⟨7, 10⟩] := by
  obtain ⟨hok, hz, _, _⟩ := ck_ok ex_ck
  have h2 : WinOf (badAt sil 6 [⟨2, 2⟩, ⟨2, 3⟩]) [⟨7, 10⟩] := by
    have := win_bad (v := 6) hok hz (l := [⟨0, 4⟩, ⟨0, 6⟩, ⟨11, 16⟩, ⟨11, 24⟩, ⟨13, 1000000⟩, ⟨13, 1000000⟩]) (by decide +kernel) (by decide +kernel)
    rwa [show (swK ([⟨0, 4⟩, ⟨0, 6⟩, ⟨11, 16⟩, ⟨11, 24⟩, ⟨13, 1000000⟩, ⟨13, 1000000⟩] ++ [⟨1000001, 1000001⟩]) (([⟨0, 4⟩, ⟨0, 6⟩, ⟨11, 16⟩, ⟨11, 24⟩, ⟨13, 1000000⟩, ⟨13, 1000000⟩] : List Rng).length + 1)).2 = [⟨7, 10⟩] by decide +kernel] at this
  exact (h.ok ex_ck).eq h2 fun _ _ _ => Iff.rfl
/-- A row of ranges, read. -/
theorem rd_rowR {w : World} {b : Nat} {cs : Array Value} {t : TypeId} {xs : List Rng} (h : w.heap[b]? = some (.cells cs t (0, 0))) (hc : cs.toList = rc xs) : Rd w w.heap.size 2 (some ⟨b, 0, none⟩) xs.length (rR xs) := fun _ => by
  refine ⟨b, 0, rfl, (Array.getElem?_eq_some_iff.1 h).1, fun k hk j hj => ?_⟩
  rw [cell_of_row _ _ _ _ _ _ h, ← Array.getElem?_toList, hc, rc_flat, show 0 + k * 2 + j = k * 2 + j by omega, flat_get _ hk hj]
theorem rd_rowI {w : World} {b : Nat} {cs : Array Value} {t : TypeId} {xs : List Int} (h : w.heap[b]? = some (.cells cs t (0, 0))) (hc : cs.toList = xs.map fun x => I x) : Rd w w.heap.size 1 (some ⟨b, 0, none⟩) xs.length (rI xs) := fun _ => by
  refine ⟨b, 0, rfl, (Array.getElem?_eq_some_iff.1 h).1, fun k hk j hj => ?_⟩
  obtain rfl : j = 0 := by omega
  rw [cell_of_row _ _ _ _ _ _ h, ← Array.getElem?_toList, hc, show 0 + k * 1 + 0 = k by omega, List.getElem?_map, List.getElem?_eq_getElem hk]
  unfold rI
  rw [at0_get hk]
  rfl
set_option maxRecDepth 100000 in
set_option maxHeartbeats 1000000 in
theorem silicon_any (w : World) : Calls Try.prog 43 #[] w fun e w' => e = .returned (.agg (mdA sil)) ∧ Below w.heap.size w w' := by
  obtain ⟨W, hW⟩ : ∃ W, W = (w.alloc (.cells #[I 0, I 0, I 0, I 0, I 0, I 0, I 0, I 0, I 0] 26)) := ⟨_, rfl⟩
  have rowW0 : W.heap[w.heap.size]? = some (.cells #[I 0, I 0, I 0, I 0, I 0, I 0, I 0, I 0, I 0] 26 (0, 0)) := by rw [hW]; exact heap_last _ _ _ rfl
  have yW00 := ovr_cell (W := W) (b := w.heap.size) (o := 0) (v := I 0) (by rw [cell_of_row _ _ _ _ _ _ rowW0]; rfl)
  have yW01 := ovr_cell (W := W) (b := w.heap.size) (o := 1) (v := I 0) (by rw [cell_of_row _ _ _ _ _ _ rowW0]; rfl)
  have yW02 := ovr_cell (W := W) (b := w.heap.size) (o := 2) (v := I 0) (by rw [cell_of_row _ _ _ _ _ _ rowW0]; rfl)
  have yW03 := ovr_cell (W := W) (b := w.heap.size) (o := 3) (v := I 0) (by rw [cell_of_row _ _ _ _ _ _ rowW0]; rfl)
  have yW04 := ovr_cell (W := W) (b := w.heap.size) (o := 4) (v := I 0) (by rw [cell_of_row _ _ _ _ _ _ rowW0]; rfl)
  have yW05 := ovr_cell (W := W) (b := w.heap.size) (o := 5) (v := I 0) (by rw [cell_of_row _ _ _ _ _ _ rowW0]; rfl)
  have yW06 := ovr_cell (W := W) (b := w.heap.size) (o := 6) (v := I 0) (by rw [cell_of_row _ _ _ _ _ _ rowW0]; rfl)
  have yW07 := ovr_cell (W := W) (b := w.heap.size) (o := 7) (v := I 0) (by rw [cell_of_row _ _ _ _ _ _ rowW0]; rfl)
  have yW08 := ovr_cell (W := W) (b := w.heap.size) (o := 8) (v := I 0) (by rw [cell_of_row _ _ _ _ _ _ rowW0]; rfl)
  have RrowW0 := Lib.hid (ovr_row rowW0)
  clear rowW0
  have HUW : Hid (∀ u, Below w.heap.size w (ovr W u)) := U1 hW
  have HW := Lib.hid hW
  clear hW
  go_enter Try.func43, Try.ntmps43
  go_upto_region 1 with (fail)
  rw [← HW.out]
  obtain ⟨u0, hu0⟩ := ovr_self W
  rw [hu0]
  clear hu0
  go_wp2_with (with_reducible show wpList _ _ _ (⟨none, Op.store _ _ _, _, _, _, _⟩ :: _) _ _; refine Hid.out ?_)
  refine Lib.hid ?_
  refine wpList_store_row rfl 26 _ _ rfl w.heap.size rfl _ _ (RrowW0.out u0) (mdA sil) rfl (by intro v hv; simp at hv; rcases hv with rfl | rfl | rfl | rfl | rfl | rfl | rfl | rfl | rfl <;> rfl) rfl (by kernel_rfl) ?_
  go_wp2_with fail
  simp only [Act.put]
  refine bodyPost_ret (results_cell_only rfl _ _ (w.heap.size) 26 _ (0, 0) _ rfl (setRow_same (RrowW0.out _)) Try.underlying26 rfl (by kernel_rfl)) rfl ?_
  exact ⟨rfl, below_setRow (HUW.out _) (Nat.le_refl _) _⟩
set_option maxRecDepth 100000 in
set_option maxHeartbeats 1000000 in
theorem ramp_any (w : World) : Calls Try.prog 45 #[] w fun e w' => ∃ b1 b2 b3, e = .returned (.agg (grA rmp (some ⟨b1, 0, none⟩) (some ⟨b2, 0, none⟩) (some ⟨b3, 0, none⟩) 2 1 2)) ∧ GroIn w' w'.heap.size rmp (some ⟨b1, 0, none⟩) (some ⟨b2, 0, none⟩) (some ⟨b3, 0, none⟩) ∧ Below w.heap.size w w' := by
  obtain ⟨W, hW⟩ : ∃ W, W = (w.alloc (.cells #[.slice none 0 0, I 0, .slice none 0 0, .slice none 0 0] 77)) := ⟨_, rfl⟩
  have rowW0 : W.heap[w.heap.size]? = some (.cells #[.slice none 0 0, I 0, .slice none 0 0, .slice none 0 0] 77 (0, 0)) := by rw [hW]; exact heap_last _ _ _ rfl
  have yW00 := ovr_cell (W := W) (b := w.heap.size) (o := 0) (v := .slice none 0 0) (by rw [cell_of_row _ _ _ _ _ _ rowW0]; rfl)
  have yW01 := ovr_cell (W := W) (b := w.heap.size) (o := 1) (v := I 0) (by rw [cell_of_row _ _ _ _ _ _ rowW0]; rfl)
  have yW02 := ovr_cell (W := W) (b := w.heap.size) (o := 2) (v := .slice none 0 0) (by rw [cell_of_row _ _ _ _ _ _ rowW0]; rfl)
  have yW03 := ovr_cell (W := W) (b := w.heap.size) (o := 3) (v := .slice none 0 0) (by rw [cell_of_row _ _ _ _ _ _ rowW0]; rfl)
  have RrowW0 := Lib.hid (ovr_row rowW0)
  clear rowW0
  have HUW : Hid (∀ u, Below w.heap.size w (ovr W u)) := U1 hW
  have HW := Lib.hid hW
  clear hW
  go_enter Try.func45, Try.ntmps45
  go_upto_region 1 with (fail)
  rw [← HW.out]
  obtain ⟨u0, hu0⟩ := ovr_self W
  rw [hu0]
  clear hu0
  obtain ⟨V, hV⟩ : ∃ V, V = (((ovr W u0).alloc (.cells #[I 0, I 10, I 10, I 20] 85)).alloc (.cells #[I 2, I 2] 23)).alloc (.cells #[I 0, I 10000, I 10, I 10000] 85) := ⟨_, rfl⟩
  obtain ⟨q, hq⟩ : ∃ q, q = (ovr W u0).heap.size := ⟨_, rfl⟩
  have r1 : V.heap[q]? = some (.cells #[I 0, I 10, I 10, I 20] 85 (0, 0)) := by rw [hV, hq]; exact heap_before (heap_before (heap_last _ _ _ rfl))
  have r2 : V.heap[q + 1]? = some (.cells #[I 2, I 2] 23 (0, 0)) := by rw [hV, hq]; exact heap_before (heap_last _ _ _ (by simp))
  have r3 : V.heap[q + 1 + 1]? = some (.cells #[I 0, I 10000, I 10, I 10000] 85 (0, 0)) := by rw [hV, hq]; exact heap_last _ _ _ (by simp)
  have r0 : V.heap[w.heap.size]? = some (.cells #[.slice none 0 0, I 0, .slice none 0 0, .slice none 0 0] 77 (0, 0)) := by rw [hV]; exact heap_before (heap_before (heap_before (RrowW0.out u0)))
  have bV : Below w.heap.size w V := by rw [hV]; exact (((HUW.out u0).alloc (HUW.out u0).size _).alloc (by have := (HUW.out u0).size; simp; omega) _).alloc (by have := (HUW.out u0).size; simp; omega) _
  have hne : w.heap.size < q := by rw [hq]; exact (Array.getElem?_eq_some_iff.1 (RrowW0.out u0)).1
  have HV := Lib.hid hV
  have HQ := Lib.hid hq
  have R0 := Lib.hid r0
  have R1 := Lib.hid r1
  have R2 := Lib.hid r2
  have R3 := Lib.hid r3
  have BV := Lib.hid bV
  have HNE := Lib.hid hne
  clear hV hq r0 r1 r2 r3 bV hne
  go_wp2_with (with_reducible show wpList _ _ _ (⟨none, Op.store _ _ _, _, _, _, _⟩ :: _) _ _; rw [← HV.out, ← HQ.out]; refine Hid.out ?_)
  refine Lib.hid ?_
  refine wpList_store_row rfl 77 _ _ rfl w.heap.size rfl _ _ R0.out #[.slice (some ⟨q, 0, none⟩) 2 2, I 0, .slice (some ⟨q + 1, 0, none⟩) 1 1, .slice (some ⟨q + 1 + 1, 0, none⟩) 2 2] rfl (by intro v hv; simp at hv; rcases hv with rfl | rfl | rfl | rfl <;> rfl) rfl (by kernel_rfl) ?_
  go_wp2_with fail
  simp only [Act.put]
  refine bodyPost_ret (results_cell_only rfl _ _ (w.heap.size) 77 _ (0, 0) _ rfl (setRow_same (R0.out)) Try.underlying77 rfl (by kernel_rfl)) rfl ?_
  have hb := below_setRow BV.out (Nat.le_refl _) #[.slice (some ⟨q, 0, none⟩) 2 2, I 0, .slice (some ⟨q + 1, 0, none⟩) 1 1, .slice (some ⟨q + 1 + 1, 0, none⟩) 2 2]
  refine ⟨q, q + 1, q + 1 + 1, rfl, ⟨?_, ?_, ?_, by decide, by decide, by decide⟩, hb⟩
  · exact rd_rowR (xs := rmp.r) ((setRow_other (by have := HNE.out; omega)).trans R1.out) rfl
  · exact rd_rowR (xs := rmp.z) ((setRow_other (by have := HNE.out; omega)).trans R2.out) rfl
  · exact rd_rowR (xs := rmp.f) ((setRow_other (by have := HNE.out; omega)).trans R3.out) rfl
end Go.Proofs.Yteibgenkklpoaaa.Un
