/- What the rows through the layers say of chapters 4 and 5 in the document's examples: quiet. -/
import Derived.Test.YtliolnfcgaflcaaGreatPca
import Derived.Test.YtliolnfcgaflcaaGreatDw3
import Derived.Test.YtliolnfcgaflcaaGreatHp
namespace Go.Proofs.YtliolnfcgaflcaaGreat.Un
open Go.RowKit
def sil : Mdl := ⟨1, fun k => if k = 0 then ⟨2, 2⟩ else if k = 1 then ⟨3, 4⟩ else if k = 2 then ⟨5, 5⟩ else ⟨6, 8⟩⟩
theorem qx_ck : ckF sil [⟨2, 2⟩] 6 = 0 := by decide +kernel
theorem qx_win {l : List Rng} (h : WinR sil [⟨2, 2⟩] 6 l) : l = [⟨5, 10⟩] := by
 obtain ⟨hok, hz, _, _⟩ := ck_ok qx_ck
 have h2 : WinOf (badAt sil 6 [⟨2, 2⟩]) [⟨5, 10⟩] := by
  have := win_bad (v := 6) hok hz (l := [⟨0, 4⟩, ⟨11, 16⟩, ⟨13, 1000000⟩]) (by decide +kernel) (by decide +kernel)
  rwa [show (swK ([⟨0, 4⟩, ⟨11, 16⟩, ⟨13, 1000000⟩] ++ [⟨1000001, 1000001⟩]) (([⟨0, 4⟩, ⟨11, 16⟩, ⟨13, 1000000⟩] : List Rng).length + 1)).2 = [⟨5, 10⟩] by decide +kernel] at this
 exact (h.ok qx_ck).eq h2 fun _ _ _ => Iff.rfl
theorem rd_rowR {w : World} {b : Nat} {cs : Array Value} {t : TypeId} {xs : List Rng} (h : w.heap[b]? = some (.cells cs t (0, 0))) (hc : cs.toList = rc xs) : Rd w w.heap.size 2 (some ⟨b, 0, none⟩) xs.length (rR xs) := fun _ => by
 refine ⟨b, 0, rfl, (Array.getElem?_eq_some_iff.1 h).1, fun k hk j hj => ?_⟩
 rw [cell_of_row _ _ _ _ _ _ h, ← Array.getElem?_toList, hc, rc_flat, show 0 + k * 2 + j = k * 2 + j by omega, flat_get _ hk hj]
theorem rd_rowI {w : World} {b : Nat} {cs : Array Value} {t : TypeId} {xs : List Int} (h : w.heap[b]? = some (.cells cs t (0, 0))) (hc : cs.toList = xs.map fun x => I x) : Rd w w.heap.size 1 (some ⟨b, 0, none⟩) xs.length (rI xs) := fun _ => by
 refine ⟨b, 0, rfl, (Array.getElem?_eq_some_iff.1 h).1, fun k hk j hj => ?_⟩
 obtain rfl : j = 0 := by omega
 rw [cell_of_row _ _ _ _ _ _ h, ← Array.getElem?_toList, hc, show 0 + k * 1 + 0 = k by omega, List.getElem?_map, List.getElem?_eq_getElem hk]
 unfold rI
 rw [at0_get hk]
 rfl
theorem under_one {X w' : World} {o : Obj} (h : Below (X.alloc o).heap.size (X.alloc o) w') : Below X.heap.size X w' := ((Below.refl _ _).alloc (Nat.le_refl _) o).trans (h.mono (by simp))
def OnR (a b : Int) (V : Value) (w : World) : Prop := ∃ q o c, V = .slice (some ⟨q, o, none⟩) 1 c ∧ q < w.heap.size ∧ w.cell? ⟨q, o, none⟩ = some (I a) ∧ w.cell? ⟨q, o + 1, none⟩ = some (I b)
theorem kq_win (X : World) (k : Nat) (hk : X.heap.size = k) : Calls Tryz.prog 13 #[.agg (mdA sil), .slice (some ⟨k, 0, none⟩) 1 1, .int .u8 6] (X.alloc (.cells #[I 2, I 2] 24)) fun e w' => ∃ V, e = .returned (.tuple #[V, I 0]) ∧ OnR 5 10 V w' ∧ Below X.heap.size X w' := by
 subst hk
 have hr : (X.alloc (.cells #[I 2, I 2] 24)).heap[X.heap.size]? = some (.cells #[I 2, I 2] 24 (0, 0)) := heap_last _ _ _ rfl
 refine (window_any sil (some ⟨X.heap.size, 0, none⟩) 1 [⟨2, 2⟩] 6 _ _ (by decide) (Nat.le_refl _) (rd_rowR hr rfl) (by decide)).mono ?_
 rintro e w' ⟨V, l, rfl, hw, ho, hb⟩
 obtain rfl := qx_win hw
 obtain ⟨A, c, rfl, _, hrd⟩ := Rd.of_rc rfl ho
 obtain ⟨q, o, rfl, hq, e0, e1⟩ := hrd.rng (k := 0) (by decide)
 rw [Nat.zero_mul, Nat.add_zero] at e0 e1
 exact ⟨_, by rw [qx_ck]; rfl, ⟨q, o, c, rfl, hq, e0, e1⟩, under_one hb⟩
def kqv (a : Int) : Vec := fun i => if i = 0 then a else 0
def kqR : Run := ⟨[⟨0, 1, kqv 20⟩], 100, [], []⟩
theorem kq1 : grownN kqR 0 100 = 2000 ∧ grownE kqR 0 100 = 0 := by decide +kernel
theorem kq_grown (X : World) (k : Nat) (hk : X.heap.size = k) : Calls Tryz.prog 14 #[.agg #[.slice (some ⟨k, 0, none⟩) 1 1, I 100, .slice none 0 0, .slice none 0 0], I 0, I 100] (X.alloc (.cells #[I 0, I 1, I 20, I 0, I 0, I 0, I 0, I 0] 60)) fun e w' => e = .returned (.tuple #[I 2000, I 0]) ∧ Below X.heap.size X w' := by
 subst hk
 have hr : (X.alloc (.cells #[I 0, I 1, I 20, I 0, I 0, I 0, I 0, I 0] 60)).heap[X.heap.size]? = some (.cells #[I 0, I 1, I 20, I 0, I 0, I 0, I 0, I 0] 60 (0, 0)) := heap_last _ _ _ rfl
 have hin : RunIn (X.alloc (.cells #[I 0, I 1, I 20, I 0, I 0, I 0, I 0, I 0] 60)) (some ⟨X.heap.size, 0, none⟩) none none kqR := by
  refine ⟨fun _ => ⟨X.heap.size, 0, rfl, by simp, fun k hk j hj => ?_⟩, Rd.nil, Rd.nil, by decide, by decide, by decide⟩
  have hk0 : k = 0 := by
   have : kqR.ss.length = 1 := rfl
   omega
  subst hk0
  rw [cell_of_row _ _ _ _ _ _ hr]
  rcases j with _ | _ | _ | _ | _ | _ | _ | _ | j
  all_goals first | rfl | omega
 refine (grown_any (some ⟨X.heap.size, 0, none⟩) none none 1 0 0 kqR 0 100 _ hin).mono ?_
 rintro e w' ⟨rfl, hb⟩
 exact ⟨by rw [kq1.1, kq1.2], under_one hb⟩
set_option maxRecDepth 100000 in
set_option maxHeartbeats 2000000 in
theorem quiet_any (w : World) : Calls Tryz.prog 6 #[] w fun e w' => e = .returned (.bool true) ∧ Below w.heap.size w w' := by
 obtain ⟨W, hW⟩ : ∃ W, W = (w.alloc (.cells #[I 1, I 2, I 2, I 3, I 4, I 5, I 5, I 6, I 8] 27)) := ⟨_, rfl⟩
 have rowW0 : W.heap[w.heap.size]? = some (.cells #[I 1, I 2, I 2, I 3, I 4, I 5, I 5, I 6, I 8] 27 (0, 0)) := by rw [hW]; exact heap_last _ _ _ rfl
 have yW00 := ovr_cell (W := W) (b := w.heap.size) (o := 0) (v := I 1) (by rw [cell_of_row _ _ _ _ _ _ rowW0]; rfl)
 have yW01 := ovr_cell (W := W) (b := w.heap.size) (o := 1) (v := I 2) (by rw [cell_of_row _ _ _ _ _ _ rowW0]; rfl)
 have yW02 := ovr_cell (W := W) (b := w.heap.size) (o := 2) (v := I 2) (by rw [cell_of_row _ _ _ _ _ _ rowW0]; rfl)
 have yW03 := ovr_cell (W := W) (b := w.heap.size) (o := 3) (v := I 3) (by rw [cell_of_row _ _ _ _ _ _ rowW0]; rfl)
 have yW04 := ovr_cell (W := W) (b := w.heap.size) (o := 4) (v := I 4) (by rw [cell_of_row _ _ _ _ _ _ rowW0]; rfl)
 have yW05 := ovr_cell (W := W) (b := w.heap.size) (o := 5) (v := I 5) (by rw [cell_of_row _ _ _ _ _ _ rowW0]; rfl)
 have yW06 := ovr_cell (W := W) (b := w.heap.size) (o := 6) (v := I 5) (by rw [cell_of_row _ _ _ _ _ _ rowW0]; rfl)
 have yW07 := ovr_cell (W := W) (b := w.heap.size) (o := 7) (v := I 6) (by rw [cell_of_row _ _ _ _ _ _ rowW0]; rfl)
 have yW08 := ovr_cell (W := W) (b := w.heap.size) (o := 8) (v := I 8) (by rw [cell_of_row _ _ _ _ _ _ rowW0]; rfl)
 have RrowW0 := Lib.hid (ovr_row rowW0)
 clear rowW0
 have HUW : Hid (∀ u, Below w.heap.size w (ovr W u)) := U1 hW
 have HW := Lib.hid hW
 clear hW
 go_enter Tryz.func6, Tryz.ntmps6
 go_upto_region 2 with (fail)
 rw [← HW.out]
 obtain ⟨u0, hu0⟩ := ovr_self W
 rw [hu0]
 clear hu0
 have C1 : Hid (∀ k, (ovr W u0).heap.size = k → Calls Tryz.prog 13 #[.agg #[I 1, I 2, I 2, I 3, I 4, I 5, I 5, I 6, I 8], .slice (some ⟨k, 0, none⟩) 1 1, .int .u8 6] ((ovr W u0).alloc (.cells #[I 2, I 2] 24)) fun e w' => ∃ V, e = .returned (.tuple #[V, I 0]) ∧ OnR 5 10 V w' ∧ Below (ovr W u0).heap.size (ovr W u0) w') := fun k hk => kq_win (ovr W u0) k hk
 go_wp2_with fail
 refine (C1.out _ rfl).mono ?_
 rintro e X ⟨V, rfl, ⟨q, o, c, rfl, hq, e0, e1⟩, hb⟩
 have HBX : Hid (Below w.heap.size w X) := (HUW.out u0).trans (hb.mono (HUW.out u0).size)
 have HE : Hid (∀ V, Below X.heap.size X V → V.cell? ⟨q, o, none⟩ = some (I 5) ∧ V.cell? ⟨q, o + 1, none⟩ = some (I 10)) := fun V hV => ⟨(hV.cell hq).trans e0, (hV.cell hq).trans e1⟩
 have C2 := Lib.hid (kq_grown X X.heap.size rfl)
 clear e0 e1 hq hb C1
 go_wp2_with fail
 refine C2.out.mono ?_
 rintro e Y ⟨rfl, hb⟩
 obtain ⟨e0, e1⟩ := HE.out Y hb
 have HBY : Hid (Below w.heap.size w Y) := HBX.out.trans (hb.mono HBX.out.size)
 clear hb
 go_wp2_with fail
 go_ret
 exact ⟨rfl, HBY.out⟩
end Go.Proofs.YtliolnfcgaflcaaGreat.Un
