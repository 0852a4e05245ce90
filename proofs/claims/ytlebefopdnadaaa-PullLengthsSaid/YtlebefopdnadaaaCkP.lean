/- The contract of CheckPuller of package pull: 0 where the puller is valid, else 2. No condition. -/
import Derived.Test.YtlebefopdnadaaaIn
namespace Go.Proofs.Ytlebefopdnadaaa
open Go.RowKit
/-- The bounds of a rule: six ranges from i on. -/
def bnds (p : Vec) (i : Nat) : List Rng := [⟨p i, p (i + 1)⟩, ⟨p (i + 2), p (i + 3)⟩, ⟨p (i + 4), p (i + 5)⟩, ⟨p (i + 6), p (i + 7)⟩, ⟨p (i + 8), p (i + 9)⟩, ⟨p (i + 10), p (i + 11)⟩]
def rmps (p : Vec) (i : Nat) : List Int := [p (i + 12), p (i + 13), p (i + 14), p (i + 15), p (i + 16), p (i + 17)]
def ruleB (p : Vec) (k : Nat) : Bool := rangeB 1000000 (bnds p (k * 22)) && inB 1000000 (rmps p (k * 22)) && rangeB 100000 [⟨p (k * 22 + 18), p (k * 22 + 19)⟩] && rangeB 10000000000 [⟨p (k * 22 + 20), p (k * 22 + 21)⟩]
def restB (p : Vec) : Bool := inB 1000000 [p 110, p 111] && rangeB 1000000 [⟨p 112, p 113⟩] && inB 10000000000 [p 114] && inB 100000 [p 115, p 116]
def okPuller (p : Vec) : Bool := (List.range 5).all (ruleB p) && restB p
theorem okPuller_no (p : Vec) (k : Nat) (hk : k < 5) (h : ruleB p k = false) : okPuller p = false := by
  have : (List.range 5).all (ruleB p) = false := by
    rw [List.all_eq_false]
    exact ⟨k, by simpa using hk, by simp [h]⟩
  simp [okPuller, this]
theorem okPuller_rest (p : Vec) (h : ∀ k, k < 5 → ruleB p k = true) : okPuller p = restB p := by
  have : (List.range 5).all (ruleB p) = true := by
    rw [List.all_eq_true]
    intro x hx
    exact h x (by simpa using hx)
  simp [okPuller, this]
theorem under {w W : World} {o : Obj} (h : Below (w.heap.size + 1) (w.alloc o) W) : Below w.heap.size w W := ((Below.refl _ _).alloc (Nat.le_refl _) o).trans (h.mono (by omega))
set_option maxRecDepth 100000 in
set_option maxHeartbeats 1000000 in
theorem checkPuller_any (p : Vec) (w : World) :
    Calls Try.prog 13 #[.agg (ia 117 p)] w fun e w' => e = .returned (I (er (okPuller p))) ∧ Below w.heap.size w w' := by
  have hW : ∀ j, j < 117 → (w.alloc (.cells (ia 117 p) 30)).cell? ⟨w.heap.size, j, none⟩ = some (I (p j)) := fun j hj => by
    rw [cell_of_row _ _ _ _ _ _ (heap_alloc_new w _)]; exact ia_get hj
  have HW := Lib.hid hW
  clear hW
  go_enter Try.func13, Try.ntmps13
  go_wp2_with (refine wpList_load_ia rfl 28 _ rfl w.heap.size 0 rfl 110 p _ (fun j hj => by rw [Nat.zero_add]; exact HW.out j (by omega)) Try.underlying28 rfl (by kernel_rfl) ?_)
  go_loopw [7] (fun i wr => ∃ k : Nat, k ≤ 5 ∧ i = .int .i64 k ∧ (∀ j, j < k → ruleB p j = true) ∧ Below (w.heap.size + 1) (w.alloc (.cells (ia 117 p) 30)) wr) (fun i _ => 5 - (intOf i).toNat)
  case atStart => exact ⟨0, by omega, rfl, by omega, Below.refl _ _⟩
  case round =>
    obtain ⟨k, hk, rfl, hb, hbw⟩ := hrel
    have Hb := Lib.hid hb
    clear hb
    have hsz : w.heap.size + 1 ≤ wr.heap.size := by have := hbw.size; simpa using this
    by_cases hlt : k < 5
    · have hk5 : (k : Int) < 5 := by omega
      have hno : Hid (ruleB p k = false → I 2 = I (er (okPuller p))) := fun h => by rw [okPuller_no p k hlt h]; rfl
      have hrb : Hid (ruleB p k = (rangeB 1000000 (bnds p (k * 22)) && inB 1000000 (rmps p (k * 22)) && rangeB 100000 [⟨p (k * 22 + 18), p (k * 22 + 19)⟩] && rangeB 10000000000 [⟨p (k * 22 + 20), p (k * 22 + 21)⟩])) := rfl
      go_wp2_with (first | (refine wpList_index_ia rfl 28 _ _ rfl 110 p rfl k rfl 5 22 27 _ Try.underlying28 hlt Try.underlying27 rfl (by kernel_rfl) (by omega) ?_) | (refine wpList_store_fresh rfl 27 _ _ rfl _ _ rfl _ rfl ia_one ?_ (by kernel_rfl) ?_))
      · simp [ia_size]
      generalize hq : (ia 22 fun i => p (k * 22 + i)) = cs at *
      have hbig : ∀ i, i < 22 → cs[i]? = some (I (p (k * 22 + i))) := fun i hi => by rw [← hq]; exact ia_get hi
      have Hbig := Lib.hid hbig
      clear hq hbig
      have hP1 : ∀ W : World, W.heap[wr.heap.size]? = some (.cells cs 27 (0, 0)) → ∀ i, i < 22 → W.cell? ⟨wr.heap.size, i, none⟩ = some (I (p (k * 22 + i))) := fun W hW i hi => by rw [cell_of_row W _ _ _ _ _ hW]; exact Hbig.out i hi
      have HP := Lib.hid hP1
      clear hP1
      refine (isRange_any _ _ _ (bnds p (k * 22)) _ _ (by rfl) (by unfold maxLen; omega) (Rd_new (heap_last _ _ _ rfl) _ _ _ _ (all6 (all2 (Hbig.out 0 (by omega)) (Hbig.out 1 (by omega))) (all2 (Hbig.out 2 (by omega)) (Hbig.out 3 (by omega))) (all2 (Hbig.out 4 (by omega)) (Hbig.out 5 (by omega))) (all2 (Hbig.out 6 (by omega)) (Hbig.out 7 (by omega))) (all2 (Hbig.out 8 (by omega)) (Hbig.out 9 (by omega))) (all2 (Hbig.out 10 (by omega)) (Hbig.out 11 (by omega)))))).mono ?_
      rintro e w1 ⟨rfl, hb1⟩
      have HB1 := Lib.hid ((hb1.block _ (by simp)).trans (heap_last wr (.cells cs 27) _ rfl))
      have hz1 : wr.heap.size + 1 ≤ w1.heap.size := by have := hb1.size; simpa using this
      have hB1 : Below (w.heap.size + 1) (w.alloc (.cells (ia 117 p) 30)) w1 := (hbw.alloc (by omega) _).trans (hb1.mono (by simp; omega))
      rcases h1 : rangeB 1000000 (bnds p (k * 22)) with _ | _
      · go_wp2_with fail
        go_ret
        exact ⟨congrArg Ending.returned (hno.out (by rw [hrb.out, h1]; rfl)), under hB1⟩
      go_wp2_with fail
      refine (in_any _ _ _ (rmps p (k * 22)) _ _ (by rfl) (by unfold maxLen; omega) (Rd_new HB1.out _ _ _ _ (all6 (all1 (Hbig.out 12 (by omega))) (all1 (Hbig.out 13 (by omega))) (all1 (Hbig.out 14 (by omega))) (all1 (Hbig.out 15 (by omega))) (all1 (Hbig.out 16 (by omega))) (all1 (Hbig.out 17 (by omega)))))).mono ?_
      rintro e w2 ⟨rfl, hb2⟩
      have HB2 := Lib.hid ((hb2.block _ (by omega)).trans HB1.out)
      have hz2 := hb2.size
      have hB2 : Below (w.heap.size + 1) (w.alloc (.cells (ia 117 p) 30)) w2 := hB1.trans (hb2.mono (by omega))
      rcases h2 : inB 1000000 (rmps p (k * 22)) with _ | _
      · go_wp2_with fail
        go_ret
        exact ⟨congrArg Ending.returned (hno.out (by rw [hrb.out, h1, h2]; rfl)), under hB2⟩
      have c18 := HP.out w2 HB2.out 18 (by omega)
      have c19 := HP.out w2 HB2.out 19 (by omega)
      go_wp2_with fail
      refine (isRange_any _ _ _ [⟨p (k * 22 + 18), p (k * 22 + 19)⟩] _ _ (by rfl) (by unfold maxLen; omega) (Rd_new (heap_last _ _ _ rfl) _ _ _ _ (all1 (all2 rfl rfl)))).mono ?_
      rintro e w3 ⟨rfl, hb3⟩
      have HB3 := Lib.hid ((hb3.block _ (by simp; omega)).trans (heap_before HB2.out))
      have hz3 : w2.heap.size + 1 ≤ w3.heap.size := by have := hb3.size; simpa using this
      have hB3 : Below (w.heap.size + 1) (w.alloc (.cells (ia 117 p) 30)) w3 := (hB2.alloc (by omega) _).trans (hb3.mono (by simp; omega))
      rcases h3 : rangeB 100000 [⟨p (k * 22 + 18), p (k * 22 + 19)⟩] with _ | _
      · go_wp2_with fail
        go_ret
        exact ⟨congrArg Ending.returned (hno.out (by rw [hrb.out, h1, h2, h3]; rfl)), under hB3⟩
      clear c18 c19
      have c20 := HP.out w3 HB3.out 20 (by omega)
      have c21 := HP.out w3 HB3.out 21 (by omega)
      go_wp2_with fail
      refine (isRange_any _ _ _ [⟨p (k * 22 + 20), p (k * 22 + 21)⟩] _ _ (by rfl) (by unfold maxLen; omega) (Rd_new (heap_last _ _ _ rfl) _ _ _ _ (all1 (all2 rfl rfl)))).mono ?_
      rintro e w4 ⟨rfl, hb4⟩
      have hB4 : Below (w.heap.size + 1) (w.alloc (.cells (ia 117 p) 30)) w4 := (hB3.alloc (by omega) _).trans (hb4.mono (by simp; omega))
      rcases h4 : rangeB 10000000000 [⟨p (k * 22 + 20), p (k * 22 + 21)⟩] with _ | _
      · go_wp2_with fail
        go_ret
        exact ⟨congrArg Ending.returned (hno.out (by rw [hrb.out, h1, h2, h3, h4]; rfl)), under hB4⟩
      go_wp2_with fail
      go_roundw
      case rel => exact ⟨k + 1, by omega, by go_num, succ_case Hb.out (by rw [hrb.out, h1, h2, h3, h4]; rfl), hB4⟩
      case measure => simp [intOf]; omega
    · have hres : Hid (okPuller p = restB p) := okPuller_rest p fun j hj => Hb.out j (by omega)
      have hrs : Hid (restB p = (inB 1000000 [p 110, p 111] && rangeB 1000000 [⟨p 112, p 113⟩] && inB 10000000000 [p 114] && inB 100000 [p 115, p 116])) := rfl
      have hk5 : ¬ (k : Int) < 5 := by omega
      have HX : Hid (∀ W : World, Below (w.heap.size + 1) (w.alloc (.cells (ia 117 p) 30)) W → ∀ j, j < 117 → W.cell? ⟨w.heap.size, j, none⟩ = some (I (p j))) := fun W hW j hj => (hW.cell (p := ⟨_, _, none⟩) (by simp)).trans (HW.out j hj)
      have c0 := HX.out wr hbw 110 (by omega)
      have c1 := HX.out wr hbw 111 (by omega)
      go_wp2_with fail
      refine (in_any _ _ _ [p 110, p 111] _ _ (by rfl) (by unfold maxLen; omega) (Rd_new (heap_last _ _ _ rfl) _ _ _ _ (all2 (all1 rfl) (all1 rfl)))).mono ?_
      rintro e w1 ⟨rfl, hb1⟩
      have hB1 : Below (w.heap.size + 1) (w.alloc (.cells (ia 117 p) 30)) w1 := (hbw.alloc (by omega) _).trans (hb1.mono (by simp; omega))
      have hz1 := hb1.size
      rcases h1 : inB 1000000 [p 110, p 111] with _ | _
      · go_wp2_with fail
        go_ret
        exact ⟨congrArg (fun b => Ending.returned (I (er b))) (show false = okPuller p by rw [hres.out, hrs.out, h1]; rfl), under hB1⟩
      clear c0 c1
      have c0 := HX.out w1 hB1 112 (by omega)
      have c1 := HX.out w1 hB1 113 (by omega)
      go_wp2_with fail
      refine (isRange_any _ _ _ [⟨p 112, p 113⟩] _ _ (by rfl) (by unfold maxLen; omega) (Rd_new (heap_last _ _ _ rfl) _ _ _ _ (all1 (all2 rfl rfl)))).mono ?_
      rintro e w2 ⟨rfl, hb2⟩
      have hz2 : w1.heap.size + 1 ≤ w2.heap.size := by have := hb2.size; simpa using this
      have hz1' : w.heap.size + 1 ≤ w1.heap.size := by have := hB1.size; simpa using this
      have hB2 : Below (w.heap.size + 1) (w.alloc (.cells (ia 117 p) 30)) w2 := (hB1.alloc (by omega) _).trans (hb2.mono (by simp; omega))
      rcases h2 : rangeB 1000000 [⟨p 112, p 113⟩] with _ | _
      · go_wp2_with fail
        go_ret
        exact ⟨congrArg (fun b => Ending.returned (I (er b))) (show false = okPuller p by rw [hres.out, hrs.out, h1, h2]; rfl), under hB2⟩
      clear c0 c1
      have c0 := HX.out w2 hB2 114 (by omega)
      go_wp2_with fail
      refine (in_any _ _ _ [p 114] _ _ (by rfl) (by unfold maxLen; omega) (Rd_new (heap_last _ _ _ rfl) _ _ _ _ (all1 (all1 rfl)))).mono ?_
      rintro e w3 ⟨rfl, hb3⟩
      have hz3 : w2.heap.size + 1 ≤ w3.heap.size := by have := hb3.size; simpa using this
      have hB3 : Below (w.heap.size + 1) (w.alloc (.cells (ia 117 p) 30)) w3 := (hB2.alloc (by omega) _).trans (hb3.mono (by simp; omega))
      rcases h3 : inB 10000000000 [p 114] with _ | _
      · go_wp2_with fail
        go_ret
        exact ⟨congrArg (fun b => Ending.returned (I (er b))) (show false = okPuller p by rw [hres.out, hrs.out, h1, h2, h3]; rfl), under hB3⟩
      clear c0
      have c0 := HX.out w3 hB3 115 (by omega)
      have c1 := HX.out w3 hB3 116 (by omega)
      go_wp2_with fail
      refine (in_any _ _ _ [p 115, p 116] _ _ (by rfl) (by unfold maxLen; omega) (Rd_new (heap_last _ _ _ rfl) _ _ _ _ (all2 (all1 rfl) (all1 rfl)))).mono ?_
      rintro e w4 ⟨rfl, hb4⟩
      have hB4 : Below (w.heap.size + 1) (w.alloc (.cells (ia 117 p) 30)) w4 := (hB3.alloc (by omega) _).trans (hb4.mono (by simp; omega))
      rcases h4 : inB 100000 [p 115, p 116] with _ | _
      · go_wp2_with fail
        go_ret
        exact ⟨congrArg (fun b => Ending.returned (I (er b))) (show false = okPuller p by rw [hres.out, hrs.out, h1, h2, h3, h4]; rfl), under hB4⟩
      · go_wp2_with fail
        go_ret
        exact ⟨congrArg (fun b => Ending.returned (I (er b))) (show true = okPuller p by rw [hres.out, hrs.out, h1, h2, h3, h4]; rfl), under hB4⟩
end Go.Proofs.Ytlebefopdnadaaa
