/- bouleref09.Apart. -/
import Derived.Test.YtljjpidigckheaaOc
import Derived.Test.YtljjpidigckheaaNd
namespace Go.Proofs.Ytljjpidigckheaa.Un
open Go.RowKit
theorem smL_succ (f : Nat → Option Bool) (v : Bool) (g : Nat → Int) (k : Nat) : SmL f (fun _ => true) v g (k + 1) = SmL f (fun _ => true) v g k + (if f k = some v then g k else 0) := by
  show SmL f (fun _ => true) v g k + (if (true = true ∧ f k = some v) then g k else 0) = _
  simp
theorem smL_bd {f : Nat → Option Bool} {v : Bool} {g : Nat → Int} {n : Nat} (h : ∀ j, j < n → 0 ≤ g j ∧ g j ≤ 10000000) : ∀ k, k ≤ n → 0 ≤ SmL f (fun _ => true) v g k ∧ SmL f (fun _ => true) v g k ≤ 10000000 * (k : Int)
  | 0, _ => ⟨Int.le_refl _, Int.le_refl _⟩
  | k + 1, hk => by
    have ih := smL_bd (f := f) (v := v) h k (by omega)
    have h1 := h k (by omega)
    rw [smL_succ]
    split <;> omega
/-- The difference after k batches. -/
def rfA (bs : List Rng) (a b : Trt) (k : Nat) : Rng := ⟨a.s.lo - b.s.hi + SmL (apF a.b b.b) (fun _ => true) false (fun j => (at0 bs j).lo) k - SmL (apF a.b b.b) (fun _ => true) true (fun j => (at0 bs j).hi) k, a.s.hi - b.s.lo + SmL (apF a.b b.b) (fun _ => true) false (fun j => (at0 bs j).hi) k - SmL (apF a.b b.b) (fun _ => true) true (fun j => (at0 bs j).lo) k⟩
theorem rfA_end {bs : List Rng} {a b : Trt} (h : apE bs a b = 0) : rfA bs a b bs.length = apX bs a b := by
  unfold apX
  rw [if_pos h]
  unfold rfA apP
  congr 1 <;> omega
theorem rfA_a {bs : List Rng} {a b : Trt} {k : Nat} (h : decide ((k : Int) ∈ a.b) = true) (h2 : decide ((k : Int) ∈ b.b) = false) : rfA bs a b (k + 1) = ⟨(rfA bs a b k).lo - (at0 bs k).hi, (rfA bs a b k).hi - (at0 bs k).lo⟩ := by
  have e : apF a.b b.b k = some true := by unfold apF; rw [if_pos (of_decide_eq_true h), if_neg (of_decide_eq_false h2)]
  unfold rfA
  simp only [smL_succ, e]
  congr 1 <;> simp <;> omega
theorem rfA_b {bs : List Rng} {a b : Trt} {k : Nat} (h : decide ((k : Int) ∈ a.b) = false) (h2 : decide ((k : Int) ∈ b.b) = true) : rfA bs a b (k + 1) = ⟨(rfA bs a b k).lo + (at0 bs k).lo, (rfA bs a b k).hi + (at0 bs k).hi⟩ := by
  have e : apF a.b b.b k = some false := by unfold apF; rw [if_neg (of_decide_eq_false h), if_pos (of_decide_eq_true h2)]
  unfold rfA
  simp only [smL_succ, e]
  congr 1 <;> simp <;> omega
theorem rfA_n {bs : List Rng} {a b : Trt} {k : Nat} (h : decide ((k : Int) ∈ a.b) = decide ((k : Int) ∈ b.b)) : rfA bs a b (k + 1) = rfA bs a b k := by
  have e : apF a.b b.b k = none := by
    unfold apF
    by_cases h1 : (k : Int) ∈ a.b
    · rw [if_pos h1, if_pos (of_decide_eq_true (h ▸ decide_eq_true h1))]
    · rw [if_neg h1, if_neg (of_decide_eq_false (h ▸ decide_eq_false h1))]
  unfold rfA
  simp only [smL_succ, e]
  congr 1 <;> simp
theorem rfA_bd {bs : List Rng} {a b : Trt} (h : all9 0 10000000 bs = true) (hn : bs.length ≤ 60) (ha : 0 ≤ a.s.lo ∧ a.s.lo ≤ a.s.hi ∧ a.s.hi ≤ 10000000) (hb : 0 ≤ b.s.lo ∧ b.s.lo ≤ b.s.hi ∧ b.s.hi ≤ 10000000) {k : Nat} (hk : k ≤ bs.length) :
    (-2000000000 ≤ (rfA bs a b k).lo ∧ (rfA bs a b k).lo ≤ 2000000000) ∧ -2000000000 ≤ (rfA bs a b k).hi ∧ (rfA bs a b k).hi ≤ 2000000000 := by
  have hl : ∀ j, j < bs.length → 0 ≤ (at0 bs j).lo ∧ (at0 bs j).lo ≤ 10000000 := fun j hj => by have := all9_at h hj; omega
  have hh : ∀ j, j < bs.length → 0 ≤ (at0 bs j).hi ∧ (at0 bs j).hi ≤ 10000000 := fun j hj => by have := all9_at h hj; omega
  have h1 := smL_bd (f := apF a.b b.b) (v := false) hl k hk
  have h2 := smL_bd (f := apF a.b b.b) (v := true) hl k hk
  have h3 := smL_bd (f := apF a.b b.b) (v := false) hh k hk
  have h4 := smL_bd (f := apF a.b b.b) (v := true) hh k hk
  unfold rfA
  simp only
  omega
theorem StL.upd0 {w V : World} {L : List (Nat × Array Value × TypeId)} {q : Nat} {cs : Array Value} {t : TypeId} (h : StL w ((q, cs, t) :: L) V) (hq : w.heap.size ≤ q) (hn : ∀ x ∈ L, x.1 ≠ q) (cs' : Array Value) : StL w ((q, cs', t) :: L) (V.setRow q cs') :=
  StL.cons ⟨below_setRow h.1 hq _, fun x hx => (setRow_other (hn x hx)).trans (h.2 x (List.mem_cons_of_mem _ hx))⟩ (setRow_same (h.2 _ (.head _)))
theorem StL.upd1 {w V : World} {L : List (Nat × Array Value × TypeId)} {y : Nat × Array Value × TypeId} {q : Nat} {cs : Array Value} {t : TypeId} (h : StL w (y :: (q, cs, t) :: L) V) (hq : w.heap.size ≤ q) (hy : y.1 ≠ q) (hn : ∀ x ∈ L, x.1 ≠ q) (cs' : Array Value) : StL w (y :: (q, cs', t) :: L) (V.setRow q cs') :=
  StL.cons (StL.cons ⟨below_setRow h.1 hq _, fun x hx => (setRow_other (hn x hx)).trans (h.2 x (List.mem_cons_of_mem _ (List.mem_cons_of_mem _ hx)))⟩ (setRow_same (h.2 _ (.tail _ (.head _))))) ((setRow_other hy).trans (h.2 y (.head _)))
theorem StL.hd {w V : World} {L : List (Nat × Array Value × TypeId)} {b : Nat} {cs : Array Value} {t : TypeId} (h : StL w ((b, cs, t) :: L) V) : V.heap[b]? = some (.cells cs t (0, 0)) := h.2 _ (.head _)
theorem StL.rd {w V : World} {L : List (Nat × Array Value × TypeId)} {B sz n : Nat} {A : Option Addr} {g : Nat → Nat → Value} (h : StL w L V) (hB : B ≤ w.heap.size) (hx : Rd w B sz A n g) : Rd V B sz A n g ∧ B ≤ V.heap.size := ⟨hx.below (h.1.mono hB), Nat.le_trans hB h.1.size⟩
abbrev trA (t : Trt) (A : Option Addr) (n : Nat) : Array Value := #[I t.s.lo, I t.s.hi, .slice A t.b.length n]
abbrev apL (w : World) (a b : Trt) (A C : Option Addr) (n m : Nat) : List (Nat × Array Value × TypeId) := [(w.heap.size + 1 + 1, #[I 0, I 0], 24), (w.heap.size + 1, trA b C m, 72), (w.heap.size, trA a A n, 72)]
set_option maxRecDepth 100000 in
set_option maxHeartbeats 8000000 in
theorem refApart_any (bs : List Rng) (BA : Option Addr) (bn : Nat) (a b : Trt) (A C : Option Addr) (n m : Nat) (w : World) (B : Nat) (hB : B ≤ w.heap.size) (hx : Rd w B 2 BA bs.length (rR bs)) (ha : Rd w B 1 A a.b.length (rI a.b)) (hb : Rd w B 1 C b.b.length (rI b.b)) (hm : bs.length ≤ 1000 ∧ a.b.length ≤ 1000 ∧ b.b.length ≤ 1000) :
    Calls Try.prog 40 #[.slice BA bs.length bn, .agg (trA a A n), .agg (trA b C m)] w fun e w' => e = .returned (.tuple #[.agg #[I (apX bs a b).lo, I (apX bs a b).hi], I (apE bs a b)]) ∧ Below w.heap.size w w' := by
  have HRD : Hid (∀ V, Below w.heap.size w V → Rd V B 2 BA bs.length (rR bs) ∧ Rd V B 1 A a.b.length (rI a.b) ∧ Rd V B 1 C b.b.length (rI b.b) ∧ B ≤ V.heap.size) := fun V hV => ⟨hx.below (hV.mono hB), ha.below (hV.mono hB), hb.below (hV.mono hB), Nat.le_trans hB hV.size⟩
  have HM := Lib.hid hm
  have HE : Hid (apE bs a b = if 60 < bs.length then 5 else if (all9 0 10000000 bs && (trtOk bs.length a && trtOk bs.length b)) = false then 2 else 0) := rfl
  have HX0 : Hid (apE bs a b ≠ 0 → apX bs a b = ⟨0, 0⟩) := fun h => by unfold apX; rw [if_neg h]
  have C1 := Lib.hid fun V (hV : Below w.heap.size w V) => treated_any a bs.length A n V B (Nat.le_trans hB hV.size) (ha.below (hV.mono hB)) ⟨hm.2.1, hm.1⟩
  have C2 := Lib.hid fun V (hV : Below w.heap.size w V) => treated_any b bs.length C m V B (Nat.le_trans hB hV.size) (hb.below (hV.mono hB)) ⟨hm.2.2, hm.1⟩
  have C3 := Lib.hid fun (k : Nat) V (hV : Below w.heap.size w V) => in_any a k A n V B (Nat.le_trans hB hV.size) (ha.below (hV.mono hB)) hm.2.1
  have C4 := Lib.hid fun (k : Nat) V (hV : Below w.heap.size w V) => in_any b k C m V B (Nat.le_trans hB hV.size) (hb.below (hV.mono hB)) hm.2.2
  clear hx hB ha hb hm
  obtain ⟨W, hW⟩ : ∃ W, W = (((w.alloc (.cells #[I a.s.lo, I a.s.hi, .slice A a.b.length n] 72)).alloc (.cells #[I b.s.lo, I b.s.hi, .slice C b.b.length m] 72)).alloc (.cells #[I 0, I 0] 24)) := ⟨_, rfl⟩
  have rowW0 : W.heap[w.heap.size]? = some (.cells #[I a.s.lo, I a.s.hi, .slice A a.b.length n] 72 (0, 0)) := by rw [hW]; exact heap_before (heap_before (heap_last _ _ _ rfl))
  have yW00 := ovr_cell (W := W) (b := w.heap.size) (o := 0) (v := I a.s.lo) (by rw [cell_of_row _ _ _ _ _ _ rowW0]; rfl)
  have yW01 := ovr_cell (W := W) (b := w.heap.size) (o := 1) (v := I a.s.hi) (by rw [cell_of_row _ _ _ _ _ _ rowW0]; rfl)
  have yW02 := ovr_cell (W := W) (b := w.heap.size) (o := 2) (v := .slice A a.b.length n) (by rw [cell_of_row _ _ _ _ _ _ rowW0]; rfl)
  have RrowW0 := Lib.hid (ovr_row rowW0)
  clear rowW0
  have rowW1 : W.heap[w.heap.size + 1]? = some (.cells #[I b.s.lo, I b.s.hi, .slice C b.b.length m] 72 (0, 0)) := by rw [hW]; exact heap_before (heap_last _ _ _ (by simp))
  have yW10 := ovr_cell (W := W) (b := w.heap.size + 1) (o := 0) (v := I b.s.lo) (by rw [cell_of_row _ _ _ _ _ _ rowW1]; rfl)
  have yW11 := ovr_cell (W := W) (b := w.heap.size + 1) (o := 1) (v := I b.s.hi) (by rw [cell_of_row _ _ _ _ _ _ rowW1]; rfl)
  have yW12 := ovr_cell (W := W) (b := w.heap.size + 1) (o := 2) (v := .slice C b.b.length m) (by rw [cell_of_row _ _ _ _ _ _ rowW1]; rfl)
  have RrowW1 := Lib.hid (ovr_row rowW1)
  clear rowW1
  have rowW2 : W.heap[w.heap.size + 1 + 1]? = some (.cells #[I 0, I 0] 24 (0, 0)) := by rw [hW]; exact heap_last _ _ _ (by simp)
  have yW20 := ovr_cell (W := W) (b := w.heap.size + 1 + 1) (o := 0) (v := I 0) (by rw [cell_of_row _ _ _ _ _ _ rowW2]; rfl)
  have yW21 := ovr_cell (W := W) (b := w.heap.size + 1 + 1) (o := 1) (v := I 0) (by rw [cell_of_row _ _ _ _ _ _ rowW2]; rfl)
  have RrowW2 := Lib.hid (ovr_row rowW2)
  clear rowW2
  have HUW : Hid (∀ u, Below w.heap.size w (ovr W u)) := U3 hW
  have HW := Lib.hid hW
  clear hW
  go_enter Try.func40, Try.ntmps40
  go_upto_region 1 with (fail)
  rw [← HW.out]
  obtain ⟨u0, hu0⟩ := ovr_self W
  rw [hu0]
  clear hu0
  by_cases h60 : 60 < bs.length
  · have HEE : Hid (apE bs a b = 5) := by show _ = _; rw [HE.out, if_pos h60]
    have HXE := Lib.hid (HX0.out (by rw [HEE.out]; decide))
    have d0 : decide ((60 : Int) < (bs.length : Int)) = true := decide_eq_true (by omega)
    clear h60
    go_wp2_with (with_reducible show wpList _ _ _ _ _ _; refine wpList_store_row rfl 24 _ _ rfl (w.heap.size + 1 + 1) rfl _ _ (RrowW2.out _) #[I 0, I 0] rfl (one2 rfl rfl) rfl (by kernel_rfl) ?_)
    refine bodyPost_ret (results_cell_t9 rfl _ _ (w.heap.size + 1 + 1) 24 _ (0, 0) _ rfl (setRow_same (RrowW2.out _)) Try.underlying24 rfl (by kernel_rfl)) rfl ?_
    exact ⟨by rw [HXE.out, HEE.out]; rfl, below_setRow (HUW.out _) (by omega) _⟩
  have d0 : decide ((60 : Int) < (bs.length : Int)) = false := decide_eq_false (by omega)
  rw [if_neg h60] at HE
  have H60 : Hid (bs.length ≤ 60) := Lib.hid (by omega)
  clear h60
  go_wp2_with fail
  go_loopw [8] (fun iv wr => ∃ (k : Nat) (u : World), k ≤ bs.length ∧ iv = .int .i64 k ∧ wr = ovr W u ∧ ∀ j, j < k → spn9 (at0 bs j) 0 10000000 = true) (fun iv _ => bs.length - (intOf iv).toNat)
  case atStart => exact ⟨0, u0, Nat.zero_le _, rfl, rfl, fun j hj => absurd hj (by omega)⟩
  case round =>
    obtain ⟨k, u, hk, rfl, rfl, hok⟩ := hrel
    have HOK := Lib.hid hok
    clear hok
    have hk60 : k ≤ 60 := by have := H60.out; omega
    by_cases hlt : k < bs.length
    case pos =>
      have HLT := Lib.hid hlt
      obtain ⟨c, o, rfl, _, e0, e1⟩ := (HRD.out _ (HUW.out u)).1.rng hlt
      have ki : decide ((k : Int) < (bs.length : Int)) = true := decide_eq_true (by omega)
      rcases hs : spn9 (at0 bs k) 0 10000000 with _ | _
      · have HEE : Hid (apE bs a b = 2) := by
          show _ = _
          have : all9 0 10000000 bs = false := by
            rcases hq : all9 0 10000000 bs with _ | _
            · rfl
            · rw [spn9_iff.2 (all9_at hq hlt)] at hs
              cases hs
          rw [HE.out, this]
          rfl
        have HXE := Lib.hid (HX0.out (by rw [HEE.out]; decide))
        have CS := Lib.hid fun V => span_any (at0 bs k) 0 10000000 V
        rw [hs] at CS
        clear hs hk
        go_wp2_with fail
        refine (CS.out _).mono ?_
        rintro e w1 ⟨rfl, hb1⟩
        obtain ⟨u2, rfl⟩ := ovr_next hb1
        clear hb1
        go_wp2_with (with_reducible show wpList _ _ _ _ _ _; refine wpList_store_row rfl 24 _ _ rfl (w.heap.size + 1 + 1) rfl _ _ (RrowW2.out _) #[I 0, I 0] rfl (one2 rfl rfl) rfl (by kernel_rfl) ?_)
        refine bodyPost_ret (results_cell_t9 rfl _ _ (w.heap.size + 1 + 1) 24 _ (0, 0) _ rfl (setRow_same (RrowW2.out _)) Try.underlying24 rfl (by kernel_rfl)) rfl ?_
        exact ⟨by rw [HXE.out, HEE.out]; rfl, below_setRow (HUW.out _) (by omega) _⟩
      have HNX : Hid (∀ j, j < k + 1 → spn9 (at0 bs j) 0 10000000 = true) := fun j hj => by
        rcases Nat.lt_or_ge j k with h1 | h1
        · exact HOK.out j h1
        · obtain rfl : j = k := by omega
          exact hs
      have CS := Lib.hid fun V => span_any (at0 bs k) 0 10000000 V
      rw [hs] at CS
      clear hs hk
      go_wp2_with fail
      refine (CS.out _).mono ?_
      rintro e w1 ⟨rfl, hb1⟩
      obtain ⟨u2, rfl⟩ := ovr_next hb1
      clear hb1
      go_wp2_with fail
      go_roundw
      case rel => exact ⟨k + 1, u2, HLT.out, by go_num, rfl, HNX.out⟩
      case measure => have := HLT.out; simp [intOf]; omega
    obtain rfl : k = bs.length := by omega
    have hall : all9 0 10000000 bs = true := all9_iff.2 fun r hr => by
      obtain ⟨j, hj, rfl⟩ := List.getElem_of_mem hr
      have := HOK.out j hj
      rwa [at0_get hj] at this
    rw [hall, Bool.true_and] at HE
    have HALL := Lib.hid hall
    clear hall HOK hk hlt
    rcases h1 : trtOk bs.length a with _ | _
    · have HEE : Hid (apE bs a b = 2) := by show _ = _; rw [HE.out, h1]; rfl
      have HXE := Lib.hid (HX0.out (by rw [HEE.out]; decide))
      rw [h1] at C1
      clear h1
      go_wp2_with fail
      refine (C1.out _ (HUW.out _)).mono ?_
      rintro e w1 ⟨rfl, hb1⟩
      obtain ⟨u2, rfl⟩ := ovr_next hb1
      clear hb1
      go_wp2_with (with_reducible show wpList _ _ _ _ _ _; refine wpList_store_row rfl 24 _ _ rfl (w.heap.size + 1 + 1) rfl _ _ (RrowW2.out _) #[I 0, I 0] rfl (one2 rfl rfl) rfl (by kernel_rfl) ?_)
      refine bodyPost_ret (results_cell_t9 rfl _ _ (w.heap.size + 1 + 1) 24 _ (0, 0) _ rfl (setRow_same (RrowW2.out _)) Try.underlying24 rfl (by kernel_rfl)) rfl ?_
      exact ⟨by rw [HXE.out, HEE.out]; rfl, below_setRow (HUW.out _) (by omega) _⟩
    rcases h2 : trtOk bs.length b with _ | _
    · have HEE : Hid (apE bs a b = 2) := by show _ = _; rw [HE.out, h1, h2]; rfl
      have HXE := Lib.hid (HX0.out (by rw [HEE.out]; decide))
      rw [h1] at C1
      rw [h2] at C2
      clear h1 h2
      go_wp2_with fail
      refine (C1.out _ (HUW.out _)).mono ?_
      rintro e w1 ⟨rfl, hb1⟩
      obtain ⟨u2, rfl⟩ := ovr_next hb1
      clear hb1
      go_wp2_with fail
      refine (C2.out _ (HUW.out _)).mono ?_
      rintro e w1 ⟨rfl, hb1⟩
      obtain ⟨u3, rfl⟩ := ovr_next hb1
      clear hb1
      go_wp2_with (with_reducible show wpList _ _ _ _ _ _; refine wpList_store_row rfl 24 _ _ rfl (w.heap.size + 1 + 1) rfl _ _ (RrowW2.out _) #[I 0, I 0] rfl (one2 rfl rfl) rfl (by kernel_rfl) ?_)
      refine bodyPost_ret (results_cell_t9 rfl _ _ (w.heap.size + 1 + 1) 24 _ (0, 0) _ rfl (setRow_same (RrowW2.out _)) Try.underlying24 rfl (by kernel_rfl)) rfl ?_
      exact ⟨by rw [HXE.out, HEE.out]; rfl, below_setRow (HUW.out _) (by omega) _⟩
    have HEE : Hid (apE bs a b = 0) := by show _ = _; rw [HE.out, h1, h2]; rfl
    have sa := spn9_iff.1 (Bool.and_eq_true_iff.1 h1).2
    have sb := spn9_iff.1 (Bool.and_eq_true_iff.1 h2).2
    have HBD : Hid (∀ k, k ≤ bs.length → (-2000000000 ≤ (rfA bs a b k).lo ∧ (rfA bs a b k).lo ≤ 2000000000) ∧ -2000000000 ≤ (rfA bs a b k).hi ∧ (rfA bs a b k).hi ≤ 2000000000) := fun k hk => rfA_bd HALL.out H60.out sa sb hk
    rw [h1] at C1
    rw [h2] at C2
    clear h1 h2
    go_wp2_with fail
    refine (C1.out _ (HUW.out _)).mono ?_
    rintro e w1 ⟨rfl, hb1⟩
    obtain ⟨u2, rfl⟩ := ovr_next hb1
    clear hb1
    go_wp2_with fail
    refine (C2.out _ (HUW.out _)).mono ?_
    rintro e w1 ⟨rfl, hb1⟩
    obtain ⟨u3, rfl⟩ := ovr_next hb1
    clear hb1
    have k1 : IntKind.i64.wrap (a.s.lo - b.s.hi) = (rfA bs a b 0).lo := (IntWalk.i64_in _ (by omega)).trans (by unfold rfA SmL; simp [Sm])
    have k2 : IntKind.i64.wrap (a.s.hi - b.s.lo) = (rfA bs a b 0).hi := (IntWalk.i64_in _ (by omega)).trans (by unfold rfA SmL; simp [Sm])
    clear sa sb
    go_upto_region 11 with (with_reducible show wpList _ _ _ _ _ _; refine wpList_store_row rfl 24 _ _ rfl (ovr W u3).heap.size rfl _ _ (heap_last _ _ _ rfl) #[I (rfA bs a b 0).lo, I (rfA bs a b 0).hi] rfl (one2 rfl rfl) rfl (by kernel_rfl) ?_)
    obtain ⟨q, hq⟩ : ∃ q, q = (ovr W u3).heap.size := ⟨_, rfl⟩
    refine name_w fun V hV => ?_
    have S : Hid (StL w ((q, #[I (rfA bs a b 0).lo, I (rfA bs a b 0).hi], 24) :: apL w a b A C n m) V) := by
      show StL _ _ _
      rw [hV, hq]
      refine StL.put ⟨HUW.out u3, fun x hx => ?_⟩ _ _ _
      rcases List.mem_cons.1 hx with rfl | hx
      · exact RrowW2.out u3
      rcases List.mem_cons.1 hx with rfl | hx
      · exact RrowW1.out u3
      rcases List.mem_cons.1 hx with rfl | hx
      · exact RrowW0.out u3
      cases hx
    have QB : Hid (w.heap.size + 1 + 1 < q) := by show _ < _; rw [hq]; exact lt_of_row (RrowW2.out u3)
    rw [← hq]
    clear hV hq HUW RrowW0 RrowW1 RrowW2 k1 k2 C1 C2
    go_wp2_with fail
    go_loopw [10] (fun iv wr => ∃ k : Nat, k ≤ bs.length ∧ iv = .int .i64 k ∧ StL w ((q, #[I (rfA bs a b k).lo, I (rfA bs a b k).hi], 24) :: apL w a b A C n m) wr) (fun iv _ => bs.length - (intOf iv).toNat)
    case atStart => exact ⟨0, Nat.zero_le _, rfl, S.out⟩
    case round =>
      obtain ⟨k, hk, rfl, hs⟩ := hrel
      rename World => Y
      have HS := Lib.hid hs
      clear hs S
      have hk60 : k ≤ 60 := by have := H60.out; omega
      by_cases hlt : k < bs.length
      case neg =>
        obtain rfl : k = bs.length := by omega
        have HF := Lib.hid (rfA_end HEE.out)
        have hr := HS.out.hd
        have f7 : Y.cell? ⟨q, 0, none⟩ = some (I (rfA bs a b bs.length).lo) := (cell_of_row _ _ _ _ _ _ hr).trans rfl
        have f8 : Y.cell? ⟨q, 1, none⟩ = some (I (rfA bs a b bs.length).hi) := (cell_of_row _ _ _ _ _ _ hr).trans rfl
        clear hr hk hlt
        go_wp2_with (with_reducible show wpList _ _ _ _ _ _; refine wpList_store_row rfl 24 _ _ rfl (w.heap.size + 1 + 1) rfl _ _ HS.out.tail.hd #[I (rfA bs a b bs.length).lo, I (rfA bs a b bs.length).hi] rfl (one2 rfl rfl) rfl (by kernel_rfl) ?_)
        refine bodyPost_ret (results_cell_t9 rfl _ _ (w.heap.size + 1 + 1) 24 _ (0, 0) _ rfl (setRow_same HS.out.tail.hd) Try.underlying24 rfl (by kernel_rfl)) rfl ?_
        exact ⟨by rw [HF.out, HEE.out]; rfl, below_setRow HS.out.1 (by omega) _⟩
      have HLT := Lib.hid hlt
      obtain ⟨c, o, rfl, _, e0, e1⟩ := (HRD.out _ HS.out.1).1.rng hlt
      have hbd := HBD.out k (by omega)
      have hpd := all9_at HALL.out hlt
      have RA := Lib.hid (rfA_a (bs := bs) (a := a) (b := b) (k := k))
      have RB := Lib.hid (rfA_b (bs := bs) (a := a) (b := b) (k := k))
      have RN := Lib.hid (rfA_n (bs := bs) (a := a) (b := b) (k := k))
      have D3 := Lib.hid (C3.out k)
      have D4 := Lib.hid (C4.out k)
      obtain ⟨p, hp⟩ : ∃ p, at0 bs k = p := ⟨_, rfl⟩
      obtain ⟨d, hd⟩ : ∃ d, rfA bs a b k = d := ⟨_, rfl⟩
      rw [hp] at e0 e1 hpd RA RB
      rw [hd] at hbd HS RA RB RN
      have k1 : IntKind.i64.wrap (d.lo - p.hi) = d.lo - p.hi := IntWalk.i64_in _ (by omega)
      have k2 : IntKind.i64.wrap (d.hi - p.lo) = d.hi - p.lo := IntWalk.i64_in _ (by omega)
      have k3 : IntKind.i64.wrap (d.lo + p.lo) = d.lo + p.lo := IntWalk.i64_in _ (by omega)
      have k4 : IntKind.i64.wrap (d.hi + p.hi) = d.hi + p.hi := IntWalk.i64_in _ (by omega)
      clear hp hd hbd hpd hk
      go_upto_region 15 with (with_reducible show wpList _ _ _ _ _ _; refine wpList_store_row rfl 24 _ _ rfl Y.heap.size rfl _ _ (heap_last _ _ _ rfl) #[I p.lo, I p.hi] rfl (one2 rfl rfl) rfl (by kernel_rfl) ?_)
      obtain ⟨c2, hc2⟩ : ∃ q, q = Y.heap.size := ⟨_, rfl⟩
      refine name_w fun X hX => ?_
      have S2 : Hid (StL w ((c2, #[I p.lo, I p.hi], 24) :: (q, #[I d.lo, I d.hi], 24) :: apL w a b A C n m) X) := by
        show StL _ _ _
        rw [hX, hc2]
        exact HS.out.put _ _ _
      have QC : Hid (c2 ≠ q) := by show _ ≠ _; rw [hc2]; exact (Nat.ne_of_lt (lt_of_row HS.out.hd)).symm
      rw [← hc2]
      clear hX hc2 e0 e1 HS
      have f1 : ∀ u, (ovr X u).cell? ⟨w.heap.size, 0, none⟩ = some (I a.s.lo) := cell_row9 S2.out.tail.tail.tail.tail.hd (j := 0) rfl
      have f2 : ∀ u, (ovr X u).cell? ⟨w.heap.size, 1, none⟩ = some (I a.s.hi) := cell_row9 S2.out.tail.tail.tail.tail.hd (j := 1) rfl
      have f3 : ∀ u, (ovr X u).cell? ⟨w.heap.size, 2, none⟩ = some (.slice A a.b.length n) := cell_row9 S2.out.tail.tail.tail.tail.hd (j := 2) rfl
      have f4 : ∀ u, (ovr X u).cell? ⟨w.heap.size + 1, 0, none⟩ = some (I b.s.lo) := cell_row9 S2.out.tail.tail.tail.hd (j := 0) rfl
      have f5 : ∀ u, (ovr X u).cell? ⟨w.heap.size + 1, 1, none⟩ = some (I b.s.hi) := cell_row9 S2.out.tail.tail.tail.hd (j := 1) rfl
      have f6 : ∀ u, (ovr X u).cell? ⟨w.heap.size + 1, 2, none⟩ = some (.slice C b.b.length m) := cell_row9 S2.out.tail.tail.tail.hd (j := 2) rfl
      have f7 : ∀ u, (ovr X u).cell? ⟨q, 0, none⟩ = some (I d.lo) := cell_row9 S2.out.tail.hd (j := 0) rfl
      have f8 : ∀ u, (ovr X u).cell? ⟨q, 1, none⟩ = some (I d.hi) := cell_row9 S2.out.tail.hd (j := 1) rfl
      have f9 : ∀ u, (ovr X u).cell? ⟨c2, 0, none⟩ = some (I p.lo) := cell_row9 S2.out.hd (j := 0) rfl
      have f10 : ∀ u, (ovr X u).cell? ⟨c2, 1, none⟩ = some (I p.hi) := cell_row9 S2.out.hd (j := 1) rfl
      have HBX : Hid (∀ u, Below w.heap.size w (ovr X u)) := fun u => S2.out.1.trans ((ovr_below X u).mono S2.out.1.size)
      obtain ⟨x0, hx0⟩ := ovr_self X
      rw [hx0]
      clear hx0
      rcases hA : decide ((k : Int) ∈ a.b) with _ | _
      case false =>
        rw [hA] at D3 RB RN
        rcases hB : decide ((k : Int) ∈ b.b) with _ | _
        case false =>
          rw [hB] at D4 RN
          have HN := Lib.hid (RN.out rfl)
          clear hA hB RA RB RN C3 C4
          go_wp2_with fail
          refine (D3.out _ (HBX.out _)).mono ?_
          rintro e w1 ⟨rfl, hb1⟩
          obtain ⟨x1, rfl⟩ := ovr_next hb1
          clear hb1
          go_wp2_with fail
          refine (D4.out _ (HBX.out _)).mono ?_
          rintro e w1 ⟨rfl, hb1⟩
          obtain ⟨x2, rfl⟩ := ovr_next hb1
          clear hb1
          go_wp2_with fail
          go_roundw
          case rel => exact ⟨k + 1, HLT.out, by go_num, by rw [HN.out]; exact (S2.out.below (ovr_below X x2)).tail⟩
          case measure => have := HLT.out; simp [intOf]; omega
        case true =>
          rw [hB] at D4 RB
          have HN := Lib.hid (RB.out rfl rfl)
          clear hA hB RA RB RN C3 C4
          go_wp2_with fail
          refine (D3.out _ (HBX.out _)).mono ?_
          rintro e w1 ⟨rfl, hb1⟩
          obtain ⟨x1, rfl⟩ := ovr_next hb1
          clear hb1
          go_wp2_with fail
          refine (D4.out _ (HBX.out _)).mono ?_
          rintro e w1 ⟨rfl, hb1⟩
          obtain ⟨x2, rfl⟩ := ovr_next hb1
          clear hb1
          go_wp2_with fail
          refine (D3.out _ (HBX.out _)).mono ?_
          rintro e w1 ⟨rfl, hb1⟩
          obtain ⟨x3, rfl⟩ := ovr_next hb1
          clear hb1
          have S3 := Lib.hid ((S2.out.below (ovr_below X x3)).upd1 (by have := QB.out; omega) QC.out (by have := QB.out; simp; omega) #[I (d.lo + p.lo), I (d.hi + p.hi)])
          go_wp2_with (with_reducible show wpList _ _ _ _ _ _; refine wpList_store_row rfl 24 _ _ rfl q rfl _ _ (S2.out.below (ovr_below X x3)).tail.hd #[I (d.lo + p.lo), I (d.hi + p.hi)] rfl (one2 rfl rfl) rfl (by kernel_rfl) ?_)
          go_roundw
          case rel => exact ⟨k + 1, HLT.out, by go_num, by rw [HN.out]; exact S3.out.tail⟩
          case measure => have := HLT.out; simp [intOf]; omega
      case true =>
        rw [hA] at D3 RA RN
        rcases hB : decide ((k : Int) ∈ b.b) with _ | _
        case true =>
          rw [hB] at D4 RN
          have HN := Lib.hid (RN.out rfl)
          clear hA hB RA RB RN C3 C4
          go_wp2_with fail
          refine (D3.out _ (HBX.out _)).mono ?_
          rintro e w1 ⟨rfl, hb1⟩
          obtain ⟨x1, rfl⟩ := ovr_next hb1
          clear hb1
          go_wp2_with fail
          refine (D4.out _ (HBX.out _)).mono ?_
          rintro e w1 ⟨rfl, hb1⟩
          obtain ⟨x2, rfl⟩ := ovr_next hb1
          clear hb1
          go_wp2_with fail
          refine (D4.out _ (HBX.out _)).mono ?_
          rintro e w1 ⟨rfl, hb1⟩
          obtain ⟨x3, rfl⟩ := ovr_next hb1
          clear hb1
          go_wp2_with fail
          refine (D3.out _ (HBX.out _)).mono ?_
          rintro e w1 ⟨rfl, hb1⟩
          obtain ⟨x4, rfl⟩ := ovr_next hb1
          clear hb1
          go_wp2_with fail
          go_roundw
          case rel => exact ⟨k + 1, HLT.out, by go_num, by rw [HN.out]; exact (S2.out.below (ovr_below X x4)).tail⟩
          case measure => have := HLT.out; simp [intOf]; omega
        case false =>
          rw [hB] at D4 RA
          have HN := Lib.hid (RA.out rfl rfl)
          clear hA hB RA RB RN C3 C4
          go_wp2_with fail
          refine (D3.out _ (HBX.out _)).mono ?_
          rintro e w1 ⟨rfl, hb1⟩
          obtain ⟨x1, rfl⟩ := ovr_next hb1
          clear hb1
          go_wp2_with fail
          refine (D4.out _ (HBX.out _)).mono ?_
          rintro e w1 ⟨rfl, hb1⟩
          obtain ⟨x3, rfl⟩ := ovr_next hb1
          clear hb1
          have S3 := Lib.hid ((S2.out.below (ovr_below X x3)).upd1 (by have := QB.out; omega) QC.out (by have := QB.out; simp; omega) #[I (d.lo - p.hi), I (d.hi - p.lo)])
          go_upto_region 17 with (with_reducible show wpList _ _ _ _ _ _; refine wpList_store_row rfl 24 _ _ rfl q rfl _ _ (S2.out.below (ovr_below X x3)).tail.hd #[I (d.lo - p.hi), I (d.hi - p.lo)] rfl (one2 rfl rfl) rfl (by kernel_rfl) ?_)
          refine name_w fun Z hZ => ?_
          rw [← hZ] at S3
          clear hZ f1 f2 f3 f4 f5 f6 f7 f8 f9 f10 HBX S2
          go_wp2_with (with_reducible show wpList _ _ _ _ _ _; refine wpList_load_row9 rfl 72 _ rfl (w.heap.size + 1) rfl (trA b C m) _ _ _ S3.out.tail.tail.tail.hd Try.underlying72 rfl (by kernel_rfl) ?_)
          refine (D4.out _ S3.out.1).mono ?_
          rintro e z1 ⟨rfl, hb⟩
          have S4 := Lib.hid (S3.out.below hb)
          clear hb S3
          go_wp2_with fail
          go_roundw
          case rel => exact ⟨k + 1, HLT.out, by go_num, by rw [HN.out]; exact S4.out.tail⟩
          case measure => have := HLT.out; simp [intOf]; omega
end Go.Proofs.Ytljjpidigckheaa.Un
