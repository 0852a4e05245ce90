/- The contract of Print of package defect. -/
import Derived.Test.YtliddmhifnigdaaDp2
import Derived.Test.YtliddmhifnigdaaDe
namespace Go.Proofs.Ytliddmhifnigdaa.Un
open Go.RowKit
/-- What is wrong with cut k. -/
def ctB (g : Gro) (cuts : List Int) (k : Nat) : Bool := decide (at0 cuts k < (at0 g.r 0).lo) || (decide (lastX g.r < at0 cuts k) || (decide (0 < k) && decide (at0 cuts k ≤ at0 cuts (k - 1))))
def ctE (g : Gro) (cuts : List Int) : Int := if 500 < cuts.length then 5 else if (List.range cuts.length).any (ctB g cuts) then 3 else 0
def prE (m : Mdl) (g : Gro) (cuts : List Int) : Int := if okMdl m && okGro g then ctE g cuts else 2
abbrev cutR (cuts : List Int) (i : Nat) : Rng := ⟨at0 cuts i, at0 cuts (i + 1)⟩
/-- A list of slices under way. -/
structure Sls (base : Nat) (m : Mdl) (g : Gro) (cuts : List Int) (V : Value) (n : Nat) (bs : Nat → Nat) (w : World) : Prop where
  own : w.ownsRow base 76 1 V n ((List.range n).map fun i => .slice (some ⟨bs i, 0, none⟩) g.z.length g.z.length)
  row : ∀ i, i < n → w.heap[bs i]? = some (.cells (slK m g (cutR cuts i) g.z.length) 46 (0, 0))
  ge : ∀ i, i < n → base ≤ bs i
  ne : ∀ i, i < n → V.ownBlock ≠ some (bs i)
theorem Sls.below {base : Nat} {m : Mdl} {g : Gro} {cuts : List Int} {V : Value} {n : Nat} {bs : Nat → Nat} {w w' : World} (h : Sls base m g cuts V n bs w) (hb : Below w.heap.size w w') : Sls base m g cuts V n bs w' :=
  ⟨own_below h.own hb, fun i hi => (hb.block _ (Array.getElem?_eq_some_iff.1 (h.row i hi)).1).trans (h.row i hi), h.ge, h.ne⟩
theorem Sls.nil {base : Nat} {m : Mdl} {g : Gro} {cuts : List Int} {bs : Nat → Nat} {w : World} : Sls base m g cuts (.slice none 0 0) 0 bs w := ⟨⟨rfl, .inl ⟨rfl, rfl⟩⟩, fun _ hi => absurd hi (Nat.not_lt_zero _), fun _ hi => absurd hi (Nat.not_lt_zero _), fun _ hi => absurd hi (Nat.not_lt_zero _)⟩
def SlF (Y : World) (m : Mdl) (g : Gro) (x : Rng) (u : Value) (w : World) : Prop := ∃ b, u = .slice (some ⟨b, 0, none⟩) g.z.length g.z.length ∧ w.heap[b]? = some (.cells (slK m g x g.z.length) 46 (0, 0)) ∧ Y.heap.size ≤ b
def SlB (Y : World) (m : Mdl) (g : Gro) (x : Rng) (u : Value) (w : World) : Prop := ∃ b b', u = .slice (some ⟨b, 0, none⟩) 1 1 ∧ w.heap[b]? = some (.cells #[.slice (some ⟨b', 0, none⟩) g.z.length g.z.length] 76 (0, 0)) ∧ w.heap[b']? = some (.cells (slK m g x g.z.length) 46 (0, 0)) ∧ Y.heap.size ≤ b'
theorem slf_grow {P : Program} {f : FuncId} {args : Array Value} {Y w : World} {m : Mdl} {g : Gro} {x : Rng} (hC : Cl Y w) (h : Calls P f args w (RetSl m g x w)) : Calls P f args w fun e w' => ∃ u, e = .returned u ∧ Le w w' ∧ Box (SlF Y m g x) u w' :=
  h.mono fun _ _ ⟨b, he, hb, hr, hl⟩ => ⟨_, he, hl, fun _ h3 => ⟨b, rfl, (h3.block b (Array.getElem?_eq_some_iff.1 hr).1).trans hr, Nat.le_trans hC.le.size hb⟩⟩
theorem slb_grow {Y w : World} {m : Mdl} {g : Gro} {x : Rng} {b' : Nat} (h : Box (SlF Y m g x) (.slice (some ⟨b', 0, none⟩) g.z.length g.z.length) w) :
    Le w (w.alloc (.cells #[.slice (some ⟨b', 0, none⟩) g.z.length g.z.length] 76)) ∧ Box (SlB Y m g x) (.slice (some ⟨w.heap.size, 0, none⟩) 1 1) (w.alloc (.cells #[.slice (some ⟨b', 0, none⟩) g.z.length g.z.length] 76)) := by
  have hl : Le w (w.alloc (.cells #[.slice (some ⟨b', 0, none⟩) g.z.length g.z.length] 76)) := (Below.refl _ _).alloc (Nat.le_refl _) _
  refine ⟨hl, fun w3 h3 => ?_⟩
  obtain ⟨b, e, h1, h2⟩ := h w3 (hl.trans h3)
  obtain rfl : b' = b := by injection e with e1; injection e1 with e2; injection e2
  exact ⟨w.heap.size, b', rfl, (h3.block _ (by simp)).trans (heap_alloc_new w _), h1, h2⟩
theorem sets_info : (Try.prog.info? 76).map (fun i => (i.zero, i.size, i.bytes)) = some (some (.slice none 0 0), 1, 24) := by kernel_rfl
/-- One slice more. -/
theorem Sls.more {base : Nat} {m : Mdl} {g : Gro} {cuts : List Int} {V V' : Value} {n : Nat} {bs : Nat → Nat} {w w' : World} {b' : Nat} (h : Sls base m g cuts V n bs w) (hlt : ∀ b, V.ownBlock = some b → b < b') (hr : w.heap[b']? = some (.cells (slK m g (cutR cuts n) g.z.length) 46 (0, 0))) (hb : base ≤ b')
    (ho : w'.ownsRow base 76 1 V' (n + 1) (((List.range n).map fun i => .slice (some ⟨bs i, 0, none⟩) g.z.length g.z.length) ++ [.slice (some ⟨b', 0, none⟩) g.z.length g.z.length])) (hg : w.grownBy w' V.ownBlock) (hob : V'.ownBlock = V.ownBlock ∨ V'.ownBlock = some w.heap.size) :
    Sls base m g cuts V' (n + 1) (fun i => if i = n then b' else bs i) w' := by
  have hlt2 : ∀ i, i < n → bs i < w.heap.size := fun i hi => (Array.getElem?_eq_some_iff.1 (h.row i hi)).1
  have hb2 : b' < w.heap.size := (Array.getElem?_eq_some_iff.1 hr).1
  refine ⟨?_, fun i hi => ?_, fun i hi => ?_, fun i hi => ?_⟩
  · have e : ((List.range (n + 1)).map fun i => (.slice (some ⟨if i = n then b' else bs i, 0, none⟩) g.z.length g.z.length : Value)) = ((List.range n).map fun i => .slice (some ⟨bs i, 0, none⟩) g.z.length g.z.length) ++ [.slice (some ⟨b', 0, none⟩) g.z.length g.z.length] := by
      rw [List.range_succ, List.map_append, List.map_singleton, if_pos rfl]
      congr 1
      refine List.map_congr_left fun i hi => ?_
      rw [if_neg (by have := List.mem_range.1 hi; omega)]
    rw [e]
    exact ho
  · by_cases hin : i = n
    · subst hin
      simp only [if_pos]
      exact (hg.block b' hb2 (fun he => Nat.lt_irrefl _ (hlt b' he.symm))).trans hr
    · simp only [if_neg hin]
      exact (hg.block _ (hlt2 i (by omega)) (fun he => h.ne i (by omega) he.symm)).trans (h.row i (by omega))
  · by_cases hin : i = n
    · simp only [if_pos hin]; exact hb
    · simp only [if_neg hin]; exact h.ge i (by omega)
  · by_cases hin : i = n
    · simp only [if_pos hin]
      rcases hob with h1 | h1
      · rw [h1]; exact fun he => Nat.lt_irrefl _ (hlt b' he)
      · rw [h1]; intro he; injection he with he; omega
    · simp only [if_neg hin]
      rcases hob with h1 | h1
      · rw [h1]; exact h.ne i (by omega)
      · rw [h1]; intro he; injection he with he; have := hlt2 i (by omega); omega
def RetPr (m : Mdl) (g : Gro) (cuts : List Int) (w : World) (e : Ending) (w' : World) : Prop :=
  ∃ V bs n, e = .returned (.tuple #[V, I (prE m g cuts)]) ∧ (prE m g cuts = 0 → n = cuts.length - 1) ∧ (¬ prE m g cuts = 0 → n = 0) ∧ Sls w.heap.size m g cuts V n bs w' ∧ Below w.heap.size w w'
set_option maxRecDepth 100000 in
set_option maxHeartbeats 4000000 in
theorem print_any (m : Mdl) (g : Gro) (cuts : List Int) (A Z F C : Option Addr) (a c d q : Nat) (w : World) (B : Nat) (hB : B ≤ w.heap.size) (hg : GroIn w B g A Z F) (hC : Rd w B 1 C cuts.length (rI cuts)) (hl : cuts.length ≤ 1000) :
    Calls Try.prog 14 #[.agg (mdA m), .agg (grA g A Z F a c d), .slice C cuts.length q] w (RetPr m g cuts w) := by
  have HG : Hid (∀ V, Below w.heap.size w V → GroIn V B g A Z F ∧ B ≤ V.heap.size) := fun V hV => ⟨hg.below hB hV, Nat.le_trans hB hV.size⟩
  have HC : Hid (∀ V, Below w.heap.size w V → Rd V B 1 C cuts.length (rI cuts)) := fun V hV => hC.below (hV.mono hB)
  have C1 := Lib.hid fun V => checkModel_any m V
  have C2 : Hid (∀ V, Below w.heap.size w V → Calls Try.prog 34 #[.agg (grA g A Z F a c d)] V fun e w' => e = .returned (I (erA (okGro g))) ∧ Below V.heap.size V w') := fun V hV => checkGrowth_any g A Z F a c d V B (HG.out V hV).2 (HG.out V hV).1
  have C3 : Hid (∀ V, Below w.heap.size w V → 0 < g.r.length → g.r.length ≤ 1000000 → Calls Try.prog 35 #[.slice A g.r.length a] V fun e w' => e = .returned (.tuple #[I (at0 g.r 0).lo, I (lastX g.r)]) ∧ Below V.heap.size V w') := fun V hV h0 hl => ends_any A a g.r V B h0 hl (HG.out V hV).1.r
  have C4 : Hid (∀ V, Below w.heap.size w V → ∀ fr tp, okMdl m = true → okGro g = true → (at0 g.r 0).lo ≤ fr ∧ fr ≤ tp ∧ tp ≤ lastX g.r → Calls Try.prog 36 #[.agg (mdA m), .agg (grA g A Z F a c d), I fr, I tp] V (RetSl m g ⟨fr, tp⟩ V)) := fun V hV fr tp h1 h2 h3 => slice_any m g fr tp A Z F a c d V B (HG.out V hV).2 (HG.out V hV).1 h1 h2 h3
  have hf : Hid (prE m g cuts = if okMdl m && okGro g then ctE g cuts else 2) := rfl
  have hfc : Hid (ctE g cuts = if 500 < cuts.length then 5 else if (List.range cuts.length).any (ctB g cuts) then 3 else 0) := rfl
  have HL := Lib.hid hl
  clear hg hB hC hl
  obtain ⟨W, hW⟩ : ∃ W, W = ((w.alloc (.cells #[I m.sc, I (m.b 0).lo, I (m.b 0).hi, I (m.b 1).lo, I (m.b 1).hi, I (m.b 2).lo, I (m.b 2).hi, I (m.b 3).lo, I (m.b 3).hi] 33)).alloc (.cells #[.slice A g.r.length a, I g.o, .slice Z g.z.length c, .slice F g.f.length d] 68)) := ⟨_, rfl⟩
  have rowW0 : W.heap[w.heap.size]? = some (.cells #[I m.sc, I (m.b 0).lo, I (m.b 0).hi, I (m.b 1).lo, I (m.b 1).hi, I (m.b 2).lo, I (m.b 2).hi, I (m.b 3).lo, I (m.b 3).hi] 33 (0, 0)) := by rw [hW]; exact heap_before (heap_last _ _ _ rfl)
  have yW00 := ovr_cell (W := W) (b := w.heap.size) (o := 0) (v := I m.sc) (by rw [cell_of_row _ _ _ _ _ _ rowW0]; rfl)
  have yW01 := ovr_cell (W := W) (b := w.heap.size) (o := 1) (v := I (m.b 0).lo) (by rw [cell_of_row _ _ _ _ _ _ rowW0]; rfl)
  have yW02 := ovr_cell (W := W) (b := w.heap.size) (o := 2) (v := I (m.b 0).hi) (by rw [cell_of_row _ _ _ _ _ _ rowW0]; rfl)
  have yW03 := ovr_cell (W := W) (b := w.heap.size) (o := 3) (v := I (m.b 1).lo) (by rw [cell_of_row _ _ _ _ _ _ rowW0]; rfl)
  have yW04 := ovr_cell (W := W) (b := w.heap.size) (o := 4) (v := I (m.b 1).hi) (by rw [cell_of_row _ _ _ _ _ _ rowW0]; rfl)
  have yW05 := ovr_cell (W := W) (b := w.heap.size) (o := 5) (v := I (m.b 2).lo) (by rw [cell_of_row _ _ _ _ _ _ rowW0]; rfl)
  have yW06 := ovr_cell (W := W) (b := w.heap.size) (o := 6) (v := I (m.b 2).hi) (by rw [cell_of_row _ _ _ _ _ _ rowW0]; rfl)
  have yW07 := ovr_cell (W := W) (b := w.heap.size) (o := 7) (v := I (m.b 3).lo) (by rw [cell_of_row _ _ _ _ _ _ rowW0]; rfl)
  have yW08 := ovr_cell (W := W) (b := w.heap.size) (o := 8) (v := I (m.b 3).hi) (by rw [cell_of_row _ _ _ _ _ _ rowW0]; rfl)
  have RrowW0 := Lib.hid (ovr_row rowW0)
  clear rowW0
  have rowW1 : W.heap[w.heap.size + 1]? = some (.cells #[.slice A g.r.length a, I g.o, .slice Z g.z.length c, .slice F g.f.length d] 68 (0, 0)) := by rw [hW]; exact heap_last _ _ _ (by simp)
  have yW10 := ovr_cell (W := W) (b := w.heap.size + 1) (o := 0) (v := .slice A g.r.length a) (by rw [cell_of_row _ _ _ _ _ _ rowW1]; rfl)
  have yW11 := ovr_cell (W := W) (b := w.heap.size + 1) (o := 1) (v := I g.o) (by rw [cell_of_row _ _ _ _ _ _ rowW1]; rfl)
  have yW12 := ovr_cell (W := W) (b := w.heap.size + 1) (o := 2) (v := .slice Z g.z.length c) (by rw [cell_of_row _ _ _ _ _ _ rowW1]; rfl)
  have yW13 := ovr_cell (W := W) (b := w.heap.size + 1) (o := 3) (v := .slice F g.f.length d) (by rw [cell_of_row _ _ _ _ _ _ rowW1]; rfl)
  have RrowW1 := Lib.hid (ovr_row rowW1)
  clear rowW1
  have HUW : Hid (∀ u, Below w.heap.size w (ovr W u)) := U2 hW
  have HW := Lib.hid hW
  clear hW
  go_enter Try.func14, Try.ntmps14
  go_upto_region 1 with (fail)
  rw [← HW.out]
  obtain ⟨u0, hu0⟩ := ovr_self W
  rw [hu0]
  clear hu0
  rcases h1 : okMdl m with _ | _ <;> rw [h1] at C1 hf
  · rw [erA_f] at C1
    go_wp2_with fail
    refine (C1.out _).mono ?_
    rintro e w1 ⟨rfl, hb1⟩
    obtain ⟨u1, rfl⟩ := ovr_next hb1
    clear hb1
    go_wp2_with fail
    go_ret2
    exact ⟨.slice none 0 0, fun _ => 0, 0, by rw [hf.out]; rfl, fun h => absurd (hf.out.symm.trans h) (by show ¬ (2 : Int) = 0; decide), fun _ => rfl, Sls.nil, HUW.out _⟩
  rw [erA_t] at C1
  rcases h2 : okGro g with _ | _ <;> rw [h2] at C2 hf
  · rw [erA_f] at C2
    go_wp2_with fail
    refine (C1.out _).mono ?_
    rintro e w1 ⟨rfl, hb1⟩
    obtain ⟨u1, rfl⟩ := ovr_next hb1
    clear hb1
    go_wp2_with fail
    refine (C2.out _ (HUW.out u1)).mono ?_
    rintro e w1 ⟨rfl, hb1⟩
    obtain ⟨u2, rfl⟩ := ovr_next hb1
    clear hb1
    go_wp2_with fail
    go_ret2
    exact ⟨.slice none 0 0, fun _ => 0, 0, by rw [hf.out]; rfl, fun h => absurd (hf.out.symm.trans h) (by show ¬ (2 : Int) = 0; decide), fun _ => rfl, Sls.nil, HUW.out _⟩
  rw [erA_t] at C2
  replace hf : Hid (prE m g cuts = ctE g cuts) := hf.out
  go_wp2_with fail
  refine (C1.out _).mono ?_
  rintro e w1 ⟨rfl, hb1⟩
  obtain ⟨u1, rfl⟩ := ovr_next hb1
  clear hb1
  go_wp2_with fail
  refine (C2.out _ (HUW.out u1)).mono ?_
  rintro e w1 ⟨rfl, hb1⟩
  obtain ⟨u2, rfl⟩ := ovr_next hb1
  clear hb1
  by_cases h3 : 500 < cuts.length
  · rw [if_pos h3] at hfc
    rw [hfc.out] at hf
    have d1 : decide ((500 : Int) < (cuts.length : Int)) = true := decide_eq_true (by omega)
    go_wp2_with fail
    go_ret2
    exact ⟨.slice none 0 0, fun _ => 0, 0, by rw [hf.out]; rfl, fun h => absurd (hf.out.symm.trans h) (by show ¬ (5 : Int) = 0; decide), fun _ => rfl, Sls.nil, HUW.out _⟩
  rw [if_neg h3] at hfc
  have d1 : decide ((500 : Int) < (cuts.length : Int)) = false := decide_eq_false (by omega)
  have GO := Lib.hid (okGro_ok h2)
  have C3' := Lib.hid (C3.out _ (HUW.out u2) (by have := GO.out.r.n2; omega) (by have := GO.out.r.n60; omega))
  go_wp2_with fail
  refine C3'.out.mono ?_
  rintro e w1 ⟨rfl, hb1⟩
  obtain ⟨u3, rfl⟩ := ovr_next hb1
  clear hb1
  go_wp2_with fail
  go_loopw [35] (fun i wr => ∃ (k : Nat) (u : World), k ≤ cuts.length ∧ i = .int .i64 k ∧ wr = ovr W u ∧ ∀ j, j < k → ctB g cuts j = false) (fun i _ => cuts.length - (intOf i).toNat)
  case atStart => exact ⟨0, u3, by omega, rfl, rfl, fun j hj => absurd hj (by omega)⟩
  case round =>
    obtain ⟨k, u, hkn, rfl, rfl, hall⟩ := hrel
    have HALL := Lib.hid hall
    clear hall
    by_cases hlt : k < cuts.length
    · obtain ⟨b, o, rfl, _, e0⟩ := (HC.out _ (HUW.out u)).int hlt
      have HLT := Lib.hid hlt
      have hkm : k < 9223372036854775807 := by have := HL.out; have := HLT.out; omega
      have hct : Hid (ctB g cuts k = (decide (at0 cuts k < (at0 g.r 0).lo) || (decide (lastX g.r < at0 cuts k) || (decide (0 < k) && decide (at0 cuts k ≤ at0 cuts (k - 1)))))) := rfl
      have HBAD : Hid (ctB g cuts k = true → (List.range cuts.length).any (ctB g cuts) = true) := fun h => List.any_eq_true.2 ⟨k, List.mem_range.2 HLT.out, h⟩
      rcases q1 : decide (at0 cuts k < (at0 g.r 0).lo) with _ | _
      case true =>
        have hf3 : Hid (prE m g cuts = 3) := by show _ = _; rw [hf.out, hfc.out, if_pos (HBAD.out (by rw [hct.out, q1]; simp))]
        go_wp2_with fail
        go_ret2
        exact ⟨.slice none 0 0, fun _ => 0, 0, by rw [hf3.out]; rfl, fun h => absurd (hf3.out.symm.trans h) (by decide), fun _ => rfl, Sls.nil, HUW.out _⟩
      rcases q2 : decide (lastX g.r < at0 cuts k) with _ | _
      case true =>
        have hf3 : Hid (prE m g cuts = 3) := by show _ = _; rw [hf.out, hfc.out, if_pos (HBAD.out (by rw [hct.out, q1, q2]; simp))]
        go_wp2_with fail
        go_ret2
        exact ⟨.slice none 0 0, fun _ => 0, 0, by rw [hf3.out]; rfl, fun h => absurd (hf3.out.symm.trans h) (by decide), fun _ => rfl, Sls.nil, HUW.out _⟩
      by_cases h0 : 0 < k
      · obtain ⟨b', o', he, _, e1⟩ := (HC.out _ (HUW.out u)).int (k := k - 1) (by omega)
        obtain ⟨rfl, rfl⟩ : b = b' ∧ o = o' := by simp at he; exact he
        have d0 : decide (0 < (k : Int)) = true := decide_eq_true (by omega)
        have q0 : decide (0 < k) = true := decide_eq_true h0
        have kk : IntKind.i64.wrap ((k : Int) - 1) = ((k - 1 : Nat) : Int) := by rw [show ((k - 1 : Nat) : Int) = (k : Int) - 1 by omega]; exact IntWalk.i64_in _ (by omega)
        clear he h0
        rcases q3 : decide (at0 cuts k ≤ at0 cuts (k - 1)) with _ | _
        case true =>
          have hf3 : Hid (prE m g cuts = 3) := by show _ = _; rw [hf.out, hfc.out, if_pos (HBAD.out (by rw [hct.out, q1, q2, q0, q3]; simp))]
          go_wp2_with fail
          go_ret2
          exact ⟨.slice none 0 0, fun _ => 0, 0, by rw [hf3.out]; rfl, fun h => absurd (hf3.out.symm.trans h) (by decide), fun _ => rfl, Sls.nil, HUW.out _⟩
        have hk1 : Hid (∀ j, j < k + 1 → ctB g cuts j = false) := fun j hj => by
          by_cases hjk : j = k
          · rw [hjk, hct.out, q1, q2, q0, q3]; rfl
          · exact HALL.out j (by omega)
        go_wp2_with fail
        exact ⟨⟨k + 1, u, HLT.out, rfl, rfl, hk1.out⟩, by have := HLT.out; simp [intOf]; omega⟩
      · have d0 : decide (0 < (k : Int)) = false := decide_eq_false (by omega)
        have q0 : decide (0 < k) = false := decide_eq_false h0
        have hk1 : Hid (∀ j, j < k + 1 → ctB g cuts j = false) := fun j hj => by
          by_cases hjk : j = k
          · rw [hjk, hct.out, q1, q2, q0]; rfl
          · exact HALL.out j (by omega)
        go_wp2_with fail
        exact ⟨⟨k + 1, u, HLT.out, rfl, rfl, hk1.out⟩, by have := HLT.out; simp [intOf]; omega⟩
    · obtain rfl : k = cuts.length := by omega
      have hf2 : Hid (prE m g cuts = 0) := by
        show _ = _
        rw [hf.out, hfc.out, if_neg]
        rw [List.any_eq_true]
        rintro ⟨j, hj, hb⟩
        rw [HALL.out j (List.mem_range.1 hj)] at hb
        cases hb
      have HWB : Hid (Below w.heap.size w W) := below_self HUW.out
      obtain ⟨i3, hi3, jz0, jz1, jz2⟩ := info_parts sets_info
      have RW0 := RrowW0
      go_wp2_with fail
      go_loopw [12, 13] (fun v12 i wr => ∃ (n : Nat) (bs : Nat → Nat), i = .int .i64 ((n : Int) + 1) ∧ (n = 0 ∨ n + 1 ≤ cuts.length) ∧ Sls W.heap.size m g cuts v12 n bs wr ∧ Below W.heap.size W wr) (fun _ i _ => cuts.length - (intOf i).toNat)
      case atStart => exact ⟨0, fun _ => 0, rfl, .inl rfl, Sls.nil, ovr_below _ _⟩
      case round =>
        obtain ⟨n, bs, rfl, hn, hs, hb⟩ := hrel
        rename World => Y
        have HBY := Lib.hid hb
        have HS := Lib.hid hs
        have HN := Lib.hid hn
        clear hs hn
        by_cases hlt : n + 1 < cuts.length
        · skip
          have reY : ∀ v, ∃ x, ovr Y v = ovr W x := fun v => ovr_reB hb v
          have SW_yW00 := Lib.hid yW00
          replace yW00 := tr_cell reY yW00
          have SW_yW01 := Lib.hid yW01
          replace yW01 := tr_cell reY yW01
          have SW_yW02 := Lib.hid yW02
          replace yW02 := tr_cell reY yW02
          have SW_yW03 := Lib.hid yW03
          replace yW03 := tr_cell reY yW03
          have SW_yW04 := Lib.hid yW04
          replace yW04 := tr_cell reY yW04
          have SW_yW05 := Lib.hid yW05
          replace yW05 := tr_cell reY yW05
          have SW_yW06 := Lib.hid yW06
          replace yW06 := tr_cell reY yW06
          have SW_yW07 := Lib.hid yW07
          replace yW07 := tr_cell reY yW07
          have SW_yW08 := Lib.hid yW08
          replace yW08 := tr_cell reY yW08
          have SW_RrowW0 := Lib.hid RrowW0.out
          replace RrowW0 := Lib.hid (tr_row reY RrowW0.out)
          have SW_yW10 := Lib.hid yW10
          replace yW10 := tr_cell reY yW10
          have SW_yW11 := Lib.hid yW11
          replace yW11 := tr_cell reY yW11
          have SW_yW12 := Lib.hid yW12
          replace yW12 := tr_cell reY yW12
          have SW_yW13 := Lib.hid yW13
          replace yW13 := tr_cell reY yW13
          have SW_RrowW1 := Lib.hid RrowW1.out
          replace RrowW1 := Lib.hid (tr_row reY RrowW1.out)
          have HUY : Hid (∀ u, Below w.heap.size w (ovr Y u)) := fun u => by obtain ⟨x, hx⟩ := reY u; rw [hx]; exact HUW.out x
          clear reY hb
          have d1 : decide ((n : Int) + 1 < (cuts.length : Int)) = true := decide_eq_true (by omega)
          have HLT := Lib.hid hlt
          have hkm : n < 9223372036854775806 := by have := HL.out; have := HLT.out; omega
          have hYw : Hid (∀ V, Below Y.heap.size Y V → Below w.heap.size w V) := fun V hV => (HWB.out.trans (HBY.out.mono HWB.out.size)).trans (hV.mono (Nat.le_trans HWB.out.size HBY.out.size))
          obtain ⟨b, o, rfl, _, e0⟩ := (HC.out _ (hYw.out Y (Below.refl _ _))).int (k := n) (by omega)
          obtain ⟨b', o', he, _, e1⟩ := (HC.out _ (hYw.out Y (Below.refl _ _))).int (k := n + 1) (by omega)
          obtain ⟨rfl, rfl⟩ : b = b' ∧ o = o' := by simp at he; exact he
          have c0 := ovr_cell e0
          have c1 := ovr_cell e1
          have kk : IntKind.i64.wrap ((n : Int) + 1 - 1) = (n : Int) := by rw [show (n : Int) + 1 - 1 = (n : Int) by omega]; exact IntWalk.i64_in _ (by omega)
          have hord : Hid ((at0 g.r 0).lo ≤ at0 cuts n ∧ at0 cuts n ≤ at0 cuts (n + 1) ∧ at0 cuts (n + 1) ≤ lastX g.r) := by
            have h1 := HALL.out n (by omega)
            have h2 := HALL.out (n + 1) (by omega)
            unfold ctB at h1 h2
            simp only [Bool.or_eq_false_iff, decide_eq_false_iff_not, Nat.add_sub_cancel, Bool.and_eq_false_iff] at h1 h2
            show _ ∧ _ ∧ _
            omega
          have CS : Hid (∀ V, Below Y.heap.size Y V → Calls Try.prog 36 #[.agg (mdA m), .agg (grA g A Z F a c d), I (at0 cuts n), I (at0 cuts (n + 1))] V (RetSl m g (cutR cuts n) V)) := fun V hV => C4.out V (hYw.out V hV) _ _ h1 h2 hord.out
          have hlt0 : n < cuts.length := by omega
          clear he e0 e1
          go_upto_region 16 with fail
          refine wp_region_seq2 14 (fun j => if j = 12 then some (SlF Y m g (cutR cuts n)) else if j = 13 then some (SlB Y m g (cutR cuts n)) else none) (by kernel_rfl) (by kernel_rfl) (by kernel_rfl) (by kernel_rfl) (by kernel_rfl) ?_
          simp only [List.take_succ_cons, List.take_zero, List.drop_succ_cons, List.drop_zero]
          repeat (refine wpG_one rfl rfl rfl ?_; intro K hK; go_big_quiet_op; go_big_quiet_on)
          refine wpG_make (SlF Y m g (cutR cuts n)) rfl rfl (fun w' hw' _ => ?_) (fun u hu => ?_)
          · go_simp
            exact slf_grow hw' (CS.out w' hw'.le)
          obtain ⟨_, _, b1, rfl, _, _⟩ := hu
          simp only [Act.put, List.setIfInBounds_toArray, List.set_cons_zero, List.set_cons_succ]
          refine wpG_make (SlB Y m g (cutR cuts n)) rfl rfl (fun w' hw' hk => ?_) (fun u hu => ?_)
          · have hk2 := hk ⟨12, .data⟩ (by simp) rfl _ 80 _ rfl rfl rfl (Nat.lt_of_lt_of_eq (by decide : 80 < 84) rfl) rfl
            go_simp
            exact slb_grow hk2
          obtain ⟨_, _, b2, b3, rfl, _, _, _⟩ := hu
          simp only [Act.put, List.setIfInBounds_toArray, List.set_cons_zero, List.set_cons_succ]
          refine wpG_nil (fun w5 hw5 hG => ?_)
          obtain ⟨b4, b5, he4, hr4, hr5, hb5⟩ := Box.now hG.2
          obtain rfl : b2 = b4 := by injection he4 with e1; injection e1 with e2; injection e2
          have h5 := hw5.le
          clear hG hw5 he4
          have hs5 := HS.out.below h5
          have hbs : W.heap.size ≤ w5.heap.size := Nat.le_trans HBY.out.size h5.size
          refine wpTailIn_cons Wd.wide (by intro c h; cases h) ?_
          refine wp_app_own _ _ 70 rfl W.heap.size 76 i3 _ 1 24 Try.underlying70 hi3 jz0 jz1 jz2 rfl (by decide) u12 n _ rfl hs5.own ⟨b2, 0, none⟩ 1 [.slice (some ⟨b5, 0, none⟩) g.z.length g.z.length] rfl rfl (cells_row hr4) (by simp [Value.oneCell']) (by have := HL.out; have := HLT.out; omega) (by decide) hbs ?_
          intro v' w6 ho6 hg6 hob6
          refine wpTailIn_cons Wd.wide (by intro c h; cases h) ?_
          refine wp_assign _ v' rfl rfl ?_
          refine wpTailIn_nil ?_
          simp only [Act.put, List.setIfInBounds_toArray, List.set_cons_zero, List.set_cons_succ]
          have hs6 := hs5.more (fun b hb => Nat.lt_of_lt_of_le (HS.out.own.lt b hb).2 hb5) hr5 (Nat.le_trans HBY.out.size hb5) ho6 hg6 hob6
          have hb6 : Below W.heap.size W w6 := (HBY.out.trans (h5.mono HBY.out.size)).grown hg6 hbs (fun b hb => (HS.out.own.lt b hb).1)
          have HS6 := Lib.hid hs6
          have HB6 := Lib.hid hb6
          clear hs5 hbs hr4 hr5 hb5 h5 ho6 hg6 hob6 hs6 hb6
          go_wp2_with fail
          exact ⟨⟨n + 1, _, by rw [Int.natCast_add]; rfl, .inr HLT.out, HS6.out, HB6.out⟩, by have := HLT.out; simp [intOf]; omega⟩
        · have d1 : decide ((n : Int) + 1 < (cuts.length : Int)) = false := decide_eq_false (by omega)
          have hnn : Hid (n = cuts.length - 1) := by show _ = _; have := HN.out; omega
          have hbf := HWB.out.trans (HBY.out.mono HWB.out.size)
          have HBF := Lib.hid hbf
          clear hbf hb hlt
          go_wp2_with fail
          go_ret2
          exact ⟨u12, bs, n, by rw [hf2.out]; rfl, fun _ => hnn.out, fun h => absurd hf2.out h, ⟨own_base HS.out.own HWB.out.size, HS.out.row, fun i hi => Nat.le_trans HWB.out.size (HS.out.ge i hi), HS.out.ne⟩, HBF.out⟩
end Go.Proofs.Ytliddmhifnigdaa.Un
