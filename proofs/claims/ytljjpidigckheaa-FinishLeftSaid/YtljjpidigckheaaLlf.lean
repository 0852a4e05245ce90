/- The law FinishLeft: its walk. -/
import Derived.Test.YtljjpidigckheaaLfp
import Derived.Test.YtljjpidigckheaaOsh
import Derived.Test.YtljjpidigckheaaLtm
import Derived.Test.YtljjpidigckheaaPck
namespace Go.Proofs.Ytljjpidigckheaa.Un
open Go.RowKit
theorem rmv9_info : (Try.prog.info? 88).map (fun i => (i.zero, i.size, i.bytes)) = some (some (.agg #[I 0, I 0, I 0, I 0]), 4, 32) := by kernel_rfl
theorem soc_row1 {B n : Nat} {T : TypeId} {f : Nat → Int} {v : Value} {w : World} (h : SoC T 1 B n ((List.range n).map fun k => I (f k)) v w) (h0 : 0 < n) : ∃ g c, v = .slice (some ⟨g, 0, none⟩) n c ∧ B ≤ g ∧ Row1 g T n f w := by
  rcases h with ⟨h1, _⟩ | ⟨_, ⟨_, h2⟩ | ⟨g, cap, cur, hv, hb, hg, _, _, _, ht⟩⟩
  · omega
  · omega
  · refine ⟨g, cap, hv, hb, cur, hg, fun k hk => ?_⟩
    have e : ((List.range n).map fun k => I (f k))[k]? = some (I (f k)) := by simp [hk]
    rw [← ht, List.getElem?_take, if_pos (by omega), Array.getElem?_toList] at e
    exact e
theorem Row1.cong {g n : Nat} {t : TypeId} {f f' : Nat → Int} {V : World} (h : Row1 g t n f V) (hf : ∀ k, k < n → f' k = f k) : Row1 g t n f' V := by
  obtain ⟨cur, hr, hc⟩ := h
  exact ⟨cur, hr, fun k hk => by rw [hc k hk, hf k hk]⟩
theorem Row1.rd {g n : Nat} {t : TypeId} {f : Nat → Int} {V : World} (h : Row1 g t n f V) : g < V.heap.size := by
  obtain ⟨cur, hr, _⟩ := h
  exact lt_of_row hr
abbrev wkA (cm : Int) (hs am : List Int) (HA AA SA : Option Addr) (hc ac ns sc : Nat) : Array Value := #[H16 cm, .slice HA hs.length hc, .slice AA am.length ac, .slice SA ns sc]
set_option maxRecDepth 100000 in
set_option maxHeartbeats 8000000 in
theorem finishLeft_any (x : Sht) (A : Option Addr) (n : Nat) (L : Option Addr) (m : Nat) (l : List Rmv) (cm : Int) (hs am : List Int) (HA AA SA : Option Addr) (hc ac ns sc : Nat) (SP : Nat → Nat → Int) (w : World) (hm : x.s.length ≤ n ∧ n ≤ maxLen) (hx : Rd w w.heap.size 2 A x.s.length (rR x.s)) (hl : Rd w w.heap.size 4 L l.length (rV l))
    (hh : Rd w w.heap.size 1 HA hs.length (rH hs)) (ha : Rd w w.heap.size 1 AA am.length (rH am)) (hp : Rd w w.heap.size 4 SA ns fun k j => H16 (SP k j)) (h1 : 0 ≤ cm ∧ cm ≤ 65535) (h2 : Is16 hs) (h3 : Is16 am) (h4 : ∀ k j, 0 ≤ SP k j ∧ SP k j ≤ 65535) :
    Calls Try.prog 10 #[.agg (shA x A n), .slice L l.length m, .agg (wkA cm hs am HA AA SA hc ac ns sc)] w fun e w' => e = .returned (.bool true) ∧ Below w.heap.size w w' := by
  have KN := Lib.hid known_any
  have HRD : Hid (∀ V, Below w.heap.size w V → Rd V w.heap.size 2 A x.s.length (rR x.s) ∧ Rd V w.heap.size 4 L l.length (rV l) ∧ Rd V w.heap.size 1 HA hs.length (rH hs) ∧ Rd V w.heap.size 1 AA am.length (rH am) ∧ Rd V w.heap.size 4 SA ns fun k j => H16 (SP k j)) := fun V hV => ⟨hx.below hV, hl.below hV, hh.below hV, ha.below hV, hp.below hV⟩
  have HI := Lib.hid (And.intro h1 (And.intro h2 (And.intro h3 h4)))
  have HM := Lib.hid hm
  have CPH : Hid (∀ V (i : Int) (k : Nat), i = (k : Int) → Below w.heap.size w V → Calls Try.prog 43 #[.slice HA hs.length hc, I i] V fun e w' => e = .returned (H16 (at0 hs k)) ∧ Below V.heap.size V w') := fun V i k hi hV => by
    subst hi
    exact pick_any hs k HA hc V w.heap.size (hh.below hV)
  have CPA : Hid (∀ V (i : Int) (k : Nat), i = (k : Int) → Below w.heap.size w V → Calls Try.prog 43 #[.slice AA am.length ac, I i] V fun e w' => e = .returned (H16 (at0 am k)) ∧ Below V.heap.size V w') := fun V i k hi hV => by
    subst hi
    exact pick_any am k AA ac V w.heap.size (ha.below hV)
  obtain ⟨i3, hi3, jz0, jz1, jz2⟩ := info_parts rmv9_info
  obtain ⟨i4, hi4, kz0, kz1, kz2⟩ := info_parts int9b_info
  clear hx hl hh ha hp h1 h2 h3 h4 hm
  obtain ⟨W, hW⟩ : ∃ W, W = ((w.alloc (.cells #[I x.w, I x.h, I x.c.lo, I x.c.hi, .slice A x.s.length n] 37)).alloc (.cells #[H16 cm, .slice HA hs.length hc, .slice AA am.length ac, .slice SA ns sc] 81)) := ⟨_, rfl⟩
  have rowW0 : W.heap[w.heap.size]? = some (.cells #[I x.w, I x.h, I x.c.lo, I x.c.hi, .slice A x.s.length n] 37 (0, 0)) := by rw [hW]; exact heap_before (heap_last _ _ _ rfl)
  have yW00 := ovr_cell (W := W) (b := w.heap.size) (o := 0) (v := I x.w) (by rw [cell_of_row _ _ _ _ _ _ rowW0]; rfl)
  have yW01 := ovr_cell (W := W) (b := w.heap.size) (o := 1) (v := I x.h) (by rw [cell_of_row _ _ _ _ _ _ rowW0]; rfl)
  have yW02 := ovr_cell (W := W) (b := w.heap.size) (o := 2) (v := I x.c.lo) (by rw [cell_of_row _ _ _ _ _ _ rowW0]; rfl)
  have yW03 := ovr_cell (W := W) (b := w.heap.size) (o := 3) (v := I x.c.hi) (by rw [cell_of_row _ _ _ _ _ _ rowW0]; rfl)
  have yW04 := ovr_cell (W := W) (b := w.heap.size) (o := 4) (v := .slice A x.s.length n) (by rw [cell_of_row _ _ _ _ _ _ rowW0]; rfl)
  have RrowW0 := Lib.hid (ovr_row rowW0)
  clear rowW0
  have rowW1 : W.heap[w.heap.size + 1]? = some (.cells #[H16 cm, .slice HA hs.length hc, .slice AA am.length ac, .slice SA ns sc] 81 (0, 0)) := by rw [hW]; exact heap_last _ _ _ (by simp)
  have yW10 := ovr_cell (W := W) (b := w.heap.size + 1) (o := 0) (v := H16 cm) (by rw [cell_of_row _ _ _ _ _ _ rowW1]; rfl)
  have yW11 := ovr_cell (W := W) (b := w.heap.size + 1) (o := 1) (v := .slice HA hs.length hc) (by rw [cell_of_row _ _ _ _ _ _ rowW1]; rfl)
  have yW12 := ovr_cell (W := W) (b := w.heap.size + 1) (o := 2) (v := .slice AA am.length ac) (by rw [cell_of_row _ _ _ _ _ _ rowW1]; rfl)
  have yW13 := ovr_cell (W := W) (b := w.heap.size + 1) (o := 3) (v := .slice SA ns sc) (by rw [cell_of_row _ _ _ _ _ _ rowW1]; rfl)
  have RrowW1 := Lib.hid (ovr_row rowW1)
  clear rowW1
  have HUW : Hid (∀ u, Below w.heap.size w (ovr W u)) := U2 hW
  have HW := Lib.hid hW
  clear hW
  go_enter Try.func10, Try.ntmps10
  go_upto_region 1 with (fail)
  rw [← HW.out]
  obtain ⟨u0, hu0⟩ := ovr_self W
  rw [hu0]
  clear hu0
  by_cases c1 : x.s.length ≤ 36
  case neg =>
    have d0 : decide ((36 : Int) < (x.s.length : Int)) = true := decide_eq_true (by omega)
    clear c1
    go_wp2_with fail
    refine (KN.out _).mono ?_
    rintro e w1 ⟨rfl, hb1⟩
    obtain ⟨uk, rfl⟩ := ovr_next hb1
    clear hb1
    go_wp2_with fail
    go_ret
    exact ⟨rfl, HUW.out _⟩
  have d0 : decide ((36 : Int) < (x.s.length : Int)) = false := decide_eq_false (by omega)
  by_cases c2 : l.length ≤ 30
  case neg =>
    have d1 : decide ((30 : Int) < (l.length : Int)) = true := decide_eq_true (by omega)
    clear c1 c2
    go_wp2_with fail
    refine (KN.out _).mono ?_
    rintro e w1 ⟨rfl, hb1⟩
    obtain ⟨uk, rfl⟩ := ovr_next hb1
    clear hb1
    go_wp2_with fail
    go_ret
    exact ⟨rfl, HUW.out _⟩
  have d1 : decide ((30 : Int) < (l.length : Int)) = false := decide_eq_false (by omega)
  have HC : Hid (x.s.length ≤ 36 ∧ l.length ≤ 30) := ⟨c1, c2⟩
  clear c1 c2
  go_upto_region 3 with fail
  have S0 : Hid (StL w [(w.heap.size + 1, wkA cm hs am HA AA SA hc ac ns sc, 81), (w.heap.size, shA x A n, 37)] (ovr W u0)) := ⟨HUW.out u0, fun y hy => by
    rcases List.mem_cons.1 hy with rfl | hy
    · exact RrowW1.out u0
    rcases List.mem_cons.1 hy with rfl | hy
    · exact RrowW0.out u0
    cases hy⟩
  refine name_w fun V hV => ?_
  rw [← hV] at S0
  clear hV HUW RrowW0 RrowW1 d0 d1
  have CO := Lib.hid (ownSheet_any x A n V w.heap.size (by have := HC.out; omega) S0.out.1.size (HRD.out V S0.out.1).1)
  go_wp2_with (with_reducible show wpList _ _ _ _ _ _; refine wpList_load_row9 rfl 37 _ rfl w.heap.size rfl (shA x A n) _ _ _ S0.out.tail.hd Try.underlying37 rfl (by kernel_rfl) ?_)
  refine CO.out.mono ?_
  rintro e w1 ⟨A1, q1, rfl, hq1, hr1, hb⟩
  have S1 := Lib.hid (S0.out.below hb)
  have HR1 := Lib.hid (And.intro hq1 hr1)
  have HRV : Hid (∀ U, Below w1.heap.size w1 U → Rd U U.heap.size 4 L l.length (rV l)) := fun U hU => (HRD.out U (S1.out.below hU).1).2.1.more (S1.out.below hU).1.size
  clear hb hq1 hr1 S0 CO
  go_wp2_with (with_reducible show wpList _ _ _ (⟨some 38, _, _, _, _, _⟩ :: _) _ _; refine Hid.out ?_)
  refine Lib.hid ?_
  refine wpList_app_litM rfl _ _ 76 rfl 88 i3 _ 4 32 Try.underlying76 hi3 jz0 jz1 jz2 rfl (by decide) _ rfl _ _ _ rfl (rV l) (HRV.out _ ((Below.refl _ _).alloc (Nat.le_refl _) _)) (by have := HC.out; omega) (by decide) 0 (Nat.zero_le _) ?_
  intro A2 q2 w2 hr2 hb2
  simp only [Act.put, List.setIfInBounds_toArray, List.set_cons_zero, List.set_cons_succ]
  have hb12 : Below w1.heap.size w1 w2 := ((Below.refl _ _).alloc (Nat.le_refl _) _ : Below w1.heap.size w1 _).trans (hb2.mono (by simp))
  have S2 := Lib.hid (S1.out.below hb12)
  have CRM := Lib.hid (remove_any x A1 q1 l A2 q2 w2 w2.heap.size HR1.out.1 (Nat.le_refl _) ((HR1.out.2.below hb12).more hb12.size) hr2 (by have := HC.out; omega))
  obtain ⟨y, hy⟩ : ∃ y, rmX x l = y := ⟨_, rfl⟩
  obtain ⟨er, her⟩ : ∃ y, rmEr x l = y := ⟨_, rfl⟩
  rw [hy, her] at CRM
  have HY := Lib.hid hy
  have HER := Lib.hid her
  clear hy her hr2 hb2 hb12 S1 HR1 HRV
  go_wp2_with fail
  refine CRM.out.mono ?_
  rintro e w3 ⟨SY, cy, rfl, hcy, hry, hb⟩
  have S3 := Lib.hid (S2.out.below hb)
  have HRY0 := Lib.hid (And.intro hcy hry)
  clear hb hcy hry S2 CRM
  go_upto_region 4 with (with_reducible show wpList _ _ _ _ _ _; refine wpList_store_row rfl 37 _ _ rfl w3.heap.size rfl _ _ (heap_last _ _ _ rfl) (shA y SY cy) rfl (by simp [Value.oneCell']) rfl (by kernel_rfl) ?_)
  have S4 := Lib.hid (S3.out.put #[I 0, I 0, I 0, I 0, .slice none 0 0] (shA y SY cy) 37)
  have hpb := put_bel w3 #[I 0, I 0, I 0, I 0, .slice none 0 0] (shA y SY cy) 37
  have HRY : Hid ((y.s.length ≤ cy ∧ cy ≤ maxLen) ∧ Rd _ _ 2 SY y.s.length (rR y.s)) := Lib.hid (And.intro HRY0.out.1 ((HRY0.out.2.below hpb).more hpb.size))
  obtain ⟨PY, hPY⟩ : ∃ q, q = w3.heap.size := ⟨_, rfl⟩
  refine name_w fun W4 hW4 => ?_
  rw [← hW4] at S4 HRY
  rw [← hPY] at S4 ⊢
  clear hW4 hPY S3 HRY0 hpb
  by_cases he : er = 0
  case neg =>
    as_aux_lemma =>
      have h0 := rm_ne HER.out he
      rw [HY.out] at h0
      subst h0
      have q0 : (er != 0) = true := by simpa using he
      have a4 : W4.cell? ⟨PY, 4, none⟩ = some (.slice SY 0 cy) := (cell_of_row _ _ _ _ _ _ S4.out.hd).trans rfl
      clear he HRY
      go_wp2_with fail
      refine (KN.out _).mono ?_
      rintro e wk ⟨rfl, hb⟩
      have SK := Lib.hid (S4.out.below hb)
      clear hb
      go_wp2_with fail
      go_ret
      exact ⟨rfl, SK.out.1⟩
  subst he
  have HOK := Lib.hid (rm_ok HER.out)
  have HYO : Hid (okSh y = true) := by show _ = _; rw [← HY.out]; exact rm_sheet HER.out
  have HYX : Hid (y.s.length = x.s.length ∧ y.w = x.w ∧ y.h = x.h ∧ y.c = rmC x.c l l.length) := by
    show _ ∧ _
    rw [← HY.out, HOK.out.2.2.2.2]
    exact ⟨by simp, rfl, rfl, rfl⟩
  have HL4 : Hid (4 ≤ x.s.length) := sh_len HOK.out.1
  have q0 : ((0 : Int) != 0) = false := rfl
  have q1 : ((y.s.length : Int) != (x.s.length : Int)) = false := by rw [HYX.out.1]; exact bne_self_eq_false _
  have q2 : (y.w != x.w) = false := by rw [HYX.out.2.1]; exact bne_self_eq_false _
  have q3 : (y.h != x.h) = false := by rw [HYX.out.2.2.1]; exact bne_self_eq_false _
  have k0 := S4.out.hd
  have k1 := S4.out.tail.hd
  have k2 := S4.out.tail.tail.hd
  have a0 : W4.cell? ⟨PY, 0, none⟩ = some (I y.w) := (cell_of_row _ _ _ _ _ _ k0).trans rfl
  have a1 : W4.cell? ⟨PY, 1, none⟩ = some (I y.h) := (cell_of_row _ _ _ _ _ _ k0).trans rfl
  have a4 : W4.cell? ⟨PY, 4, none⟩ = some (.slice SY y.s.length cy) := (cell_of_row _ _ _ _ _ _ k0).trans rfl
  have b0 : W4.cell? ⟨w.heap.size, 0, none⟩ = some (I x.w) := (cell_of_row _ _ _ _ _ _ k2).trans rfl
  have b1 : W4.cell? ⟨w.heap.size, 1, none⟩ = some (I x.h) := (cell_of_row _ _ _ _ _ _ k2).trans rfl
  have b2 : W4.cell? ⟨w.heap.size, 2, none⟩ = some (I x.c.lo) := (cell_of_row _ _ _ _ _ _ k2).trans rfl
  have b3 : W4.cell? ⟨w.heap.size, 3, none⟩ = some (I x.c.hi) := (cell_of_row _ _ _ _ _ _ k2).trans rfl
  have b4 : W4.cell? ⟨w.heap.size, 4, none⟩ = some (.slice A x.s.length n) := (cell_of_row _ _ _ _ _ _ k2).trans rfl
  have g0 : W4.cell? ⟨w.heap.size + 1, 0, none⟩ = some (H16 cm) := (cell_of_row _ _ _ _ _ _ k1).trans rfl
  obtain ⟨c0, hc0⟩ : ∃ v, plc x.c cm = v := ⟨_, rfl⟩
  have HC0 : Hid (x.c.lo ≤ c0 ∧ c0 ≤ x.c.hi) := by
    show _ ∧ _
    rw [← hc0]
    exact plc_in (by have := spn9_iff.1 (okSh_iff.1 HOK.out.1).2.2.2.2; omega)
  have CC0 : Hid (∀ V, Calls Try.prog 42 #[.agg #[I x.c.lo, I x.c.hi], H16 cm] V fun e w' => e = .returned (I c0) ∧ Below V.heap.size V w') := fun V => by rw [← hc0]; exact place_any x.c cm V HI.out.1
  clear hc0 k0 k1 k2
  go_upto_region 8 with fail
  clear q0 q1 q2 q3 a0 a1 a4 b0 b1 b4
  go_wp2_with fail
  refine (CC0.out _).mono ?_
  rintro e w5 ⟨rfl, hb⟩
  have S5 := Lib.hid (S4.out.below hb)
  have HRY5 := Lib.hid (And.intro HRY.out.1 ((HRY.out.2.below hb).more hb.size))
  clear hb S4 HRY b2 b3 g0 CC0
  go_upto_region 9 with fail
  have hb6 : Below w5.heap.size w5 (w5.alloc (.cells #[] 3)) := (Below.refl _ _).alloc (Nat.le_refl _) _
  have S6 := Lib.hid (S5.out.below hb6)
  have HRX : Hid ((y.s.length ≤ cy ∧ cy ≤ maxLen) ∧ Rd _ _ 2 SY y.s.length (rR y.s)) := Lib.hid (And.intro HRY5.out.1 ((HRY5.out.2.below hb6).more hb6.size))
  refine name_w fun X hX => ?_
  rw [← hX] at S6 HRX
  clear hX hb6 S5 HRY5
  have HRL : Hid (∀ V, Below X.heap.size X V → Rd V w.heap.size 4 L l.length (rV l)) := fun V hV => (HRD.out V (S6.out.below hV).1).2.1
  go_wp2_with fail
  go_loopw [11, 10] (fun iv zv wr => ∃ i : Nat, i ≤ x.s.length ∧ iv = .int .i64 i ∧ SoC 3 1 X.heap.size i ((List.range i).map fun k => I (lfZ x hs l ns SP 0 k)) zv wr ∧ Below X.heap.size X wr) (fun iv _ _ => x.s.length - (intOf iv).toNat)
  case atStart => exact ⟨0, Nat.zero_le _, rfl, .inl ⟨rfl, rfl, _, rfl⟩, Below.refl _ _⟩
  case round =>
    obtain ⟨i, hi, rfl, hso, hbx⟩ := hrel
    rename World => Y
    rename Value => zv
    have HSO := Lib.hid hso
    have HBX := Lib.hid hbx
    have S7 := Lib.hid (S6.out.below hbx)
    clear hso hbx
    by_cases hlt : i < x.s.length
    case pos =>
      as_aux_lemma =>
        have HLT := Lib.hid hlt
        have ki : decide ((i : Int) < (x.s.length : Int)) = true := decide_eq_true (by omega)
        have kin : i < x.s.length := hlt
        have i36 : i ≤ 36 := by have := HC.out; omega
        obtain ⟨xb, xo, hxA, _, e0, e1⟩ := (HRD.out Y S7.out.1).1.rng hlt
        have b4 : Y.cell? ⟨w.heap.size, 4, none⟩ = some (.slice A x.s.length n) := (cell_of_row _ _ _ _ _ _ S7.out.tail.tail.hd).trans rfl
        have g1 : Y.cell? ⟨w.heap.size + 1, 1, none⟩ = some (.slice HA hs.length hc) := (cell_of_row _ _ _ _ _ _ S7.out.tail.hd).trans rfl
        obtain ⟨ti, hti⟩ : ∃ v, at0 hs i = v := ⟨_, rfl⟩
        obtain ⟨xi, hxi⟩ : ∃ v, at0 x.s i = v := ⟨_, rfl⟩
        obtain ⟨zi, hzi⟩ : ∃ v, plc xi ti = v := ⟨_, rfl⟩
        have HZI : Hid (lfZ x hs l ns SP 0 i = zi) := by show plc (at0 x.s i) (at0 hs i) = zi; rw [hti, hxi, hzi]
        rw [hxi] at e0 e1
        have CP1 : Hid (∀ u, Calls Try.prog 43 #[.slice HA hs.length hc, I (i : Int)] (ovr Y u) fun e w' => e = .returned (H16 ti) ∧ Below (ovr Y u).heap.size (ovr Y u) w') := fun u => by rw [← hti]; exact CPH.out _ _ i rfl (S7.out.below (ovr_below Y u)).1
        have CL1 : Hid (∀ V, Calls Try.prog 42 #[.agg #[I xi.lo, I xi.hi], H16 ti] V fun e w' => e = .returned (I zi) ∧ Below V.heap.size V w') := fun V => by rw [← hzi]; exact place_any xi ti V (by rw [← hti]; exact HI.out.2.1 i)
        go_upto_region 12 with fail
        have b4u := ovr_cell b4
        have g1u := ovr_cell g1
        rw [hxA] at b4u
        have v1 := ovr_cell e0
        have v2 := ovr_cell e1
        clear hti hxi hzi hxA e0 e1 b4 g1 hi
        refine wp_region_seq2 12 (fun j => if j = 9 then some (fun u _ => u = H16 ti) else if j = 10 then some (fun u _ => u = I zi) else if j = 11 then some (SlN Y #[I zi] 3 1) else none) (by kernel_rfl) (by kernel_rfl) (by kernel_rfl) (by kernel_rfl) (by kernel_rfl) ?_
        simp only [List.take_succ_cons, List.take_zero, List.drop_succ_cons, List.drop_zero]
        repeat (first | (refine wpG_one rfl rfl rfl ?_; intro K hK; go_big_quiet_op; go_big_quiet_on) | (refine wpG_skip rfl ?_; simp only [Act.put, List.setIfInBounds_toArray, List.set_cons_zero, List.set_cons_succ]))
        refine wpG_make (fun u _ => u = H16 ti) rfl rfl (fun w' hw' hk => ?_) (fun u hu => ?_)
        · obtain ⟨z, rfl⟩ := hw'
          go_simp
          exact call_grow (CP1.out z)
        obtain ⟨_, _, rfl⟩ := hu
        simp only [Act.put, List.setIfInBounds_toArray, List.set_cons_zero, List.set_cons_succ]
        repeat (first | (refine wpG_one rfl rfl rfl ?_; intro K hK; go_big_quiet_op; go_big_quiet_on) | (refine wpG_skip rfl ?_; simp only [Act.put, List.setIfInBounds_toArray, List.set_cons_zero, List.set_cons_succ]))
        refine wpG_make (fun u _ => u = I zi) rfl rfl (fun w' hw' hk => ?_) (fun u hu => ?_)
        · go_simp
          exact call_grow (CL1.out w')
        obtain ⟨_, _, rfl⟩ := hu
        simp only [Act.put, List.setIfInBounds_toArray, List.set_cons_zero, List.set_cons_succ]
        repeat (first | (refine wpG_one rfl rfl rfl ?_; intro K hK; go_big_quiet_op; go_big_quiet_on) | (refine wpG_skip rfl ?_; simp only [Act.put, List.setIfInBounds_toArray, List.set_cons_zero, List.set_cons_succ]))
        refine wpG_make (SlN Y #[I zi] 3 1) rfl rfl (fun w' hw' hk => ?_) (fun u hu => ?_)
        · go_simp
          exact sln_grow hw'
        obtain ⟨_, _, SB, rfl, _, _⟩ := hu
        simp only [Act.put, List.setIfInBounds_toArray, List.set_cons_zero, List.set_cons_succ]
        repeat (first | (refine wpG_one rfl rfl rfl ?_; intro K hK; go_big_quiet_op; go_big_quiet_on) | (refine wpG_skip rfl ?_; simp only [Act.put, List.setIfInBounds_toArray, List.set_cons_zero, List.set_cons_succ]))
        refine wpG_nil (fun w5 hw5 hG => ?_)
        have hB := hG.2.now.at
        have hle : Below Y.heap.size Y w5 := hw5.le
        have hO := HSO.out.over hle
        have hbw := HBX.out.trans (hle.mono HBX.out.size)
        clear hG hw5 hle b4u g1u v1 v2
        refine wpTailIn_cons Wd.wide (by intro c h; cases h) ?_
        refine wp_app_soc _ _ 30 rfl 3 i4 _ 1 8 Try.underlying30 hi4 kz0 kz1 kz2 rfl (by decide) X.heap.size i _ _ rfl hO ⟨SB, 0, none⟩ 1 [I zi] rfl rfl (news_lit hB.1) (by simp [Value.oneCell']) hbw.size (by omega) (by decide) (fun v2 w6 hO2 hb6 => ?_)
        have HO2 : Hid (SoC 3 1 X.heap.size (i + 1) ((List.range (i + 1)).map fun k => I (lfZ x hs l ns SP 0 k)) v2 w6) := by
          show SoC _ _ _ _ _ _ _
          rw [List.range_succ, List.map_append]
          show SoC _ _ _ _ (_ ++ [I (lfZ x hs l ns SP 0 i)]) _ _
          rw [HZI.out]
          exact hO2
        have HB6 := Lib.hid (hbw.trans hb6)
        clear hO hbw hO2 hb6 hB
        refine wpTailIn_cons Wd.wide (by intro c h; cases h) ?_
        unfold Oper.wp
        go_simp
        refine wpTailIn_nil ?_
        (try simp only [Act.put, List.setIfInBounds_toArray, List.set_cons_zero, List.set_cons_succ])
        go_wp2_with fail
        go_roundw
        case rel => exact ⟨i + 1, HLT.out, by go_num, HO2.out, HB6.out⟩
        case measure => have := HLT.out; simp [intOf]; omega
    obtain rfl : i = x.s.length := by omega
    have ki : decide ((x.s.length : Int) < (x.s.length : Int)) = false := decide_eq_false (by omega)
    have b4 : Y.cell? ⟨w.heap.size, 4, none⟩ = some (.slice A x.s.length n) := (cell_of_row _ _ _ _ _ _ S7.out.tail.tail.hd).trans rfl
    obtain ⟨g, gc, rfl, hgx, hrow⟩ := soc_row1 HSO.out (by have := HL4.out; omega)
    have HGX : Hid (X.heap.size ≤ g) := hgx
    have HROW0 := Lib.hid hrow
    have HBX0 := HBX
    clear hgx hrow HSO hlt hi S7 HBX
    go_wp2_with fail
    go_loopw [12, 9] (fun kv cv wr => ∃ k : Nat, k ≤ l.length ∧ kv = .int .i64 k ∧ cv = I (lfC c0 l am k) ∧ Below X.heap.size X wr ∧ Row1 g 3 x.s.length (lfZ x hs l ns SP k) wr) (fun kv _ _ => l.length - (intOf kv).toNat)
    case atStart => exact ⟨0, Nat.zero_le _, rfl, rfl, HBX0.out, HROW0.out⟩
    case round =>
      obtain ⟨k, hk, rfl, rfl, hbx, hrow⟩ := hrel
      rename World => Y2
      have HBX := Lib.hid hbx
      have HROW := Lib.hid hrow
      have S8 := Lib.hid (S6.out.below hbx)
      clear hbx hrow b4 HBX0 HROW0
      by_cases hkl : k < l.length
      case pos =>
        as_aux_lemma =>
          have HKL := Lib.hid hkl
          have ki : decide ((k : Int) < (l.length : Int)) = true := decide_eq_true (by omega)
          have kil : k < l.length := hkl
          have k30 : k ≤ 30 := by have := HC.out; omega
          obtain ⟨lb, lo, hLA, _, e0, e1, e2, e3⟩ := rd_rmv (HRL.out Y2 HBX.out) hkl
          obtain ⟨r, hr⟩ : ∃ v, at0 l k = v := ⟨_, rfl⟩
          have HRK : Hid (at0 l k = r) := hr
          have HRS : Hid (0 ≤ r.s ∧ r.s ≤ 1000000 ∧ 0 ≤ r.a.lo ∧ r.a.lo ≤ r.a.hi ∧ r.a.hi ≤ 10000000) := by
            have h := rmB_no.1 (HOK.out.2.2.1 k hkl)
            rw [hr] at h
            show _ ∧ _
            omega
          rw [hr] at e1 e2
          obtain ⟨ta, hta⟩ : ∃ v, at0 am k = v := ⟨_, rfl⟩
          obtain ⟨ra, hra⟩ : ∃ v, plc r.a ta = v := ⟨_, rfl⟩
          have hrb := plc_in (r := r.a) (b := ta) HRS.out.2.2.2.1
          rw [hra] at hrb
          have hcb := (lf_bd HER.out (am := am) (hs := hs) (ns := ns) (SP := SP) HC0.out (k := k) (by omega)).1
          obtain ⟨ck, hck⟩ : ∃ v, lfC c0 l am k = v := ⟨_, rfl⟩
          have HCN : Hid (lfC c0 l am (k + 1) = ck - ra) := by
            show lfC c0 l am k - plc (at0 l k).a (at0 am k) = _
            rw [hr, hta, hra, hck]
          rw [hck] at hcb ⊢
          have kc : IntKind.i64.wrap (ck - ra) = ck - ra := IntWalk.i64_in _ (by have := HRS.out; omega)
          have CP1 : Hid (∀ u, Calls Try.prog 43 #[.slice AA am.length ac, I (k : Int)] (ovr Y2 u) fun e w' => e = .returned (H16 ta) ∧ Below (ovr Y2 u).heap.size (ovr Y2 u) w') := fun u => by rw [← hta]; exact CPA.out _ _ k rfl (S8.out.below (ovr_below Y2 u)).1
          have CL1 : Hid (∀ V, Calls Try.prog 42 #[.agg #[I r.a.lo, I r.a.hi], H16 ta] V fun e w' => e = .returned (I ra) ∧ Below V.heap.size V w') := fun V => by rw [← hra]; exact place_any r.a ta V (by rw [← hta]; exact HI.out.2.2.1 k)
          have g2 : Y2.cell? ⟨w.heap.size + 1, 2, none⟩ = some (.slice AA am.length ac) := (cell_of_row _ _ _ _ _ _ S8.out.tail.hd).trans rfl
          subst hLA
          go_upto_region 16 with fail
          have v1 := ovr_cell e1
          have v2 := ovr_cell e2
          have v3 := ovr_cell g2
          clear e0 e1 e2 e3 hr hta hra hrb hcb hck g2 hk
          refine Gg.wp_region_make (fun j => if j = 9 then some (fun u _ => u = H16 ta) else if j = 10 then some (fun u _ => u = I ra) else none) (by kernel_rfl) (by kernel_rfl) (by kernel_rfl) ?_
          repeat (first | (refine Gg.wpG_one rfl rfl rfl ?_; intro K hK; go_big_quiet_op; go_big_quiet_on) | (refine Gg.wpG_skip rfl ?_; simp only [Act.put, List.setIfInBounds_toArray, List.set_cons_zero, List.set_cons_succ]))
          refine Gg.wpG_make (fun u _ => u = H16 ta) rfl rfl (fun w' hw' hk => ?_) (fun u hu => ?_)
          · obtain ⟨z, rfl⟩ := hw'
            go_simp
            exact call_grow (CP1.out z)
          obtain ⟨_, _, rfl⟩ := hu
          simp only [Act.put, List.setIfInBounds_toArray, List.set_cons_zero, List.set_cons_succ]
          repeat (first | (refine Gg.wpG_one rfl rfl rfl ?_; intro K hK; go_big_quiet_op; go_big_quiet_on) | (refine Gg.wpG_skip rfl ?_; simp only [Act.put, List.setIfInBounds_toArray, List.set_cons_zero, List.set_cons_succ]))
          refine Gg.wpG_make (fun u _ => u = I ra) rfl rfl (fun w' hw' hk => ?_) (fun u hu => ?_)
          · go_simp
            exact call_grow (CL1.out w')
          obtain ⟨_, _, rfl⟩ := hu
          simp only [Act.put, List.setIfInBounds_toArray, List.set_cons_zero, List.set_cons_succ]
          repeat (first | (refine Gg.wpG_one rfl rfl rfl ?_; intro K hK; go_big_quiet_op; go_big_quiet_on) | (refine Gg.wpG_skip rfl ?_; simp only [Act.put, List.setIfInBounds_toArray, List.set_cons_zero, List.set_cons_succ]))
          refine Gg.wpG_nil (fun w5 hw5 hG => ?_)
          have hle : Below Y2.heap.size Y2 w5 := hw5.le
          have HB0 := Lib.hid (HBX.out.trans (hle.mono HBX.out.size))
          have HR0 := Lib.hid (HROW.out.below hle)
          clear hG hw5 hle v1 v2 v3 HBX HROW S8
          go_wp2_with fail
          go_loopw [13] (fun iv wr => ∃ i : Nat, i ≤ x.s.length ∧ iv = .int .i64 i ∧ Below X.heap.size X wr ∧ Row1 g 3 x.s.length (fun j => if j < i then lfZ x hs l ns SP (k + 1) j else lfZ x hs l ns SP k j) wr) (fun iv _ => x.s.length - (intOf iv).toNat)
          case atStart => exact ⟨0, Nat.zero_le _, rfl, HB0.out, HR0.out.cong fun j _ => if_neg (by omega)⟩
          case round =>
            obtain ⟨i, hi, rfl, hbx, hrow⟩ := hrel
            rename World => Y
            have HBX := Lib.hid hbx
            have HROW := Lib.hid hrow
            have S9 := Lib.hid (S6.out.below hbx)
            clear hbx hrow HB0 HR0
            by_cases hlt : i < x.s.length
            case neg =>
              obtain rfl : i = x.s.length := by omega
              have kj : decide ((x.s.length : Int) < (x.s.length : Int)) = false := decide_eq_false (by omega)
              have HRN : Hid (Row1 g 3 x.s.length (lfZ x hs l ns SP (k + 1)) Y) := HROW.out.cong fun j hj => (if_pos hj).symm
              clear hlt hi HROW
              go_wp2_with fail
              go_roundw
              case rel => exact ⟨k + 1, HKL.out, by go_num, by rw [HCN.out], HBX.out, HRN.out⟩
              case measure => have := HKL.out; simp [intOf]; omega
            have kj : decide ((i : Int) < (x.s.length : Int)) = true := decide_eq_true (by omega)
            have i36 : i ≤ 36 := by have := HC.out; omega
            have HFI0 : Hid ((fun j => if j < i then lfZ x hs l ns SP (k + 1) j else lfZ x hs l ns SP k j) i = lfZ x hs l ns SP k i) := if_neg (by omega)
            obtain ⟨zi, hzi⟩ : ∃ v, lfZ x hs l ns SP k i = v := ⟨_, rfl⟩
            have HZI : Hid (lfZ x hs l ns SP k i = zi) := hzi
            have HFI : Hid ((fun j => if j < i then lfZ x hs l ns SP (k + 1) j else lfZ x hs l ns SP k j) i = zi) := HFI0.out.trans hzi
            clear hzi HFI0 hi
            have g3 : Y.cell? ⟨w.heap.size + 1, 3, none⟩ = some (.slice SA ns sc) := (cell_of_row _ _ _ _ _ _ S9.out.tail.hd).trans rfl
            by_cases hkn : k < ns
            case neg =>
              as_aux_lemma =>
                have d1 : decide ((k : Int) < (ns : Int)) = false := decide_eq_false (by omega)
                have d2 : decide (k < ns) = false := decide_eq_false hkn
                obtain ⟨bv, hbv⟩ : ∃ b : Int, b = 0 := ⟨0, rfl⟩
                have HLB : Hid (lfB ns SP k i = bv) := by show (if k < ns then _ else _) = _; rw [if_neg hkn, hbv]
                have HBV : Hid (0 ≤ bv ∧ bv ≤ 65535) := by show _ ∧ _; omega
                clear hkn
                go_upto_region 23 with fail
                rw [show (Value.int IntKind.u16 0 : Value) = H16 bv by rw [hbv]]
                clear hbv g3 d1 d2
                obtain ⟨pz, hpz⟩ : ∃ v, plc ⟨-r.s, r.s⟩ bv = v := ⟨_, rfl⟩
                have CZ9 : Hid (∀ V, Calls Try.prog 42 #[.agg #[I (-r.s), I r.s], H16 bv] V fun e w' => e = .returned (I pz) ∧ Below V.heap.size V w') := fun V => by rw [← hpz]; exact place_any ⟨-r.s, r.s⟩ bv V HBV.out
                have hzn := (lf_bd HER.out (am := am) (hs := hs) (ns := ns) (SP := SP) HC0.out (k := k + 1) (by omega)).2 i hlt
                have hzE : lfZ x hs l ns SP (k + 1) i = zi - pz := by
                  show lfZ x hs l ns SP k i - plc ⟨-(at0 l k).s, (at0 l k).s⟩ (lfB ns SP k i) = _
                  rw [HZI.out, HRK.out, HLB.out, hpz]
                rw [hzE] at hzn
                have kx : IntKind.i64.wrap (zi - pz) = zi - pz := IntWalk.i64_in _ (by omega)
                have ks : wrap64 (-r.s) = -r.s := by have := HRS.out; unfold wrap64; omega
                have HZE := Lib.hid hzE
                clear hpz hzn hzE
                have c1 : Y.cell? ⟨g, i, none⟩ = some (I zi) := (HROW.out.cell (k := i) hlt).trans (congrArg (fun q => some (I q)) HFI.out)
                obtain ⟨lb', lo', hlo, _, _, _, _, e3⟩ := rd_rmv (HRL.out Y (HBX.out)) HKL.out
                obtain ⟨rfl, rfl⟩ : lb = lb' ∧ lo = lo' := by
                  injection hlo with hlo
                  injection hlo with h1 h2
                  exact ⟨h1, h2⟩
                rw [HRK.out] at e3
                have v1 := ovr_cell c1
                have v2 := ovr_cell e3
                have kin : i < x.s.length := hlt
                have kil : k < l.length := HKL.out
                clear c1 e3 hlo
                refine wp_region_seq2 19 (fun j => if j = 17 then some (fun u _ => u = I pz) else none) (by kernel_rfl) (by kernel_rfl) (by kernel_rfl) (by kernel_rfl) (by kernel_rfl) ?_
                simp only [List.take_succ_cons, List.take_zero, List.drop_succ_cons, List.drop_zero]
                repeat (first | (refine wpG_one rfl rfl rfl ?_; intro K hK; go_big_quiet_op; go_big_quiet_on) | (refine wpG_skip rfl ?_; simp only [Act.put, List.setIfInBounds_toArray, List.set_cons_zero, List.set_cons_succ]))
                refine wpG_make (fun u _ => u = I pz) rfl rfl (fun w' hw' hk => ?_) (fun u hu => ?_)
                · go_simp
                  exact call_grow (CZ9.out w')
                obtain ⟨_, _, rfl⟩ := hu
                simp only [Act.put, List.setIfInBounds_toArray, List.set_cons_zero, List.set_cons_succ]
                repeat (first | (refine wpG_one rfl rfl rfl ?_; intro K hK; go_big_quiet_op; go_big_quiet_on) | (refine wpG_skip rfl ?_; simp only [Act.put, List.setIfInBounds_toArray, List.set_cons_zero, List.set_cons_succ]))
                refine wpG_nil (fun w5 hw5 hG => ?_)
                have hle : Below Y.heap.size Y w5 := hw5.le
                have HB5 := Lib.hid (HBX.out.trans (hle.mono HBX.out.size))
                have HR5 := Lib.hid (HROW.out.below hle)
                have g0 : w5.cell? ⟨g, i, none⟩ = some (I zi) := (HR5.out.cell (k := i) hlt).trans (congrArg (fun q => some (I q)) HFI.out)
                have g1 := HR5.out.frozen i
                clear hG hw5 hle v1 v2
                refine wpTailIn_cons Wd.wide (by intro c h; cases h) ?_
                unfold Oper.wp
                go_simp
                refine wpTailIn_cons Wd.wide (by intro c h; cases h) ?_
                unfold Oper.wp
                go_simp
                refine wpTailIn_nil ?_
                (try simp only [Act.put, List.setIfInBounds_toArray, List.set_cons_zero, List.set_cons_succ])
                have HR6 : Hid (Row1 g 3 x.s.length (fun j => if j < i + 1 then lfZ x hs l ns SP (k + 1) j else lfZ x hs l ns SP k j) (w5.setCell ⟨g, i, none⟩ (I (zi - pz)))) := by
                  have h := HR5.out.set (f' := fun j => if j < i + 1 then lfZ x hs l ns SP (k + 1) j else lfZ x hs l ns SP k j) (i := i) hlt (fun j hj hne => by
                    by_cases h1 : j < i
                    · simp only [if_pos h1, if_pos (show j < i + 1 by omega)]
                    · simp only [if_neg h1, if_neg (show ¬ j < i + 1 by omega)])
                  simp only [if_pos (Nat.lt_succ_self i)] at h
                  rw [HZE.out] at h
                  exact h
                have HB6 : Hid (Below X.heap.size X (w5.setCell ⟨g, i, none⟩ (I (zi - pz)))) := sc_below HB5.out HGX.out _ _
                have HLI := Lib.hid hlt
                clear g0 g1
                go_wp2_with fail
                go_roundw
                case rel => exact ⟨i + 1, HLI.out, by go_num, HB6.out, HR6.out⟩
                case measure => have := HLI.out; simp [intOf]; omega
            case pos =>
              as_aux_lemma =>
                have d1 : decide ((k : Int) < (ns : Int)) = true := decide_eq_true (by omega)
                have d2 : decide (k < ns) = true := decide_eq_true hkn
                obtain ⟨q4, hq4⟩ : ∃ q : Nat, i % 4 = q := ⟨_, rfl⟩
                have hq : q4 < 4 := by omega
                obtain ⟨sb, so, hSA, _, hsc⟩ := (HRD.out Y S9.out.1).2.2.2.2 (by omega)
                have f1 : Y.cell? ⟨sb, so + k * 4 + q4, none⟩ = some (H16 (SP k q4)) := hsc k hkn q4 hq
                rw [hSA] at g3
                obtain ⟨sv, hsv⟩ : ∃ v, SP k q4 = v := ⟨_, rfl⟩
                rw [hsv] at f1
                obtain ⟨bv, hbv⟩ : ∃ b : Int, (sv + (i : Int)) % 65536 = b := ⟨_, rfl⟩
                have HLB : Hid (lfB ns SP k i = bv) := by show (if k < ns then _ else _) = _; rw [if_pos hkn, hq4, hsv, hbv]
                have HBV : Hid (0 ≤ bv ∧ bv ≤ 65535) := by show _ ∧ _; omega
                have m1 : (i : Int).tmod 4 = (q4 : Int) := by rw [← hq4]; rfl
                have m2 : (i : Int) % 4 = (q4 : Int) := by omega
                have m3 : IntKind.i64.wrap (q4 : Int) = (q4 : Int) := IntWalk.i64_in _ (by omega)
                have m4 : IntKind.u16.wrap (i : Int) = (i : Int) := IntWalk.u16_in _ (by omega)
                have m5 : IntKind.u16.wrap (sv + (i : Int)) = bv := by rw [IntKind.wrap_u16]; exact hbv
                have m6 : decide ((q4 : Int) < 4) = true := decide_eq_true (by omega)
                have m7 : decide (q4 < 4) = true := decide_eq_true hq
                clear hq4 hSA hsc hsv hbv
                go_upto_region 23 with fail
                clear m1 m2 m3 m4 m5 m6 m7 f1 g3 d1 d2 hkn hq
                obtain ⟨pz, hpz⟩ : ∃ v, plc ⟨-r.s, r.s⟩ bv = v := ⟨_, rfl⟩
                have CZ9 : Hid (∀ V, Calls Try.prog 42 #[.agg #[I (-r.s), I r.s], H16 bv] V fun e w' => e = .returned (I pz) ∧ Below V.heap.size V w') := fun V => by rw [← hpz]; exact place_any ⟨-r.s, r.s⟩ bv V HBV.out
                have hzn := (lf_bd HER.out (am := am) (hs := hs) (ns := ns) (SP := SP) HC0.out (k := k + 1) (by omega)).2 i hlt
                have hzE : lfZ x hs l ns SP (k + 1) i = zi - pz := by
                  show lfZ x hs l ns SP k i - plc ⟨-(at0 l k).s, (at0 l k).s⟩ (lfB ns SP k i) = _
                  rw [HZI.out, HRK.out, HLB.out, hpz]
                rw [hzE] at hzn
                have kx : IntKind.i64.wrap (zi - pz) = zi - pz := IntWalk.i64_in _ (by omega)
                have ks : wrap64 (-r.s) = -r.s := by have := HRS.out; unfold wrap64; omega
                have HZE := Lib.hid hzE
                clear hpz hzn hzE
                have c1 : Y.cell? ⟨g, i, none⟩ = some (I zi) := (HROW.out.cell (k := i) hlt).trans (congrArg (fun q => some (I q)) HFI.out)
                obtain ⟨lb', lo', hlo, _, _, _, _, e3⟩ := rd_rmv (HRL.out Y (HBX.out)) HKL.out
                obtain ⟨rfl, rfl⟩ : lb = lb' ∧ lo = lo' := by
                  injection hlo with hlo
                  injection hlo with h1 h2
                  exact ⟨h1, h2⟩
                rw [HRK.out] at e3
                have v1 := ovr_cell c1
                have v2 := ovr_cell e3
                have kin : i < x.s.length := hlt
                have kil : k < l.length := HKL.out
                clear c1 e3 hlo
                refine wp_region_seq2 19 (fun j => if j = 17 then some (fun u _ => u = I pz) else none) (by kernel_rfl) (by kernel_rfl) (by kernel_rfl) (by kernel_rfl) (by kernel_rfl) ?_
                simp only [List.take_succ_cons, List.take_zero, List.drop_succ_cons, List.drop_zero]
                repeat (first | (refine wpG_one rfl rfl rfl ?_; intro K hK; go_big_quiet_op; go_big_quiet_on) | (refine wpG_skip rfl ?_; simp only [Act.put, List.setIfInBounds_toArray, List.set_cons_zero, List.set_cons_succ]))
                refine wpG_make (fun u _ => u = I pz) rfl rfl (fun w' hw' hk => ?_) (fun u hu => ?_)
                · go_simp
                  exact call_grow (CZ9.out w')
                obtain ⟨_, _, rfl⟩ := hu
                simp only [Act.put, List.setIfInBounds_toArray, List.set_cons_zero, List.set_cons_succ]
                repeat (first | (refine wpG_one rfl rfl rfl ?_; intro K hK; go_big_quiet_op; go_big_quiet_on) | (refine wpG_skip rfl ?_; simp only [Act.put, List.setIfInBounds_toArray, List.set_cons_zero, List.set_cons_succ]))
                refine wpG_nil (fun w5 hw5 hG => ?_)
                have hle : Below Y.heap.size Y w5 := hw5.le
                have HB5 := Lib.hid (HBX.out.trans (hle.mono HBX.out.size))
                have HR5 := Lib.hid (HROW.out.below hle)
                have g0 : w5.cell? ⟨g, i, none⟩ = some (I zi) := (HR5.out.cell (k := i) hlt).trans (congrArg (fun q => some (I q)) HFI.out)
                have g1 := HR5.out.frozen i
                clear hG hw5 hle v1 v2
                refine wpTailIn_cons Wd.wide (by intro c h; cases h) ?_
                unfold Oper.wp
                go_simp
                refine wpTailIn_cons Wd.wide (by intro c h; cases h) ?_
                unfold Oper.wp
                go_simp
                refine wpTailIn_nil ?_
                (try simp only [Act.put, List.setIfInBounds_toArray, List.set_cons_zero, List.set_cons_succ])
                have HR6 : Hid (Row1 g 3 x.s.length (fun j => if j < i + 1 then lfZ x hs l ns SP (k + 1) j else lfZ x hs l ns SP k j) (w5.setCell ⟨g, i, none⟩ (I (zi - pz)))) := by
                  have h := HR5.out.set (f' := fun j => if j < i + 1 then lfZ x hs l ns SP (k + 1) j else lfZ x hs l ns SP k j) (i := i) hlt (fun j hj hne => by
                    by_cases h1 : j < i
                    · simp only [if_pos h1, if_pos (show j < i + 1 by omega)]
                    · simp only [if_neg h1, if_neg (show ¬ j < i + 1 by omega)])
                  simp only [if_pos (Nat.lt_succ_self i)] at h
                  rw [HZE.out] at h
                  exact h
                have HB6 : Hid (Below X.heap.size X (w5.setCell ⟨g, i, none⟩ (I (zi - pz)))) := sc_below HB5.out HGX.out _ _
                have HLI := Lib.hid hlt
                clear g0 g1
                go_wp2_with fail
                go_roundw
                case rel => exact ⟨i + 1, HLI.out, by go_num, HB6.out, HR6.out⟩
                case measure => have := HLI.out; simp [intOf]; omega
      obtain rfl : k = l.length := by omega
      have ki : decide ((l.length : Int) < (l.length : Int)) = false := decide_eq_false (by omega)
      clear hkl hk
      obtain ⟨zf, hzf⟩ : ∃ z, lfZ x hs l ns SP l.length = z := ⟨_, rfl⟩
      obtain ⟨cf, hcf⟩ : ∃ z, lfC c0 l am l.length = z := ⟨_, rfl⟩
      have HCF : Hid (y.c.lo ≤ cf ∧ cf ≤ y.c.hi) := by
        show _ ∧ _
        rw [HYX.out.2.2.2, ← hcf]
        exact lfC_in HER.out HC0.out _ (Nat.le_refl _)
      have HZF : Hid (∀ i, i < x.s.length → (at0 y.s i).lo ≤ zf i ∧ zf i ≤ (at0 y.s i).hi) := fun i hi => by
        have h := rm_site HER.out hi
        rw [HY.out] at h
        rw [h, ← hzf]
        exact lfZ_in HER.out hi _ (Nat.le_refl _)
      have HFB : Hid ((0 ≤ cf ∧ cf ≤ 10000000) ∧ ∀ i, i < x.s.length → -1000000 ≤ zf i ∧ zf i ≤ 1000000) := by
        have h := lf_bd HER.out (am := am) (hs := hs) (ns := ns) (SP := SP) HC0.out (k := l.length) (Nat.le_refl _)
        rw [hcf, hzf] at h
        exact h
      rw [hzf] at HROW
      rw [hcf]
      have HRYY : Hid ((y.s.length ≤ cy ∧ cy ≤ maxLen) ∧ Rd Y2 Y2.heap.size 2 SY y.s.length (rR y.s)) := Lib.hid (And.intro HRX.out.1 ((HRX.out.2.below HBX.out).more HBX.out.size))
      obtain ⟨vl, vh, va, vb, hva⟩ : ∃ vl vh va vb, va9 y = ⟨vl, vh, va, vb⟩ := ⟨_, _, _, _, rfl⟩
      have HVE : Hid (va9 y = ⟨vl, vh, va, vb⟩ ∧ vaE y = 0) := ⟨hva, by unfold vaE; rw [HYO.out]; rfl⟩
      obtain ⟨tl, th, hth⟩ : ∃ tl th, th9 y = ⟨tl, th⟩ := ⟨_, _, rfl⟩
      have HTE : Hid (thF y = (⟨tl, th⟩, 0)) := by show _ = _; unfold thF; rw [if_pos HYO.out, hth]
      have HTT : Hid (∀ i, i < x.s.length → tl ≤ cf + zf i ∧ cf + zf i ≤ th) := fun i hi => by
        have h := th_true (y := y) (c := cf) (z := zf i) (i := i) (by rw [HYX.out.1]; exact hi) HCF.out (HZF.out i hi)
        rw [hth] at h
        exact h
      have HVT : Hid (vl ≤ tpK zf x.s.length - btK zf x.s.length ∧ tpK zf x.s.length - btK zf x.s.length ≤ vh) := by
        have h := va_true HYO.out (z := zf) (fun i hi => HZF.out i (by rw [← HYX.out.1]; exact hi))
        rw [hva, HYX.out.1] at h
        exact h
      obtain ⟨ia, ib, hia, hib, hne, hvh, hea, heb⟩ := (va_t HYO.out).whi
      rw [hva] at hvh hea heb
      replace hea : va = (ia : Int) := hea
      replace heb : vb = (ib : Int) := heb
      replace hvh : vh = (at0 y.s ia).hi - (at0 y.s ib).lo := hvh
      subst hea heb
      have HIA : Hid (ia < y.s.length ∧ ib < y.s.length ∧ ia ≠ ib ∧ vh = (at0 y.s ia).hi - (at0 y.s ib).lo) := ⟨hia, hib, hne, hvh⟩
      have HS4 : Hid (y.s.length ≤ 1000) := by show _ ≤ _; rw [HYX.out.1]; have := HC.out; omega
      clear hzf hcf hva hth hia hib hne hvh HRX
      go_upto_region 24 with fail
      clear ki
      have CO := Lib.hid (ownSheet_any y SY cy Y2 Y2.heap.size HS4.out (Nat.le_refl _) HRYY.out.2)
      go_wp2_with (with_reducible show wpList _ _ _ _ _ _; refine wpList_load_row9 rfl 37 _ rfl PY rfl (shA y SY cy) _ _ _ S8.out.hd Try.underlying37 rfl (by kernel_rfl) ?_)
      refine CO.out.mono ?_
      rintro e wa ⟨Aa, ca, rfl, hca, hra, hb⟩
      have Sa := Lib.hid (S8.out.below hb)
      have CTA := Lib.hid (thickness_any y Aa ca wa wa.heap.size hca (Nat.le_refl _) hra)
      rw [HTE.out] at CTA
      have HRa := Lib.hid (HROW.out.below hb)
      have HYa := Lib.hid ((HRYY.out.2.below hb).more hb.size)
      clear hca hra hb S8 CO HROW HRYY
      go_wp2_with fail
      refine CTA.out.mono ?_
      rintro e wb ⟨rfl, hb⟩
      have Sb := Lib.hid (Sa.out.below hb)
      have HRb := Lib.hid (HRa.out.below hb)
      have HYb := Lib.hid ((HYa.out.below hb).more hb.size)
      clear hb Sa CTA HRa HYa
      go_upto_region 25 with (with_reducible show wpList _ _ _ _ _ _; refine wpList_store_row rfl 24 _ _ rfl wb.heap.size rfl _ _ (heap_last _ _ _ rfl) #[I tl, I th] rfl (one2 rfl rfl) rfl (by kernel_rfl) ?_)
      have Sc := Lib.hid (Sb.out.put #[I 0, I 0] #[I tl, I th] 24)
      have hpb := put_bel wb #[I 0, I 0] #[I tl, I th] 24
      have HRc := Lib.hid (HRb.out.below hpb)
      have HYc := Lib.hid ((HYb.out.below hpb).more hpb.size)
      obtain ⟨bt, hbt⟩ : ∃ q, q = wb.heap.size := ⟨_, rfl⟩
      refine name_w fun W7 hW7 => ?_
      rw [← hW7] at Sc HRc HYc
      rw [← hbt] at Sc ⊢
      clear hW7 hbt Sb HRb HYb hpb
      have CO := Lib.hid (ownSheet_any y SY cy W7 W7.heap.size HS4.out (Nat.le_refl _) HYc.out)
      go_wp2_with (with_reducible show wpList _ _ _ _ _ _; refine wpList_load_row9 rfl 37 _ rfl PY rfl (shA y SY cy) _ _ _ Sc.out.tail.hd Try.underlying37 rfl (by kernel_rfl) ?_)
      refine CO.out.mono ?_
      rintro e wa ⟨Aa, ca, rfl, hca, hra, hb⟩
      have Sd := Lib.hid (Sc.out.below hb)
      have CVA := Lib.hid (variation_any y Aa ca wa wa.heap.size (Nat.le_refl _) hra)
      rw [HVE.out.1, HVE.out.2] at CVA
      have HRd := Lib.hid (HRc.out.below hb)
      have HYd := Lib.hid ((HYc.out.below hb).more hb.size)
      clear hca hra hb Sc CO HRc HYc
      go_wp2_with fail
      refine CVA.out.mono ?_
      rintro e wb ⟨rfl, hb⟩
      have Se := Lib.hid (Sd.out.below hb)
      have HRe := Lib.hid (HRd.out.below hb)
      have HYe := Lib.hid ((HYd.out.below hb).more hb.size)
      clear hb Sd CVA HRd HYd
      go_upto_region 26 with (with_reducible show wpList _ _ _ _ _ _; refine wpList_store_row rfl 24 _ _ rfl wb.heap.size rfl _ _ (heap_last _ _ _ rfl) #[I vl, I vh] rfl (one2 rfl rfl) rfl (by kernel_rfl) ?_)
      have Sf := Lib.hid (Se.out.put #[I 0, I 0] #[I vl, I vh] 24)
      have hpb := put_bel wb #[I 0, I 0] #[I vl, I vh] 24
      have HRf := Lib.hid (HRe.out.below hpb)
      have HYf := Lib.hid ((HYe.out.below hpb).more hpb.size)
      obtain ⟨bw, hbw⟩ : ∃ q, q = wb.heap.size := ⟨_, rfl⟩
      refine name_w fun W9 hW9 => ?_
      rw [← hW9] at Sf HRf HYf
      rw [← hbw] at Sf ⊢
      clear hW9 hbw Se HRe HYe hpb
      have CH1 : Hid (∀ V, Calls Try.prog 44 #[.agg #[I y.c.lo, I y.c.hi], I cf] V fun e w' => e = .returned (.bool true) ∧ Below V.heap.size V w') := fun V => by
        have h := has9_any ⟨y.c.lo, y.c.hi⟩ cf V
        rw [hasB_iff.2 HCF.out] at h
        exact h
      have r2 := Sf.out.nth 2 rfl
      have f2 : ∀ u, (ovr W9 u).cell? ⟨PY, 2, none⟩ = some (I y.c.lo) := cell_row9 r2 (j := 2) rfl
      have f3 : ∀ u, (ovr W9 u).cell? ⟨PY, 3, none⟩ = some (I y.c.hi) := cell_row9 r2 (j := 3) rfl
      have f4 : ∀ u, (ovr W9 u).cell? ⟨PY, 4, none⟩ = some (.slice SY y.s.length cy) := cell_row9 r2 (j := 4) rfl
      have f5 : ∀ u, (ovr W9 u).cell? ⟨bw, 1, none⟩ = some (I vh) := cell_row9 Sf.out.hd (j := 1) rfl
      have hia := HIA.out.1
      have hib := HIA.out.2.1
      obtain ⟨sb, so, hSY, _, _, e1⟩ := HYf.out.rng hia
      obtain ⟨sb', so', hSY', _, e0, _⟩ := HYf.out.rng hib
      obtain ⟨rfl, rfl⟩ : sb = sb' ∧ so = so' := by
        rw [hSY] at hSY'
        injection hSY' with h
        injection h with h1 h2
        exact ⟨h1, h2⟩
      rw [hSY] at f4
      obtain ⟨ya, hya⟩ : ∃ v, at0 y.s ia = v := ⟨_, rfl⟩
      obtain ⟨yb, hyb⟩ : ∃ v, at0 y.s ib = v := ⟨_, rfl⟩
      have yab := all9_at (okSh_iff.1 HYO.out).2.2.2.1 hia
      have ybb := all9_at (okSh_iff.1 HYO.out).2.2.2.1 hib
      rw [hya] at e1 yab
      rw [hyb] at e0 ybb
      have kx : IntKind.i64.wrap (ya.hi - yb.lo) = vh := by
        rw [HIA.out.2.2.2, hya, hyb]
        exact IntWalk.i64_in _ (by omega)
      have v1 := ovr_cell e1
      have v2 := ovr_cell e0
      have hiax : ia < x.s.length := by rw [← HYX.out.1]; exact hia
      have hibx : ib < x.s.length := by rw [← HYX.out.1]; exact hib
      have d1 : decide ((ia : Int) < 0) = false := decide_eq_false (by omega)
      have d2 : decide ((ib : Int) < 0) = false := decide_eq_false (by omega)
      have d3 : decide ((x.s.length : Int) ≤ (ia : Int)) = false := decide_eq_false (by omega)
      have d4 : decide ((x.s.length : Int) ≤ (ib : Int)) = false := decide_eq_false (by omega)
      have d5 : decide (x.s.length ≤ ia) = false := decide_eq_false (by omega)
      have d6 : decide (x.s.length ≤ ib) = false := decide_eq_false (by omega)
      have d7 : ((ia : Int) == (ib : Int)) = false := by rw [beq_eq_false_iff_ne]; have := HIA.out.2.2.1; omega
      have d8 : (vh != vh) = false := bne_self_eq_false _
      have d9 : (ia == ib) = false := by rw [beq_eq_false_iff_ne]; exact HIA.out.2.2.1
      have q0 : ((0 : Int) != 0) = false := rfl
      clear r2 hSY hSY' hya hyb yab ybb e0 e1
      refine Gg.wp_region_make (fun j => if j = 10 then some (fun u _ => u = .bool true) else none) (by kernel_rfl) (by kernel_rfl) (by kernel_rfl) ?_
      repeat (first | (refine Gg.wpG_one rfl rfl rfl ?_; intro K hK; go_big_quiet_op; go_big_quiet_on) | (refine Gg.wpG_skip rfl ?_; simp only [Act.put, List.setIfInBounds_toArray, List.set_cons_zero, List.set_cons_succ]))
      refine Gg.wpG_make (fun u _ => u = .bool true) rfl rfl (fun w' hw' hk => ?_) (fun u hu => ?_)
      · go_simp
        exact call_grow (CH1.out w')
      obtain ⟨_, _, rfl⟩ := hu
      simp only [Act.put, List.setIfInBounds_toArray, List.set_cons_zero, List.set_cons_succ]
      repeat (first | (refine Gg.wpG_one rfl rfl rfl ?_; intro K hK; go_big_quiet_op; go_big_quiet_on) | (refine Gg.wpG_skip rfl ?_; simp only [Act.put, List.setIfInBounds_toArray, List.set_cons_zero, List.set_cons_succ]))
      refine Gg.wpG_nil (fun w5 hw5 hG => ?_)
      have hle : Below W9.heap.size W9 w5 := hw5.le
      have S1 := Lib.hid (Sf.out.below hle)
      have HR1 := Lib.hid (HRf.out.below hle)
      have HY1 := Lib.hid ((HYf.out.below hle).more hle.size)
      clear hG hw5 hle Sf HRf HYf f2 f3 f4 f5 v1 v2 d1 d2 d3 d4 d5 d6 d7 d8 d9 kx hiax hibx hia hib q0 CH1
      rename World => W10
      go_upto_region 28 with fail
      have h0 : 0 < x.s.length := by have := HL4.out; omega
      have v1 := ovr_cell (HR1.out.cell h0)
      refine Gg.wp_region_make (fun _ => none) (by kernel_rfl) (by kernel_rfl) (by kernel_rfl) ?_
      repeat (first | (refine Gg.wpG_one rfl rfl rfl ?_; intro K hK; go_big_quiet_op; go_big_quiet_on) | (refine Gg.wpG_skip rfl ?_; simp only [Act.put, List.setIfInBounds_toArray, List.set_cons_zero, List.set_cons_succ]))
      refine Gg.wpG_nil (fun w5 hw5 hG => ?_)
      have hle : Below W10.heap.size W10 w5 := hw5.le
      have S2 := Lib.hid (S1.out.below hle)
      have HR2 := Lib.hid (HR1.out.below hle)
      have HY2 := Lib.hid ((HY1.out.below hle).more hle.size)
      clear hG hw5 hle v1 S1 HR1 HY1
      rename World => W11
      go_wp2_with fail
      go_loopw [22, 20, 21] (fun iv tv bv wr => ∃ i : Nat, i ≤ x.s.length ∧ iv = .int .i64 i ∧ tv = I (tpK zf i) ∧ bv = I (btK zf i) ∧ Below W11.heap.size W11 wr) (fun iv _ _ _ => x.s.length - (intOf iv).toNat)
      case atStart => exact ⟨0, Nat.zero_le _, rfl, rfl, rfl, Below.refl _ _⟩
      case round =>
        obtain ⟨i, hi, rfl, rfl, rfl, hbz⟩ := hrel
        rename World => Z
        have HBZ := Lib.hid hbz
        have S3 := Lib.hid (S2.out.below hbz)
        have HR3 := Lib.hid (HR2.out.below hbz)
        have HY3 := Lib.hid ((HY2.out.below hbz).more hbz.size)
        clear hbz h0
        by_cases hlt : i < x.s.length
        case neg =>
          as_aux_lemma =>
            obtain rfl : i = x.s.length := by omega
            have ki : decide ((x.s.length : Int) < (x.s.length : Int)) = false := decide_eq_false (by omega)
            obtain ⟨tp, htp⟩ : ∃ v, tpK zf x.s.length = v := ⟨_, rfl⟩
            obtain ⟨btt, hbtt⟩ : ∃ v, btK zf x.s.length = v := ⟨_, rfl⟩
            have hv := HVT.out
            obtain ⟨a, ha, ea⟩ := tpK_at zf x.s.length (by have := HL4.out; omega)
            obtain ⟨b, hb, eb⟩ := btK_at zf x.s.length (by have := HL4.out; omega)
            have fa := HFB.out.2 a ha
            have fb := HFB.out.2 b hb
            rw [htp] at hv ea ⊢
            rw [hbtt] at hv eb ⊢
            have kx : IntKind.i64.wrap (tp - btt) = tp - btt := IntWalk.i64_in _ (by omega)
            have CH : Hid (∀ V, Calls Try.prog 44 #[.agg #[I vl, I vh], I (tp - btt)] V fun e w' => e = .returned (.bool true) ∧ Below V.heap.size V w') := fun V => by
              have h := has9_any ⟨vl, vh⟩ (tp - btt) V
              rw [hasB_iff.2 hv] at h
              exact h
            have a3 : Z.cell? ⟨bw, 0, none⟩ = some (I vl) := (cell_of_row _ _ _ _ _ _ S3.out.hd).trans rfl
            have a4 : Z.cell? ⟨bw, 1, none⟩ = some (I vh) := (cell_of_row _ _ _ _ _ _ S3.out.hd).trans rfl
            clear htp hbtt hv ha hb ea eb fa fb hi hlt
            go_wp2_with fail
            refine (CH.out _).mono ?_
            rintro e w9 ⟨rfl, hb⟩
            have S9 := Lib.hid (S3.out.below hb)
            clear hb a3 a4
            go_wp2_with fail
            refine (KN.out _).mono ?_
            rintro e wk ⟨rfl, hb⟩
            have SK := Lib.hid (S9.out.below hb)
            clear hb
            go_wp2_with fail
            go_ret
            exact ⟨rfl, SK.out.1⟩
        have HLT := Lib.hid hlt
        have ki : decide ((i : Int) < (x.s.length : Int)) = true := decide_eq_true (by omega)
        have kin : i < x.s.length := hlt
        have i36 : i ≤ 36 := by have := HC.out; omega
        have kiy : i < y.s.length := by rw [HYX.out.1]; exact hlt
        have r2 := S3.out.nth 2 rfl
        have f4 : ∀ u, (ovr Z u).cell? ⟨PY, 4, none⟩ = some (.slice SY y.s.length cy) := cell_row9 r2 (j := 4) rfl
        have f6 : ∀ u, (ovr Z u).cell? ⟨bt, 0, none⟩ = some (I tl) := cell_row9 (S3.out.nth 1 rfl) (j := 0) rfl
        have f7 : ∀ u, (ovr Z u).cell? ⟨bt, 1, none⟩ = some (I th) := cell_row9 (S3.out.nth 1 rfl) (j := 1) rfl
        obtain ⟨sb, so, hSY, _, e0, e1⟩ := HY3.out.rng kiy
        rw [hSY] at f4
        have hzy := HZF.out i hlt
        have hzt := HTT.out i hlt
        have hzb := HFB.out.2 i hlt
        have hcb := HFB.out.1
        have c1 := HR3.out.cell hlt
        have htn : tpK zf (i + 1) = max (tpK zf i) (zf i) := rfl
        have hbn : btK zf (i + 1) = min (btK zf i) (zf i) := rfl
        obtain ⟨zi, hzi⟩ : ∃ v, zf i = v := ⟨_, rfl⟩
        obtain ⟨yi, hyi⟩ : ∃ v, at0 y.s i = v := ⟨_, rfl⟩
        obtain ⟨ti, hti⟩ : ∃ v, tpK zf i = v := ⟨_, rfl⟩
        obtain ⟨bi, hbi⟩ : ∃ v, btK zf i = v := ⟨_, rfl⟩
        rw [hzi] at hzy hzt hzb c1 htn hbn
        rw [hyi] at hzy e0 e1
        rw [hti] at htn ⊢
        rw [hbi] at hbn ⊢
        have HTN := Lib.hid htn
        have HBN := Lib.hid hbn
        have kx : IntKind.i64.wrap (cf + zi) = cf + zi := IntWalk.i64_in _ (by omega)
        have CHa : Hid (∀ V, Calls Try.prog 44 #[.agg #[I yi.lo, I yi.hi], I zi] V fun e w' => e = .returned (.bool true) ∧ Below V.heap.size V w') := fun V => by
          have h := has9_any ⟨yi.lo, yi.hi⟩ zi V
          rw [hasB_iff.2 hzy] at h
          exact h
        have CHb : Hid (∀ V, Calls Try.prog 44 #[.agg #[I tl, I th], I (cf + zi)] V fun e w' => e = .returned (.bool true) ∧ Below V.heap.size V w') := fun V => by
          have h := has9_any ⟨tl, th⟩ (cf + zi) V
          rw [hasB_iff.2 hzt] at h
          exact h
        have v1 := ovr_cell e0
        have v2 := ovr_cell e1
        have v3 := ovr_cell c1
        clear e0 e1 c1 hSY hzy hzt hzb hcb htn hbn hzi hyi hti hbi r2 hi hlt
        go_upto_region 32 with fail
        refine Gg.wp_region_make (fun j => if j = 9 then some (fun u _ => u = .bool true) else if j = 19 then some (fun u _ => u = .bool true) else none) (by kernel_rfl) (by kernel_rfl) (by kernel_rfl) ?_
        repeat (first | (refine Gg.wpG_one rfl rfl rfl ?_; intro K hK; go_big_quiet_op; go_big_quiet_on) | (refine Gg.wpG_skip rfl ?_; simp only [Act.put, List.setIfInBounds_toArray, List.set_cons_zero, List.set_cons_succ]))
        refine Gg.wpG_make (fun u _ => u = .bool true) rfl rfl (fun w' hw' hk => ?_) (fun u hu => ?_)
        · go_simp
          exact call_grow (CHa.out w')
        obtain ⟨_, _, rfl⟩ := hu
        simp only [Act.put, List.setIfInBounds_toArray, List.set_cons_zero, List.set_cons_succ]
        repeat (first | (refine Gg.wpG_one rfl rfl rfl ?_; intro K hK; go_big_quiet_op; go_big_quiet_on) | (refine Gg.wpG_skip rfl ?_; simp only [Act.put, List.setIfInBounds_toArray, List.set_cons_zero, List.set_cons_succ]))
        refine Gg.wpG_make (fun u _ => u = .bool true) rfl rfl (fun w' hw' hk => ?_) (fun u hu => ?_)
        · go_simp
          exact call_grow (CHb.out w')
        obtain ⟨_, _, rfl⟩ := hu
        simp only [Act.put, List.setIfInBounds_toArray, List.set_cons_zero, List.set_cons_succ]
        repeat (first | (refine Gg.wpG_one rfl rfl rfl ?_; intro K hK; go_big_quiet_op; go_big_quiet_on) | (refine Gg.wpG_skip rfl ?_; simp only [Act.put, List.setIfInBounds_toArray, List.set_cons_zero, List.set_cons_succ]))
        refine Gg.wpG_nil (fun w5 hw5 hG => ?_)
        have hle : Below Z.heap.size Z w5 := hw5.le
        have c1 : w5.cell? ⟨g, i, none⟩ = some (I zi) := by
          obtain ⟨u, hu⟩ : ∃ u, w5 = ovr Z u := ⟨w5, ovr_of hle⟩
          rw [hu]
          exact v3 u
        have HB4 := Lib.hid (HBZ.out.trans (hle.mono HBZ.out.size))
        clear hG hw5 hle v1 v2 v3 f4 f6 f7 kx CHa CHb S3 HR3 HY3 HBZ
        rename World => Z5
        go_upto_region 34 with fail
        have v3 := ovr_cell c1
        refine Gg.wp_region_make (fun _ => none) (by kernel_rfl) (by kernel_rfl) (by kernel_rfl) ?_
        repeat (first | (refine Gg.wpG_one rfl rfl rfl ?_; intro K hK; go_big_quiet_op; go_big_quiet_on) | (refine Gg.wpG_skip rfl ?_; simp only [Act.put, List.setIfInBounds_toArray, List.set_cons_zero, List.set_cons_succ]))
        refine Gg.wpG_nil (fun w5 hw5 hG => ?_)
        have HB5 := Lib.hid (HB4.out.trans ((show Below Z5.heap.size Z5 w5 from hw5.le).mono HB4.out.size))
        clear hG hw5 v3 c1 HB4
        go_wp2_with fail
        go_roundw
        case rel => exact ⟨i + 1, HLT.out, by go_num, by rw [HTN.out], by rw [HBN.out], HB5.out⟩
        case measure => have := HLT.out; simp [intOf]; omega
end Go.Proofs.Ytljjpidigckheaa.Un
