/- bouleref09.Gauges. -/
import Derived.Test.YtljjpidigckheaaSpn
import Derived.Test.YtljjpidigckheaaNd
namespace Go.Proofs.Ytljjpidigckheaa.Un
open Go.RowKit
set_option maxRecDepth 100000 in
set_option maxHeartbeats 4000000 in
theorem refGauges_any (l : List Gag) (A : Option Addr) (c : Nat) (w : World) (B : Nat) (hB : B ≤ w.heap.size) (hx : Rd w B 6 A l.length (rG l)) (hm : l.length ≤ 1000) :
    Calls Try.prog 20 #[.slice A l.length c] w fun e w' => e = .returned (.bool (okGag l)) ∧ Below w.heap.size w w' := by
  have HX : Hid (∀ V, Below w.heap.size w V → Rd V B 6 A l.length (rG l)) := fun V hV => hx.below (hV.mono hB)
  have HM := Lib.hid hm
  have HOKD : Hid (okGag l = (decide (l.length ≤ 30) && gagK l l.length)) := rfl
  clear hx hB hm
  go_enter Try.func20, Try.ntmps20
  go_wp2_with fail
  go_loopw [3] (fun iv wr => ∃ k : Nat, k ≤ l.length ∧ iv = .int .i64 k ∧ Below w.heap.size w wr ∧ gagK l k = true) (fun iv _ => l.length - (intOf iv).toNat)
  case atStart => exact ⟨0, Nat.zero_le _, rfl, Below.refl _ _, rfl⟩
  case round =>
    obtain ⟨k, hk, rfl, hb, hok⟩ := hrel
    rename World => Y
    have HOK := Lib.hid hok
    have HB := Lib.hid hb
    clear hok
    have hk1000 : k ≤ 1000 := by have := HM.out; omega
    by_cases hlt : k < l.length
    case neg =>
      obtain rfl : k = l.length := by omega
      rcases h30 : decide (l.length ≤ 30) with _ | _
      · have HF : Hid (okGag l = false) := by show _ = _; rw [HOKD.out, h30]; rfl
        have d1 : decide ((l.length : Int) ≤ 30) = false := decide_eq_false (by have := of_decide_eq_false h30; omega)
        clear h30 hb hk hlt
        go_wp2_with fail
        go_ret
        exact ⟨by rw [HF.out]; rfl, HB.out⟩
      · have HF : Hid (okGag l = true) := by show _ = _; rw [HOKD.out, h30, HOK.out]; rfl
        have d1 : decide ((l.length : Int) ≤ 30) = true := decide_eq_true (by have := of_decide_eq_true h30; omega)
        clear h30 hb hk hlt
        go_wp2_with fail
        go_ret
        exact ⟨by rw [HF.out]; rfl, HB.out⟩
    have HLT := Lib.hid hlt
    obtain ⟨b, o, rfl, _, e0, e1, e2, e3, e4, e5⟩ := rd_gag (HX.out _ hb) hlt
    have HBAD : Hid (gagB (at0 l k) k = false → okGag l = false) := fun h => by
      rw [HOKD.out]
      rcases hq : gagK l l.length with _ | _
      · rw [Bool.and_false]
      · have := gagK_iff.1 hq k HLT.out
        rw [h] at this
        cases this
    have HGD : Hid (gagB (at0 l k) k = true → gagK l (k + 1) = true) := fun h => by
      show (gagK l k && gagB (at0 l k) k) = true
      rw [HOK.out, h]
      rfl
    obtain ⟨g, hg⟩ : ∃ g, at0 l k = g := ⟨_, rfl⟩
    rw [hg] at e0 e1 e2 e3 e4 e5 HBAD HGD
    have ki : decide ((k : Int) < (l.length : Int)) = true := decide_eq_true (by omega)
    have kin : decide (k < l.length) = true := decide_eq_true hlt
    have HGB : Hid (gagB g k = (decide (-1 ≤ g.by_) && (decide (g.by_ < (k : Int)) && (spn9 g.f 1 2000000 && (spn9 g.o (-1000000) 1000000 && (decide (0 ≤ g.u) && decide (g.u ≤ 1000000))))))) := rfl
    clear hg hk hb
    go_upto_region 5 with (with_reducible show wpList _ _ _ _ _ _; refine wpList_store_row rfl 108 _ _ rfl Y.heap.size rfl _ _ (heap_last _ _ _ rfl) (gagA g) rfl (by simp [Value.oneCell']) rfl (by kernel_rfl) ?_)
    obtain ⟨q, hq⟩ : ∃ q, q = Y.heap.size := ⟨_, rfl⟩
    refine name_w fun X hX => ?_
    have HX2 : Hid (Below w.heap.size w X ∧ X.heap[q]? = some (.cells (gagA g) 108 (0, 0))) := by
      show _ ∧ _
      rw [hX, hq]
      exact ⟨HB.out.trans ((put_bel Y _ _ _).mono HB.out.size), setRow_same (heap_last _ _ _ rfl)⟩
    rw [← hq]
    clear hX hq e0 e1 e2 e3 e4 e5
    have f0 : ∀ u, (ovr X u).cell? ⟨q, 0, none⟩ = some (I g.by_) := cell_row9 HX2.out.2 (j := 0) rfl
    have f1 : ∀ u, (ovr X u).cell? ⟨q, 1, none⟩ = some (I g.f.lo) := cell_row9 HX2.out.2 (j := 1) rfl
    have f2 : ∀ u, (ovr X u).cell? ⟨q, 2, none⟩ = some (I g.f.hi) := cell_row9 HX2.out.2 (j := 2) rfl
    have f3 : ∀ u, (ovr X u).cell? ⟨q, 3, none⟩ = some (I g.o.lo) := cell_row9 HX2.out.2 (j := 3) rfl
    have f4 : ∀ u, (ovr X u).cell? ⟨q, 4, none⟩ = some (I g.o.hi) := cell_row9 HX2.out.2 (j := 4) rfl
    have f5 : ∀ u, (ovr X u).cell? ⟨q, 5, none⟩ = some (I g.u) := cell_row9 HX2.out.2 (j := 5) rfl
    have HBX : Hid (∀ u, Below w.heap.size w (ovr X u)) := fun u => HX2.out.1.trans ((ovr_below X u).mono HX2.out.1.size)
    have CF := Lib.hid fun V => span_any g.f 1 2000000 V
    have CO := Lib.hid fun V => span_any g.o (-1000000) 1000000 V
    obtain ⟨x0, hx0⟩ := ovr_self X
    rw [hx0]
    clear hx0
    by_cases c1 : -1 ≤ g.by_
    case neg =>
      have HF := Lib.hid (HBAD.out (by rw [HGB.out, decide_eq_false c1]; rfl))
      have d1 : decide (g.by_ < -1) = true := decide_eq_true (by omega)
      clear c1
      go_wp2_with fail
      go_ret
      exact ⟨by rw [HF.out]; rfl, HBX.out _⟩
    have d1 : decide (g.by_ < -1) = false := decide_eq_false (by omega)
    rw [decide_eq_true c1, Bool.true_and] at HGB
    clear c1
    by_cases c2 : g.by_ < (k : Int)
    case neg =>
      have HF := Lib.hid (HBAD.out (by rw [HGB.out, decide_eq_false c2]; rfl))
      have d2 : decide ((k : Int) ≤ g.by_) = true := decide_eq_true (by omega)
      clear c2
      go_wp2_with fail
      go_ret
      exact ⟨by rw [HF.out]; rfl, HBX.out _⟩
    have d2 : decide ((k : Int) ≤ g.by_) = false := decide_eq_false (by omega)
    rw [decide_eq_true c2, Bool.true_and] at HGB
    clear c2
    rcases c3 : spn9 g.f 1 2000000 with _ | _
    · rw [c3] at CF HGB
      have HF := Lib.hid (HBAD.out (by rw [HGB.out]; rfl))
      clear c3
      go_wp2_with fail
      refine (CF.out _).mono ?_
      rintro e w1 ⟨rfl, hb1⟩
      obtain ⟨x1, rfl⟩ := ovr_next hb1
      clear hb1
      go_wp2_with fail
      go_ret
      exact ⟨by rw [HF.out]; rfl, HBX.out _⟩
    rw [c3] at CF HGB
    rw [Bool.true_and] at HGB
    clear c3
    rcases c4 : spn9 g.o (-1000000) 1000000 with _ | _
    · rw [c4] at CO HGB
      have HF := Lib.hid (HBAD.out (by rw [HGB.out]; rfl))
      clear c4
      go_wp2_with fail
      refine (CF.out _).mono ?_
      rintro e w1 ⟨rfl, hb1⟩
      obtain ⟨x1, rfl⟩ := ovr_next hb1
      clear hb1
      go_wp2_with fail
      refine (CO.out _).mono ?_
      rintro e w1 ⟨rfl, hb1⟩
      obtain ⟨x2, rfl⟩ := ovr_next hb1
      clear hb1
      go_wp2_with fail
      go_ret
      exact ⟨by rw [HF.out]; rfl, HBX.out _⟩
    rw [c4] at CO HGB
    rw [Bool.true_and] at HGB
    clear c4
    by_cases c5 : 0 ≤ g.u
    case neg =>
      have HF := Lib.hid (HBAD.out (by rw [HGB.out, decide_eq_false c5]; rfl))
      have d5 : decide (g.u < 0) = true := decide_eq_true (by omega)
      clear c5
      go_wp2_with fail
      refine (CF.out _).mono ?_
      rintro e w1 ⟨rfl, hb1⟩
      obtain ⟨x1, rfl⟩ := ovr_next hb1
      clear hb1
      go_wp2_with fail
      refine (CO.out _).mono ?_
      rintro e w1 ⟨rfl, hb1⟩
      obtain ⟨x2, rfl⟩ := ovr_next hb1
      clear hb1
      go_wp2_with fail
      go_ret
      exact ⟨by rw [HF.out]; rfl, HBX.out _⟩
    have d5 : decide (g.u < 0) = false := decide_eq_false (by omega)
    rw [decide_eq_true c5, Bool.true_and] at HGB
    clear c5
    by_cases c6 : g.u ≤ 1000000
    case neg =>
      have HF := Lib.hid (HBAD.out (by rw [HGB.out, decide_eq_false c6]))
      have d6 : decide (1000000 < g.u) = true := decide_eq_true (by omega)
      clear c6
      go_wp2_with fail
      refine (CF.out _).mono ?_
      rintro e w1 ⟨rfl, hb1⟩
      obtain ⟨x1, rfl⟩ := ovr_next hb1
      clear hb1
      go_wp2_with fail
      refine (CO.out _).mono ?_
      rintro e w1 ⟨rfl, hb1⟩
      obtain ⟨x2, rfl⟩ := ovr_next hb1
      clear hb1
      go_wp2_with fail
      go_ret
      exact ⟨by rw [HF.out]; rfl, HBX.out _⟩
    have d6 : decide (1000000 < g.u) = false := decide_eq_false (by omega)
    have HN := Lib.hid (HGD.out (by rw [HGB.out, decide_eq_true c6]))
    clear c6
    go_wp2_with fail
    refine (CF.out _).mono ?_
    rintro e w1 ⟨rfl, hb1⟩
    obtain ⟨x1, rfl⟩ := ovr_next hb1
    clear hb1
    go_wp2_with fail
    refine (CO.out _).mono ?_
    rintro e w1 ⟨rfl, hb1⟩
    obtain ⟨x2, rfl⟩ := ovr_next hb1
    clear hb1
    go_wp2_with fail
    go_roundw
    case rel => exact ⟨k + 1, HLT.out, by go_num, HBX.out _, HN.out⟩
    case measure => have := HLT.out; simp [intOf]; omega
end Go.Proofs.Ytljjpidigckheaa.Un
