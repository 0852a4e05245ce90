/- The contracts of Stop and Conflict of package pull. -/
import Derived.Test.YtlebefopdnadaaaOb
namespace Go.Proofs.Ytlebefopdnadaaa
open Go.RowKit
def stopS (p : Vec) (R : Run) : Int × Int := if okPuller p && okRun R then stopF p R else (0, 0)
theorem Two.keep3 {w W2 : World} {A1 A2 A3 : Option Addr} {c1 c2 c3 : Nat} {p : Vec} {R : Run} (T : Two w A1 A2 A3 c1 c2 c3 p R W2) {W : World} (hW : Below W2.heap.size W2 W) : RunIn W A1 A2 A3 R := T.run.below hW
set_option maxHeartbeats 1000000 in
theorem stopX_any (A1 A2 A3 : Option Addr) (c1 c2 c3 : Nat) (p : Vec) (R : Run) (w : World) (h : RunIn w A1 A2 A3 R) :
    Calls Try.prog 23 #[.agg (ia 117 p), runV A1 A2 A3 c1 c2 c3 R] w fun e w' => e = .returned (.tuple #[I (stopS p R).1, I (stopS p R).2, I (er (okPuller p && okRun R))]) ∧ Below w.heap.size w w' := by
  obtain ⟨W2, hW2⟩ : ∃ W2, W2 = ((w.alloc (.cells (ia 117 p) 30)).alloc (.cells #[.slice A1 R.ss.length c1, I R.e, .slice A2 R.ms.length c2, .slice A3 R.es.length c3] 35)) := ⟨_, rfl⟩
  have T : Hid (Two w A1 A2 A3 c1 c2 c3 p R W2) := hW2 ▸ two_mk h c1 c2 c3 p
  have HW := Lib.hid hW2
  clear h hW2
  go_enter Try.func23, Try.ntmps23
  go_wp2_with (refine wpList_load_ia rfl 30 _ rfl w.heap.size 0 rfl 117 p _ (by rw [← HW.out]; exact T.out.pul _ (Below.refl _ _)) Try.underlying30 rfl (by kernel_rfl) ?_)
  rw [← HW.out]
  refine (both_any A1 A2 A3 c1 c2 c3 p R _ T.out.run).mono ?_
  rintro e w1 ⟨rfl, hb1⟩
  rcases hok : (okPuller p && okRun R) with _ | _
  · have hs : Hid (stopS p R = (0, 0)) := by show _ = _; rw [stopS, hok]; rfl
    rw [show er false = 2 from rfl]
    go_wp2_with fail
    go_ret3
    exact ⟨by rw [hs.out, hok]; rfl, T.out.up _ hb1⟩
  have hs : Hid (stopS p R = stopF p R) := by show _ = _; rw [stopS, hok]; rfl
  have Hok := Lib.hid hok
  rw [show er true = 0 from rfl]
  rw [Bool.and_eq_true] at hok
  have Hv := Lib.hid ((vRun_iff R).1 hok.2)
  have Hp := Lib.hid (vPul_of hok.1)
  clear hok
  have x0 := T.out.r0 _ hb1
  have x1 := T.out.r1 _ hb1
  have x2 := T.out.r2 _ hb1
  have x3 := T.out.r3 _ hb1
  go_wp2_with (refine wpList_load_ia rfl 30 _ rfl w.heap.size 0 rfl 117 p _ (T.out.pul _ hb1) Try.underlying30 rfl (by kernel_rfl) ?_)
  refine (stop_any A1 A2 A3 c1 c2 c3 p R _ (T.out.run.below hb1) Hv.out Hp.out.hold).mono ?_
  rintro e w2 ⟨rfl, hb2⟩
  go_wp2_with fail
  go_ret3
  exact ⟨by rw [hs.out, Hok.out]; rfl, T.out.up _ (hb1.trans (hb2.mono hb1.size))⟩
/-- Does the earlier sample a contradict the later one b? -/
def agB (p : Vec) (a b : Smp) : Bool := decide (a.hi + p 110 * (b.t - a.t) < b.lo) || decide (b.hi < a.lo - p 111 * (b.t - a.t))
def confI (p : Vec) (R : Run) (j : Nat) : Option Nat := (List.range j).find? fun i => agB p (at0 R.ms i) (at0 R.ms j)
def conf (p : Vec) (R : Run) : Option (Nat × Nat) := (List.range R.ms.length).findSome? fun j => (confI p R j).map fun i => (i, j)
def confV (p : Vec) (R : Run) : Int × Int := if okPuller p && okRun R then (match conf p R with | some (i, j) => ((i : Int), (j : Int)) | none => (-1, -1)) else (0, 0)
theorem VRun.mle {R : Run} (h : VRun R) : ∀ {i j : Nat}, i < j → j < R.ms.length → (at0 R.ms i).t < (at0 R.ms j).t := by
  intro i j hij hj
  induction j with
  | zero => omega
  | succ j ih =>
    have := h.mup j hj
    rcases Nat.lt_succ_iff_lt_or_eq.1 hij with h1 | rfl
    · have := ih h1 (by omega); omega
    · exact this
set_option maxRecDepth 100000 in
set_option maxHeartbeats 1000000 in
theorem conflict_any (A1 A2 A3 : Option Addr) (c1 c2 c3 : Nat) (p : Vec) (R : Run) (w : World) (h : RunIn w A1 A2 A3 R) (hc2 : R.ms.length ≤ c2) :
    Calls Try.prog 27 #[.agg (ia 117 p), runV A1 A2 A3 c1 c2 c3 R] w fun e w' => e = .returned (.tuple #[I (confV p R).1, I (confV p R).2, I (er (okPuller p && okRun R))]) ∧ Below w.heap.size w w' := by
  obtain ⟨W2, hW2⟩ : ∃ W2, W2 = ((w.alloc (.cells (ia 117 p) 30)).alloc (.cells #[.slice A1 R.ss.length c1, I R.e, .slice A2 R.ms.length c2, .slice A3 R.es.length c3] 35)) := ⟨_, rfl⟩
  have T : Hid (Two w A1 A2 A3 c1 c2 c3 p R W2) := hW2 ▸ two_mk h c1 c2 c3 p
  have HW := Lib.hid hW2
  clear h hW2
  go_enter Try.func27, Try.ntmps27
  go_wp2_with (refine wpList_load_ia rfl 30 _ rfl w.heap.size 0 rfl 117 p _ (by rw [← HW.out]; exact T.out.pul _ (Below.refl _ _)) Try.underlying30 rfl (by kernel_rfl) ?_)
  rw [← HW.out]
  refine (both_any A1 A2 A3 c1 c2 c3 p R _ T.out.run).mono ?_
  rintro e w1 ⟨rfl, hb1⟩
  rcases hok : (okPuller p && okRun R) with _ | _
  · have hs : Hid (confV p R = (0, 0)) := by show _ = _; rw [confV, hok]; rfl
    rw [show er false = 2 from rfl]
    go_wp2_with fail
    go_ret3
    exact ⟨by rw [hs.out, hok]; rfl, T.out.up _ hb1⟩
  have hs : Hid (confV p R = match conf p R with | some (i, j) => ((i : Int), (j : Int)) | none => (-1, -1)) := by show _ = _; rw [confV, hok]; rfl
  have Hok := Lib.hid hok
  rw [show er true = 0 from rfl]
  rw [Bool.and_eq_true] at hok
  have Hv := Lib.hid ((vRun_iff R).1 hok.2)
  have Hp := Lib.hid (vPul_of hok.1)
  have hm100 := Hv.out.m100
  have last := Hv.out.last
  obtain ⟨gr1, gr2⟩ := Hp.out.grow
  obtain ⟨sh1, sh2⟩ := Hp.out.shrink
  clear hok
  have x2 := T.out.r2 _ hb1
  go_wp2_with fail
  have HT1 := Lib.hid hb1
  have zz1 : w.heap.size + 2 ≤ w1.heap.size := by have := hb1.size; rw [T.out.size] at this; exact this
  clear x2 hb1
  go_loopw [22] (fun i wr => ∃ j : Nat, j ≤ R.ms.length ∧ i = .int .i64 j ∧ (∀ k, k < j → confI p R k = none) ∧ Below w1.heap.size w1 wr) (fun i _ => R.ms.length - (intOf i).toNat)
  case atStart => exact ⟨0, by omega, rfl, by omega, Below.refl _ _⟩
  case round =>
    obtain ⟨j, hj, rfl, hjb, hbw⟩ := hrel
    have Hjb := Lib.hid hjb
    clear hjb
    have hbT := HT1.out.trans (hbw.mono HT1.out.size)
    have zr := hbw.size
    by_cases hlt : j < R.ms.length
    · obtain ⟨b, o, rfl, hB, y0, y1, y2⟩ := (T.out.run.m.below hbT).smp hlt
      have x2 : ∀ x : Obj, (wr.alloc x).cell? ⟨w.heap.size + 1, 2, none⟩ = some (.slice (some ⟨b, o, none⟩) R.ms.length c2) := fun x => T.out.r2 _ (hbT.alloc hbT.size x)
      have j0 : (0 : Int) ≤ (j : Int) := by omega
      have j1 : (j : Int) ≤ (c2 : Int) := by omega
      have hbm := Hv.out.mt j hlt
      have hbr := Hv.out.mr j hlt
      generalize hbq : at0 R.ms j = bq at *
      have HBQ := Lib.hid hbq
      clear hbq
      obtain ⟨bt1, bt2⟩ := hbm
      obtain ⟨br1, br2, br3⟩ := hbr
      go_wp2_with fail
      generalize hWj : wr.alloc (.cells #[I bq.t, I bq.lo, I bq.hi] 75) = Wj
      have HWj := Lib.hid hWj.symm
      have hzj : wr.heap.size + 1 ≤ Wj.heap.size := by rw [← hWj]; simp
      clear hWj
      have HBj : Hid (∀ W, Below Wj.heap.size Wj W → Below W2.heap.size W2 W) := fun W hW => hbT.trans (((HWj.out ▸ (Below.refl _ _).alloc (Nat.le_refl _) _ : Below wr.heap.size wr Wj)).trans (hW.mono (by omega)) |>.mono hbT.size)
      have HBr : Hid (∀ W, Below Wj.heap.size Wj W → Below wr.heap.size wr W) := fun W hW => ((HWj.out ▸ (Below.refl _ _).alloc (Nat.le_refl _) _ : Below wr.heap.size wr Wj)).trans (hW.mono (by omega))
      have Hbc : Hid (∀ W, Below Wj.heap.size Wj W → W.cell? ⟨wr.heap.size, 0, none⟩ = some (I bq.t) ∧ W.cell? ⟨wr.heap.size, 1, none⟩ = some (I bq.lo) ∧ W.cell? ⟨wr.heap.size, 2, none⟩ = some (I bq.hi)) := fun W hW => by
        refine ⟨(hW.cell (p := ⟨_, _, none⟩) (by show wr.heap.size < _; omega)).trans ?_, (hW.cell (p := ⟨_, _, none⟩) (by show wr.heap.size < _; omega)).trans ?_, (hW.cell (p := ⟨_, _, none⟩) (by show wr.heap.size < _; omega)).trans ?_⟩ <;> rw [HWj.out] <;> simp
      have Hsm := Lib.hid T.out.run.m
      clear y0 y1 y2 x2
      go_loopw [32] (fun i wi => ∃ k : Nat, k ≤ j ∧ i = .int .i64 k ∧ (∀ l, l < k → agB p (at0 R.ms l) bq = false) ∧ Below Wj.heap.size Wj wi) (fun i _ => j - (intOf i).toNat)
      case atStart => exact ⟨0, by omega, rfl, by omega, Below.refl _ _⟩
      case round =>
        obtain ⟨k, hk, rfl, hkb, hbi⟩ := hrel
        have Hkb := Lib.hid hkb
        clear hkb
        have zi := hbi.size
        by_cases hkj : k < j
        · obtain ⟨b', o', he, _, y0, y1, y2⟩ := (Hsm.out.below (HBj.out _ hbi)).smp (k := k) (by omega)
          simp only [Option.some.injEq, Addr.mk.injEq, and_true] at he
          obtain ⟨rfl, rfl⟩ := he
          have am := Hv.out.mt k (by omega)
          have ar := Hv.out.mr k (by omega)
          have alt := Hv.out.mle hkj hlt
          rw [HBQ.out] at alt
          have hci : Hid (confI p R j = (List.range j).find? fun i => agB p (at0 R.ms i) bq) := by show _ = _; rw [confI, HBQ.out]
          generalize haq : at0 R.ms k = aq at *
          have HAQ := Lib.hid haq
          clear haq
          obtain ⟨at1, at2⟩ := am
          obtain ⟨ar1, ar2, ar3⟩ := ar
          have z0 := fun x => (Hbc.out _ (hbi.alloc zi x)).1
          have z1 := fun x => (Hbc.out _ (hbi.alloc zi x)).2.1
          have z2 := fun x => (Hbc.out _ (hbi.alloc zi x)).2.2
          have pg : ∀ x, (wr.alloc x).cell? ⟨w.heap.size, 110, none⟩ = some (I (p 110)) := fun x => T.out.pul _ (HBj.out _ (hbi.alloc zi x)) 110 (by omega)
          have ps : ∀ x, (wr.alloc x).cell? ⟨w.heap.size, 111, none⟩ = some (I (p 111)) := fun x => T.out.pul _ (HBj.out _ (hbi.alloc zi x)) 111 (by omega)
          have m1 : 0 ≤ p 110 * (bq.t - aq.t) := Int.mul_nonneg gr1 (by omega)
          have m2 : p 110 * (bq.t - aq.t) ≤ 1000000 * 100000 := Int.mul_le_mul gr2 (by omega) (by omega) (by omega)
          have m3 : 0 ≤ p 111 * (bq.t - aq.t) := Int.mul_nonneg sh1 (by omega)
          have m4 : p 111 * (bq.t - aq.t) ≤ 1000000 * 100000 := Int.mul_le_mul sh2 (by omega) (by omega) (by omega)
          have hag : Hid (agB p aq bq = (decide (aq.hi + p 110 * (bq.t - aq.t) < bq.lo) || decide (bq.hi < aq.lo - p 111 * (bq.t - aq.t)))) := rfl
          by_cases t1 : aq.hi + p 110 * (bq.t - aq.t) < bq.lo
          · have hcf : Hid (conf p R = some (k, j)) := findSome_at hlt (fun l hl => by rw [Hjb.out l hl]; rfl) (by rw [hci.out, find_at hkj Hkb.out (by rw [HAQ.out, hag.out]; simp [t1])]; rfl)
            go_wp2_with fail
            go_ret3
            exact ⟨by rw [hs.out, hcf.out, Hok.out]; rfl, T.out.up _ ((HBj.out _ hbi).alloc (HBj.out _ hbi).size _)⟩
          by_cases t2 : bq.hi < aq.lo - p 111 * (bq.t - aq.t)
          · have hcf : Hid (conf p R = some (k, j)) := findSome_at hlt (fun l hl => by rw [Hjb.out l hl]; rfl) (by rw [hci.out, find_at hkj Hkb.out (by rw [HAQ.out, hag.out]; simp [t2])]; rfl)
            go_wp2_with fail
            go_ret3
            exact ⟨by rw [hs.out, hcf.out, Hok.out]; rfl, T.out.up _ ((HBj.out _ hbi).alloc (HBj.out _ hbi).size _)⟩
          have hno : Hid (agB p aq bq = false) := by show _ = _; rw [hag.out]; simp; omega
          go_wp2_with fail
          go_roundw
          case rel => exact ⟨k + 1, by omega, by go_num, succ_case Hkb.out (by rw [HAQ.out]; exact hno.out), hbi.alloc zi _⟩
          case measure => simp [intOf]; omega
        · have hci : Hid (confI p R j = none) := by show _ = _; rw [confI, HBQ.out]; exact find_no fun l hl => Hkb.out l (by omega)
          go_wp2_with fail
          go_roundw
          case rel => exact ⟨j + 1, by omega, by go_num, succ_case Hjb.out hci.out, hbw.trans ((HBr.out _ hbi).mono zr)⟩
          case measure => simp [intOf]; omega
    · have hcf : Hid (conf p R = none) := findSome_no fun l hl => by rw [Hjb.out l (by omega)]; rfl
      go_wp2_with fail
      go_ret3
      exact ⟨by rw [hs.out, hcf.out, Hok.out]; rfl, T.out.up _ hbT⟩
end Go.Proofs.Ytlebefopdnadaaa
