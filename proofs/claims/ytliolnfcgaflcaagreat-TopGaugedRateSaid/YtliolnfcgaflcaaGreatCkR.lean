/- The contract of CheckRun of package pull: 0 where the run is valid, else 2. Lists of at most maxLen elements. -/
import Derived.Test.YtliolnfcgaflcaaGreatIna
namespace Go.Proofs.YtliolnfcgaflcaaGreat
open Go.RowKit
structure Run where
 ss : List Stg
 e : Int
 ms : List Smp
 es : List Evt
def nxS (ss : List Stg) : Nat → Int
 | 0 => 0 | k + 1 => (at0 ss k).t + 1
def nxM (ms : List Smp) : Nat → Int
 | 0 => 0 | k + 1 => (at0 ms k).t + 1
def nxE (es : List Evt) : Nat → Int
 | 0 => 0 | k + 1 => (at0 es k).t
def setAt (R : Run) (k : Nat) : Bool := okSet (at0 R.ss k) && decide (nxS R.ss k ≤ (at0 R.ss k).t) && (!(decide (k = 0)) || decide ((at0 R.ss k).t ≤ 0)) && decide ((at0 R.ss k).t < R.e)
def smpAt (R : Run) (k : Nat) : Bool := decide (nxM R.ms k ≤ (at0 R.ms k).t) && decide ((at0 R.ms k).t ≤ R.e) && rangeB 1000000 [⟨(at0 R.ms k).lo, (at0 R.ms k).hi⟩]
def evtAt (R : Run) (k : Nat) : Bool := decide (nxE R.es k ≤ (at0 R.es k).t) && decide ((at0 R.es k).t ≤ R.e) && decide (1 ≤ (at0 R.es k).kd) && decide ((at0 R.es k).kd ≤ 5)
def headB (R : Run) : Bool := decide (1 ≤ R.ss.length) && decide (R.ss.length ≤ 60) && decide (R.ms.length ≤ 100) && decide (R.es.length ≤ 20) && decide (R.e ≤ 100000)
def okRun (R : Run) : Bool := headB R && (List.range R.ss.length).all (setAt R) && (List.range R.ms.length).all (smpAt R) && (List.range R.es.length).all (evtAt R)
theorem all_no {f : Nat → Bool} {n k : Nat} (hk : k < n) (h : f k = false) : (List.range n).all f = false := by
 rw [List.all_eq_false]
 exact ⟨k, by simpa using hk, by simp [h]⟩
theorem all_yes {f : Nat → Bool} {n : Nat} (h : ∀ k, k < n → f k = true) : (List.range n).all f = true := by
 rw [List.all_eq_true]
 intro x hx
 exact h x (by simpa using hx)
theorem okRun_s {R : Run} {k : Nat} (hk : k < R.ss.length) (h : setAt R k = false) : okRun R = false := by simp [okRun, all_no hk h]
theorem okRun_m {R : Run} {k : Nat} (hk : k < R.ms.length) (h : smpAt R k = false) : okRun R = false := by simp [okRun, all_no hk h]
theorem okRun_e {R : Run} {k : Nat} (hk : k < R.es.length) (h : evtAt R k = false) : okRun R = false := by simp [okRun, all_no hk h]
abbrev runV (A1 A2 A3 : Option Addr) (c1 c2 c3 : Nat) (R : Run) : Value := .agg #[.slice A1 R.ss.length c1, I R.e, .slice A2 R.ms.length c2, .slice A3 R.es.length c3]
structure RunIn (w : World) (A1 A2 A3 : Option Addr) (R : Run) : Prop where
 s : Rd w w.heap.size 8 A1 R.ss.length (rS R.ss)
 m : Rd w w.heap.size 3 A2 R.ms.length (rM R.ms)
 e : Rd w w.heap.size 2 A3 R.es.length (rE R.es)
 ls : R.ss.length ≤ 1000000
 lm : R.ms.length ≤ 1000000
 le : R.es.length ≤ 1000000
set_option maxRecDepth 100000 in
set_option maxHeartbeats 1000000 in
theorem checkRun_any (A1 A2 A3 : Option Addr) (c1 c2 c3 : Nat) (R : Run) (w : World) (h : RunIn w A1 A2 A3 R) :
 Calls Tryz.prog 46 #[runV A1 A2 A3 c1 c2 c3 R] w fun e w' => e = .returned (I (er (okRun R))) ∧ Below w.heap.size w w' := by
 have Hs := Lib.hid h.s
 have Hm := Lib.hid h.m
 have He := Lib.hid h.e
 have ls := h.ls
 have lm := h.lm
 have le := h.le
 clear h
 by_cases hh : headB R = false
 · have hfin : Hid (I 2 = I (er (okRun R))) := by simp [okRun, hh]; rfl
   have h' : ¬ 1 ≤ R.ss.length ∨ ¬ R.ss.length ≤ 60 ∨ ¬ R.ms.length ≤ 100 ∨ ¬ R.es.length ≤ 20 ∨ ¬ R.e ≤ 100000 := by simp [headB] at hh; omega
   clear hh
   go_enter Tryz.func46, Tryz.ntmps46
   go_wp2
   all_goals
    go_ret
    exact ⟨congrArg Ending.returned hfin.out, (Below.refl _ _).alloc (Nat.le_refl _) _⟩
 · have hh : headB R = true := by simpa using hh
   have h' : 1 ≤ R.ss.length ∧ R.ss.length ≤ 60 ∧ R.ms.length ≤ 100 ∧ R.es.length ≤ 20 ∧ R.e ≤ 100000 := by simp [headB] at hh; omega
   obtain ⟨g1, g2, g3, g4, g5⟩ := h'
   have HH := Lib.hid hh
   clear hh
   obtain ⟨W0, hW0⟩ : ∃ W0, W0 = w.alloc (.cells #[.slice A1 R.ss.length c1, I R.e, .slice A2 R.ms.length c2, .slice A3 R.es.length c3] 65) := ⟨_, rfl⟩
   have HW0 := Lib.hid hW0
   have hZ0 : Hid (W0.heap.size = w.heap.size + 1) := by subst hW0; simp [Hid]
   have hE0 : Hid (W0.cell? ⟨w.heap.size, 1, none⟩ = some (I R.e)) := by subst hW0; simp [Hid]
   have hM0 : Hid (W0.cell? ⟨w.heap.size, 2, none⟩ = some (.slice A2 R.ms.length c2)) := by subst hW0; simp [Hid]
   have hV0 : Hid (W0.cell? ⟨w.heap.size, 3, none⟩ = some (.slice A3 R.es.length c3)) := by subst hW0; simp [Hid]
   have hU : ∀ W : World, Below (w.heap.size + 1) W0 W → Below w.heap.size w W := fun W h => under (o := .cells #[.slice A1 R.ss.length c1, I R.e, .slice A2 R.ms.length c2, .slice A3 R.es.length c3] 65) (HW0.out ▸ h)
   clear hW0
   have HU := Lib.hid hU
   clear hU
   go_enter Tryz.func46, Tryz.ntmps46
   go_wp2
   go_loopw [4, 40] (fun nx i wr => ∃ k : Nat, k ≤ R.ss.length ∧ i = .int .i64 k ∧ nx = I (nxS R.ss k) ∧ 0 ≤ nxS R.ss k ∧ (∀ j, j < k → setAt R j = true) ∧ Below (w.heap.size + 1) W0 wr) (fun _ i _ => R.ss.length - (intOf i).toNat)
   case atStart => exact ⟨0, by omega, rfl, rfl, by simp [nxS], by omega, by rw [HW0.out]; exact Below.refl _ _⟩
   case round =>
    obtain ⟨k, hk, rfl, rfl, hnx, hb, hbw⟩ := hrel
    have Hb := Lib.hid hb
    clear hb
    have hsz : w.heap.size + 1 ≤ wr.heap.size := by have := hbw.size; rw [hZ0.out] at this; exact this
    have cE : wr.cell? ⟨w.heap.size, 1, none⟩ = some (I R.e) := (hbw.cell (p := ⟨_, _, none⟩) (by simp)).trans hE0.out
    by_cases hlt : k < R.ss.length
    · obtain ⟨b, o, rfl, hB, x0, x1, x2, x3, x4, x5, x6, x7⟩ := (Hs.out.below (HU.out _ hbw)).stg hlt
      have hno : Hid (setAt R k = false → I 2 = I (er (okRun R))) := fun h => by rw [okRun_s hlt h]; rfl
      have hst : Hid (setAt R k = (okSet (at0 R.ss k) && decide (nxS R.ss k ≤ (at0 R.ss k).t) && (!(decide (k = 0)) || decide ((at0 R.ss k).t ≤ 0)) && decide ((at0 R.ss k).t < R.e))) := rfl
      go_wp2_with fail
      refine (isSetting_any (at0 R.ss k) _).mono ?_
      rintro e w1 ⟨rfl, hb1⟩
      have hz1 : wr.heap.size + 1 ≤ w1.heap.size := by have := hb1.size; simpa using this
      have hB1 : Below (w.heap.size + 1) W0 w1 := (hbw.alloc (by omega) _).trans (hb1.mono (by simp; omega))
      have d0 : w1.cell? ⟨wr.heap.size, 0, none⟩ = some (I (at0 R.ss k).t) := (hb1.cell (p := ⟨_, _, none⟩) (by simp)).trans (by simp)
      have dE : w1.cell? ⟨w.heap.size, 1, none⟩ = some (I R.e) := (hB1.cell (p := ⟨_, _, none⟩) (by simp)).trans hE0.out
      clear x0 x1 x2 x3 x4 x5 x6 x7 cE
      rcases h1 : okSet (at0 R.ss k) with _ | _
      · go_wp2_with fail
        go_ret
        exact ⟨congrArg Ending.returned (hno.out (by rw [hst.out, h1]; rfl)), HU.out _ hB1⟩
      by_cases q1 : nxS R.ss k ≤ (at0 R.ss k).t
      rotate_left
      · have hno2 := Lib.hid (hno.out (by rw [hst.out, h1]; simp; omega))
        go_wp2_with fail
        go_ret
        exact ⟨congrArg Ending.returned hno2.out, HU.out _ hB1⟩
      rcases Nat.eq_zero_or_pos k with k0 | k0
      · subst k0
        by_cases q2 : (at0 R.ss 0).t ≤ 0
        rotate_left
        · have hno2 := Lib.hid (hno.out (by rw [hst.out, h1]; simp; omega))
          go_wp2_with fail
          go_ret
          exact ⟨congrArg Ending.returned hno2.out, HU.out _ hB1⟩
        by_cases q3 : (at0 R.ss 0).t < R.e
        rotate_left
        · have hno2 := Lib.hid (hno.out (by rw [hst.out, h1]; simp; omega))
          go_wp2_with fail
          go_ret
          exact ⟨congrArg Ending.returned hno2.out, HU.out _ hB1⟩
        go_wp2_with fail
        go_roundw
        case rel => exact ⟨1, by omega, rfl, rfl, by simp [nxS]; omega, succ_case Hb.out (by rw [hst.out, h1]; simp; omega), hB1⟩
        case measure => simp [intOf]; omega
      · have k1 : ((k : Int) == 0) = false := by simp; omega
        by_cases q3 : (at0 R.ss k).t < R.e
        rotate_left
        · have hno2 := Lib.hid (hno.out (by rw [hst.out, h1]; simp; omega))
          go_wp2_with fail
          go_ret
          exact ⟨congrArg Ending.returned hno2.out, HU.out _ hB1⟩
        go_wp2_with fail
        go_roundw
        case rel => exact ⟨k + 1, by omega, by go_num, rfl, by simp [nxS]; omega, succ_case Hb.out (by rw [hst.out, h1]; simp; omega), hB1⟩
        case measure => simp [intOf]; omega
    · have hS : Hid (∀ j, j < R.ss.length → setAt R j = true) := fun j hj => Hb.out j (by omega)
      have cM : wr.cell? ⟨w.heap.size, 2, none⟩ = some (.slice A2 R.ms.length c2) := (hbw.cell (p := ⟨_, _, none⟩) (by simp)).trans hM0.out
      have cV : wr.cell? ⟨w.heap.size, 3, none⟩ = some (.slice A3 R.es.length c3) := (hbw.cell (p := ⟨_, _, none⟩) (by simp)).trans hV0.out
      clear cE Hb hnx
      go_wp2_with fail
      have hbw0 := hbw
      clear cM cV hbw hk hlt
      go_loopw [4, 77] (fun nx i wr => ∃ k : Nat, k ≤ R.ms.length ∧ i = .int .i64 k ∧ nx = I (nxM R.ms k) ∧ 0 ≤ nxM R.ms k ∧ (∀ j, j < k → smpAt R j = true) ∧ Below (w.heap.size + 1) W0 wr) (fun _ i _ => R.ms.length - (intOf i).toNat)
      case atStart => exact ⟨0, by omega, rfl, rfl, by simp [nxM], by omega, hbw0⟩
      case round =>
       clear hbw0 hsz
       obtain ⟨k, hk, rfl, rfl, hnx, hb, hbw⟩ := hrel
       have Hb := Lib.hid hb
       clear hb
       have hsz : w.heap.size + 1 ≤ wr.heap.size := by have := hbw.size; rw [hZ0.out] at this; exact this
       have cE : ∀ x : Obj, (wr.alloc x).cell? ⟨w.heap.size, 1, none⟩ = some (I R.e) := fun x => ((hbw.alloc (by omega) x).cell (p := ⟨_, _, none⟩) (by simp)).trans hE0.out
       by_cases hlt : k < R.ms.length
       · obtain ⟨b, o, rfl, hB, x0, x1, x2⟩ := (Hm.out.below (HU.out _ hbw)).smp hlt
         have hno : Hid (smpAt R k = false → I 2 = I (er (okRun R))) := fun h => by rw [okRun_m hlt h]; rfl
         have hst : Hid (smpAt R k = (decide (nxM R.ms k ≤ (at0 R.ms k).t) && decide ((at0 R.ms k).t ≤ R.e) && rangeB 1000000 [⟨(at0 R.ms k).lo, (at0 R.ms k).hi⟩])) := rfl
         by_cases q1 : nxM R.ms k ≤ (at0 R.ms k).t
         rotate_left
         · have hno2 := Lib.hid (hno.out (by rw [hst.out]; simp; omega))
           go_wp2_with fail
           go_ret
           exact ⟨congrArg Ending.returned hno2.out, (HU.out _ hbw).alloc (by omega) _⟩
         by_cases q2 : (at0 R.ms k).t ≤ R.e
         rotate_left
         · have hno2 := Lib.hid (hno.out (by rw [hst.out]; simp; omega))
           go_wp2_with fail
           go_ret
           exact ⟨congrArg Ending.returned hno2.out, (HU.out _ hbw).alloc (by omega) _⟩
         go_wp2_with fail
         refine (isRange_any _ _ _ [⟨(at0 R.ms k).lo, (at0 R.ms k).hi⟩] _ _ (by rfl) (by unfold maxLen; omega) (Rd_new (heap_last _ _ _ (by simp)) _ _ _ _ (all1 (all2 rfl rfl)))).mono ?_
         rintro e w1 ⟨rfl, hb1⟩
         have hB1 : Below (w.heap.size + 1) W0 w1 := ((hbw.alloc (by omega) _).alloc (by simp; omega) _).trans (hb1.mono (by simp; omega))
         have d0 : w1.cell? ⟨wr.heap.size, 0, none⟩ = some (I (at0 R.ms k).t) := (hb1.cell (p := ⟨_, _, none⟩) (by simp; omega)).trans (by simp)
         clear x0 x1 x2 cE
         rcases h1 : rangeB 1000000 [⟨(at0 R.ms k).lo, (at0 R.ms k).hi⟩] with _ | _
         · go_wp2_with fail
           go_ret
           exact ⟨congrArg Ending.returned (hno.out (by rw [hst.out, h1]; simp)), HU.out _ hB1⟩
         go_wp2_with fail
         go_roundw
         case rel => exact ⟨k + 1, by omega, by go_num, rfl, by simp [nxM]; omega, succ_case Hb.out (by rw [hst.out, h1]; simp; omega), hB1⟩
         case measure => simp [intOf]; omega
       · have hM : Hid (∀ j, j < R.ms.length → smpAt R j = true) := fun j hj => Hb.out j (by omega)
         have cV : wr.cell? ⟨w.heap.size, 3, none⟩ = some (.slice A3 R.es.length c3) := (hbw.cell (p := ⟨_, _, none⟩) (by simp)).trans hV0.out
         clear cE Hb hnx
         go_wp2_with fail
         have hbw0 := hbw
         clear cV hbw hk hlt
         go_loopw [4, 106] (fun nx i wr => ∃ k : Nat, k ≤ R.es.length ∧ i = .int .i64 k ∧ nx = I (nxE R.es k) ∧ 0 ≤ nxE R.es k ∧ (∀ j, j < k → evtAt R j = true) ∧ Below (w.heap.size + 1) W0 wr) (fun _ i _ => R.es.length - (intOf i).toNat)
         case atStart => exact ⟨0, by omega, rfl, rfl, by simp [nxE], by omega, hbw0⟩
         case round =>
             clear hbw0 hsz
             obtain ⟨k, hk, rfl, rfl, hnx, hb, hbw⟩ := hrel
             have Hb := Lib.hid hb
             clear hb
             have hsz : w.heap.size + 1 ≤ wr.heap.size := by have := hbw.size; rw [hZ0.out] at this; exact this
             have cE : ∀ x : Obj, (wr.alloc x).cell? ⟨w.heap.size, 1, none⟩ = some (I R.e) := fun x => ((hbw.alloc (by omega) x).cell (p := ⟨_, _, none⟩) (by simp)).trans hE0.out
             by_cases hlt : k < R.es.length
             · obtain ⟨b, o, rfl, hB, x0, x1⟩ := (He.out.below (HU.out _ hbw)).evt hlt
               have hno : Hid (evtAt R k = false → I 2 = I (er (okRun R))) := fun h => by rw [okRun_e hlt h]; rfl
               have hst : Hid (evtAt R k = (decide (nxE R.es k ≤ (at0 R.es k).t) && decide ((at0 R.es k).t ≤ R.e) && decide (1 ≤ (at0 R.es k).kd) && decide ((at0 R.es k).kd ≤ 5))) := rfl
               by_cases q1 : nxE R.es k ≤ (at0 R.es k).t
               rotate_left
               · have hno2 := Lib.hid (hno.out (by rw [hst.out]; simp; omega))
                 go_wp2_with fail
                 go_ret
                 exact ⟨congrArg Ending.returned hno2.out, (HU.out _ hbw).alloc (by omega) _⟩
               by_cases q2 : (at0 R.es k).t ≤ R.e
               rotate_left
               · have hno2 := Lib.hid (hno.out (by rw [hst.out]; simp; omega))
                 go_wp2_with fail
                 go_ret
                 exact ⟨congrArg Ending.returned hno2.out, (HU.out _ hbw).alloc (by omega) _⟩
               by_cases q3 : 1 ≤ (at0 R.es k).kd
               rotate_left
               · have hno2 := Lib.hid (hno.out (by rw [hst.out]; simp; omega))
                 go_wp2_with fail
                 go_ret
                 exact ⟨congrArg Ending.returned hno2.out, (HU.out _ hbw).alloc (by omega) _⟩
               by_cases q4 : (at0 R.es k).kd ≤ 5
               rotate_left
               · have hno2 := Lib.hid (hno.out (by rw [hst.out]; simp; omega))
                 go_wp2_with fail
                 go_ret
                 exact ⟨congrArg Ending.returned hno2.out, (HU.out _ hbw).alloc (by omega) _⟩
               go_wp2_with fail
               go_roundw
               case rel => exact ⟨k + 1, by omega, by go_num, rfl, by simp [nxE]; omega, succ_case Hb.out (by rw [hst.out]; simp; omega), hbw.alloc (by omega) _⟩
               case measure => simp [intOf]; omega
             · have hok : Hid (okRun R = true) := by
                show okRun R = true
                have hE : ∀ j, j < R.es.length → evtAt R j = true := fun j hj => Hb.out j (by omega)
                simp only [okRun, HH.out, all_yes hS.out, all_yes hM.out, all_yes hE, Bool.and_self]
               go_wp2_with fail
               go_ret
               exact ⟨congrArg Ending.returned (by rw [hok.out]; rfl), HU.out _ hbw⟩
end Go.Proofs.YtliolnfcgaflcaaGreat
