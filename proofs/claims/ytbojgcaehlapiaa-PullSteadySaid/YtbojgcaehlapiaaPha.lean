/- The contract of phases of package pull: the first phase that takes too short or too long a time, or in which too little or too much is grown. -/
import Derived.Test.YtbojgcaehlapiaaSet
import Derived.Deep.LoopGhost
import Derived.BigRegion
import Derived.Deep.RegionHeld3
import Derived.Deep.DeepCutAuto
namespace Go.Proofs.Ytbojgcaehlapiaa
open Go.RowKit
set_option maxHeartbeats 400000 in
theorem ix_pc1 (A : Option Addr) (c : Nat) (a1 : Value) (xs : List Pce) (f : Pce → Bool) (w : World) (hm : xs.length ≤ maxLen) (hx : Rd w w.heap.size 10 A xs.length (rP xs))
    (hf : ∀ k, k < xs.length → ∀ W, Below w.heap.size w W → Calls Try.prog 57 #[(at0 xs k).val, a1] W fun e w' => e = .returned (.bool (f (at0 xs k))) ∧ Below W.heap.size W w') :
    Calls Try.prog 56 #[.slice A xs.length c, .func (Fn.func 57) #[] #[a1]] w fun e w' => e = .returned (.int .i64 (ixOf f xs)) ∧ Below w.heap.size w w' := by
  unfold maxLen at hm
  have Hx := Lib.hid hx
  have Hf := Lib.hid hf
  clear hx hf
  go_enter Try.func56, Try.ntmps56
  go_wp2
  go_loopw [8] (fun i wr => ∃ k : Nat, k ≤ xs.length ∧ i = .int .i64 k ∧ (∀ j, j < k → f (at0 xs j) = false) ∧ Below w.heap.size w wr) (fun i _ => xs.length - (intOf i).toNat)
  case atStart => exact ⟨0, by omega, rfl, by omega, Below.refl _ _⟩
  case round =>
    obtain ⟨k, hk, rfl, hb, hbw⟩ := hrel
    have Hb := Lib.hid hb
    clear hb
    by_cases hlt : k < xs.length
    · obtain ⟨b, o, rfl, _, x0, x1, x2, x3, x4, x5, x6, x7, x8, x9⟩ := (Hx.out.below hbw).pce hlt
      have hsz := hbw.size
      go_wp2_with fail
      refine (Hf.out k hlt _ hbw).mono ?_
      rintro e w' ⟨rfl, hb1⟩
      rcases hp : f (at0 xs k) with _ | _
      · go_wp2_with fail
        go_roundw
        case rel => exact ⟨k + 1, by omega, by go_num, succ_case Hb.out hp, hbw.trans (hb1.mono hsz)⟩
        case measure => simp [intOf]; omega
      · have hfin := Lib.hid (ixOf_at hlt hp Hb.out)
        go_wp2_with fail
        go_ret
        exact ⟨ret_int hfin.out.symm, hbw.trans (hb1.mono hsz)⟩
    · have hfin : Hid (ixOf f xs = -1) := ixOf_none0 fun j hj => Hb.out j (by omega)
      go_wp2
      go_ret
      exact ⟨ret_int hfin.out.symm, hbw⟩
set_option maxHeartbeats 400000 in
theorem ix_pc2 (A : Option Addr) (c : Nat) (a1 a2 : Value) (xs : List Pce) (f : Pce → Bool) (w : World) (hm : xs.length ≤ maxLen) (hx : Rd w w.heap.size 10 A xs.length (rP xs))
    (hf : ∀ k, k < xs.length → ∀ W, Below w.heap.size w W → Calls Try.prog 59 #[(at0 xs k).val, a1, a2] W fun e w' => e = .returned (.bool (f (at0 xs k))) ∧ Below W.heap.size W w') :
    Calls Try.prog 56 #[.slice A xs.length c, .func (Fn.func 59) #[] #[a1, a2]] w fun e w' => e = .returned (.int .i64 (ixOf f xs)) ∧ Below w.heap.size w w' := by
  unfold maxLen at hm
  have Hx := Lib.hid hx
  have Hf := Lib.hid hf
  clear hx hf
  go_enter Try.func56, Try.ntmps56
  go_wp2
  go_loopw [8] (fun i wr => ∃ k : Nat, k ≤ xs.length ∧ i = .int .i64 k ∧ (∀ j, j < k → f (at0 xs j) = false) ∧ Below w.heap.size w wr) (fun i _ => xs.length - (intOf i).toNat)
  case atStart => exact ⟨0, by omega, rfl, by omega, Below.refl _ _⟩
  case round =>
    obtain ⟨k, hk, rfl, hb, hbw⟩ := hrel
    have Hb := Lib.hid hb
    clear hb
    by_cases hlt : k < xs.length
    · obtain ⟨b, o, rfl, _, x0, x1, x2, x3, x4, x5, x6, x7, x8, x9⟩ := (Hx.out.below hbw).pce hlt
      have hsz := hbw.size
      go_wp2_with fail
      refine (Hf.out k hlt _ hbw).mono ?_
      rintro e w' ⟨rfl, hb1⟩
      rcases hp : f (at0 xs k) with _ | _
      · go_wp2_with fail
        go_roundw
        case rel => exact ⟨k + 1, by omega, by go_num, succ_case Hb.out hp, hbw.trans (hb1.mono hsz)⟩
        case measure => simp [intOf]; omega
      · have hfin := Lib.hid (ixOf_at hlt hp Hb.out)
        go_wp2_with fail
        go_ret
        exact ⟨ret_int hfin.out.symm, hbw.trans (hb1.mono hsz)⟩
    · have hfin : Hid (ixOf f xs = -1) := ixOf_none0 fun j hj => Hb.out j (by omega)
      go_wp2
      go_ret
      exact ⟨ret_int hfin.out.symm, hbw⟩
def otherB (ph : Int) (q : Pce) : Bool := !(q.s.ph == ph)
set_option maxHeartbeats 400000 in
theorem phases1_any (q l0 : Pce) (b o lb lo n c : Nat) (w : World) (hc : w.cell? ⟨b, o, none⟩ = some (.slice (some ⟨lb, lo, none⟩) n c)) (hn : 0 < n) (hl : w.cell? ⟨lb, lo + 1, none⟩ = some (I l0.s.ph)) :
    Calls Try.prog 57 #[q.val, .pointer (some ⟨b, o, none⟩)] w fun e w' => e = .returned (.bool (otherB l0.s.ph q)) ∧ Below w.heap.size w w' := by
  show Calls _ _ _ _ fun e w' => e = .returned (.bool (!(q.s.ph == l0.s.ph))) ∧ _
  have y0 := fun u => ovr_cell (W := w.alloc (.cells (pcArr q) 110)) (v := .slice (some ⟨lb, lo, none⟩) n c) (b := b) (o := o) (by rw [World.cell?_alloc_past _ _ _ (block_lt_of_cell hc)]; exact hc) u
  have y1 := fun u => ovr_cell (W := w.alloc (.cells (pcArr q) 110)) (v := I l0.s.ph) (b := lb) (o := lo + 1) (by rw [World.cell?_alloc_past _ _ _ (block_lt_of_cell hl)]; exact hl) u
  have y2 := fun u => ovr_cell (W := w.alloc (.cells (pcArr q) 110)) (v := I q.s.ph) (b := w.heap.size) (o := 1) (by simp) u
  have hn' : (0 : Int) < (n : Int) := by omega
  clear hc hl
  go_enter Try.func57, Try.ntmps57
  go_wp2
  refine wp_region_below_lit (by kernel_rfl) (by kernel_rfl) ?_
  repeat (go_big_quiet_step (fail))
  refine wpQuiet_nil ?_
  intro w5 hb5
  go_wp2
  go_ret
  exact ⟨rfl, under2 hb5⟩
def outsideB (last : Bool) (n : Int) (r : Rng) : Bool := decide (r.hi < n) || (decide (n < r.lo) && !last)
set_option maxHeartbeats 400000 in
theorem phases2_any (n : Int) (r : Rng) (last : Bool) (b o : Nat) (w : World) (hc : w.cell? ⟨b, o, none⟩ = some (.bool last)) :
    Calls Try.prog 58 #[I n, r.val, .pointer (some ⟨b, o, none⟩)] w fun e w' => e = .returned (.bool (outsideB last n r)) ∧ Below w.heap.size w w' := by
  show Calls _ _ _ _ fun e w' => e = .returned (.bool (decide (r.hi < n) || (decide (n < r.lo) && !last))) ∧ _
  have hc' : ∀ x, (w.alloc x).cell? ⟨b, o, none⟩ = some (.bool last) := fun x => by rw [World.cell?_alloc_past _ _ _ (block_lt_of_cell hc)]; exact hc
  clear hc
  go_enter Try.func58, Try.ntmps58
  go_wp2
  all_goals
    go_ret
    exact ⟨bor (by first | (simp [*]; done) | (cases last <;> simp_all <;> omega)), (Below.refl _ _).alloc (Nat.le_refl _) _⟩
end Go.Proofs.Ytbojgcaehlapiaa
/- The contract of phases of package pull: the first phase that takes too short or too long a time, or in which too little or too much is grown. -/
namespace Go.Proofs.Ytbojgcaehlapiaa
open Go.RowKit
theorem ix_pc1' (A : Option Addr) (n c : Nat) (a1 : Value) (xs : List Pce) (f : Pce → Bool) (w : World) (hn : n = xs.length) (hm : n ≤ maxLen) (hx : Rd w w.heap.size 10 A n (rP xs))
    (hf : ∀ k, k < xs.length → ∀ W, Below w.heap.size w W → Calls Try.prog 57 #[(at0 xs k).val, a1] W fun e w' => e = .returned (.bool (f (at0 xs k))) ∧ Below W.heap.size W w') :
    Calls Try.prog 56 #[.slice A n c, .func (Fn.func 57) #[] #[a1]] w fun e w' => e = .returned (.int .i64 (ixOf f xs)) ∧ Below w.heap.size w w' := by
  subst hn
  exact ix_pc1 A c a1 xs f w hm hx hf
theorem at0_drop {α : Type} [Inhabited α] (xs : List α) (i k : Nat) : at0 (xs.drop i) k = at0 xs (i + k) := by
  simp [at0, List.getD_eq_getElem?_getD]
theorem Rd.cutP {w : World} {B b o L i m : Nat} {xs : List Pce} (h : Rd w B 10 (some ⟨b, o, none⟩) L (rP (xs.drop i))) (hm : m ≤ L) : Rd w B 10 (some ⟨b, o + m * 10, none⟩) (L - m) (rP (xs.drop (i + m))) := fun hn => by
  obtain ⟨b', o', he, hb, hc⟩ := h (by omega)
  simp only [Option.some.injEq, Addr.mk.injEq, and_true] at he
  obtain ⟨rfl, rfl⟩ := he
  refine ⟨b, o + m * 10, rfl, hb, fun k hk j hj => ?_⟩
  have := hc (m + k) (by omega) j hj
  simp only [rP, at0_drop] at this ⊢
  rw [show o + m * 10 + k * 10 + j = o + (m + k) * 10 + j by omega, this, Nat.add_assoc]
def phBr (p : Vec) (a z : Pce) (last : Bool) : Option Brk :=
  if outsideB last (z.e - a.s.t) ⟨p (rlAt a.s.ph + 18), p (rlAt a.s.ph + 19)⟩ then some ⟨4, a.s.ph, 0⟩
  else if outsideB last (z.p + z.s.v 0 * (z.e - z.s.t) - a.p) ⟨p (rlAt a.s.ph + 20), p (rlAt a.s.ph + 21)⟩ then some ⟨5, a.s.ph, 0⟩ else none
/-- Where the next phase begins, counted from i. -/
def phJ (R : Run) (i : Nat) : Int := ixOf (otherB (at0 (pcs R) i).s.ph) ((pcs R).drop i)
def phM (R : Run) (i : Nat) : Nat := if phJ R i < 0 then R.ss.length - i else (phJ R i).toNat
def phBrs (p : Vec) (R : Run) : Nat → Nat → Option Brk
  | 0, _ => none
  | f + 1, i => if R.ss.length ≤ i then none else
    match phBr p (at0 (pcs R) i) (at0 (pcs R) (i + phM R i - 1)) (decide (phJ R i < 0)) with
    | some b => some b
    | none => phBrs p R f (i + phM R i)
theorem phM_pos {R : Run} {i : Nat} (h : i < R.ss.length) : 1 ≤ phM R i ∧ i + phM R i ≤ R.ss.length := by
  unfold phM
  split
  · omega
  · rename_i h1
    have h2 := ixOf_lt (otherB (at0 (pcs R) i).s.ph) ((pcs R).drop i)
    have h3 : phJ R i ≠ 0 := by
      have e : (pcs R).drop i = at0 (pcs R) i :: (pcs R).drop (i + 1) := by
        rw [at0_get (by rw [pcs_len]; exact h)]; exact List.drop_eq_getElem_cons (by rw [pcs_len]; exact h)
      have : otherB (at0 (pcs R) i).s.ph (at0 (pcs R) i) = false := by simp [otherB]
      unfold phJ
      rw [e]
      simp only [ixOf, this]
      simp
      split <;> omega
    rw [List.length_drop, pcs_len] at h2
    unfold phJ at *
    omega
theorem phBrs_fuel (p : Vec) (R : Run) : ∀ (f f' i : Nat), R.ss.length - i ≤ f → R.ss.length - i ≤ f' → phBrs p R f i = phBrs p R f' i
  | 0, 0, _, _, _ => rfl
  | 0, f' + 1, i, h, _ => by rw [phBrs, phBrs, if_pos (by omega)]
  | f + 1, 0, i, _, h => by rw [phBrs, phBrs, if_pos (by omega)]
  | f + 1, f' + 1, i, h, h' => by
    rw [phBrs, phBrs]
    split
    · rfl
    · have := phM_pos (R := R) (i := i) (by omega)
      rw [phBrs_fuel p R f f' (i + phM R i) (by omega) (by omega)]
set_option maxRecDepth 100000 in
set_option maxHeartbeats 2000000 in
theorem phases_any (A1 A2 A3 A : Option Addr) (c1 c2 c3 n c : Nat) (p : Vec) (R : Run) (w : World) (h : RunIn w A1 A2 A3 R) (hv : VRun R) (hp : VPul p) (hn : n = R.ss.length) (hc : n ≤ c) (hx : Rd w w.heap.size 10 A n (rP (pcs R))) :
    Calls Try.prog 28 #[.agg (ia 117 p), runV A1 A2 A3 c1 c2 c3 R, .slice A n c] w (RetB w (phBrs p R n 0)) := by
  obtain ⟨W2, hW2⟩ : ∃ W2, W2 = ((w.alloc (.cells (ia 117 p) 30)).alloc (.cells #[.slice A1 R.ss.length c1, I R.e, .slice A2 R.ms.length c2, .slice A3 R.es.length c3] 48)) := ⟨_, rfl⟩
  have T : Hid (Two w A1 A2 A3 c1 c2 c3 p R W2) := hW2 ▸ two_mk h c1 c2 c3 p
  have HW := Lib.hid hW2
  clear hW2
  have Hv := Lib.hid hv
  have Hp := Lib.hid hp
  have Hn := Lib.hid hn
  have Hx := Lib.hid hx
  have hn60 : n ≤ 60 := by rw [hn]; exact hv.n60
  have last := hv.last
  clear h hv hp hn hx
  go_enter Try.func28, Try.ntmps28
  go_wp2
  simp only [show w.heap.size + 1 + 1 + 1 = w.heap.size + 3 from rfl, show w.heap.size + 1 + 1 = w.heap.size + 2 from rfl]
  go_loopg [] n (fun g wr => ∃ i A' c', i ≤ n ∧ g = n - i ∧ phBrs p R g i = phBrs p R n 0 ∧ wr.heap[w.heap.size + 2]? = some (.cells #[.slice A' (n - i) c'] 89 (0, 0)) ∧ n - i ≤ c' ∧
    Rd w w.heap.size 10 A' (n - i) (rP ((pcs R).drop i)) ∧ wr.heap[w.heap.size + 3]? = some (.cells #[I 0, I 0, I 0] 53 (0, 0)) ∧ Below W2.heap.size W2 wr)
  case atStart =>
    rw [← HW.out]
    refine ⟨0, A, c, by omega, by omega, rfl, ?_, by omega, by simpa using Hx.out, heap_last _ _ _ (by simp [T.out.size]), ((Below.refl _ _).alloc (Nat.le_refl _) _).alloc (by simp) _⟩
    exact heap_before (heap_last _ _ _ (by rw [T.out.size]))
  case round =>
    obtain ⟨i, A', c', hi, hg, hph, hbox, hcap, hxr, hres, hbw⟩ := hrel
    subst hg
    obtain ⟨L, hL⟩ : ∃ L, L = n - i := ⟨_, rfl⟩
    rw [← hL] at hph hbox hcap hxr
    have hLi : L + i = n := by omega
    have HL := Lib.hid hL
    clear hL
    have Hph := Lib.hid hph
    have Hbox := Lib.hid hbox
    have Hres := Lib.hid hres
    have Hxr := Lib.hid hxr
    clear hph hbox hres hxr
    have bx : wr.cell? ⟨w.heap.size + 2, 0, none⟩ = some (.slice A' L c') := by rw [cell_of_row _ _ _ _ _ _ Hbox.out]; rfl
    have zr := hbw.size
    rw [T.out.size] at zr
    have zr4 : w.heap.size + 3 < wr.heap.size := (Array.getElem?_eq_some_iff.1 Hres.out).1
    have hll : ((pcs R).drop i).length = L := by rw [List.length_drop, pcs_len, ← Hn.out, HL.out]
    have Hll := Lib.hid hll
    clear hll
    by_cases hlt : i < n
    · have hne : (0 : Int) < (L : Int) := by omega
      have hiR : i < R.ss.length := by rw [← Hn.out]; exact hlt
      obtain ⟨lb, lo, rfl, hlB, hcells⟩ := Hxr.out (by omega)
      have Hcl : Hid (∀ W, Below w.heap.size w W → ∀ k, k < L → ∀ j, j < 10 → W.cell? ⟨lb, lo + k * 10 + j, none⟩ = some ((at0 (pcs R) (i + k)).c j)) := fun W hW k hk j hj => by
        rw [hW.cell (p := ⟨_, _, none⟩) hlB, hcells k hk j hj]; simp only [rP, at0_drop]
      clear hcells
      go_wp2_with fail
      refine (ix_pc1' _ _ _ _ ((pcs R).drop i) (otherB (at0 (pcs R) i).s.ph) wr Hll.out.symm (by unfold maxLen; omega) ((Hxr.out.below (T.out.up _ hbw)).more (T.out.up _ hbw).size) ?_).mono ?_
      · intro k hk W hW
        rw [Hll.out] at hk
        refine phases1_any _ _ _ _ lb lo L c' W ?_ (by omega) ?_
        · exact (hW.cell (p := ⟨_, _, none⟩) (by show w.heap.size + 2 < _; omega)).trans bx
        · have := Hcl.out W ((T.out.up _ hbw).trans (hW.mono (T.out.up _ hbw).size)) 0 (by omega) 1 (by omega)
          simpa [Pce.c, Stg.c] using this
      rintro e w1 ⟨rfl, hb1⟩
      have hB1 : Below W2.heap.size W2 w1 := hbw.trans (hb1.mono hbw.size)
      have bx1 : w1.cell? ⟨w.heap.size + 2, 0, none⟩ = some (.slice (some ⟨lb, lo, none⟩) L c') := (hb1.cell (p := ⟨_, _, none⟩) (by show w.heap.size + 2 < _; omega)).trans bx
      have z1 := hb1.size
      have hpM := phM_pos hiR
      have hJ : Hid (phJ R i = ixOf (otherB (at0 (pcs R) i).s.ph) ((pcs R).drop i)) := rfl
      rw [← hJ.out]
      clear bx
      have bx2 : ∀ x : Obj, (w1.alloc x).cell? ⟨w.heap.size + 2, 0, none⟩ = some (.slice (some ⟨lb, lo, none⟩) L c') := fun x => by rw [World.cell?_alloc_past _ _ _ (block_lt_of_cell bx1)]; exact bx1
      go_upto_if 23 with (fail)
      go_cut [8] (fun s8 wx => s8 = .int .i64 (phM R i : Nat) ∧ wx = w1.alloc (.cells #[.bool (decide (phJ R i < 0))] 4))
      case first =>
        by_cases hj : phJ R i < 0
        · have he : Hid (decide (phJ R i < 0) = true) := decide_eq_true hj
          have hm : Hid (phM R i = L) := by show _ = _; rw [phM, if_pos hj, ← Hn.out, HL.out]
          go_wp2_with fail
          go_meet
          case rel => exact ⟨by rw [hm.out], by rw [he.out]⟩
        · have he : Hid (decide (phJ R i < 0) = false) := decide_eq_false hj
          obtain ⟨J, hJn⟩ : ∃ J : Nat, phJ R i = J := ⟨_, (Int.toNat_of_nonneg (by omega)).symm⟩
          have hm : Hid (phM R i = J) := by show _ = _; rw [phM, if_neg hj, hJn]; rfl
          go_wp2_with fail
          go_meet
          case rel => exact ⟨by rw [hm.out], by rw [hJn]⟩
      case rest =>
        obtain ⟨rfl, rfl⟩ := hcut
        have hmL : phM R i ≤ L := by have := hpM.2; rw [← Hn.out] at this; omega
        obtain ⟨hm1, _⟩ := hpM
        generalize hmm : phM R i = m at *
        have HM := Lib.hid hmm
        clear hmm
        generalize hlb : decide (phJ R i < 0) = lst at *
        have HLb := Lib.hid hlb
        clear hlb
        go_upto_region 6 with fail
        generalize hW6 : w1.alloc (.cells #[.bool lst] 4) = W6
        have HW6 := Lib.hid hW6.symm
        clear hW6
        have bx6 : W6.cell? ⟨w.heap.size + 2, 0, none⟩ = some (.slice (some ⟨lb, lo, none⟩) L c') := by rw [HW6.out]; exact bx2 _
        have hB62 : Below W2.heap.size W2 W6 := by rw [HW6.out]; exact hB1.alloc hB1.size _
        have hB6 : Below w.heap.size w W6 := T.out.up _ hB62
        have hz6 : w1.heap.size + 1 ≤ W6.heap.size := by rw [HW6.out]; simp
        have hLb : Hid (W6.heap[w1.heap.size]? = some (.cells #[.bool lst] 4 (0, 0))) := by show W6.heap[_]? = _; rw [HW6.out]; exact heap_last _ _ _ rfl
        have HA : Hid (∀ j, j < 10 → W6.cell? ⟨lb, lo + j, none⟩ = some ((at0 (pcs R) i).c j)) := fun j hj => by have := Hcl.out W6 hB6 0 (by omega) j hj; simpa using this
        have HZ : Hid (∀ j, j < 10 → W6.cell? ⟨lb, lo + (m - 1) * 10 + j, none⟩ = some ((at0 (pcs R) (i + m - 1)).c j)) := fun j hj => by have := Hcl.out W6 hB6 (m - 1) (by omega) j hj; rwa [show i + (m - 1) = i + m - 1 by omega] at this
        generalize hq0 : at0 (pcs R) i = q0 at *
        generalize hq1 : at0 (pcs R) (i + m - 1) = q1 at *
        have HQ0 := Lib.hid hq0
        have HQ1 := Lib.hid hq1
        clear hq0 hq1 bx1 bx2
        go_cut [10, 11] (fun s10 s11 wx => ∃ a b : Nat, s10 = .pointer (some ⟨a, 0, none⟩) ∧ s11 = .pointer (some ⟨b, 0, none⟩) ∧ W6.heap.size ≤ a ∧ W6.heap.size ≤ b ∧ wx.heap[a]? = some (.cells (pcArr q0) 110 (0, 0)) ∧ wx.heap[b]? = some (.cells (pcArr q1) 110 (0, 0)) ∧ Below W6.heap.size W6 wx)
        case first =>
          have a0 : W6.cell? ⟨lb, lo, none⟩ = some (I (q0.s.t)) := HA.out 0 (by omega)
          have a1 : W6.cell? ⟨lb, lo + 1, none⟩ = some (I (q0.s.ph)) := HA.out 1 (by omega)
          have a2 : W6.cell? ⟨lb, lo + 2, none⟩ = some (I (q0.s.v 0)) := HA.out 2 (by omega)
          have a3 : W6.cell? ⟨lb, lo + 3, none⟩ = some (I (q0.s.v 1)) := HA.out 3 (by omega)
          have a4 : W6.cell? ⟨lb, lo + 4, none⟩ = some (I (q0.s.v 2)) := HA.out 4 (by omega)
          have a5 : W6.cell? ⟨lb, lo + 5, none⟩ = some (I (q0.s.v 3)) := HA.out 5 (by omega)
          have a6 : W6.cell? ⟨lb, lo + 6, none⟩ = some (I (q0.s.v 4)) := HA.out 6 (by omega)
          have a7 : W6.cell? ⟨lb, lo + 7, none⟩ = some (I (q0.s.v 5)) := HA.out 7 (by omega)
          have a8 : W6.cell? ⟨lb, lo + 8, none⟩ = some (I (q0.e)) := HA.out 8 (by omega)
          have a9 : W6.cell? ⟨lb, lo + 9, none⟩ = some (I (q0.p)) := HA.out 9 (by omega)
          have z0 : W6.cell? ⟨lb, lo + (m - 1) * 10, none⟩ = some (I (q1.s.t)) := HZ.out 0 (by omega)
          have zz1 : W6.cell? ⟨lb, lo + (m - 1) * 10 + 1, none⟩ = some (I (q1.s.ph)) := HZ.out 1 (by omega)
          have z2 : W6.cell? ⟨lb, lo + (m - 1) * 10 + 2, none⟩ = some (I (q1.s.v 0)) := HZ.out 2 (by omega)
          have z3 : W6.cell? ⟨lb, lo + (m - 1) * 10 + 3, none⟩ = some (I (q1.s.v 1)) := HZ.out 3 (by omega)
          have z4 : W6.cell? ⟨lb, lo + (m - 1) * 10 + 4, none⟩ = some (I (q1.s.v 2)) := HZ.out 4 (by omega)
          have z5 : W6.cell? ⟨lb, lo + (m - 1) * 10 + 5, none⟩ = some (I (q1.s.v 3)) := HZ.out 5 (by omega)
          have z6 : W6.cell? ⟨lb, lo + (m - 1) * 10 + 6, none⟩ = some (I (q1.s.v 4)) := HZ.out 6 (by omega)
          have z7 : W6.cell? ⟨lb, lo + (m - 1) * 10 + 7, none⟩ = some (I (q1.s.v 5)) := HZ.out 7 (by omega)
          have z8 : W6.cell? ⟨lb, lo + (m - 1) * 10 + 8, none⟩ = some (I (q1.e)) := HZ.out 8 (by omega)
          have z9 : W6.cell? ⟨lb, lo + (m - 1) * 10 + 9, none⟩ = some (I (q1.p)) := HZ.out 9 (by omega)
          have n2 : IntKind.i64.wrap ((m : Int) - 1) = (m : Int) - 1 := IntWalk.i64_in _ (by omega)
          have n4 : (1 : Int) ≤ (m : Int) := by omega
          have n3 : ((m : Int) - 1).toNat = m - 1 := by omega
          have n0 : (0 : Int) ≤ (m : Int) - 1 := by omega
          have n1 : (m : Int) - 1 < (L : Int) := by omega
          go_region_held3 (fun w' => w'.cell? ⟨w.heap.size + 2, 0, none⟩ = some (.slice (some ⟨lb, lo, none⟩) L c') ∧ w'.cell? ⟨lb, lo, none⟩ = some (I (q0.s.t)) ∧ w'.cell? ⟨lb, lo + 1, none⟩ = some (I (q0.s.ph)) ∧ w'.cell? ⟨lb, lo + 2, none⟩ = some (I (q0.s.v 0)) ∧ w'.cell? ⟨lb, lo + 3, none⟩ = some (I (q0.s.v 1)) ∧ w'.cell? ⟨lb, lo + 4, none⟩ = some (I (q0.s.v 2)) ∧ w'.cell? ⟨lb, lo + 5, none⟩ = some (I (q0.s.v 3)) ∧ w'.cell? ⟨lb, lo + 6, none⟩ = some (I (q0.s.v 4)) ∧ w'.cell? ⟨lb, lo + 7, none⟩ = some (I (q0.s.v 5)) ∧ w'.cell? ⟨lb, lo + 8, none⟩ = some (I (q0.e)) ∧ w'.cell? ⟨lb, lo + 9, none⟩ = some (I (q0.p)) ∧ w'.cell? ⟨lb, lo + (m - 1) * 10, none⟩ = some (I (q1.s.t)) ∧ w'.cell? ⟨lb, lo + (m - 1) * 10 + 1, none⟩ = some (I (q1.s.ph)) ∧ w'.cell? ⟨lb, lo + (m - 1) * 10 + 2, none⟩ = some (I (q1.s.v 0)) ∧ w'.cell? ⟨lb, lo + (m - 1) * 10 + 3, none⟩ = some (I (q1.s.v 1)) ∧ w'.cell? ⟨lb, lo + (m - 1) * 10 + 4, none⟩ = some (I (q1.s.v 2)) ∧ w'.cell? ⟨lb, lo + (m - 1) * 10 + 5, none⟩ = some (I (q1.s.v 3)) ∧ w'.cell? ⟨lb, lo + (m - 1) * 10 + 6, none⟩ = some (I (q1.s.v 4)) ∧ w'.cell? ⟨lb, lo + (m - 1) * 10 + 7, none⟩ = some (I (q1.s.v 5)) ∧ w'.cell? ⟨lb, lo + (m - 1) * 10 + 8, none⟩ = some (I (q1.e)) ∧ w'.cell? ⟨lb, lo + (m - 1) * 10 + 9, none⟩ = some (I (q1.p))) (go_keep) (fail)
          all_goals
            go_wp2_with fail
            go_meet
            case rel =>
              first
                | exact ⟨_, _, rfl, rfl, by omega, by omega, (by rw [heap_drew]; exact heap_before (heap_last _ _ _ rfl)), (by rw [heap_drew]; exact heap_last _ _ _ (by simp)), (((Below.refl _ _).alloc (Nat.le_refl _) _).alloc (by simp) _).drew⟩
                | exact ⟨_, _, rfl, rfl, by omega, by omega, (by rw [heap_drew]; exact heap_last _ _ _ (by simp)), (by rw [heap_drew]; exact heap_before (heap_last _ _ _ rfl)), (((Below.refl _ _).alloc (Nat.le_refl _) _).alloc (by simp) _).drew⟩
        case rest =>
          obtain ⟨fa, fb, rfl, rfl, hfa, hfb, hca, hcb, hbx⟩ := hcut
          have hqb0 : (1 ≤ q0.s.ph ∧ q0.s.ph ≤ 5) ∧ 0 ≤ q0.s.t ∧ q0.s.t ≤ 1000000 ∧ 0 ≤ q0.p ∧ q0.p ≤ 1000000000000 := by
            rw [← HQ0.out, at0_pcs R hiR]; have h1 := Hv.out.pcb i hiR; have h2 := Hv.out.ph i hiR; exact ⟨h2, h1.1, by show (at0 R.ss i).t ≤ _; omega, h1.2.2.2.2.2⟩
          have hqb1 : 0 ≤ q1.s.t ∧ q1.s.t ≤ q1.e ∧ q1.e ≤ 1000000 ∧ 0 ≤ q1.s.v 0 ∧ q1.s.v 0 ≤ 1000000 ∧ 0 ≤ q1.p ∧ q1.p ≤ 1000000000000 := by
            have hk : i + m - 1 < R.ss.length := by rw [← Hn.out]; omega
            rw [← HQ1.out, at0_pcs R hk]; exact Hv.out.pcb _ hk
          obtain ⟨⟨e1, e2⟩, e3, e4, e5, e6⟩ := hqb0
          obtain ⟨e7, e8, e9, e10, e11, e12, e13⟩ := hqb1
          have hxs := hbx.size
          have hfaL : fa < wc.heap.size := (Array.getElem?_eq_some_iff.1 hca).1
          have hfbL : fb < wc.heap.size := (Array.getElem?_eq_some_iff.1 hcb).1
          have Hfa : Hid (∀ W, Below wc.heap.size wc W → ∀ j v, (pcArr q0)[j]? = some v → W.cell? ⟨fa, j, none⟩ = some v) := fun W hW j v hj => by
            rw [hW.cell (p := ⟨_, _, none⟩) hfaL, cell_of_row _ _ _ _ _ _ hca]; exact hj
          have Hfb : Hid (∀ W, Below wc.heap.size wc W → ∀ j v, (pcArr q1)[j]? = some v → W.cell? ⟨fb, j, none⟩ = some v) := fun W hW j v hj => by
            rw [hW.cell (p := ⟨_, _, none⟩) hfbL, cell_of_row _ _ _ _ _ _ hcb]; exact hj
          have hBx2 : Below W2.heap.size W2 wc := hB62.trans (hbx.mono hB62.size)
          have B0 : Below wc.heap.size wc wc := Below.refl _ _
          have B1 : ∀ x, Below wc.heap.size wc (wc.alloc x) := fun x => B0.alloc (Nat.le_refl _) x
          have Bt : ∀ x y, Below wc.heap.size wc ((wc.alloc x).alloc y) := fun x y => (B1 x).alloc (by simp) y
          have g0 := Hfa.out _ B0 1 _ rfl
          have g1 := fun x => Hfa.out _ (B1 x) 1 _ rfl
          have g2 := fun x y => Hfb.out _ (Bt x y) 8 _ rfl
          have g3 := fun x y => Hfa.out _ (Bt x y) 0 _ rfl
          have HBt := Lib.hid Bt
          clear B0 B1 Bt
          have hm5 : q0.s.ph.toNat - 1 < 5 := by omega
          have i18 : (ia 22 fun j => p ((q0.s.ph.toNat - 1) * 22 + j))[18]? = some (I (p ((q0.s.ph.toNat - 1) * 22 + 18))) := ia_get (by omega)
          have i19 : (ia 22 fun j => p ((q0.s.ph.toNat - 1) * 22 + j))[19]? = some (I (p ((q0.s.ph.toNat - 1) * 22 + 19))) := ia_get (by omega)
          go_wp2_with (first | (refine wpList_load_ia rfl 27 _ rfl w.heap.size ((q0.s.ph.toNat - 1) * 22) rfl 22 (fun j => p ((q0.s.ph.toNat - 1) * 22 + j)) _ (fun j hj => by have := T.out.pul _ hBx2 ((q0.s.ph.toNat - 1) * 22 + j) (by omega); rwa [Nat.zero_add] at this) Try.underlying27 rfl (by kernel_rfl) ?_) | (refine wpList_store_new rfl 27 _ _ rfl _ _ wc.heap.size rfl ?_ _ rfl ia_one ?_ (by kernel_rfl) ?_))
          · rfl
          · simp [ia_size]
          have HLw : Hid (∀ W, Below wc.heap.size wc W → W.cell? ⟨w1.heap.size, 0, none⟩ = some (.bool lst)) := fun W hW => by
            rw [hW.cell (p := ⟨_, _, none⟩) (by show w1.heap.size < _; omega), hbx.cell (p := ⟨_, _, none⟩) (by show w1.heap.size < W6.heap.size; omega), cell_of_row _ _ _ _ _ _ hLb.out]; rfl
          clear g0 g1 g2 g3 i18 i19
          refine (phases2_any (q1.e - q0.s.t) ⟨p ((q0.s.ph.toNat - 1) * 22 + 18), p ((q0.s.ph.toNat - 1) * 22 + 19)⟩ lst w1.heap.size 0 _ (HLw.out _ (HBt.out _ _))).mono ?_
          rintro e w3 ⟨rfl, hb3⟩
          have z3 : wc.heap.size + 2 ≤ w3.heap.size := by have := hb3.size; simpa using this
          have HB3 : Below wc.heap.size wc w3 := (HBt.out _ _).trans (hb3.mono (by simp; omega))
          have k0 : w3.heap[wc.heap.size + 1]? = some (.cells #[I 0, I q0.s.ph, I 0] 53 (0, 0)) := (hb3.block _ (by simp)).trans (heap_last _ _ _ (by simp))
          have r0 : w3.heap[wc.heap.size]? = some (.cells (ia 22 fun j => p ((q0.s.ph.toNat - 1) * 22 + j)) 27 (0, 0)) := (hb3.block _ (by simp; omega)).trans (heap_before (heap_last _ _ _ rfl))
          have HK := Lib.hid k0
          have HR0 := Lib.hid r0
          clear k0 r0
          have hstp : Hid (phBrs p R n 0 = phBrs p R L i) := Hph.out.symm
          obtain ⟨L', hL'⟩ : ∃ L', L = L' + 1 := ⟨L - 1, by omega⟩
          have hun : Hid (phBrs p R L i = match phBr p q0 q1 lst with | some b => some b | none => phBrs p R L' (i + m)) := by
            show _ = _
            rw [hL', phBrs, if_neg (by omega), HQ0.out, HM.out, HQ1.out, HLb.out]
          have HL' := Lib.hid hL'
          clear hL'
          have hpb : Hid (phBr p q0 q1 lst = if outsideB lst (q1.e - q0.s.t) ⟨p ((q0.s.ph.toNat - 1) * 22 + 18), p ((q0.s.ph.toNat - 1) * 22 + 19)⟩ then some ⟨4, q0.s.ph, 0⟩
              else if outsideB lst (q1.p + q1.s.v 0 * (q1.e - q1.s.t) - q0.p) ⟨p ((q0.s.ph.toNat - 1) * 22 + 20), p ((q0.s.ph.toNat - 1) * 22 + 21)⟩ then some ⟨5, q0.s.ph, 0⟩ else none) := rfl
          rcases ho1 : outsideB lst (q1.e - q0.s.t) ⟨p ((q0.s.ph.toNat - 1) * 22 + 18), p ((q0.s.ph.toNat - 1) * 22 + 19)⟩ with _ | _
          · go_upto_region 13 with fail
            have y0 := ovr_cell (Hfb.out _ HB3 0 _ rfl)
            have y1 := ovr_cell (Hfb.out _ HB3 1 _ rfl)
            have y2 := ovr_cell (Hfb.out _ HB3 2 _ rfl)
            have y3 := ovr_cell (Hfb.out _ HB3 3 _ rfl)
            have y4 := ovr_cell (Hfb.out _ HB3 4 _ rfl)
            have y5 := ovr_cell (Hfb.out _ HB3 5 _ rfl)
            have y6 := ovr_cell (Hfb.out _ HB3 6 _ rfl)
            have y7 := ovr_cell (Hfb.out _ HB3 7 _ rfl)
            have y8 := ovr_cell (Hfb.out _ HB3 8 _ rfl)
            have y9 := ovr_cell (Hfb.out _ HB3 9 _ rfl)
            have ya := ovr_cell (Hfa.out _ HB3 9 _ rfl)
            have yr : ∀ u j, j < 22 → (ovr w3 u).cell? ⟨wc.heap.size, j, none⟩ = some (I (p ((q0.s.ph.toNat - 1) * 22 + j))) := fun u j hj => ovr_cell (by rw [cell_of_row _ _ _ _ _ _ HR0.out]; exact ia_get hj) u
            have yr20 := fun u => yr u 20 (by omega)
            have yr21 := fun u => yr u 21 (by omega)
            clear yr
            refine wp_region_below_lit (by kernel_rfl) (by kernel_rfl) ?_
            repeat (go_big_quiet_step ((first | (go_at_call 45; exact call_below (rate_any q1 _)) | (go_at_call 58; exact call_below (phases2_any _ ⟨p ((q0.s.ph.toNat - 1) * 22 + 20), p ((q0.s.ph.toNat - 1) * 22 + 21)⟩ lst w1.heap.size 0 _ (ovr_cell (HLw.out _ HB3) _))))))
            refine wpQuiet_nil ?_
            intro w4 hb4
            clear y0 y1 y2 y3 y4 y5 y6 y7 y8 y9 ya yr20 yr21
            have m1 : 0 ≤ q1.s.v 0 * (q1.e - q1.s.t) := Int.mul_nonneg e10 (by omega)
            have m2 : q1.s.v 0 * (q1.e - q1.s.t) ≤ 1000000 * 1000000 := Int.mul_le_mul e11 (by omega) (by omega) (by omega)
            simp (disch := omega) only [IntWalk.wrap64_in]
            have HB4 : Below wc.heap.size wc w4 := HB3.trans (hb4.mono HB3.size)
            have z4 := hb4.size
            have HK4 := Lib.hid ((hb4.block _ (by omega)).trans HK.out)
            rcases ho2 : outsideB lst (q1.p + q1.s.v 0 * (q1.e - q1.s.t) - q0.p) ⟨p ((q0.s.ph.toNat - 1) * 22 + 20), p ((q0.s.ph.toNat - 1) * 22 + 21)⟩ with _ | _
            · have hnx : Hid (phBrs p R L i = phBrs p R L' (i + m)) := by show _ = _; rw [hun.out, hpb.out, ho1, ho2]; rfl
              have HBB : Below W2.heap.size W2 w4 := hBx2.trans (HB4.mono hBx2.size)
              have bxx : w4.heap[w.heap.size + 2]? = some (.cells #[.slice (some ⟨lb, lo, none⟩) L c'] 89 (0, 0)) := (HB4.block _ (by omega)).trans ((hbx.block _ (by omega)).trans (by rw [HW6.out]; exact heap_before ((hb1.block _ (by omega)).trans Hbox.out)))
              have hrs : w4.heap[w.heap.size + 3]? = some (.cells #[I 0, I 0, I 0] 53 (0, 0)) := (HB4.block _ (by omega)).trans ((hbx.block _ (by omega)).trans (by rw [HW6.out]; exact heap_before ((hb1.block _ (by omega)).trans Hres.out)))
              have bc0 : w4.cell? ⟨w.heap.size + 2, 0, none⟩ = some (.slice (some ⟨lb, lo, none⟩) L c') := by rw [cell_of_row _ _ _ _ _ _ bxx]; rfl
              have bf0 : w4.frozen? ⟨w.heap.size + 2, 0, none⟩ = false := frozen_of_row _ _ _ _ _ bxx
              have Hbxx := Lib.hid bxx
              have Hrs := Lib.hid hrs
              clear bxx hrs
              have mm0 : (0 : Int) ≤ (m : Int) := by omega
              have mm1 : (m : Int) ≤ (L : Int) := by omega
              have hcut := Lib.hid (Rd.cutP Hxr.out hmL)
              have hnm : Hid (n - (i + m) = L - m) := by show _ = _; omega
              have hph2 : Hid (phBrs p R (n - (i + m)) (i + m) = phBrs p R n 0) := by
                show _ = _
                rw [hstp.out, hnx.out]
                exact phBrs_fuel p R _ _ _ (by rw [← Hn.out]; omega) (by rw [← Hn.out]; have := HL'.out; omega)
              by_cases hcm : c' = m
              all_goals
                go_wp2_with fail
                go_roundg (n - (i + m))
                case measure => omega
                case rel =>
                  refine ⟨i + m, _, _, by omega, rfl, hph2.out, by rw [hnm.out]; exact heap_setCell_same _ _ _ _ _ _ Hbxx.out, by omega, ?_, (heap_setCell_other _ _ _ _ (by show w.heap.size + 3 ≠ w.heap.size + 2; omega)).trans Hrs.out, ?_⟩
                  · rw [hnm.out]; first | exact hcut.out | exact fun h => absurd h (by omega)
                  · exact HBB.setCell (by rw [T.out.size]; exact Nat.le_refl _) _
            · have k0 : w4.cell? ⟨wc.heap.size + 1, 0, none⟩ = some (I 0) := by rw [cell_of_row _ _ _ _ _ _ HK4.out]; rfl
              have k1 : w4.cell? ⟨wc.heap.size + 1, 1, none⟩ = some (I q0.s.ph) := by rw [cell_of_row _ _ _ _ _ _ HK4.out]; rfl
              have k2 : w4.cell? ⟨wc.heap.size + 1, 2, none⟩ = some (I 0) := by rw [cell_of_row _ _ _ _ _ _ HK4.out]; rfl
              have kf : w4.frozen? ⟨wc.heap.size + 1, 0, none⟩ = false := frozen_of_row _ _ _ _ _ HK4.out
              have HBB : Below W2.heap.size W2 w4 := hBx2.trans (HB4.mono hBx2.size)
              have HRes2 : ∀ v : Value, (w4.setCell ⟨wc.heap.size + 1, 0, none⟩ v).heap[w.heap.size + 3]? = some (.cells #[I 0, I 0, I 0] 53 (0, 0)) := fun v => by
                rw [heap_setCell_other _ _ _ _ (by show w.heap.size + 3 ≠ wc.heap.size + 1; omega)]
                exact (HB4.block _ (by omega)).trans ((hbx.block _ (by omega)).trans (by rw [HW6.out]; exact heap_before ((hb1.block _ (by omega)).trans Hres.out)))
              have hbr : Hid (phBrs p R n 0 = some ⟨5, q0.s.ph, 0⟩) := by show _ = _; rw [hstp.out, hun.out, hpb.out, ho1, ho2]; rfl
              have fin : Hid (RetB w (phBrs p R n 0) = fun e w' => e = .returned (.tuple #[.agg #[I 5, I q0.s.ph, I 0], .bool true]) ∧ Below w.heap.size w w') := by show _ = _; rw [hbr.out]; rfl
              go_wp2_with (refine wpList_store_row rfl 53 _ _ rfl (w.heap.size + 3) rfl #[I 0, I 0, I 0] _ (HRes2 _) #[I 5, I q0.s.ph, I 0] rfl (one3 _ _ _) rfl (by kernel_rfl) ?_)
              refine bodyPost_ret (results_cell_tmp rfl _ _ (w.heap.size + 3) 53 #[I 5, I q0.s.ph, I 0] (0, 0) _ rfl (setRow_same (HRes2 _)) Try.underlying53 rfl (by kernel_rfl)) rfl ?_
              rw [fin.out]
              exact ⟨rfl, below_setRow ((T.out.up _ HBB).setCell (by have hzz := (T.out.up _ hBx2).size; show w.heap.size ≤ wc.heap.size + 1; omega) _) (by omega) _⟩
          · have k0 : w3.cell? ⟨wc.heap.size + 1, 0, none⟩ = some (I 0) := by rw [cell_of_row _ _ _ _ _ _ HK.out]; rfl
            have k1 : w3.cell? ⟨wc.heap.size + 1, 1, none⟩ = some (I q0.s.ph) := by rw [cell_of_row _ _ _ _ _ _ HK.out]; rfl
            have k2 : w3.cell? ⟨wc.heap.size + 1, 2, none⟩ = some (I 0) := by rw [cell_of_row _ _ _ _ _ _ HK.out]; rfl
            have kf : w3.frozen? ⟨wc.heap.size + 1, 0, none⟩ = false := frozen_of_row _ _ _ _ _ HK.out
            have HBB : Below W2.heap.size W2 w3 := hBx2.trans (HB3.mono hBx2.size)
            have HRes2 : ∀ v : Value, (w3.setCell ⟨wc.heap.size + 1, 0, none⟩ v).heap[w.heap.size + 3]? = some (.cells #[I 0, I 0, I 0] 53 (0, 0)) := fun v => by
              rw [heap_setCell_other _ _ _ _ (by show w.heap.size + 3 ≠ wc.heap.size + 1; omega)]
              exact (HB3.block _ (by omega)).trans ((hbx.block _ (by omega)).trans (by rw [HW6.out]; exact heap_before ((hb1.block _ (by omega)).trans Hres.out)))
            have hbr : Hid (phBrs p R n 0 = some ⟨4, q0.s.ph, 0⟩) := by show _ = _; rw [hstp.out, hun.out, hpb.out, ho1]; rfl
            have fin : Hid (RetB w (phBrs p R n 0) = fun e w' => e = .returned (.tuple #[.agg #[I 4, I q0.s.ph, I 0], .bool true]) ∧ Below w.heap.size w w') := by show _ = _; rw [hbr.out]; rfl
            go_wp2_with (refine wpList_store_row rfl 53 _ _ rfl (w.heap.size + 3) rfl #[I 0, I 0, I 0] _ (HRes2 _) #[I 4, I q0.s.ph, I 0] rfl (one3 _ _ _) rfl (by kernel_rfl) ?_)
            refine bodyPost_ret (results_cell_tmp rfl _ _ (w.heap.size + 3) 53 #[I 4, I q0.s.ph, I 0] (0, 0) _ rfl (setRow_same (HRes2 _)) Try.underlying53 rfl (by kernel_rfl)) rfl ?_
            rw [fin.out]
            exact ⟨rfl, below_setRow ((T.out.up _ HBB).setCell (by have hzz := (T.out.up _ hBx2).size; show w.heap.size ≤ wc.heap.size + 1; omega) _) (by omega) _⟩
    · have hi0 : i = n := by omega
      have hL0 : L = 0 := by omega
      have hnone : Hid (phBrs p R n 0 = none) := by
        show _ = _
        rw [← Hph.out, hL0]; rfl
      have hne : ¬ (0 : Int) < (L : Int) := by omega
      have fin : Hid (RetB w (phBrs p R n 0) = fun e w' => e = .returned (.tuple #[.agg #[I 0, I 0, I 0], .bool false]) ∧ Below w.heap.size w w') := by show _ = _; rw [hnone.out]; rfl
      clear hi0 hL0
      go_wp2_with (refine wpList_store_row rfl 53 _ _ rfl (w.heap.size + 3) rfl #[I 0, I 0, I 0] _ Hres.out #[I 0, I 0, I 0] rfl (one3 _ _ _) rfl (by kernel_rfl) ?_)
      refine bodyPost_ret (results_cell_tmp rfl _ _ (w.heap.size + 3) 53 #[I 0, I 0, I 0] (0, 0) _ rfl (setRow_same Hres.out) Try.underlying53 rfl (by kernel_rfl)) rfl ?_
      rw [fin.out]
      exact ⟨rfl, below_setRow (T.out.up _ hbw) (by omega) _⟩
end Go.Proofs.Ytbojgcaehlapiaa
