/- The contracts of both, stop and Stop of package pull. -/
import Derived.Test.YtlebefopdnadaaaStr
namespace Go.Proofs.Ytlebefopdnadaaa
open Go.RowKit
def lostB (x : Evt) : Bool := x.kd == 1
theorem lost_any (x : Evt) (w : World) : Calls Try.prog 82 #[.agg #[I x.t, I x.kd]] w fun e w' => e = .returned (.bool (lostB x)) ∧ Below w.heap.size w w' := by
  show Calls _ _ _ _ fun e w' => e = .returned (.bool (x.kd == 1)) ∧ _
  go_enter Try.func82, Try.ntmps82
  go_wp2
  go_ret
  exact ⟨rfl, (Below.refl _ _).alloc (Nat.le_refl _) _⟩
set_option maxHeartbeats 400000 in
theorem ix_lost (A : Option Addr) (c : Nat) (xs : List Evt) (w : World) (hm : xs.length ≤ maxLen) (hx : Rd w w.heap.size 2 A xs.length (rE xs)) :
    Calls Try.prog 81 #[.slice A xs.length c, .func (Fn.func 82) #[] #[]] w fun e w' => e = .returned (.int .i64 (ixOf lostB xs)) ∧ Below w.heap.size w w' := by
  unfold maxLen at hm
  have Hx := Lib.hid hx
  clear hx
  go_enter Try.func81, Try.ntmps81
  go_wp2
  go_loopw [8] (fun i wr => ∃ k : Nat, k ≤ xs.length ∧ i = .int .i64 k ∧ (∀ j, j < k → lostB (at0 xs j) = false) ∧ Below w.heap.size w wr) (fun i _ => xs.length - (intOf i).toNat)
  case atStart => exact ⟨0, by omega, rfl, by omega, Below.refl _ _⟩
  case round =>
    obtain ⟨k, hk, rfl, hb, hbw⟩ := hrel
    have Hb := Lib.hid hb
    clear hb
    by_cases hlt : k < xs.length
    · obtain ⟨b, o, rfl, _, hx0, hx1⟩ := (Hx.out.below hbw).evt hlt
      have hsz := hbw.size
      by_cases hp : lostB (at0 xs k) = true
      · have hfin := Lib.hid (ixOf_at hlt hp Hb.out)
        go_wp2_with (go_at_call 82; refine (lost_any _ _).mono ?_; rintro e w' ⟨rfl, hb1⟩)
        go_ret
        exact ⟨ret_int hfin.out.symm, hbw.trans (hb1.mono hsz)⟩
      · have hp : lostB (at0 xs k) = false := by simpa using hp
        go_wp2_with (go_at_call 82; refine (lost_any _ _).mono ?_; rintro e w' ⟨rfl, hb1⟩)
        go_roundw
        case rel => exact ⟨k + 1, by omega, by go_num, succ_case Hb.out hp, hbw.trans (hb1.mono hsz)⟩
        case measure => simp [intOf]; omega
    · have hfin : Hid (ixOf lostB xs = -1) := ixOf_none0 fun j hj => Hb.out j (by omega)
      go_wp2
      go_ret
      exact ⟨ret_int hfin.out.symm, hbw⟩
theorem ia_load {p : Vec} {w W : World} (hb : Below (w.alloc (.cells (ia 117 p) 30)).heap.size (w.alloc (.cells (ia 117 p) 30)) W) : ∀ j, j < 117 → W.cell? ⟨w.heap.size, 0 + j, none⟩ = some (I (p j)) := fun j hj => by
  rw [Nat.zero_add, hb.cell (p := ⟨_, _, none⟩) (by simp), cell_of_row _ _ _ _ _ _ (heap_alloc_new w _)]; exact ia_get hj
/-- What lies in memory where a function has boxed a puller and a run. -/
structure Two (w : World) (A1 A2 A3 : Option Addr) (c1 c2 c3 : Nat) (p : Vec) (R : Run) (W2 : World) : Prop where
  run : RunIn W2 A1 A2 A3 R
  pul : ∀ W, Below W2.heap.size W2 W → ∀ j, j < 117 → W.cell? ⟨w.heap.size, 0 + j, none⟩ = some (I (p j))
  r0 : ∀ W, Below W2.heap.size W2 W → W.cell? ⟨w.heap.size + 1, 0, none⟩ = some (.slice A1 R.ss.length c1)
  r1 : ∀ W, Below W2.heap.size W2 W → W.cell? ⟨w.heap.size + 1, 1, none⟩ = some (I R.e)
  r2 : ∀ W, Below W2.heap.size W2 W → W.cell? ⟨w.heap.size + 1, 2, none⟩ = some (.slice A2 R.ms.length c2)
  r3 : ∀ W, Below W2.heap.size W2 W → W.cell? ⟨w.heap.size + 1, 3, none⟩ = some (.slice A3 R.es.length c3)
  up : ∀ W, Below W2.heap.size W2 W → Below w.heap.size w W
  size : W2.heap.size = w.heap.size + 2
theorem two_mk {w : World} {A1 A2 A3 : Option Addr} {R : Run} (h : RunIn w A1 A2 A3 R) (c1 c2 c3 : Nat) (p : Vec) :
    Two w A1 A2 A3 c1 c2 c3 p R ((w.alloc (.cells (ia 117 p) 30)).alloc (.cells #[.slice A1 R.ss.length c1, I R.e, .slice A2 R.ms.length c2, .slice A3 R.es.length c3] 35)) where
  run := (h.alloc _).alloc _
  pul := fun W hb => ia_load (((Below.refl _ _).alloc (Nat.le_refl _) _).trans (hb.mono (by simp)))
  r0 := fun W hb => (hb.cell (p := ⟨_, _, none⟩) (by simp)).trans (by simp)
  r1 := fun W hb => (hb.cell (p := ⟨_, _, none⟩) (by simp)).trans (by simp)
  r2 := fun W hb => (hb.cell (p := ⟨_, _, none⟩) (by simp)).trans (by simp)
  r3 := fun W hb => (hb.cell (p := ⟨_, _, none⟩) (by simp)).trans (by simp)
  up := fun W hb => under2 (under2 hb)
  size := by simp
set_option maxHeartbeats 1000000 in
theorem both_any (A1 A2 A3 : Option Addr) (c1 c2 c3 : Nat) (p : Vec) (R : Run) (w : World) (h : RunIn w A1 A2 A3 R) :
    Calls Try.prog 53 #[.agg (ia 117 p), runV A1 A2 A3 c1 c2 c3 R] w fun e w' => e = .returned (I (er (okPuller p && okRun R))) ∧ Below w.heap.size w w' := by
  have T := Lib.hid (two_mk h c1 c2 c3 p)
  clear h
  go_enter Try.func53, Try.ntmps53
  go_wp2_with (refine wpList_load_ia rfl 30 _ rfl w.heap.size 0 rfl 117 p _ (T.out.pul _ (Below.refl _ _)) Try.underlying30 rfl (by kernel_rfl) ?_)
  refine (checkPuller_any p _).mono ?_
  rintro e w1 ⟨rfl, hb1⟩
  rcases hp : okPuller p with _ | _
  · rw [show er false = 2 from rfl]
    go_wp2_with fail
    go_ret
    exact ⟨by rw [hp]; rfl, T.out.up _ hb1⟩
  · rw [show er true = 0 from rfl]
    have x0 := T.out.r0 _ hb1
    have x1 := T.out.r1 _ hb1
    have x2 := T.out.r2 _ hb1
    have x3 := T.out.r3 _ hb1
    go_wp2_with fail
    refine (checkRun_any _ _ _ _ _ _ R _ (T.out.run.below hb1)).mono ?_
    rintro e w2 ⟨rfl, hb2⟩
    have hb3 := Lib.hid (T.out.up _ (hb1.trans (hb2.mono hb1.size)))
    rcases hr : okRun R with _ | _
    · rw [show er false = 2 from rfl]
      go_wp2_with fail
      go_ret
      exact ⟨by rw [hp, hr]; rfl, hb3.out⟩
    · rw [show er true = 0 from rfl]
      go_wp2_with fail
      go_ret
      exact ⟨by rw [hp, hr]; rfl, hb3.out⟩
/-- When a run is stopped: by a loss of structure; by a stretch without power. -/
def stop0 (R : Run) : Int × Int := if 0 ≤ ixOf lostB R.es then ((at0 R.es (ixOf lostB R.es).toNat).t, 1) else (-1, 0)
def longB (hold : Int) (r : Rng) : Bool := decide (hold < r.hi - r.lo)
def stopF (p : Vec) (R : Run) : Int × Int :=
  let q := stop0 R
  let l := strs R 4 5
  let i := ixOf (longB (p 115)) l
  if 0 ≤ i then (let t := (at0 l i.toNat).lo + p 115; if q.1 < 0 ∨ t < q.1 then (t, 4) else q) else q
/-- The ends of stretches are times. -/
theorem strK_bd {R : Run} (h : VRun R) (o s : Int) : ∀ k, k ≤ R.es.length → (∀ r ∈ (strK R o s k).1, 0 ≤ r.lo ∧ 0 ≤ r.hi ∧ r.hi ≤ R.e) ∧ (strK R o s k).2 ≤ R.e ∧ -1 ≤ (strK R o s k).2
  | 0, _ => by have := h.t0 0 h.n1; have := h.tlt 0 h.n1; simp [strK]; omega
  | k + 1, hk => by
    have ih := strK_bd h o s k (by omega)
    have ht := h.et k (by omega)
    simp only [strK, strStep]
    split
    · exact ⟨ih.1, ht.2, by simp; omega⟩
    · split
      · rename_i h1
        refine ⟨fun r hr => ?_, by simp; omega, by simp⟩
        simp at hr
        rcases hr with hr | rfl
        · exact ih.1 r hr
        · exact ⟨h1.2, ht⟩
      · exact ih
theorem strs_bd {R : Run} (h : VRun R) (o s : Int) : ∀ r ∈ strs R o s, 0 ≤ r.lo ∧ 0 ≤ r.hi ∧ r.hi ≤ R.e := by
  have := strK_bd h o s R.es.length (by omega)
  intro r hr
  unfold strs at hr
  split at hr
  · simp at hr
    rcases hr with hr | rfl
    · exact this.1 r hr
    · rename_i h0; have := h.t0 0 h.n1; have := h.tlt 0 h.n1; exact ⟨h0, by simp; omega, by simp⟩
  · exact this.1 r hr
theorem strK_lo {R : Run} (h : VRun R) (o s : Int) : ∀ k, k ≤ R.es.length → ∀ r ∈ (strK R o s k).1, r.lo ≤ R.e
  | 0, _ => by simp [strK]
  | k + 1, hk => by
    have ih := strK_lo h o s k (by omega)
    have hb := (strK_bd h o s k (by omega)).2.1
    simp only [strK, strStep]
    split
    · exact ih
    · split
      · intro r hr
        simp at hr
        rcases hr with hr | rfl
        · exact ih r hr
        · exact hb
      · exact ih
theorem strs_lo {R : Run} (h : VRun R) (o s : Int) : ∀ r ∈ strs R o s, r.lo ≤ R.e := by
  have h1 := strK_lo h o s R.es.length (by omega)
  have h2 := (strK_bd h o s R.es.length (by omega)).2.1
  intro r hr
  unfold strs at hr
  split at hr
  · simp at hr
    rcases hr with hr | rfl
    · exact h1 r hr
    · exact h2
  · exact h1 r hr
theorem at0_in {α : Type} [Inhabited α] {l : List α} {k : Nat} (hk : k < l.length) : at0 l k ∈ l := by rw [at0_get hk]; exact List.getElem_mem hk
theorem strs_len (R : Run) (o s : Int) : (strs R o s).length ≤ R.es.length + 1 := by
  have := strK_len R o s R.es.length
  unfold strs
  split
  · simp; omega
  · omega
theorem ixOf_lt {α : Type} (p : α → Bool) : ∀ xs : List α, ixOf p xs < xs.length
  | [] => by simp [ixOf]
  | x :: r => by
    have := ixOf_lt p r
    simp only [ixOf]
    split
    · simp only [List.length_cons]; omega
    · split
      · simp only [List.length_cons]; omega
      · simp only [List.length_cons]; omega
set_option maxRecDepth 100000 in
set_option maxHeartbeats 1000000 in
theorem stop_any (A1 A2 A3 : Option Addr) (c1 c2 c3 : Nat) (p : Vec) (R : Run) (w : World) (h : RunIn w A1 A2 A3 R) (hv : VRun R) (hp : 0 ≤ p 115 ∧ p 115 ≤ 100000) :
    Calls Try.prog 54 #[.agg (ia 117 p), runV A1 A2 A3 c1 c2 c3 R] w fun e w' => e = .returned (.tuple #[I (stopF p R).1, I (stopF p R).2]) ∧ Below w.heap.size w w' := by
  obtain ⟨W2, hW2⟩ : ∃ W2, W2 = ((w.alloc (.cells (ia 117 p) 30)).alloc (.cells #[.slice A1 R.ss.length c1, I R.e, .slice A2 R.ms.length c2, .slice A3 R.es.length c3] 35)) := ⟨_, rfl⟩
  have T : Hid (Two w A1 A2 A3 c1 c2 c3 p R W2) := hW2 ▸ two_mk h c1 c2 c3 p
  have HW := Lib.hid hW2
  clear hW2
  have Hv := Lib.hid hv
  clear h hv
  obtain ⟨hp1, hp2⟩ := hp
  have le := Hv.out.e20
  have last := Hv.out.last
  have He := Lib.hid T.out.run.e
  go_enter Try.func54, Try.ntmps54
  go_wp2_with fail
  rw [← HW.out]
  refine (ix_lost _ _ _ _ (by unfold maxLen; omega) He.out).mono ?_
  rintro e w1 ⟨rfl, hb1⟩
  have x0 := T.out.r0 _ hb1
  have x1 := T.out.r1 _ hb1
  have x2 := T.out.r2 _ hb1
  have x3 := T.out.r3 _ hb1
  by_cases h0 : 0 ≤ ixOf lostB R.es
  · obtain ⟨m, hm⟩ : ∃ m : Nat, ixOf lostB R.es = m := ⟨_, (Int.toNat_of_nonneg h0).symm⟩
    have hml : m < R.es.length := by have := ixOf_lt lostB R.es; omega
    have hs0 : Hid (stop0 R = ((at0 R.es m).t, 1)) := by show stop0 R = _; rw [stop0, if_pos h0, hm, Int.toNat_natCast]
    rw [hm]
    have Hm := Lib.hid hm
    clear hm h0
    obtain ⟨t1, t2⟩ := Hv.out.et m hml
    obtain ⟨b, o, rfl, hB, y0, y1⟩ := (He.out.below hb1).evt hml
    go_wp2_with fail
    refine (stretches_any _ _ _ _ _ _ R 4 5 _ (T.out.run.below hb1) (by omega)).mono ?_
    rintro e w2 ⟨A, n, c, rfl, hn, hx, hb2⟩
    have Hn := Lib.hid hn
    have Hx := Lib.hid hx
    have hbT := hb1.trans (hb2.mono hb1.size)
    have hn21 : n ≤ 1000 := by rw [Hn.out]; have := strs_len R 4 5; omega
    clear hn hx x0 x1 x2 x3 hb1 hb2
    have HT := Lib.hid hbT
    have hz2 : w.heap.size + 2 ≤ w2.heap.size := by have := hbT.size; rw [T.out.size] at this; exact this
    clear hbT
    go_wp2_with fail
    go_loopw [4, 5, 24] (fun a b i wr => ∃ k : Nat, k ≤ n ∧ i = .int .i64 k ∧ a = I ((at0 R.es m).t) ∧ b = I 1 ∧ (∀ j, j < k → longB (p 115) (at0 (strs R 4 5) j) = false) ∧ Below w2.heap.size w2 wr) (fun _ _ i _ => n - (intOf i).toNat)
    case atStart => exact ⟨0, by omega, rfl, rfl, rfl, by omega, Below.refl _ _⟩
    case round =>
      obtain ⟨k, hk, rfl, rfl, rfl, hb, hbw⟩ := hrel
      have Hb := Lib.hid hb
      clear hb
      have zr := hbw.size
      have HB : Hid (Below W2.heap.size W2 wr) := HT.out.trans (hbw.mono HT.out.size)
      by_cases hlt : k < n
      · obtain ⟨b, o, rfl, hB, x0, x1⟩ := (Hx.out.below hbw).rng hlt
        have ch : ∀ x : Obj, (wr.alloc x).cell? ⟨w.heap.size, 115, none⟩ = some (I (p 115)) := fun x => T.out.pul _ (HB.out.alloc HB.out.size x) 115 (by omega)
        have hin := at0_in (l := strs R 4 5) (k := k) (by rw [← Hn.out]; exact hlt)
        have hbd := strs_bd Hv.out 4 5 _ hin
        have hlo := strs_lo Hv.out 4 5 _ hin
        clear hin
        generalize hq : at0 (strs R 4 5) k = q at *
        have HQ := Lib.hid hq
        clear hq
        obtain ⟨b1, b2, b3⟩ := hbd
        have hlb : Hid (longB (p 115) q = decide (p 115 < q.hi - q.lo)) := rfl
        by_cases h1 : p 115 < q.hi - q.lo
        · have hix : Hid (ixOf (longB (p 115)) (strs R 4 5) = k) := ixOf_at (by rw [← Hn.out]; exact hlt) (by rw [HQ.out, hlb.out]; simpa using h1) Hb.out
          have hst : Hid (stopF p R = if ((at0 R.es m).t) < 0 ∨ q.lo + p 115 < ((at0 R.es m).t) then (q.lo + p 115, 4) else ((at0 R.es m).t, 1)) := by
            show stopF p R = _
            simp only [stopF, hix.out, hs0.out, Int.toNat_natCast, HQ.out, if_pos (show (0 : Int) ≤ (k : Int) by omega)]
          by_cases h2 : q.lo + p 115 < (at0 R.es m).t
          · go_wp2_with fail
            go_ret2
            exact ⟨by rw [hst.out, if_pos (by omega)]; rfl, T.out.up _ (HB.out.alloc HB.out.size _)⟩
          · go_wp2_with fail
            go_ret2
            exact ⟨by rw [hst.out, if_neg (by omega)]; rfl, T.out.up _ (HB.out.alloc HB.out.size _)⟩
        · have hno : longB (p 115) q = false := by rw [hlb.out]; simpa using h1
          have Hno := Lib.hid hno
          clear hno
          go_wp2_with fail
          go_roundw
          case rel => exact ⟨k + 1, by omega, by go_num, rfl, rfl, succ_case Hb.out (by rw [HQ.out]; exact Hno.out), hbw.alloc (by omega) _⟩
          case measure => simp [intOf]; omega
      · have hst : Hid (stopF p R = ((at0 R.es m).t, 1)) := by
          show stopF p R = _
          have hnone : ixOf (longB (p 115)) (strs R 4 5) = -1 := ixOf_none0 fun j hj => Hb.out j (by rw [← Hn.out] at hj; omega)
          simp only [stopF, hnone, hs0.out]; rfl
        go_wp2_with fail
        go_ret2
        exact ⟨by rw [hst.out]; rfl, T.out.up _ HB.out⟩
  · have hs0 : Hid (stop0 R = (-1, 0)) := by show stop0 R = _; rw [stop0, if_neg h0]
    go_wp2_with fail
    refine (stretches_any _ _ _ _ _ _ R 4 5 _ (T.out.run.below hb1) (by omega)).mono ?_
    rintro e w2 ⟨A, n, c, rfl, hn, hx, hb2⟩
    have Hn := Lib.hid hn
    have Hx := Lib.hid hx
    have hbT := hb1.trans (hb2.mono hb1.size)
    have hn21 : n ≤ 1000 := by rw [Hn.out]; have := strs_len R 4 5; omega
    clear hn hx x0 x1 x2 x3 hb1 hb2
    have HT := Lib.hid hbT
    have hz2 : w.heap.size + 2 ≤ w2.heap.size := by have := hbT.size; rw [T.out.size] at this; exact this
    clear hbT
    go_wp2_with fail
    go_loopw [4, 5, 24] (fun a b i wr => ∃ k : Nat, k ≤ n ∧ i = .int .i64 k ∧ a = I (-1) ∧ b = I 0 ∧ (∀ j, j < k → longB (p 115) (at0 (strs R 4 5) j) = false) ∧ Below w2.heap.size w2 wr) (fun _ _ i _ => n - (intOf i).toNat)
    case atStart => exact ⟨0, by omega, rfl, rfl, rfl, by omega, Below.refl _ _⟩
    case round =>
      obtain ⟨k, hk, rfl, rfl, rfl, hb, hbw⟩ := hrel
      have Hb := Lib.hid hb
      clear hb
      have zr := hbw.size
      have HB : Hid (Below W2.heap.size W2 wr) := HT.out.trans (hbw.mono HT.out.size)
      by_cases hlt : k < n
      · obtain ⟨b, o, rfl, hB, x0, x1⟩ := (Hx.out.below hbw).rng hlt
        have ch : ∀ x : Obj, (wr.alloc x).cell? ⟨w.heap.size, 115, none⟩ = some (I (p 115)) := fun x => T.out.pul _ (HB.out.alloc HB.out.size x) 115 (by omega)
        have hin := at0_in (l := strs R 4 5) (k := k) (by rw [← Hn.out]; exact hlt)
        have hbd := strs_bd Hv.out 4 5 _ hin
        have hlo := strs_lo Hv.out 4 5 _ hin
        clear hin
        generalize hq : at0 (strs R 4 5) k = q at *
        have HQ := Lib.hid hq
        clear hq
        obtain ⟨b1, b2, b3⟩ := hbd
        have hlb : Hid (longB (p 115) q = decide (p 115 < q.hi - q.lo)) := rfl
        by_cases h1 : p 115 < q.hi - q.lo
        · have hix : Hid (ixOf (longB (p 115)) (strs R 4 5) = k) := ixOf_at (by rw [← Hn.out]; exact hlt) (by rw [HQ.out, hlb.out]; simpa using h1) Hb.out
          have hst : Hid (stopF p R = if (-1) < 0 ∨ q.lo + p 115 < (-1) then (q.lo + p 115, 4) else (-1, 0)) := by
            show stopF p R = _
            simp only [stopF, hix.out, hs0.out, Int.toNat_natCast, HQ.out, if_pos (show (0 : Int) ≤ (k : Int) by omega)]
          go_wp2_with fail
          go_ret2
          exact ⟨by rw [hst.out, if_pos (by omega)]; rfl, T.out.up _ (HB.out.alloc HB.out.size _)⟩
        · have hno : longB (p 115) q = false := by rw [hlb.out]; simpa using h1
          have Hno := Lib.hid hno
          clear hno
          go_wp2_with fail
          go_roundw
          case rel => exact ⟨k + 1, by omega, by go_num, rfl, rfl, succ_case Hb.out (by rw [HQ.out]; exact Hno.out), hbw.alloc (by omega) _⟩
          case measure => simp [intOf]; omega
      · have hst : Hid (stopF p R = (-1, 0)) := by
          show stopF p R = _
          have hnone : ixOf (longB (p 115)) (strs R 4 5) = -1 := ixOf_none0 fun j hj => Hb.out j (by rw [← Hn.out] at hj; omega)
          simp only [stopF, hnone, hs0.out]; rfl
        go_wp2_with fail
        go_ret2
        exact ⟨by rw [hst.out]; rfl, T.out.up _ HB.out⟩
end Go.Proofs.Ytlebefopdnadaaa
