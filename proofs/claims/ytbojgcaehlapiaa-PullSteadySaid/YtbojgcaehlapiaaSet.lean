/- The contract of settings of package pull: the first setting that breaks the phases, the bounds or the ramps. -/
import Derived.Test.YtbojgcaehlapiaaPca
import Derived.Test.YtbojgcaehlapiaaBa
namespace Go.Proofs.Ytbojgcaehlapiaa
open Go.RowKit
/-- A breach: its rule, its place, its gauge. -/
structure Brk where
  rule : Int
  at_ : Int
  g : Int
  deriving Inhabited, DecidableEq
abbrev Brk.val (b : Brk) : Value := .agg #[I b.rule, I b.at_, I b.g]
def brOf : Option Brk → Brk
  | some b => b | none => ⟨0, 0, 0⟩
/-- What was set before setting k. -/
def bfS (R : Run) : Nat → Pce
  | 0 => ⟨⟨0, 1, fun _ => 0⟩, 0, 0⟩ | k + 1 => pcS R k
/-- Where the rule of a phase begins. -/
def rlAt (ph : Int) : Nat := (ph.toNat - 1) * 22
def stepB (R : Run) (k : Nat) : Bool := decide ((at0 R.ss k).ph - (bfS R k).s.ph < 0) || decide (1 < (at0 R.ss k).ph - (bfS R k).s.ph) || (decide (k = 0) && decide (0 < (at0 R.ss k).ph - (bfS R k).s.ph))
def bndB (p : Vec) (s : Stg) (g : Nat) : Bool := decide (s.v g < p (rlAt s.ph + g * 2)) || decide (p (rlAt s.ph + g * 2 + 1) < s.v g)
def farB (p : Vec) (s b : Stg) (g : Nat) : Bool := decide (p (rlAt s.ph + 12 + g) * (s.t - b.t) < s.v g - b.v g) || decide (p (rlAt s.ph + 12 + g) * (s.t - b.t) < b.v g - s.v g)
def six (f : Nat → Bool) : Option Nat := (List.range 6).find? f
def setBr (p : Vec) (R : Run) (k : Nat) : Option Brk :=
  if stepB R k then some ⟨1, k, 0⟩
  else match six (bndB p (at0 R.ss k)) with
    | some g => some ⟨2, k, g⟩
    | none => if k = 0 then none else (six (farB p (at0 R.ss k) (bfS R k).s)).map fun g => ⟨3, k, g⟩
def setBrs (p : Vec) (R : Run) : Option Brk := (List.range R.ss.length).findSome? (setBr p R)
theorem find_at {f : Nat → Bool} : ∀ {n k : Nat}, k < n → (∀ j, j < k → f j = false) → f k = true → (List.range n).find? f = some k := fun {n k} hk hj hf => by
  rw [List.find?_eq_some_iff_getElem]
  refine ⟨hf, k, by simpa using hk, by simp, fun j hjk => ?_⟩
  simp; exact hj j hjk
theorem find_no {f : Nat → Bool} {n : Nat} (h : ∀ j, j < n → f j = false) : (List.range n).find? f = none := by
  rw [List.find?_eq_none]
  intro x hx
  simp at hx
  simp [h x hx]
theorem findSome_at {α : Type} {f : Nat → Option α} {a : α} : ∀ {n k : Nat}, k < n → (∀ j, j < k → f j = none) → f k = some a → (List.range n).findSome? f = some a := fun {n k} hk hj hf => by
  obtain ⟨m, rfl⟩ : ∃ m, n = k + 1 + m := ⟨n - (k + 1), by omega⟩
  rw [List.range_add, List.findSome?_append, List.range_succ, List.findSome?_append]
  have : (List.range k).findSome? f = none := by
    rw [List.findSome?_eq_none_iff]; intro x hx; exact hj x (by simpa using hx)
  simp [this, hf]
theorem findSome_no {α : Type} {f : Nat → Option α} {n : Nat} (h : ∀ j, j < n → f j = none) : (List.range n).findSome? f = none := by
  rw [List.findSome?_eq_none_iff]; intro x hx; exact h x (by simpa using hx)
/-- A call that hands back a breach, or none. -/
def RetB (w : World) (b : Option Brk) (e : Ending) (w' : World) : Prop := e = .returned (.tuple #[(brOf b).val, .bool b.isSome]) ∧ Below w.heap.size w w'
abbrev pcArr (q : Pce) : Array Value := #[I q.s.t, I q.s.ph, I (q.s.v 0), I (q.s.v 1), I (q.s.v 2), I (q.s.v 3), I (q.s.v 4), I (q.s.v 5), I q.e, I q.p]
theorem one3 (a b c : Int) : ∀ v ∈ (#[I a, I b, I c] : Array Value).toList, v.oneCell' = true := by intro v hv; simp at hv; rcases hv with rfl | rfl | rfl <;> rfl
theorem idx8 (q : Pce) {g : Nat} (h : g < 6) : (pcArr q)[2 + g]? = some (I (q.s.v g)) :=
  all6 (P := fun g => (pcArr q)[2 + g]? = some (I (q.s.v g))) rfl rfl rfl rfl rfl rfl g h
theorem idx6 (v : Vec) {g : Nat} (h : g < 6) : (#[I (v 0), I (v 1), I (v 2), I (v 3), I (v 4), I (v 5)] : Array Value)[g]? = some (I (v g)) :=
  all6 (P := fun g => (#[I (v 0), I (v 1), I (v 2), I (v 3), I (v 4), I (v 5)] : Array Value)[g]? = some (I (v g))) rfl rfl rfl rfl rfl rfl g h
theorem one10 (q : Pce) : ∀ v ∈ (pcArr q).toList, v.oneCell' = true := by intro v hv; simp at hv; rcases hv with rfl | rfl | rfl | rfl | rfl | rfl | rfl | rfl | rfl | rfl <;> rfl
/-- A valid puller. -/
structure VPul (p : Vec) : Prop where
  bd : ∀ r, r < 5 → ∀ g, g < 6 → 0 ≤ p (r * 22 + g * 2) ∧ p (r * 22 + g * 2) ≤ p (r * 22 + g * 2 + 1) ∧ p (r * 22 + g * 2 + 1) ≤ 1000000
  rm : ∀ r, r < 5 → ∀ g, g < 6 → 0 ≤ p (r * 22 + 12 + g) ∧ p (r * 22 + 12 + g) ≤ 1000000
  sc : ∀ r, r < 5 → 0 ≤ p (r * 22 + 18) ∧ p (r * 22 + 18) ≤ p (r * 22 + 19) ∧ p (r * 22 + 19) ≤ 100000
  ln : ∀ r, r < 5 → 0 ≤ p (r * 22 + 20) ∧ p (r * 22 + 20) ≤ p (r * 22 + 21) ∧ p (r * 22 + 21) ≤ 10000000000
  grow : 0 ≤ p 110 ∧ p 110 ≤ 1000000
  shrink : 0 ≤ p 111 ∧ p 111 ≤ 1000000
  lim : 0 ≤ p 112 ∧ p 112 ≤ p 113 ∧ p 113 ≤ 1000000
  slip : 0 ≤ p 114 ∧ p 114 ≤ 10000000000
  hold : 0 ≤ p 115 ∧ p 115 ≤ 100000
  grace : 0 ≤ p 116 ∧ p 116 ≤ 100000
theorem bfS_ph {R : Run} (h : VRun R) : ∀ k, k ≤ R.ss.length → 1 ≤ (bfS R k).s.ph ∧ (bfS R k).s.ph ≤ 5
  | 0, _ => by simp [bfS]
  | k + 1, hk => h.ph k (by omega)
theorem bfS_t {R : Run} (h : VRun R) : ∀ k, k < R.ss.length → 0 ≤ (bfS R k).s.t ∧ (bfS R k).s.t ≤ (at0 R.ss k).t
  | 0, hk => by have := h.t0 0 hk; simp [bfS]; exact this
  | k + 1, hk => by have := h.tup k hk; have := h.t0 k (by omega); exact ⟨this, by show (at0 R.ss k).t ≤ _; omega⟩
theorem bfS_v {R : Run} (h : VRun R) : ∀ k, k ≤ R.ss.length → ∀ g, g < 6 → 0 ≤ (bfS R k).s.v g ∧ (bfS R k).s.v g ≤ 1000000
  | 0, _, g, _ => by simp [bfS]
  | k + 1, hk, g, hg => h.v k (by omega) g hg
set_option maxRecDepth 100000 in
set_option maxHeartbeats 2000000 in
theorem settings_any (A1 A2 A3 A : Option Addr) (c1 c2 c3 n c : Nat) (p : Vec) (R : Run) (w : World) (h : RunIn w A1 A2 A3 R) (hv : VRun R) (hp : VPul p) (hn : n = R.ss.length) (hx : Rd w w.heap.size 10 A n (rP (pcs R))) :
    Calls Try.prog 27 #[.agg (ia 117 p), runV A1 A2 A3 c1 c2 c3 R, .slice A n c] w (RetB w (setBrs p R)) := by
  obtain ⟨W2, hW2⟩ : ∃ W2, W2 = ((w.alloc (.cells (ia 117 p) 30)).alloc (.cells #[.slice A1 R.ss.length c1, I R.e, .slice A2 R.ms.length c2, .slice A3 R.es.length c3] 48)) := ⟨_, rfl⟩
  have T : Hid (Two w A1 A2 A3 c1 c2 c3 p R W2) := hW2 ▸ two_mk h c1 c2 c3 p
  have HW := Lib.hid hW2
  clear hW2
  have Hv := Lib.hid hv
  have Hp := Lib.hid hp
  have Hn := Lib.hid hn
  have Hx := Lib.hid hx
  have hn60 : n ≤ 60 := by rw [hn]; exact hv.n60
  have last := hv.last
  clear h hv hp hn hx
  go_enter Try.func27, Try.ntmps27
  go_wp2
  simp only [show w.heap.size + 1 + 1 + 1 = w.heap.size + 3 from rfl, show w.heap.size + 1 + 1 = w.heap.size + 2 from rfl]
  obtain ⟨W3, hW3⟩ : ∃ W3, W3 = W2.alloc (.cells #[I 0, I 0, I 0] 53) := ⟨_, rfl⟩
  have HW3 := Lib.hid hW3
  have hZ3 : Hid (W3.heap.size = w.heap.size + 3) := by show _ = _; rw [hW3, World.size_alloc, T.out.size]
  have hB3 : Hid (∀ W, Below W3.heap.size W3 W → Below W2.heap.size W2 W) := fun W hb => ((Below.refl _ _).alloc (Nat.le_refl _) _).trans ((hW3 ▸ hb).mono (by simp))
  have hR3 : Hid (∀ W, Below W3.heap.size W3 W → W.heap[w.heap.size + 2]? = some (.cells #[I 0, I 0, I 0] 53 (0, 0))) := fun W hb => (hb.block _ (by rw [hZ3.out]; omega)).trans (by rw [hW3]; exact heap_last _ _ _ T.out.size.symm)
  clear hW3
  go_loopw [23] (fun i wr => ∃ k : Nat, k ≤ n ∧ i = .int .i64 k ∧ (∀ j, j < k → setBr p R j = none) ∧ wr.heap[w.heap.size + 3]? = some (.cells (pcArr (bfS R k)) 110 (0, 0)) ∧ Below W3.heap.size W3 wr) (fun i _ => n - (intOf i).toNat)
  case atStart =>
    rw [← HW.out, ← HW3.out]
    exact ⟨0, by omega, rfl, by omega, heap_last _ _ _ hZ3.out.symm, (Below.refl _ _).alloc (Nat.le_refl _) _⟩
  case round =>
    obtain ⟨k, hk, rfl, hb, hbf, hbw⟩ := hrel
    have Hb := Lib.hid hb
    clear hb
    have zr := hbw.size
    rw [hZ3.out] at zr
    have zr4 : w.heap.size + 3 < wr.heap.size := (Array.getElem?_eq_some_iff.1 hbf).1
    by_cases hlt : k < n
    · obtain ⟨b, o, rfl, hB, x0, x1, x2, x3, x4, x5, x6, x7, x8, x9⟩ := ((Hx.out.below (T.out.up _ (hB3.out _ hbw)))).pce hlt
      have hkR : k < R.ss.length := by rw [← Hn.out]; exact hlt
      have hP : at0 (pcs R) k = pcS R k := at0_pcs R hkR
      have hph := Hv.out.ph k hkR
      have hqs : (pcS R k).s = at0 R.ss k := rfl
      rw [hP] at x0 x1 x2 x3 x4 x5 x6 x7 x8 x9
      clear hP
      have Hbf : Hid (∀ (x : Obj) j v, (pcArr (bfS R k))[j]? = some v → (wr.alloc x).cell? ⟨w.heap.size + 3, j, none⟩ = some v) := fun x j v hj => by
        rw [cell_of_row _ _ _ _ _ _ (heap_before hbf)]; exact hj
      have Hph : Hid ((pcS R k).s.ph = (at0 R.ss k).ph) := rfl
      generalize hq : pcS R k = q at *
      have HQ := Lib.hid hq
      clear hq
      have Hqs := Lib.hid hqs
      clear hqs
      have hbc1 := fun x => Hbf.out x 1 _ rfl
      have hres : ∀ x : Obj, Hid ((wr.alloc x).heap[w.heap.size + 2]? = some (.cells #[I 0, I 0, I 0] 53 (0, 0))) := fun x => heap_before (hR3.out _ hbw)
      have HU : Hid (∀ W cs, Below wr.heap.size wr W → Below w.heap.size w (W.setRow (w.heap.size + 2) cs)) := fun W cs hb => below_setRow (T.out.up _ (hB3.out _ (hbw.trans (hb.mono hbw.size)))) (by omega) _
      have hbp := bfS_ph Hv.out k (by omega)
      generalize hbq : bfS R k = bq at *
      have HBQ := Lib.hid hbq
      clear hbq
      obtain ⟨p1, p2⟩ := hph
      rw [← Hph.out] at p1 p2
      obtain ⟨p3, p4⟩ := hbp
      have hstep : Hid (stepB R k = (decide (q.s.ph - bq.s.ph < 0) || decide (1 < q.s.ph - bq.s.ph) || (decide (k = 0) && decide (0 < q.s.ph - bq.s.ph)))) := by show _ = _; rw [stepB, HBQ.out, ← Hqs.out]
      rcases Nat.eq_zero_or_pos k with k0 | k0
      · have k1 : ((k : Int) == 0) = true := by simp; omega
        have k2 : ¬ (0 : Int) < (k : Int) := by omega
        by_cases hs1 : q.s.ph - bq.s.ph < 0
        · have hbr : Hid (setBrs p R = some ⟨1, k, 0⟩) := findSome_at hkR Hb.out (by rw [setBr, if_pos]; rw [hstep.out]; simp; omega)
          have fin : Hid (RetB w (setBrs p R) = fun e w' => e = .returned (.tuple #[.agg #[I 1, I k, I 0], .bool true]) ∧ Below w.heap.size w w') := by show _ = _; rw [hbr.out]; rfl
          clear k0
          go_wp2_with (refine wpList_store_row rfl 53 _ _ rfl (w.heap.size + 2) rfl #[I 0, I 0, I 0] _ (hres _).out #[I 1, I k, I 0] rfl (one3 _ _ _) rfl (by kernel_rfl) ?_)
          refine bodyPost_ret (results_cell_tmp rfl _ _ (w.heap.size + 2) 53 #[I 1, I k, I 0] (0, 0) _ rfl (setRow_same (hres _).out) Try.underlying53 rfl (by kernel_rfl)) rfl ?_
          rw [fin.out]
          exact ⟨rfl, HU.out _ _ ((Below.refl _ _).alloc (Nat.le_refl _) _)⟩
        by_cases hs2 : 1 < q.s.ph - bq.s.ph
        · have hbr : Hid (setBrs p R = some ⟨1, k, 0⟩) := findSome_at hkR Hb.out (by rw [setBr, if_pos]; rw [hstep.out]; simp; omega)
          have fin : Hid (RetB w (setBrs p R) = fun e w' => e = .returned (.tuple #[.agg #[I 1, I k, I 0], .bool true]) ∧ Below w.heap.size w w') := by show _ = _; rw [hbr.out]; rfl
          clear k0
          go_wp2_with (refine wpList_store_row rfl 53 _ _ rfl (w.heap.size + 2) rfl #[I 0, I 0, I 0] _ (hres _).out #[I 1, I k, I 0] rfl (one3 _ _ _) rfl (by kernel_rfl) ?_)
          refine bodyPost_ret (results_cell_tmp rfl _ _ (w.heap.size + 2) 53 #[I 1, I k, I 0] (0, 0) _ rfl (setRow_same (hres _).out) Try.underlying53 rfl (by kernel_rfl)) rfl ?_
          rw [fin.out]
          exact ⟨rfl, HU.out _ _ ((Below.refl _ _).alloc (Nat.le_refl _) _)⟩
        by_cases hs3 : 0 < q.s.ph - bq.s.ph
        · have hbr : Hid (setBrs p R = some ⟨1, k, 0⟩) := findSome_at hkR Hb.out (by rw [setBr, if_pos]; rw [hstep.out]; simp; omega)
          have fin : Hid (RetB w (setBrs p R) = fun e w' => e = .returned (.tuple #[.agg #[I 1, I k, I 0], .bool true]) ∧ Below w.heap.size w w') := by show _ = _; rw [hbr.out]; rfl
          clear k0
          go_wp2_with (refine wpList_store_row rfl 53 _ _ rfl (w.heap.size + 2) rfl #[I 0, I 0, I 0] _ (hres _).out #[I 1, I k, I 0] rfl (one3 _ _ _) rfl (by kernel_rfl) ?_)
          refine bodyPost_ret (results_cell_tmp rfl _ _ (w.heap.size + 2) 53 #[I 1, I k, I 0] (0, 0) _ rfl (setRow_same (hres _).out) Try.underlying53 rfl (by kernel_rfl)) rfl ?_
          rw [fin.out]
          exact ⟨rfl, HU.out _ _ ((Below.refl _ _).alloc (Nat.le_refl _) _)⟩
        have hnostep : Hid (stepB R k = false) := by show _ = _; rw [hstep.out]; simp; omega
        have K0 := Lib.hid k0
        clear k0
        have hm5 : (q.s.ph.toNat - 1) < 5 := by omega
        have hrl : Hid (rlAt (at0 R.ss k).ph = (q.s.ph.toNat - 1) * 22) := by show _ = _; rw [rlAt, ← Hph.out]
        have HPul : Hid (∀ W, Below W3.heap.size W3 W → ∀ j, j < 117 → W.cell? ⟨w.heap.size, j, none⟩ = some (I (p j))) := fun W hW j hj => by have := T.out.pul W (hB3.out _ hW) j hj; rwa [Nat.zero_add] at this
        go_wp2_with (first | ((refine wpList_load_ia rfl 27 _ rfl w.heap.size ((q.s.ph.toNat - 1) * 22) rfl 22 (fun j => p ((q.s.ph.toNat - 1) * 22 + j)) _ (fun j hj => HPul.out _ (hbw.alloc hbw.size _) _ (by omega)) Try.underlying27 rfl (by kernel_rfl) ?_)) | ((refine wpList_store_new rfl 27 _ _ rfl _ _ (wr.heap.size + 1) rfl ?_ _ rfl ia_one ?_ (by kernel_rfl) ?_)))
        · simp [ia_size]
        generalize hWb : (wr.alloc (.cells (pcArr q) 110)).alloc (.cells (ia 22 fun j => p ((q.s.ph.toNat - 1) * 22 + j)) 27) = Wb
        have HWb0 := Lib.hid hWb.symm
        clear hWb
        have hzb : Wb.heap.size = wr.heap.size + 2 := by rw [HWb0.out]; simp
        have Hzb := Lib.hid hzb
        have hzb' : wr.heap.size + 2 ≤ Wb.heap.size := by omega
        clear hzb
        have HWb : Hid (∀ W, Below Wb.heap.size Wb W → Below wr.heap.size wr W) := fun W hW => by rw [HWb0.out] at hW; exact under2 (under2 hW)
        have Hqc : Hid (∀ W, Below Wb.heap.size Wb W → ∀ j v, (pcArr q)[j]? = some v → W.cell? ⟨wr.heap.size, j, none⟩ = some v) := fun W hW j v hj => by
          rw [hW.cell (p := ⟨_, _, none⟩) (by show wr.heap.size < _; omega), HWb0.out, cell_of_row _ _ _ _ _ _ (heap_before (heap_last _ _ _ rfl))]; exact hj
        have Hrc : Hid (∀ W, Below Wb.heap.size Wb W → ∀ j, j < 22 → W.cell? ⟨wr.heap.size + 1, j, none⟩ = some (I (p ((q.s.ph.toNat - 1) * 22 + j)))) := fun W hW j hj => by
          rw [hW.cell (p := ⟨_, _, none⟩) (by show wr.heap.size + 1 < _; omega), HWb0.out, cell_of_row _ _ _ _ _ _ (heap_last _ _ _ (by simp))]; exact ia_get hj
        have Hbc : Hid (∀ W, Below Wb.heap.size Wb W → ∀ j v, (pcArr bq)[j]? = some v → W.cell? ⟨w.heap.size + 3, j, none⟩ = some v) := fun W hW j v hj => by
          rw [(HWb.out _ hW).cell (p := ⟨_, _, none⟩) (by show w.heap.size + 3 < _; omega), cell_of_row _ _ _ _ _ _ hbf]; exact hj
        have Hbk : Hid (∀ W, Below Wb.heap.size Wb W → W.heap[w.heap.size + 3]? = some (.cells (pcArr bq) 110 (0, 0))) := fun W hW => ((HWb.out _ hW).block _ zr4).trans hbf
        have HRes : Hid (∀ W, Below Wb.heap.size Wb W → W.heap[w.heap.size + 2]? = some (.cells #[I 0, I 0, I 0] 53 (0, 0))) := fun W hW => hR3.out _ (hbw.trans ((HWb.out _ hW).mono hbw.size))
        clear x0 x1 x2 x3 x4 x5 x6 x7 x8 x9 hbc1
        have c2 := Hqc.out Wb (Below.refl _ _)
        go_loopw [61] (fun i wg => ∃ g : Nat, g ≤ 6 ∧ i = .int .i64 g ∧ (∀ j, j < g → bndB p (at0 R.ss k) j = false) ∧ Below Wb.heap.size Wb wg) (fun i _ => 6 - (intOf i).toNat)
        case atStart => exact ⟨0, by omega, rfl, by omega, Below.refl _ _⟩
        case round =>
          clear c2
          obtain ⟨g, hg, rfl, hgb, hbg⟩ := hrel
          have Hgb := Lib.hid hgb
          clear hgb
          have zg := hbg.size
          by_cases hg6 : g < 6
          · have ix := idx6 q.s.v hg6
            have r0 := Hrc.out _ hbg (g * 2) (by omega)
            have r1 := Hrc.out _ hbg (g * 2 + 1) (by omega)
            have hbd : Hid (bndB p (at0 R.ss k) g = (decide (q.s.v g < p ((q.s.ph.toNat - 1) * 22 + g * 2)) || decide (p ((q.s.ph.toNat - 1) * 22 + (g * 2 + 1)) < q.s.v g))) := by show _ = _; rw [bndB, hrl.out, ← Hqs.out]; rfl
            by_cases t1 : q.s.v g < p ((q.s.ph.toNat - 1) * 22 + g * 2)
            · have hbr : Hid (setBrs p R = some ⟨2, k, g⟩) := findSome_at hkR Hb.out (by rw [setBr, if_neg (by rw [hnostep.out]; exact Bool.false_ne_true), six, find_at hg6 Hgb.out (by rw [hbd.out]; simp [t1])])
              have fin : Hid (RetB w (setBrs p R) = fun e w' => e = .returned (.tuple #[.agg #[I 2, I k, I g], .bool true]) ∧ Below w.heap.size w w') := by show _ = _; rw [hbr.out]; rfl
              go_wp2_with (first | (refine wpList_index_one rfl 25 _ _ rfl _ rfl g rfl 6 _ _ Try.underlying25 hg6 Try.underlying3 rfl (by kernel_rfl) _ ix ?_) | (refine wpList_store_row rfl 53 _ _ rfl (w.heap.size + 2) rfl #[I 0, I 0, I 0] _ (HRes.out _ (hbg.alloc zg _)) #[I 2, I k, I g] rfl (one3 _ _ _) rfl (by kernel_rfl) ?_))
              refine bodyPost_ret (results_cell_tmp rfl _ _ (w.heap.size + 2) 53 #[I 2, I k, I g] (0, 0) _ rfl (setRow_same (HRes.out _ (hbg.alloc zg _))) Try.underlying53 rfl (by kernel_rfl)) rfl ?_
              rw [fin.out]
              exact ⟨rfl, HU.out _ _ (HWb.out _ (hbg.alloc zg _))⟩
            by_cases t2 : p ((q.s.ph.toNat - 1) * 22 + (g * 2 + 1)) < q.s.v g
            · have hbr : Hid (setBrs p R = some ⟨2, k, g⟩) := findSome_at hkR Hb.out (by rw [setBr, if_neg (by rw [hnostep.out]; exact Bool.false_ne_true), six, find_at hg6 Hgb.out (by rw [hbd.out]; simp [t2])])
              have fin : Hid (RetB w (setBrs p R) = fun e w' => e = .returned (.tuple #[.agg #[I 2, I k, I g], .bool true]) ∧ Below w.heap.size w w') := by show _ = _; rw [hbr.out]; rfl
              go_wp2_with (first | (refine wpList_index_one rfl 25 _ _ rfl _ rfl g rfl 6 _ _ Try.underlying25 hg6 Try.underlying3 rfl (by kernel_rfl) _ ix ?_) | (refine wpList_store_row rfl 53 _ _ rfl (w.heap.size + 2) rfl #[I 0, I 0, I 0] _ (HRes.out _ (hbg.alloc zg _)) #[I 2, I k, I g] rfl (one3 _ _ _) rfl (by kernel_rfl) ?_))
              refine bodyPost_ret (results_cell_tmp rfl _ _ (w.heap.size + 2) 53 #[I 2, I k, I g] (0, 0) _ rfl (setRow_same (HRes.out _ (hbg.alloc zg _))) Try.underlying53 rfl (by kernel_rfl)) rfl ?_
              rw [fin.out]
              exact ⟨rfl, HU.out _ _ (HWb.out _ (hbg.alloc zg _))⟩
            have hno : Hid (bndB p (at0 R.ss k) g = false) := by show _ = _; rw [hbd.out]; simp; omega
            go_wp2_with (refine wpList_index_one rfl 25 _ _ rfl _ rfl g rfl 6 _ _ Try.underlying25 hg6 Try.underlying3 rfl (by kernel_rfl) _ ix ?_)
            go_roundw
            case rel => exact ⟨g + 1, by omega, by go_num, succ_case Hgb.out hno.out, hbg.alloc zg _⟩
            case measure => simp [intOf]; omega
          · have hnb : Hid (six (bndB p (at0 R.ss k)) = none) := find_no fun j hj => Hgb.out j (by omega)
            clear Hgb
            have d0 := Hqc.out _ hbg 2 _ rfl
            have d1 := Hqc.out _ hbg 3 _ rfl
            have d2 := Hqc.out _ hbg 4 _ rfl
            have d3 := Hqc.out _ hbg 5 _ rfl
            have d4 := Hqc.out _ hbg 6 _ rfl
            have d5 := Hqc.out _ hbg 7 _ rfl
            go_wp2_with fail
            have hbg0 := hbg
            clear d0 d1 d2 d3 d4 d5 hbg hg hg6 zg
            have hqv := fun g hg => (Hqs.out ▸ Hv.out.v k hkR g hg : 0 ≤ q.s.v g ∧ q.s.v g ≤ 1000000)
            have hbv := fun g hg => (HBQ.out ▸ bfS_v Hv.out k (by omega) g hg : 0 ≤ bq.s.v g ∧ bq.s.v g ≤ 1000000)
            have hbt := bfS_t Hv.out k hkR
            rw [HBQ.out, ← Hqs.out] at hbt
            have hqe := Hv.out.tlt k hkR
            rw [← Hqs.out] at hqe
            have Hqv := Lib.hid hqv
            have Hbv := Lib.hid hbv
            clear hqv hbv
            obtain ⟨bt1, bt2⟩ := hbt
            go_loopw [86] (fun i wg => ∃ g : Nat, g ≤ 6 ∧ i = .int .i64 g ∧ (k ≠ 0 → ∀ j, j < g → farB p (at0 R.ss k) bq.s j = false) ∧ Below Wb.heap.size Wb wg) (fun i _ => 6 - (intOf i).toNat)
            case atStart => exact ⟨0, by omega, rfl, by omega, hbg0⟩
            case round =>
              clear hbg0
              obtain ⟨g, hg, rfl, hgb, hbg⟩ := hrel
              have Hgb := Lib.hid hgb
              clear hgb
              have zg := hbg.size
              by_cases hg6 : g < 6
              · have ix := idx6 q.s.v hg6
                have i0 : (0 : Int) ≤ (g : Int) := by omega
                have i6 : (g : Int) < 6 := by omega
                have r0 := ovr_cell (Hrc.out _ hbg (12 + g) (by omega))
                have r1 := ovr_cell (Hqc.out _ hbg 0 _ rfl)
                have r2 := ovr_cell (Hbc.out _ hbg 0 _ rfl)
                go_wp2_with (refine wpList_index_one rfl 25 _ _ rfl _ rfl g rfl 6 _ _ Try.underlying25 hg6 Try.underlying3 rfl (by kernel_rfl) _ ix ?_)
                refine wp_region_below_lit (by kernel_rfl) (by kernel_rfl) ?_
                repeat (go_big_quiet_step (fail))
                refine wpQuiet_nil ?_
                intro w5 hb5
                clear r0 r1 r2 ix
                have hb6 : Below Wb.heap.size Wb w5 := hbg.trans (hb5.mono zg)
                obtain ⟨f1, f2⟩ := Hp.out.rm (q.s.ph.toNat - 1) hm5 g hg6
                rw [Nat.add_assoc] at f1 f2
                have m1 : 0 ≤ p ((q.s.ph.toNat - 1) * 22 + (12 + g)) * (q.s.t - bq.s.t) := Int.mul_nonneg f1 (by omega)
                have m2 : p ((q.s.ph.toNat - 1) * 22 + (12 + g)) * (q.s.t - bq.s.t) ≤ 1000000 * 100000 := Int.mul_le_mul f2 (by omega) (by omega) (by omega)
                simp (disch := omega) only [IntWalk.wrap64_in]
                have hfb : Hid (farB p (at0 R.ss k) bq.s g = (decide (p ((q.s.ph.toNat - 1) * 22 + (12 + g)) * (q.s.t - bq.s.t) < q.s.v g - bq.s.v g) || decide (p ((q.s.ph.toNat - 1) * 22 + (12 + g)) * (q.s.t - bq.s.t) < bq.s.v g - q.s.v g))) := by show _ = _; rw [farB, hrl.out, ← Hqs.out, Nat.add_assoc]
                go_wp2_with fail
                go_roundw
                case rel => exact ⟨g + 1, by omega, by go_num, fun h => absurd K0.out h, hb6⟩
                case measure => simp [intOf]; omega
              · have hnone : Hid (setBr p R k = none) := by show _ = _; rw [setBr, if_neg (by rw [hnostep.out]; exact Bool.false_ne_true), hnb.out]; simp [K0.out]
                have e0 := Hqc.out _ hbg 0 _ rfl
                have e1 := Hqc.out _ hbg 1 _ rfl
                have e2 := Hqc.out _ hbg 2 _ rfl
                have e3 := Hqc.out _ hbg 3 _ rfl
                have e4 := Hqc.out _ hbg 4 _ rfl
                have e5 := Hqc.out _ hbg 5 _ rfl
                have e6 := Hqc.out _ hbg 6 _ rfl
                have e7 := Hqc.out _ hbg 7 _ rfl
                have e8 := Hqc.out _ hbg 8 _ rfl
                have e9 := Hqc.out _ hbg 9 _ rfl
                go_wp2_with (refine wpList_store_row rfl 110 _ _ rfl (w.heap.size + 3) rfl (pcArr bq) _ (Hbk.out _ hbg) (pcArr q) rfl (one10 q) rfl (by kernel_rfl) ?_)
                go_roundw
                case rel => exact ⟨k + 1, by omega, by go_num, succ_case Hb.out hnone.out, by rw [setRow_same (Hbk.out _ hbg), ← HQ.out]; rfl, below_setRow (hbw.trans ((HWb.out _ hbg).mono hbw.size)) (by rw [hZ3.out]; omega) _⟩
                case measure => simp [intOf]; omega
      · have k1 : ((k : Int) == 0) = false := by simp; omega
        have k2 : (0 : Int) < (k : Int) := by omega
        by_cases hs1 : q.s.ph - bq.s.ph < 0
        · have hbr : Hid (setBrs p R = some ⟨1, k, 0⟩) := findSome_at hkR Hb.out (by rw [setBr, if_pos]; rw [hstep.out]; simp; omega)
          have fin : Hid (RetB w (setBrs p R) = fun e w' => e = .returned (.tuple #[.agg #[I 1, I k, I 0], .bool true]) ∧ Below w.heap.size w w') := by show _ = _; rw [hbr.out]; rfl
          clear k0
          go_wp2_with (refine wpList_store_row rfl 53 _ _ rfl (w.heap.size + 2) rfl #[I 0, I 0, I 0] _ (hres _).out #[I 1, I k, I 0] rfl (one3 _ _ _) rfl (by kernel_rfl) ?_)
          refine bodyPost_ret (results_cell_tmp rfl _ _ (w.heap.size + 2) 53 #[I 1, I k, I 0] (0, 0) _ rfl (setRow_same (hres _).out) Try.underlying53 rfl (by kernel_rfl)) rfl ?_
          rw [fin.out]
          exact ⟨rfl, HU.out _ _ ((Below.refl _ _).alloc (Nat.le_refl _) _)⟩
        by_cases hs2 : 1 < q.s.ph - bq.s.ph
        · have hbr : Hid (setBrs p R = some ⟨1, k, 0⟩) := findSome_at hkR Hb.out (by rw [setBr, if_pos]; rw [hstep.out]; simp; omega)
          have fin : Hid (RetB w (setBrs p R) = fun e w' => e = .returned (.tuple #[.agg #[I 1, I k, I 0], .bool true]) ∧ Below w.heap.size w w') := by show _ = _; rw [hbr.out]; rfl
          clear k0
          go_wp2_with (refine wpList_store_row rfl 53 _ _ rfl (w.heap.size + 2) rfl #[I 0, I 0, I 0] _ (hres _).out #[I 1, I k, I 0] rfl (one3 _ _ _) rfl (by kernel_rfl) ?_)
          refine bodyPost_ret (results_cell_tmp rfl _ _ (w.heap.size + 2) 53 #[I 1, I k, I 0] (0, 0) _ rfl (setRow_same (hres _).out) Try.underlying53 rfl (by kernel_rfl)) rfl ?_
          rw [fin.out]
          exact ⟨rfl, HU.out _ _ ((Below.refl _ _).alloc (Nat.le_refl _) _)⟩
        have hnostep : Hid (stepB R k = false) := by show _ = _; rw [hstep.out]; simp; omega
        have K0 := Lib.hid k0
        clear k0
        have hm5 : (q.s.ph.toNat - 1) < 5 := by omega
        have hrl : Hid (rlAt (at0 R.ss k).ph = (q.s.ph.toNat - 1) * 22) := by show _ = _; rw [rlAt, ← Hph.out]
        have HPul : Hid (∀ W, Below W3.heap.size W3 W → ∀ j, j < 117 → W.cell? ⟨w.heap.size, j, none⟩ = some (I (p j))) := fun W hW j hj => by have := T.out.pul W (hB3.out _ hW) j hj; rwa [Nat.zero_add] at this
        go_wp2_with (first | ((refine wpList_load_ia rfl 27 _ rfl w.heap.size ((q.s.ph.toNat - 1) * 22) rfl 22 (fun j => p ((q.s.ph.toNat - 1) * 22 + j)) _ (fun j hj => HPul.out _ (hbw.alloc hbw.size _) _ (by omega)) Try.underlying27 rfl (by kernel_rfl) ?_)) | ((refine wpList_store_new rfl 27 _ _ rfl _ _ (wr.heap.size + 1) rfl ?_ _ rfl ia_one ?_ (by kernel_rfl) ?_)))
        · simp [ia_size]
        generalize hWb : (wr.alloc (.cells (pcArr q) 110)).alloc (.cells (ia 22 fun j => p ((q.s.ph.toNat - 1) * 22 + j)) 27) = Wb
        have HWb0 := Lib.hid hWb.symm
        clear hWb
        have hzb : Wb.heap.size = wr.heap.size + 2 := by rw [HWb0.out]; simp
        have Hzb := Lib.hid hzb
        have hzb' : wr.heap.size + 2 ≤ Wb.heap.size := by omega
        clear hzb
        have HWb : Hid (∀ W, Below Wb.heap.size Wb W → Below wr.heap.size wr W) := fun W hW => by rw [HWb0.out] at hW; exact under2 (under2 hW)
        have Hqc : Hid (∀ W, Below Wb.heap.size Wb W → ∀ j v, (pcArr q)[j]? = some v → W.cell? ⟨wr.heap.size, j, none⟩ = some v) := fun W hW j v hj => by
          rw [hW.cell (p := ⟨_, _, none⟩) (by show wr.heap.size < _; omega), HWb0.out, cell_of_row _ _ _ _ _ _ (heap_before (heap_last _ _ _ rfl))]; exact hj
        have Hrc : Hid (∀ W, Below Wb.heap.size Wb W → ∀ j, j < 22 → W.cell? ⟨wr.heap.size + 1, j, none⟩ = some (I (p ((q.s.ph.toNat - 1) * 22 + j)))) := fun W hW j hj => by
          rw [hW.cell (p := ⟨_, _, none⟩) (by show wr.heap.size + 1 < _; omega), HWb0.out, cell_of_row _ _ _ _ _ _ (heap_last _ _ _ (by simp))]; exact ia_get hj
        have Hbc : Hid (∀ W, Below Wb.heap.size Wb W → ∀ j v, (pcArr bq)[j]? = some v → W.cell? ⟨w.heap.size + 3, j, none⟩ = some v) := fun W hW j v hj => by
          rw [(HWb.out _ hW).cell (p := ⟨_, _, none⟩) (by show w.heap.size + 3 < _; omega), cell_of_row _ _ _ _ _ _ hbf]; exact hj
        have Hbk : Hid (∀ W, Below Wb.heap.size Wb W → W.heap[w.heap.size + 3]? = some (.cells (pcArr bq) 110 (0, 0))) := fun W hW => ((HWb.out _ hW).block _ zr4).trans hbf
        have HRes : Hid (∀ W, Below Wb.heap.size Wb W → W.heap[w.heap.size + 2]? = some (.cells #[I 0, I 0, I 0] 53 (0, 0))) := fun W hW => hR3.out _ (hbw.trans ((HWb.out _ hW).mono hbw.size))
        clear x0 x1 x2 x3 x4 x5 x6 x7 x8 x9 hbc1
        have c2 := Hqc.out Wb (Below.refl _ _)
        go_loopw [61] (fun i wg => ∃ g : Nat, g ≤ 6 ∧ i = .int .i64 g ∧ (∀ j, j < g → bndB p (at0 R.ss k) j = false) ∧ Below Wb.heap.size Wb wg) (fun i _ => 6 - (intOf i).toNat)
        case atStart => exact ⟨0, by omega, rfl, by omega, Below.refl _ _⟩
        case round =>
          clear c2
          obtain ⟨g, hg, rfl, hgb, hbg⟩ := hrel
          have Hgb := Lib.hid hgb
          clear hgb
          have zg := hbg.size
          by_cases hg6 : g < 6
          · have ix := idx6 q.s.v hg6
            have r0 := Hrc.out _ hbg (g * 2) (by omega)
            have r1 := Hrc.out _ hbg (g * 2 + 1) (by omega)
            have hbd : Hid (bndB p (at0 R.ss k) g = (decide (q.s.v g < p ((q.s.ph.toNat - 1) * 22 + g * 2)) || decide (p ((q.s.ph.toNat - 1) * 22 + (g * 2 + 1)) < q.s.v g))) := by show _ = _; rw [bndB, hrl.out, ← Hqs.out]; rfl
            by_cases t1 : q.s.v g < p ((q.s.ph.toNat - 1) * 22 + g * 2)
            · have hbr : Hid (setBrs p R = some ⟨2, k, g⟩) := findSome_at hkR Hb.out (by rw [setBr, if_neg (by rw [hnostep.out]; exact Bool.false_ne_true), six, find_at hg6 Hgb.out (by rw [hbd.out]; simp [t1])])
              have fin : Hid (RetB w (setBrs p R) = fun e w' => e = .returned (.tuple #[.agg #[I 2, I k, I g], .bool true]) ∧ Below w.heap.size w w') := by show _ = _; rw [hbr.out]; rfl
              go_wp2_with (first | (refine wpList_index_one rfl 25 _ _ rfl _ rfl g rfl 6 _ _ Try.underlying25 hg6 Try.underlying3 rfl (by kernel_rfl) _ ix ?_) | (refine wpList_store_row rfl 53 _ _ rfl (w.heap.size + 2) rfl #[I 0, I 0, I 0] _ (HRes.out _ (hbg.alloc zg _)) #[I 2, I k, I g] rfl (one3 _ _ _) rfl (by kernel_rfl) ?_))
              refine bodyPost_ret (results_cell_tmp rfl _ _ (w.heap.size + 2) 53 #[I 2, I k, I g] (0, 0) _ rfl (setRow_same (HRes.out _ (hbg.alloc zg _))) Try.underlying53 rfl (by kernel_rfl)) rfl ?_
              rw [fin.out]
              exact ⟨rfl, HU.out _ _ (HWb.out _ (hbg.alloc zg _))⟩
            by_cases t2 : p ((q.s.ph.toNat - 1) * 22 + (g * 2 + 1)) < q.s.v g
            · have hbr : Hid (setBrs p R = some ⟨2, k, g⟩) := findSome_at hkR Hb.out (by rw [setBr, if_neg (by rw [hnostep.out]; exact Bool.false_ne_true), six, find_at hg6 Hgb.out (by rw [hbd.out]; simp [t2])])
              have fin : Hid (RetB w (setBrs p R) = fun e w' => e = .returned (.tuple #[.agg #[I 2, I k, I g], .bool true]) ∧ Below w.heap.size w w') := by show _ = _; rw [hbr.out]; rfl
              go_wp2_with (first | (refine wpList_index_one rfl 25 _ _ rfl _ rfl g rfl 6 _ _ Try.underlying25 hg6 Try.underlying3 rfl (by kernel_rfl) _ ix ?_) | (refine wpList_store_row rfl 53 _ _ rfl (w.heap.size + 2) rfl #[I 0, I 0, I 0] _ (HRes.out _ (hbg.alloc zg _)) #[I 2, I k, I g] rfl (one3 _ _ _) rfl (by kernel_rfl) ?_))
              refine bodyPost_ret (results_cell_tmp rfl _ _ (w.heap.size + 2) 53 #[I 2, I k, I g] (0, 0) _ rfl (setRow_same (HRes.out _ (hbg.alloc zg _))) Try.underlying53 rfl (by kernel_rfl)) rfl ?_
              rw [fin.out]
              exact ⟨rfl, HU.out _ _ (HWb.out _ (hbg.alloc zg _))⟩
            have hno : Hid (bndB p (at0 R.ss k) g = false) := by show _ = _; rw [hbd.out]; simp; omega
            go_wp2_with (refine wpList_index_one rfl 25 _ _ rfl _ rfl g rfl 6 _ _ Try.underlying25 hg6 Try.underlying3 rfl (by kernel_rfl) _ ix ?_)
            go_roundw
            case rel => exact ⟨g + 1, by omega, by go_num, succ_case Hgb.out hno.out, hbg.alloc zg _⟩
            case measure => simp [intOf]; omega
          · have hnb : Hid (six (bndB p (at0 R.ss k)) = none) := find_no fun j hj => Hgb.out j (by omega)
            clear Hgb
            have d0 := Hqc.out _ hbg 2 _ rfl
            have d1 := Hqc.out _ hbg 3 _ rfl
            have d2 := Hqc.out _ hbg 4 _ rfl
            have d3 := Hqc.out _ hbg 5 _ rfl
            have d4 := Hqc.out _ hbg 6 _ rfl
            have d5 := Hqc.out _ hbg 7 _ rfl
            go_wp2_with fail
            have hbg0 := hbg
            clear d0 d1 d2 d3 d4 d5 hbg hg hg6 zg
            have hqv := fun g hg => (Hqs.out ▸ Hv.out.v k hkR g hg : 0 ≤ q.s.v g ∧ q.s.v g ≤ 1000000)
            have hbv := fun g hg => (HBQ.out ▸ bfS_v Hv.out k (by omega) g hg : 0 ≤ bq.s.v g ∧ bq.s.v g ≤ 1000000)
            have hbt := bfS_t Hv.out k hkR
            rw [HBQ.out, ← Hqs.out] at hbt
            have hqe := Hv.out.tlt k hkR
            rw [← Hqs.out] at hqe
            have Hqv := Lib.hid hqv
            have Hbv := Lib.hid hbv
            clear hqv hbv
            obtain ⟨bt1, bt2⟩ := hbt
            go_loopw [86] (fun i wg => ∃ g : Nat, g ≤ 6 ∧ i = .int .i64 g ∧ (k ≠ 0 → ∀ j, j < g → farB p (at0 R.ss k) bq.s j = false) ∧ Below Wb.heap.size Wb wg) (fun i _ => 6 - (intOf i).toNat)
            case atStart => exact ⟨0, by omega, rfl, by omega, hbg0⟩
            case round =>
              clear hbg0
              obtain ⟨g, hg, rfl, hgb, hbg⟩ := hrel
              have Hgb := Lib.hid hgb
              clear hgb
              have zg := hbg.size
              by_cases hg6 : g < 6
              · have ix := idx6 q.s.v hg6
                have i0 : (0 : Int) ≤ (g : Int) := by omega
                have i6 : (g : Int) < 6 := by omega
                have r0 := ovr_cell (Hrc.out _ hbg (12 + g) (by omega))
                have r1 := ovr_cell (Hqc.out _ hbg 0 _ rfl)
                have r2 := ovr_cell (Hbc.out _ hbg 0 _ rfl)
                go_wp2_with (refine wpList_index_one rfl 25 _ _ rfl _ rfl g rfl 6 _ _ Try.underlying25 hg6 Try.underlying3 rfl (by kernel_rfl) _ ix ?_)
                refine wp_region_below_lit (by kernel_rfl) (by kernel_rfl) ?_
                repeat (go_big_quiet_step (fail))
                refine wpQuiet_nil ?_
                intro w5 hb5
                clear r0 r1 r2 ix
                have hb6 : Below Wb.heap.size Wb w5 := hbg.trans (hb5.mono zg)
                obtain ⟨f1, f2⟩ := Hp.out.rm (q.s.ph.toNat - 1) hm5 g hg6
                rw [Nat.add_assoc] at f1 f2
                have m1 : 0 ≤ p ((q.s.ph.toNat - 1) * 22 + (12 + g)) * (q.s.t - bq.s.t) := Int.mul_nonneg f1 (by omega)
                have m2 : p ((q.s.ph.toNat - 1) * 22 + (12 + g)) * (q.s.t - bq.s.t) ≤ 1000000 * 100000 := Int.mul_le_mul f2 (by omega) (by omega) (by omega)
                simp (disch := omega) only [IntWalk.wrap64_in]
                have hfb : Hid (farB p (at0 R.ss k) bq.s g = (decide (p ((q.s.ph.toNat - 1) * 22 + (12 + g)) * (q.s.t - bq.s.t) < q.s.v g - bq.s.v g) || decide (p ((q.s.ph.toNat - 1) * 22 + (12 + g)) * (q.s.t - bq.s.t) < bq.s.v g - q.s.v g))) := by show _ = _; rw [farB, hrl.out, ← Hqs.out, Nat.add_assoc]
                have r3 := Hbc.out _ hb6 (2 + g) _ (idx8 bq hg6)
                obtain ⟨v1, v2⟩ := Hqv.out g hg6
                obtain ⟨v3, v4⟩ := Hbv.out g hg6
                by_cases t1 : p ((q.s.ph.toNat - 1) * 22 + (12 + g)) * (q.s.t - bq.s.t) < q.s.v g - bq.s.v g
                · have hbr : Hid (setBrs p R = some ⟨3, k, g⟩) := findSome_at hkR Hb.out (by rw [setBr, if_neg (by rw [hnostep.out]; exact Bool.false_ne_true), hnb.out, six, HBQ.out, find_at hg6 (Hgb.out (by have := K0.out; omega)) (by rw [hfb.out]; simp [t1])]; simp; have := K0.out; omega)
                  have fin : Hid (RetB w (setBrs p R) = fun e w' => e = .returned (.tuple #[.agg #[I 3, I k, I g], .bool true]) ∧ Below w.heap.size w w') := by show _ = _; rw [hbr.out]; rfl
                  go_wp2_with (refine wpList_store_row rfl 53 _ _ rfl (w.heap.size + 2) rfl #[I 0, I 0, I 0] _ (HRes.out _ hb6) #[I 3, I k, I g] rfl (one3 _ _ _) rfl (by kernel_rfl) ?_)
                  refine bodyPost_ret (results_cell_tmp rfl _ _ (w.heap.size + 2) 53 #[I 3, I k, I g] (0, 0) _ rfl (setRow_same (HRes.out _ hb6)) Try.underlying53 rfl (by kernel_rfl)) rfl ?_
                  rw [fin.out]
                  exact ⟨rfl, HU.out _ _ (HWb.out _ hb6)⟩
                by_cases t2 : p ((q.s.ph.toNat - 1) * 22 + (12 + g)) * (q.s.t - bq.s.t) < bq.s.v g - q.s.v g
                · have hbr : Hid (setBrs p R = some ⟨3, k, g⟩) := findSome_at hkR Hb.out (by rw [setBr, if_neg (by rw [hnostep.out]; exact Bool.false_ne_true), hnb.out, six, HBQ.out, find_at hg6 (Hgb.out (by have := K0.out; omega)) (by rw [hfb.out]; simp [t2])]; simp; have := K0.out; omega)
                  have fin : Hid (RetB w (setBrs p R) = fun e w' => e = .returned (.tuple #[.agg #[I 3, I k, I g], .bool true]) ∧ Below w.heap.size w w') := by show _ = _; rw [hbr.out]; rfl
                  go_wp2_with (refine wpList_store_row rfl 53 _ _ rfl (w.heap.size + 2) rfl #[I 0, I 0, I 0] _ (HRes.out _ hb6) #[I 3, I k, I g] rfl (one3 _ _ _) rfl (by kernel_rfl) ?_)
                  refine bodyPost_ret (results_cell_tmp rfl _ _ (w.heap.size + 2) 53 #[I 3, I k, I g] (0, 0) _ rfl (setRow_same (HRes.out _ hb6)) Try.underlying53 rfl (by kernel_rfl)) rfl ?_
                  rw [fin.out]
                  exact ⟨rfl, HU.out _ _ (HWb.out _ hb6)⟩
                have hno : Hid (farB p (at0 R.ss k) bq.s g = false) := by show _ = _; rw [hfb.out]; simp; omega
                go_wp2_with fail
                go_roundw
                case rel => exact ⟨g + 1, by omega, by go_num, fun h => succ_case (Hgb.out h) hno.out, hb6⟩
                case measure => simp [intOf]; omega
              · have hnone : Hid (setBr p R k = none) := by
                  show _ = _
                  rw [setBr, if_neg (by rw [hnostep.out]; exact Bool.false_ne_true), hnb.out, if_neg (by have := K0.out; omega), six, HBQ.out, find_no fun j hj => Hgb.out (by have := K0.out; omega) j (by omega)]; rfl
                have e0 := Hqc.out _ hbg 0 _ rfl
                have e1 := Hqc.out _ hbg 1 _ rfl
                have e2 := Hqc.out _ hbg 2 _ rfl
                have e3 := Hqc.out _ hbg 3 _ rfl
                have e4 := Hqc.out _ hbg 4 _ rfl
                have e5 := Hqc.out _ hbg 5 _ rfl
                have e6 := Hqc.out _ hbg 6 _ rfl
                have e7 := Hqc.out _ hbg 7 _ rfl
                have e8 := Hqc.out _ hbg 8 _ rfl
                have e9 := Hqc.out _ hbg 9 _ rfl
                go_wp2_with (refine wpList_store_row rfl 110 _ _ rfl (w.heap.size + 3) rfl (pcArr bq) _ (Hbk.out _ hbg) (pcArr q) rfl (one10 q) rfl (by kernel_rfl) ?_)
                go_roundw
                case rel => exact ⟨k + 1, by omega, by go_num, succ_case Hb.out hnone.out, by rw [setRow_same (Hbk.out _ hbg), ← HQ.out]; rfl, below_setRow (hbw.trans ((HWb.out _ hbg).mono hbw.size)) (by rw [hZ3.out]; omega) _⟩
                case measure => simp [intOf]; omega
    · have hnone : Hid (setBrs p R = none) := findSome_no fun j hj => Hb.out j (by rw [← Hn.out] at hj; omega)
      have fin : Hid (RetB w (setBrs p R) = fun e w' => e = .returned (.tuple #[.agg #[I 0, I 0, I 0], .bool false]) ∧ Below w.heap.size w w') := by show _ = _; rw [hnone.out]; rfl
      go_wp2_with (refine wpList_store_row rfl 53 _ _ rfl (w.heap.size + 2) rfl #[I 0, I 0, I 0] _ (hR3.out _ hbw) #[I 0, I 0, I 0] rfl (one3 _ _ _) rfl (by kernel_rfl) ?_)
      refine bodyPost_ret (results_cell_tmp rfl _ _ (w.heap.size + 2) 53 #[I 0, I 0, I 0] (0, 0) _ rfl (setRow_same (hR3.out _ hbw)) Try.underlying53 rfl (by kernel_rfl)) rfl ?_
      rw [fin.out]
      exact ⟨rfl, below_setRow (T.out.up _ (hB3.out _ hbw)) (by omega) _⟩
end Go.Proofs.Ytbojgcaehlapiaa
