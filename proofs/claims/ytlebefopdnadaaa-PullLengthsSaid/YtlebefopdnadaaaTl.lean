/- The contracts of tell, Diameter and Between of package pull. -/
import Derived.Test.YtlebefopdnadaaaNx
namespace Go.Proofs.Ytlebefopdnadaaa
open Go.RowKit
/-- The error of tell. -/
def tellE (p : Vec) (R : Run) (t last : Int) : Int :=
  if okPuller p && okRun R then (if t < 0 ∨ last < t then 3 else if R.ms.length = 0 then 7 else if (conf p R).isSome then 40 else 0) else 2
/-- What tell returns: a range and an error. -/
def RetT (w : World) (r : Rng) (er : Int) (e : Ending) (w' : World) : Prop := e = .returned (.tuple #[r.val, I er]) ∧ Below w.heap.size w w'
def tellR (p : Vec) (R : Run) (t last : Int) (k : Kn) : Rng := if tellE p R t last = 0 then ⟨k.lo, k.hi⟩ else ⟨0, 0⟩
theorem two2 (a b : Int) : ∀ v ∈ (#[I a, I b] : Array Value).toList, v.oneCell' = true := by intro v hv; simp at hv; rcases hv with rfl | rfl <;> rfl
set_option maxRecDepth 100000 in
set_option maxHeartbeats 1000000 in
theorem tell_any (f : FuncId) (A1 A2 A3 : Option Addr) (c1 c2 c3 : Nat) (p : Vec) (R : Run) (t last : Int) (k : Kn) (w : World) (h : RunIn w A1 A2 A3 R) (hc2 : R.ms.length ≤ c2) (hff : f = 61 ∨ f = 62)
    (hf : tellE p R t last = 0 → ∀ W cb bb fb, Chart W cb bb fb p (R.e.toNat + 1) (befF p R) (frmF p R) → Calls Try.prog f #[.pointer (some ⟨cb, 0, none⟩), I t] W fun e w' => e = .returned k.val ∧ Below W.heap.size W w') :
    Calls Try.prog 60 #[.agg (ia 117 p), runV A1 A2 A3 c1 c2 c3 R, I t, I last, .func (Fn.func f) #[] #[]] w (RetT w (tellR p R t last k) (tellE p R t last)) := by
  obtain ⟨W2, hW2⟩ : ∃ W2, W2 = ((w.alloc (.cells (ia 117 p) 30)).alloc (.cells #[.slice A1 R.ss.length c1, I R.e, .slice A2 R.ms.length c2, .slice A3 R.es.length c3] 35)) := ⟨_, rfl⟩
  have T : Hid (Two w A1 A2 A3 c1 c2 c3 p R W2) := hW2 ▸ two_mk h c1 c2 c3 p
  obtain ⟨W3, hW3⟩ : ∃ W3, W3 = W2.alloc (.cells #[I 0, I 0] 23) := ⟨_, rfl⟩
  have hb3 : Below W2.heap.size W2 W3 := by rw [hW3]; exact (Below.refl _ _).alloc (Nat.le_refl _) _
  have HR : Hid (W3.heap[w.heap.size + 1 + 1]? = some (.cells #[I 0, I 0] 23 (0, 0))) := by show W3.heap[_]? = _; rw [hW3]; exact heap_last _ _ _ T.out.size.symm
  have HW := Lib.hid hW2
  have HW3 := Lib.hid hW3
  have HB3 := Lib.hid hb3
  have Hrun := Lib.hid (T.out.run.below hb3)
  have Hf := Lib.hid hf
  clear h hW2 hW3 hb3 hf
  -- the end: W is the world before the store into the result
  have fin : Hid (∀ (a b er' : Int) (W : World), Below W3.heap.size W3 W → tellR p R t last k = ⟨a, b⟩ → tellE p R t last = er' → RetT w (tellR p R t last k) (tellE p R t last) (.returned (.tuple #[.agg #[I a, I b], I er'])) (W.setRow (w.heap.size + 1 + 1) #[I a, I b])) :=
    fun a b er' W hW hr he => ⟨by rw [hr, he], below_setRow (T.out.up _ (HB3.out.trans (hW.mono HB3.out.size))) (by omega) _⟩
  by_cases hok : (okPuller p && okRun R) = true
  case neg =>
    have hok' : (okPuller p && okRun R) = false := by simpa using hok
    have hE : Hid (tellE p R t last = 2) := by show _ = _; rw [tellE, hok']; rfl
    have hR : Hid (tellR p R t last k = ⟨0, 0⟩) := by show _ = _; rw [tellR, hE.out]; rfl
    have Hok := Lib.hid hok'
    clear hok hok'
    go_enter Try.func60, Try.ntmps60
    go_wp2_with (refine wpList_load_ia rfl 30 _ rfl w.heap.size 0 rfl 117 p _ (by rw [← HW.out, ← HW3.out]; exact T.out.pul _ HB3.out) Try.underlying30 rfl (by kernel_rfl) ?_)
    rw [← HW.out, ← HW3.out]
    refine (both_any A1 A2 A3 c1 c2 c3 p R _ Hrun.out).mono ?_
    rintro e w1 ⟨rfl, hb1⟩
    rw [Hok.out, show er false = 2 from rfl]
    have hr1 := (hb1.block _ (Array.getElem?_eq_some_iff.1 HR.out).1).trans HR.out
    have HR1 := Lib.hid hr1
    have hb1' := Lib.hid hb1
    clear hr1 hb1
    go_wp2_with (refine wpList_store_row rfl 23 _ _ rfl (w.heap.size + 1 + 1) rfl _ _ HR1.out #[I 0, I 0] rfl (two2 0 0) rfl (by kernel_rfl) ?_)
    refine bodyPost_ret (results_cell_tmp rfl _ _ (w.heap.size + 1 + 1) 23 #[I 0, I 0] (0, 0) _ rfl (setRow_same HR1.out) Try.underlying23 rfl (by kernel_rfl)) rfl ?_
    exact fin.out 0 0 2 _ hb1'.out hR.out hE.out
  case pos =>
    have Hok := Lib.hid hok
    clear hok
    have hEs : Hid (tellE p R t last = if t < 0 ∨ last < t then 3 else if R.ms.length = 0 then 7 else if (conf p R).isSome then 40 else 0) := by show _ = _; rw [tellE, Hok.out]; rfl
    go_enter Try.func60, Try.ntmps60
    go_wp2_with (refine wpList_load_ia rfl 30 _ rfl w.heap.size 0 rfl 117 p _ (by rw [← HW.out, ← HW3.out]; exact T.out.pul _ HB3.out) Try.underlying30 rfl (by kernel_rfl) ?_)
    rw [← HW.out, ← HW3.out]
    refine (both_any A1 A2 A3 c1 c2 c3 p R _ Hrun.out).mono ?_
    rintro e w1 ⟨rfl, hb1⟩
    rw [Hok.out, show er true = 0 from rfl]
    have hr1 := (hb1.block _ (Array.getElem?_eq_some_iff.1 HR.out).1).trans HR.out
    have HR1 := Lib.hid hr1
    have hb1' := Lib.hid hb1
    have hb2 := HB3.out.trans (hb1.mono HB3.out.size)
    have x0 := T.out.r0 _ hb2
    have x1 := T.out.r1 _ hb2
    have x2 := T.out.r2 _ hb2
    have x3 := T.out.r3 _ hb2
    clear hr1 hb1 hb2
    by_cases ht0 : t < 0
    · have hE : Hid (tellE p R t last = 3) := by show _ = _; rw [hEs.out, if_pos (.inl ht0)]
      have hR : Hid (tellR p R t last k = ⟨0, 0⟩) := by show _ = _; rw [tellR, hE.out]; rfl
      go_wp2_with (refine wpList_store_row rfl 23 _ _ rfl (w.heap.size + 1 + 1) rfl _ _ HR1.out #[I 0, I 0] rfl (two2 0 0) rfl (by kernel_rfl) ?_)
      refine bodyPost_ret (results_cell_tmp rfl _ _ (w.heap.size + 1 + 1) 23 #[I 0, I 0] (0, 0) _ rfl (setRow_same HR1.out) Try.underlying23 rfl (by kernel_rfl)) rfl ?_
      exact fin.out 0 0 3 _ hb1'.out hR.out hE.out
    by_cases htl : last < t
    · have hE : Hid (tellE p R t last = 3) := by show _ = _; rw [hEs.out, if_pos (.inr htl)]
      have hR : Hid (tellR p R t last k = ⟨0, 0⟩) := by show _ = _; rw [tellR, hE.out]; rfl
      go_wp2_with (refine wpList_store_row rfl 23 _ _ rfl (w.heap.size + 1 + 1) rfl _ _ HR1.out #[I 0, I 0] rfl (two2 0 0) rfl (by kernel_rfl) ?_)
      refine bodyPost_ret (results_cell_tmp rfl _ _ (w.heap.size + 1 + 1) 23 #[I 0, I 0] (0, 0) _ rfl (setRow_same HR1.out) Try.underlying23 rfl (by kernel_rfl)) rfl ?_
      exact fin.out 0 0 3 _ hb1'.out hR.out hE.out
    have hEs2 : Hid (tellE p R t last = if R.ms.length = 0 then 7 else if (conf p R).isSome then 40 else 0) := by show _ = _; rw [hEs.out, if_neg (by omega)]
    by_cases hm0 : R.ms.length = 0
    · have hE : Hid (tellE p R t last = 7) := by show _ = _; rw [hEs2.out, if_pos hm0]
      have hR : Hid (tellR p R t last k = ⟨0, 0⟩) := by show _ = _; rw [tellR, hE.out]; rfl
      have hq : (((R.ms.length : Nat) : Int) == 0) = true := by rw [hm0]; rfl
      clear hm0
      go_wp2_with (refine wpList_store_row rfl 23 _ _ rfl (w.heap.size + 1 + 1) rfl _ _ HR1.out #[I 0, I 0] rfl (two2 0 0) rfl (by kernel_rfl) ?_)
      refine bodyPost_ret (results_cell_tmp rfl _ _ (w.heap.size + 1 + 1) 23 #[I 0, I 0] (0, 0) _ rfl (setRow_same HR1.out) Try.underlying23 rfl (by kernel_rfl)) rfl ?_
      exact fin.out 0 0 7 _ hb1'.out hR.out hE.out
    have hq : (((R.ms.length : Nat) : Int) == 0) = false := by rw [beq_eq_false_iff_ne]; omega
    have hEs3 : Hid (tellE p R t last = if (conf p R).isSome then 40 else 0) := by show _ = _; rw [hEs2.out, if_neg hm0]
    have Hrun1 := Lib.hid (Hrun.out.below hb1'.out)
    clear hm0
    rcases hcf : conf p R with _ | c
    · have hE : Hid (tellE p R t last = 0) := by show _ = _; rw [hEs3.out, hcf]; rfl
      have hR : Hid (tellR p R t last k = ⟨k.lo, k.hi⟩) := by show _ = _; rw [tellR, hE.out]; rfl
      have Hcf := Lib.hid hcf
      clear hcf
      go_wp2_with (refine wpList_load_ia rfl 30 _ rfl w.heap.size 0 rfl 117 p _ (T.out.pul _ (HB3.out.trans (hb1'.out.mono HB3.out.size))) Try.underlying30 rfl (by kernel_rfl) ?_)
      refine (newChart_ok A1 A2 A3 c1 c2 c3 p R _ Hrun1.out hc2 Hok.out Hcf.out).mono ?_
      rintro e w2 ⟨cb, bb, fb, rfl, hch, hb2⟩
      have HC := Lib.hid hch
      have HB2 := Lib.hid hb2
      clear hch hb2
      have hz2 : w1.heap.size ≤ w2.heap.size := HB2.out.size
      rcases hff with rfl | rfl
      all_goals
        go_wp2_with fail
        refine (Hf.out hE.out w2 cb bb fb HC.out).mono ?_
        rintro e w3 ⟨rfl, hb3⟩
        have HR3 : Hid ((w3.alloc (.cells #[I k.lo, I k.hi, .bool k.some] 147)).heap[w.heap.size + 1 + 1]? = some (.cells #[I 0, I 0] 23 (0, 0))) := by
          have h1 := (HB2.out.block _ (Array.getElem?_eq_some_iff.1 HR1.out).1).trans HR1.out
          have h2 := (hb3.block _ (Array.getElem?_eq_some_iff.1 h1).1).trans h1
          exact heap_before h2
        have hb3' : Hid (Below W3.heap.size W3 (w3.alloc (.cells #[I k.lo, I k.hi, .bool k.some] 147))) := by
          have h1 := hb1'.out.trans (HB2.out.mono hb1'.out.size)
          have h2 := h1.trans (hb3.mono h1.size)
          exact h2.alloc h2.size _
        clear hb3
        go_wp2_with (refine wpList_store_row rfl 23 _ _ rfl (w.heap.size + 1 + 1) rfl _ _ HR3.out #[I k.lo, I k.hi] rfl (two2 k.lo k.hi) rfl (by kernel_rfl) ?_)
        refine bodyPost_ret (results_cell_tmp rfl _ _ (w.heap.size + 1 + 1) 23 #[I k.lo, I k.hi] (0, 0) _ rfl (setRow_same HR3.out) Try.underlying23 rfl (by kernel_rfl)) rfl ?_
        exact fin.out k.lo k.hi 0 _ hb3'.out hR.out hE.out
    · have hE : Hid (tellE p R t last = 40) := by show _ = _; rw [hEs3.out, hcf]; rfl
      have hR : Hid (tellR p R t last k = ⟨0, 0⟩) := by show _ = _; rw [tellR, hE.out]; rfl
      have Hcf : Hid ((conf p R).isSome = true) := by show _ = _; rw [hcf]; rfl
      clear hcf
      go_wp2_with (refine wpList_load_ia rfl 30 _ rfl w.heap.size 0 rfl 117 p _ (T.out.pul _ (HB3.out.trans (hb1'.out.mono HB3.out.size))) Try.underlying30 rfl (by kernel_rfl) ?_)
      refine (newChart_no A1 A2 A3 c1 c2 c3 p R _ Hrun1.out hc2 40 (.inr ⟨Hok.out, Hcf.out, rfl⟩)).mono ?_
      rintro e w2 ⟨rfl, hb2⟩
      have hr2 := (hb2.block _ (Array.getElem?_eq_some_iff.1 HR1.out).1).trans HR1.out
      have HR2 := Lib.hid hr2
      have hb2' : Hid (Below W3.heap.size W3 w2) := hb1'.out.trans (hb2.mono hb1'.out.size)
      clear hr2 hb2
      go_wp2_with (refine wpList_store_row rfl 23 _ _ rfl (w.heap.size + 1 + 1) rfl _ _ HR2.out #[I 0, I 0] rfl (two2 0 0) rfl (by kernel_rfl) ?_)
      refine bodyPost_ret (results_cell_tmp rfl _ _ (w.heap.size + 1 + 1) 23 #[I 0, I 0] (0, 0) _ rfl (setRow_same HR2.out) Try.underlying23 rfl (by kernel_rfl)) rfl ?_
      exact fin.out 0 0 40 _ hb2'.out hR.out hE.out
end Go.Proofs.Ytlebefopdnadaaa
