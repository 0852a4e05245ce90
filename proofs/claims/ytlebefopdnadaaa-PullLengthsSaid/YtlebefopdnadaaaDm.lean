/- The contracts of Diameter and Between of package pull. -/
import Derived.Test.YtlebefopdnadaaaTl
namespace Go.Proofs.Ytlebefopdnadaaa
open Go.RowKit
/-- What is known at a second. -/
def atK (p : Vec) (R : Run) (t : Nat) : Kn := meetK (befF p R t) (frmF p R t)
/-- What is known from a second to the next one. -/
def fromK (p : Vec) (R : Run) (t : Nat) : Kn := betK p (befF p R t) (frmF p R (t + 1))
set_option maxRecDepth 100000 in
set_option maxHeartbeats 1000000 in
theorem diameter_any (A1 A2 A3 : Option Addr) (c1 c2 c3 : Nat) (p : Vec) (R : Run) (t : Int) (w : World) (h : RunIn w A1 A2 A3 R) (hc2 : R.ms.length ≤ c2) :
    Calls Try.prog 28 #[.agg (ia 117 p), runV A1 A2 A3 c1 c2 c3 R, I t] w (RetT w (tellR p R t R.e (atK p R t.toNat)) (tellE p R t R.e)) := by
  obtain ⟨W2, hW2⟩ : ∃ W2, W2 = ((w.alloc (.cells (ia 117 p) 30)).alloc (.cells #[.slice A1 R.ss.length c1, I R.e, .slice A2 R.ms.length c2, .slice A3 R.es.length c3] 35)) := ⟨_, rfl⟩
  have T : Hid (Two w A1 A2 A3 c1 c2 c3 p R W2) := hW2 ▸ two_mk h c1 c2 c3 p
  obtain ⟨W3, hW3⟩ : ∃ W3, W3 = W2.alloc (.cells #[I 0, I 0] 23) := ⟨_, rfl⟩
  have hb3 : Below W2.heap.size W2 W3 := by rw [hW3]; exact (Below.refl _ _).alloc (Nat.le_refl _) _
  have HR : Hid (W3.heap[w.heap.size + 1 + 1]? = some (.cells #[I 0, I 0] 23 (0, 0))) := by show W3.heap[_]? = _; rw [hW3]; exact heap_last _ _ _ T.out.size.symm
  have HW := Lib.hid hW2
  have HW3 := Lib.hid hW3
  have HB3 := Lib.hid hb3
  have Hrun := Lib.hid (T.out.run.below hb3)
  clear h hW2 hW3 hb3
  have HE : Hid (∀ last, ((okPuller p && okRun R) = true → last = R.e) → tellE p R t last = tellE p R t (R.e) ∧ tellR p R t last (atK p R t.toNat) = tellR p R t (R.e) (atK p R t.toNat)) := fun last hl => by
    by_cases hok : (okPuller p && okRun R) = true
    · rw [hl hok]; exact ⟨rfl, rfl⟩
    · have h2 : ∀ q, tellE p R t q = 2 := fun q => by rw [tellE, if_neg hok]
      exact ⟨by rw [h2, h2], by rw [tellR, tellR, h2, h2]⟩
  have hcall : Hid (∀ last, ((okPuller p && okRun R) = true → last = R.e) → ∀ W, RunIn W A1 A2 A3 R → Calls Try.prog 60 #[.agg (ia 117 p), runV A1 A2 A3 c1 c2 c3 R, I t, I last, .func (Fn.func 61) #[] #[]] W (RetT W (tellR p R t (R.e) (atK p R t.toNat)) (tellE p R t (R.e)))) := fun last hl W hW => by
    have := HE.out last hl
    rw [← this.1, ← this.2]
    refine tell_any _ A1 A2 A3 c1 c2 c3 p R t last _ W hW hc2 (.inl rfl) fun h0 W cb bb fb hch => ?_
    have hok : (okPuller p && okRun R) = true := by
      cases hq : (okPuller p && okRun R) with
      | true => rfl
      | false => rw [tellE, hq] at h0; simp at h0
    have hl' := hl hok
    rw [tellE, hok, if_pos rfl] at h0
    have ht : 0 ≤ t ∧ t ≤ last := by
      by_cases hh : t < 0 ∨ last < t
      · rw [if_pos hh] at h0; simp at h0
      · omega
    rw [Bool.and_eq_true] at hok
    have hv := (vRun_iff R).1 hok.2
    have hp := vPul_of hok.1
    have hla := hv.last
    exact at_any cb bb fb _ p _ _ t W hch ⟨ht.1, by omega⟩
  obtain ⟨r, hr⟩ : ∃ r, tellR p R t (R.e) (atK p R t.toNat) = r := ⟨_, rfl⟩
  obtain ⟨er', he⟩ : ∃ er', tellE p R t (R.e) = er' := ⟨_, rfl⟩
  rw [hr, he] at hcall ⊢
  clear HE hr he
  have x0 : W3.cell? ⟨w.heap.size + 1, 0, none⟩ = some (.slice A1 R.ss.length c1) := T.out.r0 _ HB3.out
  have x1 : W3.cell? ⟨w.heap.size + 1, 1, none⟩ = some (I R.e) := T.out.r1 _ HB3.out
  have x2 : W3.cell? ⟨w.heap.size + 1, 2, none⟩ = some (.slice A2 R.ms.length c2) := T.out.r2 _ HB3.out
  have x3 : W3.cell? ⟨w.heap.size + 1, 3, none⟩ = some (.slice A3 R.es.length c3) := T.out.r3 _ HB3.out
  go_enter Try.func28, Try.ntmps28
  go_wp2_with (refine wpList_load_ia rfl 30 _ rfl w.heap.size 0 rfl 117 p _ (by rw [← HW.out, ← HW3.out]; exact T.out.pul _ HB3.out) Try.underlying30 rfl (by kernel_rfl) ?_)
  rw [← HW.out, ← HW3.out]
  refine (hcall.out _ (fun _ => rfl) _ Hrun.out).mono ?_
  rintro e w1 ⟨rfl, hb1⟩
  have HR1 : Hid (w1.heap[w.heap.size + 1 + 1]? = some (.cells #[I 0, I 0] 23 (0, 0))) := (hb1.block _ (Array.getElem?_eq_some_iff.1 HR.out).1).trans HR.out
  have hb1' : Hid (Below W2.heap.size W2 w1) := HB3.out.trans (hb1.mono HB3.out.size)
  clear hb1
  go_wp2_with (refine wpList_store_row rfl 23 _ _ rfl (w.heap.size + 1 + 1) rfl _ _ HR1.out #[I r.lo, I r.hi] rfl (two2 r.lo r.hi) rfl (by kernel_rfl) ?_)
  refine bodyPost_ret (results_cell_tmp rfl _ _ (w.heap.size + 1 + 1) 23 #[I r.lo, I r.hi] (0, 0) _ rfl (setRow_same HR1.out) Try.underlying23 rfl (by kernel_rfl)) rfl ?_
  exact ⟨rfl, below_setRow (T.out.up _ hb1'.out) (by omega) _⟩
set_option maxRecDepth 100000 in
set_option maxHeartbeats 1000000 in
theorem betweenX_any (A1 A2 A3 : Option Addr) (c1 c2 c3 : Nat) (p : Vec) (R : Run) (t : Int) (w : World) (h : RunIn w A1 A2 A3 R) (hc2 : R.ms.length ≤ c2) :
    Calls Try.prog 29 #[.agg (ia 117 p), runV A1 A2 A3 c1 c2 c3 R, I t] w (RetT w (tellR p R t (R.e - 1) (fromK p R t.toNat)) (tellE p R t (R.e - 1))) := by
  obtain ⟨W2, hW2⟩ : ∃ W2, W2 = ((w.alloc (.cells (ia 117 p) 30)).alloc (.cells #[.slice A1 R.ss.length c1, I R.e, .slice A2 R.ms.length c2, .slice A3 R.es.length c3] 35)) := ⟨_, rfl⟩
  have T : Hid (Two w A1 A2 A3 c1 c2 c3 p R W2) := hW2 ▸ two_mk h c1 c2 c3 p
  obtain ⟨W3, hW3⟩ : ∃ W3, W3 = W2.alloc (.cells #[I 0, I 0] 23) := ⟨_, rfl⟩
  have hb3 : Below W2.heap.size W2 W3 := by rw [hW3]; exact (Below.refl _ _).alloc (Nat.le_refl _) _
  have HR : Hid (W3.heap[w.heap.size + 1 + 1]? = some (.cells #[I 0, I 0] 23 (0, 0))) := by show W3.heap[_]? = _; rw [hW3]; exact heap_last _ _ _ T.out.size.symm
  have HW := Lib.hid hW2
  have HW3 := Lib.hid hW3
  have HB3 := Lib.hid hb3
  have Hrun := Lib.hid (T.out.run.below hb3)
  clear h hW2 hW3 hb3
  have HE : Hid (∀ last, ((okPuller p && okRun R) = true → last = (R.e - 1)) → tellE p R t last = tellE p R t ((R.e - 1)) ∧ tellR p R t last (fromK p R t.toNat) = tellR p R t ((R.e - 1)) (fromK p R t.toNat)) := fun last hl => by
    by_cases hok : (okPuller p && okRun R) = true
    · rw [hl hok]; exact ⟨rfl, rfl⟩
    · have h2 : ∀ q, tellE p R t q = 2 := fun q => by rw [tellE, if_neg hok]
      exact ⟨by rw [h2, h2], by rw [tellR, tellR, h2, h2]⟩
  have hcall : Hid (∀ last, ((okPuller p && okRun R) = true → last = (R.e - 1)) → ∀ W, RunIn W A1 A2 A3 R → Calls Try.prog 60 #[.agg (ia 117 p), runV A1 A2 A3 c1 c2 c3 R, I t, I last, .func (Fn.func 62) #[] #[]] W (RetT W (tellR p R t ((R.e - 1)) (fromK p R t.toNat)) (tellE p R t ((R.e - 1))))) := fun last hl W hW => by
    have := HE.out last hl
    rw [← this.1, ← this.2]
    refine tell_any _ A1 A2 A3 c1 c2 c3 p R t last _ W hW hc2 (.inr rfl) fun h0 W cb bb fb hch => ?_
    have hok : (okPuller p && okRun R) = true := by
      cases hq : (okPuller p && okRun R) with
      | true => rfl
      | false => rw [tellE, hq] at h0; simp at h0
    have hl' := hl hok
    rw [tellE, hok, if_pos rfl] at h0
    have ht : 0 ≤ t ∧ t ≤ last := by
      by_cases hh : t < 0 ∨ last < t
      · rw [if_pos hh] at h0; simp at h0
      · omega
    rw [Bool.and_eq_true] at hok
    have hv := (vRun_iff R).1 hok.2
    have hp := vPul_of hok.1
    have hla := hv.last
    exact between_any cb bb fb _ p _ _ t W hch ⟨ht.1, by omega⟩ (by omega) hp (bd_bef hv hp (by omega)) (bd_frm hv hp _)
  obtain ⟨r, hr⟩ : ∃ r, tellR p R t ((R.e - 1)) (fromK p R t.toNat) = r := ⟨_, rfl⟩
  obtain ⟨er', he⟩ : ∃ er', tellE p R t ((R.e - 1)) = er' := ⟨_, rfl⟩
  rw [hr, he] at hcall ⊢
  clear HE hr he
  have x0 : W3.cell? ⟨w.heap.size + 1, 0, none⟩ = some (.slice A1 R.ss.length c1) := T.out.r0 _ HB3.out
  have x1 : W3.cell? ⟨w.heap.size + 1, 1, none⟩ = some (I R.e) := T.out.r1 _ HB3.out
  have x2 : W3.cell? ⟨w.heap.size + 1, 2, none⟩ = some (.slice A2 R.ms.length c2) := T.out.r2 _ HB3.out
  have x3 : W3.cell? ⟨w.heap.size + 1, 3, none⟩ = some (.slice A3 R.es.length c3) := T.out.r3 _ HB3.out
  go_enter Try.func29, Try.ntmps29
  go_wp2_with (refine wpList_load_ia rfl 30 _ rfl w.heap.size 0 rfl 117 p _ (by rw [← HW.out, ← HW3.out]; exact T.out.pul _ HB3.out) Try.underlying30 rfl (by kernel_rfl) ?_)
  rw [← HW.out, ← HW3.out]
  refine (hcall.out _ ?hl _ Hrun.out).mono ?_
  case hl =>
    intro hok
    rw [Bool.and_eq_true] at hok
    have hv := (vRun_iff R).1 hok.2
    have := hv.last
    have h1 : 0 ≤ R.e := by have := hv.first; have := hv.tlt 0 hv.n1; omega
    exact IntWalk.wrap64_in _ ⟨by omega, by omega⟩
  rintro e w1 ⟨rfl, hb1⟩
  have HR1 : Hid (w1.heap[w.heap.size + 1 + 1]? = some (.cells #[I 0, I 0] 23 (0, 0))) := (hb1.block _ (Array.getElem?_eq_some_iff.1 HR.out).1).trans HR.out
  have hb1' : Hid (Below W2.heap.size W2 w1) := HB3.out.trans (hb1.mono HB3.out.size)
  clear hb1
  go_wp2_with (refine wpList_store_row rfl 23 _ _ rfl (w.heap.size + 1 + 1) rfl _ _ HR1.out #[I r.lo, I r.hi] rfl (two2 r.lo r.hi) rfl (by kernel_rfl) ?_)
  refine bodyPost_ret (results_cell_tmp rfl _ _ (w.heap.size + 1 + 1) 23 #[I r.lo, I r.hi] (0, 0) _ rfl (setRow_same HR1.out) Try.underlying23 rfl (by kernel_rfl)) rfl ?_
  exact ⟨rfl, below_setRow (T.out.up _ hb1'.out) (by omega) _⟩
end Go.Proofs.Ytlebefopdnadaaa
