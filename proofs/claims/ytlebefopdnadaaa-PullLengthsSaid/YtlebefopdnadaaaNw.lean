/- The contract of newChart of package pull. -/
import Derived.Test.YtlebefopdnadaaaNc
namespace Go.Proofs.Ytlebefopdnadaaa
open Go.RowKit
/-- What is seen at each second, by the first j samples. -/
def seenK (R : Run) : Nat → Nat → Kn
  | 0 => fun _ => kn0 | j + 1 => updK (seenK R j) (at0 R.ms j).t.toNat ⟨(at0 R.ms j).lo, (at0 R.ms j).hi, true⟩
def seenF (R : Run) : Nat → Kn := seenK R R.ms.length
/-- What is known at a second by all samples up to it. -/
def befF (p : Vec) (R : Run) : Nat → Kn
  | 0 => seenF R 0 | t + 1 => meetK (seenF R (t + 1)) (laterK (befF p R t) (p 110) (p 111))
/-- What is known d seconds ahead of the end by all samples from then on. -/
def frmD (p : Vec) (R : Run) : Nat → Kn
  | 0 => seenF R R.e.toNat | d + 1 => meetK (seenF R (R.e.toNat - (d + 1))) (laterK (frmD p R d) (p 111) (p 110))
def frmF (p : Vec) (R : Run) (t : Nat) : Kn := frmD p R (R.e.toNat - t)
set_option maxRecDepth 100000 in
set_option maxHeartbeats 1000000 in
theorem newChart_no (A1 A2 A3 : Option Addr) (c1 c2 c3 : Nat) (p : Vec) (R : Run) (w : World) (h : RunIn w A1 A2 A3 R) (hc2 : R.ms.length ≤ c2) (er' : Int)
    (hno : (okPuller p && okRun R) = false ∧ er' = 2 ∨ (okPuller p && okRun R) = true ∧ (conf p R).isSome = true ∧ er' = 40) :
    Calls Try.prog 67 #[.agg (ia 117 p), runV A1 A2 A3 c1 c2 c3 R] w fun e w' => e = .returned (.tuple #[.pointer none, I er']) ∧ Below w.heap.size w w' := by
  obtain ⟨W2, hW2⟩ : ∃ W2, W2 = ((w.alloc (.cells (ia 117 p) 30)).alloc (.cells #[.slice A1 R.ss.length c1, I R.e, .slice A2 R.ms.length c2, .slice A3 R.es.length c3] 35)) := ⟨_, rfl⟩
  have T : Hid (Two w A1 A2 A3 c1 c2 c3 p R W2) := hW2 ▸ two_mk h c1 c2 c3 p
  have HW := Lib.hid hW2
  clear h hW2
  rcases hno with ⟨hok, rfl⟩ | ⟨hok, hcf, rfl⟩
  · go_enter Try.func67, Try.ntmps67
    go_wp2_with (refine wpList_load_ia rfl 30 _ rfl w.heap.size 0 rfl 117 p _ (by rw [← HW.out]; exact T.out.pul _ (Below.refl _ _)) Try.underlying30 rfl (by kernel_rfl) ?_)
    rw [← HW.out]
    refine (conflict_any A1 A2 A3 c1 c2 c3 p R _ T.out.run hc2).mono ?_
    rintro e w1 ⟨rfl, hb1⟩
    rw [hok, show er false = 2 from rfl]
    go_wp2_with fail
    go_ret2
    exact ⟨rfl, T.out.up _ hb1⟩
  · obtain ⟨⟨ci, cj⟩, hci⟩ := Option.isSome_iff_exists.1 hcf
    have hv : Hid (confV p R = ((ci : Int), (cj : Int))) := by show _ = _; rw [confV, hok, hci]; rfl
    have hpos : (0 : Int) ≤ (ci : Int) := by omega
    clear hci hcf
    go_enter Try.func67, Try.ntmps67
    go_wp2_with (refine wpList_load_ia rfl 30 _ rfl w.heap.size 0 rfl 117 p _ (by rw [← HW.out]; exact T.out.pul _ (Below.refl _ _)) Try.underlying30 rfl (by kernel_rfl) ?_)
    rw [← HW.out]
    refine (conflict_any A1 A2 A3 c1 c2 c3 p R _ T.out.run hc2).mono ?_
    rintro e w1 ⟨rfl, hb1⟩
    rw [hok, show er true = 0 from rfl, hv.out]
    go_wp2_with fail
    go_ret2
    exact ⟨rfl, T.out.up _ hb1⟩
end Go.Proofs.Ytlebefopdnadaaa
