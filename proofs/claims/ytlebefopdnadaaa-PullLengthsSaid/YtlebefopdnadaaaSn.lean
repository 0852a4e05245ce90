/- The contract of Sold of package pull, whatever the run. -/
import Derived.Test.YtlebefopdnadaaaSo
namespace Go.Proofs.Ytlebefopdnadaaa
open Go.RowKit
set_option maxRecDepth 100000 in
set_option maxHeartbeats 1000000 in
theorem soldX_any (A1 A2 A3 : Option Addr) (c1 c2 c3 : Nat) (p : Vec) (R : Run) (w : World) (h : RunIn w A1 A2 A3 R) (hc2 : R.ms.length ≤ c2) :
    Calls Try.prog 34 #[.agg (ia 117 p), runV A1 A2 A3 c1 c2 c3 R] w (RetL w (soldL p R) (chE p R)) := by
  by_cases hok : (okPuller p && okRun R) = true ∧ conf p R = none
  · exact soldX_ok A1 A2 A3 c1 c2 c3 p R w h hc2 hok.1 hok.2
  · obtain ⟨W2, hW2⟩ : ∃ W2, W2 = ((w.alloc (.cells (ia 117 p) 30)).alloc (.cells #[.slice A1 R.ss.length c1, I R.e, .slice A2 R.ms.length c2, .slice A3 R.es.length c3] 35)) := ⟨_, rfl⟩
    have T : Hid (Two w A1 A2 A3 c1 c2 c3 p R W2) := hW2 ▸ two_mk h c1 c2 c3 p
    have HW := Lib.hid hW2
    have x0 : W2.cell? ⟨w.heap.size + 1, 0, none⟩ = some (.slice A1 R.ss.length c1) := T.out.r0 _ (Below.refl _ _)
    have x1 : W2.cell? ⟨w.heap.size + 1, 1, none⟩ = some (I R.e) := T.out.r1 _ (Below.refl _ _)
    have x2 : W2.cell? ⟨w.heap.size + 1, 2, none⟩ = some (.slice A2 R.ms.length c2) := T.out.r2 _ (Below.refl _ _)
    have x3 : W2.cell? ⟨w.heap.size + 1, 3, none⟩ = some (.slice A3 R.es.length c3) := T.out.r3 _ (Below.refl _ _)
    clear h hW2
    have hno : Hid (∃ er', ((okPuller p && okRun R) = false ∧ er' = 2 ∨ (okPuller p && okRun R) = true ∧ (conf p R).isSome = true ∧ er' = 40) ∧ chE p R = er' ∧ (er' == 0) = false ∧ soldL p R = []) := by
      cases hq : (okPuller p && okRun R) with
      | false =>
        have h2 : chE p R = 2 := by rw [chE, hq]; rfl
        exact ⟨2, .inl ⟨rfl, rfl⟩, h2, rfl, by rw [soldL, h2]; rfl⟩
      | true =>
        have hc : (conf p R).isSome = true := by
          cases hc : conf p R with
          | none => exact absurd ⟨hq, hc⟩ hok
          | some _ => rfl
        have h2 : chE p R = 40 := by rw [chE, hq, hc]; rfl
        exact ⟨40, .inr ⟨rfl, hc, rfl⟩, h2, rfl, by rw [soldL, h2]; rfl⟩
    obtain ⟨er', h1, h2, h3, h4⟩ := hno.out
    have H1 := Lib.hid h1
    have H2 := Lib.hid (And.intro h2 h4)
    clear hno hok h1 h2 h4
    go_enter Try.func34, Try.ntmps34
    go_wp2_with (refine wpList_load_ia rfl 30 _ rfl w.heap.size 0 rfl 117 p _ (by rw [← HW.out]; exact T.out.pul _ (Below.refl _ _)) Try.underlying30 rfl (by kernel_rfl) ?_)
    rw [← HW.out]
    refine (newChart_no A1 A2 A3 c1 c2 c3 p R _ T.out.run hc2 er' H1.out).mono ?_
    rintro e w1 ⟨rfl, hb1⟩
    have HB2 : Hid (∀ x, Below w.heap.size w (w1.alloc x)) := fun x => T.out.up _ (hb1.alloc hb1.size x)
    clear hb1
    go_wp2_with fail
    go_ret2
    exact ⟨none, 0, 0, by rw [H2.out.1]; rfl, by rw [H2.out.2]; rfl, Rd.nil, HB2.out _⟩
end Go.Proofs.Ytlebefopdnadaaa
