/- The contract of Accepted of package pull. -/
import Derived.Test.YtlebefopdnadaaaDm
namespace Go.Proofs.Ytlebefopdnadaaa
open Go.RowKit
/-- The error of Accepted and of Sold. -/
def chE (p : Vec) (R : Run) : Int := if okPuller p && okRun R then (if (conf p R).isSome then 40 else 0) else 2
/-- Is a second accepted? -/
def goodB (p : Vec) (R : Run) (t : Nat) : Bool := accB p (fromK p R t)
def acL (p : Vec) (R : Run) : List Rng := if chE p R = 0 then runsF (goodB p R) R.e.toNat else []
/-- A list of ranges and an error come back. -/
def RetL (w : World) (l : List Rng) (er : Int) (e : Ending) (w' : World) : Prop := ∃ A n c, e = .returned (.tuple #[.slice A n c, I er]) ∧ n = l.length ∧ Rd w' w'.heap.size 2 A n (rR l) ∧ Below w.heap.size w w'
theorem goodB_any (cb bb fb : Nat) {p : Vec} {R : Run} (hok : (okPuller p && okRun R) = true) {k : Nat} (hk : k < R.e.toNat) (W : World) (h : Chart W cb bb fb p (R.e.toNat + 1) (befF p R) (frmF p R)) :
    Calls Try.prog 69 #[.pointer (some ⟨cb, 0, none⟩), I (k : Nat)] W fun e w' => e = .returned (.bool (goodB p R k)) ∧ Below W.heap.size W w' := by
  rw [Bool.and_eq_true] at hok
  have hv := (vRun_iff R).1 hok.2
  have hp := vPul_of hok.1
  have hl := hv.last
  have := accepted_any cb bb fb _ p _ _ (k : Int) W h ⟨by omega, by omega⟩ (by omega) hp (bd_bef hv hp (by omega)) (bd_frm hv hp _)
  exact this
set_option maxRecDepth 100000 in
set_option maxHeartbeats 1000000 in
theorem acceptedX_any (A1 A2 A3 : Option Addr) (c1 c2 c3 : Nat) (p : Vec) (R : Run) (w : World) (h : RunIn w A1 A2 A3 R) (hc2 : R.ms.length ≤ c2) :
    Calls Try.prog 33 #[.agg (ia 117 p), runV A1 A2 A3 c1 c2 c3 R] w (RetL w (acL p R) (chE p R)) := by
  obtain ⟨W2, hW2⟩ : ∃ W2, W2 = ((w.alloc (.cells (ia 117 p) 30)).alloc (.cells #[.slice A1 R.ss.length c1, I R.e, .slice A2 R.ms.length c2, .slice A3 R.es.length c3] 35)) := ⟨_, rfl⟩
  have T : Hid (Two w A1 A2 A3 c1 c2 c3 p R W2) := hW2 ▸ two_mk h c1 c2 c3 p
  have HW := Lib.hid hW2
  have x0 : W2.cell? ⟨w.heap.size + 1, 0, none⟩ = some (.slice A1 R.ss.length c1) := T.out.r0 _ (Below.refl _ _)
  have x1 : W2.cell? ⟨w.heap.size + 1, 1, none⟩ = some (I R.e) := T.out.r1 _ (Below.refl _ _)
  have x2 : W2.cell? ⟨w.heap.size + 1, 2, none⟩ = some (.slice A2 R.ms.length c2) := T.out.r2 _ (Below.refl _ _)
  have x3 : W2.cell? ⟨w.heap.size + 1, 3, none⟩ = some (.slice A3 R.es.length c3) := T.out.r3 _ (Below.refl _ _)
  clear h hW2
  by_cases hok : (okPuller p && okRun R) = true ∧ conf p R = none
  · obtain ⟨hok, hcf⟩ := hok
    have hE : Hid (chE p R = 0) := by show _ = _; rw [chE, hok, hcf]; rfl
    have hL : Hid (acL p R = runsF (goodB p R) R.e.toNat) := if_pos hE.out
    have Hok := Lib.hid hok
    have Hcf := Lib.hid hcf
    rw [Bool.and_eq_true] at hok
    have hv := (vRun_iff R).1 hok.2
    have last := hv.last
    have e0 : 0 ≤ R.e := by have := hv.first; have := hv.tlt 0 hv.n1; omega
    obtain ⟨N, hN⟩ : ∃ N, N = R.e.toNat := ⟨_, rfl⟩
    have hNe : R.e = (N : Int) := by omega
    have HN := Lib.hid hN
    have Hv := Lib.hid hv
    have Hne := Lib.hid hNe
    have hN1 : (N : Int) ≤ 100000 := by omega
    clear hok hcf hv hN hNe
    go_enter Try.func33, Try.ntmps33
    go_wp2_with (refine wpList_load_ia rfl 30 _ rfl w.heap.size 0 rfl 117 p _ (by rw [← HW.out]; exact T.out.pul _ (Below.refl _ _)) Try.underlying30 rfl (by kernel_rfl) ?_)
    rw [← HW.out]
    refine (newChart_ok A1 A2 A3 c1 c2 c3 p R _ T.out.run hc2 Hok.out Hcf.out).mono ?_
    rintro e w1 ⟨cb, bb, fb, rfl, hch, hb1⟩
    have HC := Lib.hid hch
    have HB1 := Lib.hid hb1
    have y1 : w1.cell? ⟨w.heap.size + 1, 1, none⟩ = some (I (N : Int)) := by rw [← Hne.out]; exact T.out.r1 _ hb1
    clear hch hb1
    go_wp2_with fail
    refine (runs_at cb N (goodB p R) _ (by omega) (fun k hk W hW => ?_)).mono ?_
    · exact goodB_any cb bb fb Hok.out (by rw [← HN.out]; exact hk) W (HC.out.below hW)
    rintro e w2 ⟨A, n, c, rfl, hn, hr, hb2⟩
    have HR : Hid (n = (acL p R).length ∧ Rd w2 w2.heap.size 2 A n (rR (acL p R))) := by show _ ∧ _; rw [hL.out, ← HN.out]; exact ⟨hn, hr⟩
    have HB2 := Lib.hid (T.out.up _ (HB1.out.trans (hb2.mono HB1.out.size)))
    clear hn hr hb2
    go_wp2_with fail
    go_ret2
    exact ⟨A, n, c, by rw [hE.out]; rfl, HR.out.1, HR.out.2, HB2.out⟩
  · have hno : Hid (∃ er', ((okPuller p && okRun R) = false ∧ er' = 2 ∨ (okPuller p && okRun R) = true ∧ (conf p R).isSome = true ∧ er' = 40) ∧ chE p R = er' ∧ (er' == 0) = false ∧ acL p R = []) := by
      cases hq : (okPuller p && okRun R) with
      | false =>
        have h2 : chE p R = 2 := by rw [chE, hq]; rfl
        exact ⟨2, .inl ⟨rfl, rfl⟩, h2, rfl, by rw [acL, h2]; rfl⟩
      | true =>
        have hc : (conf p R).isSome = true := by
          cases hc : conf p R with
          | none => exact absurd ⟨hq, hc⟩ hok
          | some _ => rfl
        have h2 : chE p R = 40 := by rw [chE, hq, hc]; rfl
        exact ⟨40, .inr ⟨rfl, hc, rfl⟩, h2, rfl, by rw [acL, h2]; rfl⟩
    obtain ⟨er', h1, h2, h3, h4⟩ := hno.out
    have H1 := Lib.hid h1
    have H2 := Lib.hid (And.intro h2 h4)
    clear hno hok h1 h2 h4
    go_enter Try.func33, Try.ntmps33
    go_wp2_with (refine wpList_load_ia rfl 30 _ rfl w.heap.size 0 rfl 117 p _ (by rw [← HW.out]; exact T.out.pul _ (Below.refl _ _)) Try.underlying30 rfl (by kernel_rfl) ?_)
    rw [← HW.out]
    refine (newChart_no A1 A2 A3 c1 c2 c3 p R _ T.out.run hc2 er' H1.out).mono ?_
    rintro e w1 ⟨rfl, hb1⟩
    have HB2 := Lib.hid (T.out.up _ hb1)
    clear hb1
    go_wp2_with fail
    go_ret2
    exact ⟨none, 0, 0, by rw [H2.out.1]; rfl, by rw [H2.out.2]; rfl, Rd.nil, HB2.out⟩
end Go.Proofs.Ytlebefopdnadaaa
