/- The simplest fraction between two: plain law. -/
import Derived.Test.YtnkaoplgmglijaaDoorU2
import Derived.Deep.RegionHeld3
namespace Go.Proofs.YtnkaoplgmglijaaDoor.Un
def simF : Nat → Frc → Frc → Frc
 | 0, a, _ => ⟨a.n / a.d, 1⟩
 | m + 1, a, b => if a.n % a.d = 0 then ⟨a.n / a.d, 1⟩ else if a.n / a.d < b.n / b.d then ⟨a.n / a.d + 1, 1⟩ else
   ⟨a.n / a.d * (simF m ⟨b.d, b.n % b.d⟩ ⟨a.d, a.n % a.d⟩).n + (simF m ⟨b.d, b.n % b.d⟩ ⟨a.d, a.n % a.d⟩).d, (simF m ⟨b.d, b.n % b.d⟩ ⟨a.d, a.n % a.d⟩).n⟩
def fle (a b : Frc) : Prop := a.n * b.d ≤ b.n * a.d
theorem fle_inv {a b : Frc} (ha : 1 ≤ a.d) (hb : 1 ≤ b.d) (hab : fle a b) (hr : a.n % a.d ≠ 0) (hq : ¬ a.n / a.d < b.n / b.d) :
 a.n / a.d = b.n / b.d ∧ 1 ≤ a.n % a.d ∧ 1 ≤ b.n % b.d ∧ fle ⟨b.d, b.n % b.d⟩ ⟨a.d, a.n % a.d⟩ := by
 have h1 := Int.emod_nonneg a.n (show a.d ≠ 0 by omega)
 have h2 := Int.emod_lt_of_pos a.n (show 0 < a.d by omega)
 have h3 := Int.emod_nonneg b.n (show b.d ≠ 0 by omega)
 have h4 := Int.emod_lt_of_pos b.n (show 0 < b.d by omega)
 have e1 := Int.mul_ediv_add_emod a.n a.d
 have e2 := Int.mul_ediv_add_emod b.n b.d
 have hqq : a.n / a.d = b.n / b.d := by
  refine Int.le_antisymm ?_ (by omega)
  rw [Int.le_ediv_iff_mul_le (by omega)]
  have x1 : a.n / a.d * a.d ≤ a.n := Int.ediv_mul_le _ (by omega)
  have x2 : a.n / a.d * a.d * b.d ≤ a.n * b.d := Int.mul_le_mul_of_nonneg_right x1 (by omega)
  have x3 : a.n / a.d * b.d * a.d ≤ b.n * a.d := by rw [Int.mul_right_comm]; exact Int.le_trans x2 hab
  exact Int.le_of_mul_le_mul_right x3 (by omega)
 unfold fle at hab ⊢
 rw [← hqq] at e2
 simp only
 generalize a.n % a.d = r at *
 generalize b.n % b.d = s at *
 generalize a.n / a.d = q at *
 have hrs : r * b.d ≤ s * a.d := by
  rw [← e1, ← e2, Int.add_mul, Int.add_mul, Int.mul_right_comm a.d q b.d, Int.mul_right_comm b.d q a.d, Int.mul_comm b.d a.d] at hab
  omega
 have hs : 1 ≤ s := by
  rcases Int.lt_or_le 0 s with h | h
  · omega
  · exfalso
    have : s = 0 := by omega
    rw [this, Int.zero_mul] at hrs
    have := Int.mul_pos (show 0 < r by omega) (show 0 < b.d by omega)
    omega
 exact ⟨hqq, by omega, hs, by rw [Int.mul_comm b.d, Int.mul_comm a.d]; exact hrs⟩
theorem simF_small : ∀ (m : Nat) (a b : Frc), 1 ≤ a.d → 1 ≤ b.d → fle a b → b.d + a.d ≤ m → 0 < a.n →
 (1 ≤ (simF m a b).d ∧ (simF m a b).d ≤ a.d ∧ (simF m a b).d ≤ b.d) ∧ 1 ≤ (simF m a b).n ∧ (simF m a b).n ≤ a.n ∧ (simF m a b).n ≤ b.n
 | 0, a, b, ha, hb, _, hm, _ => by omega
 | m + 1, a, b, ha, hb, hab, hm, hn => by
   have h1 := Int.emod_nonneg a.n (show a.d ≠ 0 by omega)
   have h2 := Int.emod_lt_of_pos a.n (show 0 < a.d by omega)
   have h3 := Int.emod_nonneg b.n (show b.d ≠ 0 by omega)
   have h4 := Int.emod_lt_of_pos b.n (show 0 < b.d by omega)
   have e1 := Int.mul_ediv_add_emod a.n a.d
   have e2 := Int.mul_ediv_add_emod b.n b.d
   have q0 : 0 ≤ a.n / a.d := Int.ediv_nonneg (by omega) (by omega)
   have hbn : 0 < b.n := by
     unfold fle at hab
     rcases Int.lt_or_le 0 b.n with h | h
     · exact h
     · have := Int.mul_pos hn (show 0 < b.d by omega)
       have := Int.mul_nonneg (show 0 ≤ -b.n by omega) (show 0 ≤ a.d by omega)
       rw [Int.neg_mul] at this
       omega
   have mono : ∀ x d : Int, 0 ≤ x → 1 ≤ d → x ≤ d * x := fun x d hx hd => by
     have := Int.mul_le_mul_of_nonneg_right hd hx; omega
   have hqa := mono _ _ q0 ha
   simp only [simF]
   split
   · rename_i h0
     have hqb : a.n / a.d ≤ b.n / b.d := by
       rw [Int.le_ediv_iff_mul_le (by omega)]
       have x3 : a.n / a.d * b.d * a.d ≤ b.n * a.d := by
        rw [Int.mul_right_comm]; refine Int.le_trans (Int.le_of_eq ?_) hab
        rw [show a.n / a.d * a.d = a.n by rw [Int.mul_comm]; omega]
       exact Int.le_of_mul_le_mul_right x3 (by omega)
     have hqb2 := mono _ _ (Int.le_trans q0 hqb) hb
     have hq1 : 1 ≤ a.n / a.d := by
       rcases Int.lt_or_le 0 (a.n / a.d) with h | h
       · omega
       · have h' : a.n / a.d = 0 := by omega
         rw [h', Int.mul_zero] at e1
         omega
     simp only
     omega
   · split
     · rename_i h0 h5
       have hqb2 := mono _ _ (show 0 ≤ b.n / b.d by omega) hb
       have hqa2 := mono _ _ q0 (show 1 ≤ a.d by omega)
       simp only
       omega
     · rename_i h0 h5
       obtain ⟨i1, i2, i3, i4⟩ := fle_inv ha hb hab h0 h5
       obtain ⟨⟨j1, j2, j3⟩, j4, j5, j6⟩ := simF_small m ⟨b.d, b.n % b.d⟩ ⟨a.d, a.n % a.d⟩ i3 i2 i4 (by simp only; omega) (by simp only; omega)
       generalize simF m ⟨b.d, b.n % b.d⟩ ⟨a.d, a.n % a.d⟩ = s at *
       simp only at j1 j2 j3 j4 j5 j6 ⊢
       rw [← i1] at e2
       have k1 := Int.mul_le_mul_of_nonneg_left j6 q0
       have k2 := Int.mul_le_mul_of_nonneg_left j5 q0
       have k3 := Int.mul_nonneg q0 (show 0 ≤ s.n by omega)
       rw [Int.mul_comm] at e1 e2
       generalize a.n / a.d * s.n = t at *
       generalize a.n / a.d * a.d = ta at *
       generalize a.n / a.d * b.d = tb at *
       exact ⟨⟨by omega, by omega, by omega⟩, by omega, by omega, by omega⟩
end Go.Proofs.YtnkaoplgmglijaaDoor.Un
/- The simplest fraction lies between the two. -/
namespace Go.Proofs.YtnkaoplgmglijaaDoor.Un
theorem simF_between : ∀ (m : Nat) (a b : Frc), 1 ≤ a.d → 1 ≤ b.d → fle a b → b.d + a.d ≤ m → fle a (simF m a b) ∧ fle (simF m a b) b
 | 0, a, b, ha, hb, _, hm => by omega
 | m + 1, a, b, ha, hb, hab, hm => by
   have h1 := Int.emod_nonneg a.n (show a.d ≠ 0 by omega)
   have h2 := Int.emod_lt_of_pos a.n (show 0 < a.d by omega)
   have h3 := Int.emod_nonneg b.n (show b.d ≠ 0 by omega)
   have h4 := Int.emod_lt_of_pos b.n (show 0 < b.d by omega)
   have e1 := Int.mul_ediv_add_emod a.n a.d
   have e2 := Int.mul_ediv_add_emod b.n b.d
   simp only [simF]
   split
   · rename_i h0
     have hq : a.n / a.d * a.d = a.n := by rw [Int.mul_comm]; omega
     unfold fle at hab ⊢
     simp only
     refine ⟨by omega, ?_⟩
     have x3 : a.n / a.d * b.d * a.d ≤ b.n * a.d := by rw [Int.mul_right_comm, hq]; exact hab
     have := Int.le_of_mul_le_mul_right x3 (show 0 < a.d by omega)
     omega
   · split
     · rename_i h0 h5
       unfold fle
       simp only
       have y := Int.mul_le_mul_of_nonneg_right (show a.n / a.d + 1 ≤ b.n / b.d by omega) (show 0 ≤ b.d by omega)
       rw [Int.mul_comm b.d] at e2
       rw [Int.mul_comm a.d] at e1
       refine ⟨by rw [Int.add_mul]; omega, by omega⟩
     · rename_i h0 h5
       obtain ⟨i1, i2, i3, i4⟩ := fle_inv ha hb hab h0 h5
       obtain ⟨j1, j2⟩ := simF_between m ⟨b.d, b.n % b.d⟩ ⟨a.d, a.n % a.d⟩ i3 i2 i4 (by simp only; omega)
       generalize simF m ⟨b.d, b.n % b.d⟩ ⟨a.d, a.n % a.d⟩ = s at *
       unfold fle at j1 j2 ⊢
       simp only at j1 j2 ⊢
       rw [← i1] at e2
       generalize a.n % a.d = r at *
       generalize b.n % b.d = r2 at *
       generalize a.n / a.d = q at *
       rw [← e1, ← e2, Int.add_mul, Int.add_mul, Int.add_mul, Int.add_mul, Int.mul_right_comm a.d q s.n, Int.mul_right_comm b.d q s.n, Int.mul_right_comm q s.n a.d, Int.mul_right_comm q s.n b.d, Int.mul_comm a.d s.n, Int.mul_comm b.d s.n]
       have k1 : s.n * a.d * q = q * a.d * s.n := by rw [Int.mul_comm (s.n * a.d), Int.mul_comm s.n, Int.mul_assoc]
       have k2 : s.n * b.d * q = q * b.d * s.n := by rw [Int.mul_comm (s.n * b.d), Int.mul_comm s.n, Int.mul_assoc]
       rw [k1, k2]
       rw [Int.mul_comm s.n r, Int.mul_comm a.d] at j2
       rw [Int.mul_comm s.n r2, Int.mul_comm b.d] at j1
       omega
end Go.Proofs.YtnkaoplgmglijaaDoor.Un
/- The sizes of the simplest fraction, a of any sign. -/
namespace Go.Proofs.YtnkaoplgmglijaaDoor.Un
theorem simF_den : ∀ (m : Nat) (a b : Frc), 1 ≤ a.d → 1 ≤ b.d → fle a b → b.d + a.d ≤ m →
 1 ≤ (simF m a b).d ∧ (simF m a b).d ≤ a.d ∧ (simF m a b).d ≤ b.d
 | 0, a, b, ha, hb, _, hm => by omega
 | m + 1, a, b, ha, hb, hab, hm => by
   have h2 := Int.emod_lt_of_pos a.n (show 0 < a.d by omega)
   have h4 := Int.emod_lt_of_pos b.n (show 0 < b.d by omega)
   simp only [simF]
   split
   · simp only; omega
   · split
     · simp only; omega
     · rename_i h0 h5
       obtain ⟨i1, i2, i3, i4⟩ := fle_inv ha hb hab h0 h5
       obtain ⟨_, j4, j5, j6⟩ := simF_small m ⟨b.d, b.n % b.d⟩ ⟨a.d, a.n % a.d⟩ i3 i2 i4 (by simp only; omega) (by simp only; omega)
       simp only at j4 j5 j6 ⊢
       omega
theorem simF_num {m : Nat} {a b : Frc} {K : Int} (ha : 1 ≤ a.d) (hb : 1 ≤ b.d) (hab : fle a b) (hm : b.d + a.d ≤ m) (hK : 0 ≤ K) (h1 : -K ≤ a.n) (h2 : b.n ≤ K) :
 -K ≤ (simF m a b).n ∧ (simF m a b).n ≤ K := by
 obtain ⟨d1, d2, d3⟩ := simF_den m a b ha hb hab hm
 obtain ⟨f1, f2⟩ := simF_between m a b ha hb hab hm
 generalize simF m a b = f at *
 unfold fle at f1 f2
 constructor
 · have x1 : -K * a.d ≤ f.n * a.d := by
    refine Int.le_trans ?_ f1
    have y1 := Int.mul_le_mul_of_nonneg_right h1 (show 0 ≤ f.d by omega)
    have y2 := Int.mul_le_mul_of_nonneg_left d2 hK
    rw [Int.neg_mul] at y1 ⊢
    omega
   exact Int.le_of_mul_le_mul_right x1 (by omega)
 · have x1 : f.n * b.d ≤ K * b.d := by
    refine Int.le_trans f2 ?_
    have y1 := Int.mul_le_mul_of_nonneg_right h2 (show 0 ≤ f.d by omega)
    have y2 := Int.mul_le_mul_of_nonneg_left d3 hK
    omega
   exact Int.le_of_mul_le_mul_right x1 (by omega)
end Go.Proofs.YtnkaoplgmglijaaDoor.Un
/- The simplest fraction has the least denominator, and is in lowest terms. -/
namespace Go.Proofs.YtnkaoplgmglijaaDoor.Un
theorem simF_min : ∀ (m : Nat) (a b g : Frc), 1 ≤ a.d → 1 ≤ b.d → fle a b → b.d + a.d ≤ m → 1 ≤ g.d → fle a g → fle g b →
 (simF m a b).d ≤ g.d ∧ (0 < a.n → (simF m a b).n ≤ g.n)
 | 0, a, b, g, ha, hb, _, hm, _, _, _ => by omega
 | m + 1, a, b, g, ha, hb, hab, hm, hg, hag, hgb => by
   have h1 := Int.emod_nonneg a.n (show a.d ≠ 0 by omega)
   have h2 := Int.emod_lt_of_pos a.n (show 0 < a.d by omega)
   have h3 := Int.emod_nonneg b.n (show b.d ≠ 0 by omega)
   have h4 := Int.emod_lt_of_pos b.n (show 0 < b.d by omega)
   have e1 := Int.mul_ediv_add_emod a.n a.d
   have e2 := Int.mul_ediv_add_emod b.n b.d
   have hq0 : 0 < a.n → 0 ≤ a.n / a.d := fun h => Int.ediv_nonneg (by omega) (by omega)
   have hqg : a.n / a.d ≤ g.n / g.d := by
     rw [Int.le_ediv_iff_mul_le (by omega)]
     have x3 : a.n / a.d * g.d * a.d ≤ g.n * a.d := by
       rw [Int.mul_right_comm]
       refine Int.le_trans (Int.mul_le_mul_of_nonneg_right (Int.ediv_mul_le _ (by omega)) (by omega)) hag
     exact Int.le_of_mul_le_mul_right x3 (by omega)
   have h5 := Int.emod_nonneg g.n (show g.d ≠ 0 by omega)
   have h6 := Int.emod_lt_of_pos g.n (show 0 < g.d by omega)
   have e3 := Int.mul_ediv_add_emod g.n g.d
   have mono : ∀ x d : Int, 0 ≤ x → 1 ≤ d → x ≤ d * x := fun x d hx hd => by
     have := Int.mul_le_mul_of_nonneg_right hd hx; omega
   simp only [simF]
   split
   · rename_i h0
     simp only
     refine ⟨hg, fun hp => ?_⟩
     have := mono _ _ (Int.le_trans (hq0 hp) hqg) hg
     omega
   · rename_i h0
     split
     · rename_i hlt
       simp only
       refine ⟨hg, fun hp => ?_⟩
       have y := mono _ _ (hq0 hp) hg
       rcases Int.lt_or_le (a.n / a.d) (g.n / g.d) with hl | hl
       · have := mono _ _ (Int.le_trans (hq0 hp) hqg) hg; omega
       · have hgq : g.n / g.d = a.n / a.d := by omega
         rw [hgq] at e3
         by_cases hz : g.n % g.d = 0
         · exfalso
           rw [hz] at e3
           unfold fle at hag
           rw [← e1, ← e3, Int.add_mul, Int.add_mul, Int.mul_right_comm a.d _ g.d, Int.mul_right_comm g.d _ a.d, Int.mul_comm g.d a.d] at hag
           have := Int.mul_pos (show 0 < a.n % a.d by omega) (show 0 < g.d by omega)
           omega
         · omega
     · rename_i hlt
       obtain ⟨i1, i2, i3, i4⟩ := fle_inv ha hb hab h0 hlt
       obtain ⟨j1, j2, j3, j4⟩ := fle_inv ha hg hag h0 (by
        have : g.n / g.d ≤ b.n / b.d := by
         rw [Int.le_ediv_iff_mul_le (by omega)]
         have x3 : g.n / g.d * b.d * g.d ≤ b.n * g.d := by
             rw [Int.mul_right_comm]
             refine Int.le_trans (Int.mul_le_mul_of_nonneg_right (Int.ediv_mul_le _ (by omega)) (by omega)) hgb
         exact Int.le_of_mul_le_mul_right x3 (by omega)
        omega)
       have hgz : g.n % g.d ≠ 0 := by omega
       obtain ⟨k1, k2, k3, k4⟩ := fle_inv hg hb hgb hgz (by omega)
       have ih := simF_min m ⟨b.d, b.n % b.d⟩ ⟨a.d, a.n % a.d⟩ ⟨g.d, g.n % g.d⟩ i3 i2 i4 (by simp only; omega) (by simp only; omega) k4 j4
       simp only at ih ⊢
       generalize simF m ⟨b.d, b.n % b.d⟩ ⟨a.d, a.n % a.d⟩ = s at *
       refine ⟨ih.2 (by omega), fun hp => ?_⟩
       have z1 := ih.1
       have z2 := ih.2 (by omega)
       rw [← j1] at e3
       have z3 := Int.mul_le_mul_of_nonneg_left z2 (hq0 hp)
       rw [Int.mul_comm g.d] at e3
       omega
theorem simF_gcd : ∀ (m : Nat) (a b : Frc), 1 ≤ a.d → 1 ≤ b.d → fle a b → b.d + a.d ≤ m → Int.gcd (simF m a b).n (simF m a b).d = 1
 | 0, a, b, ha, hb, _, hm => by omega
 | m + 1, a, b, ha, hb, hab, hm => by
   have h2 := Int.emod_lt_of_pos a.n (show 0 < a.d by omega)
   have h4 := Int.emod_lt_of_pos b.n (show 0 < b.d by omega)
   simp only [simF]
   split
   · simp
   · split
     · simp
     · rename_i h0 h5
       obtain ⟨i1, i2, i3, i4⟩ := fle_inv ha hb hab h0 h5
       have ih := simF_gcd m ⟨b.d, b.n % b.d⟩ ⟨a.d, a.n % a.d⟩ i3 i2 i4 (by simp only; omega)
       simp only
       generalize simF m ⟨b.d, b.n % b.d⟩ ⟨a.d, a.n % a.d⟩ = s at *
       rw [Int.gcd_comm] at ih
       rw [← ih, Int.add_comm, Int.gcd_comm, Int.gcd_comm s.d]
       simp
end Go.Proofs.YtnkaoplgmglijaaDoor.Un
/- The contracts of simplest and Simplest of package units. -/
namespace Go.Proofs.YtnkaoplgmglijaaDoor.Un
open Go.RowKit
theorem ovr_next {W u w' : World} (h : Below (ovr W u).heap.size (ovr W u) w') : ∃ u', w' = ovr W u' := ⟨w', ovr_of ((ovr_below W u).trans (h.mono (ovr_below W u).size))⟩
theorem ovr_self (W : World) : ∃ u, W = ovr W u := ⟨W, ovr_of (Below.refl _ _)⟩
theorem ovr_re1 {W W' u v : World} {o : Obj} (h : W' = (ovr W u).alloc o) : ∃ x, ovr W' v = ovr W x := by
 subst h
 exact ⟨_, ovr_of ((ovr_below W u).trans ((under2 (ovr_below _ v)).mono (ovr_below W u).size))⟩
theorem ovr_re2 {W W' u v : World} {o p : Obj} (h : W' = ((ovr W u).alloc o).alloc p) : ∃ x, ovr W' v = ovr W x := by
 subst h
 exact ⟨_, ovr_of ((ovr_below W u).trans ((under2 (under2 (ovr_below _ v))).mono (ovr_below W u).size))⟩
theorem ovr_reB {W V : World} (h : Below W.heap.size W V) (v : World) : ∃ x, ovr V v = ovr W x := ⟨_, ovr_of (h.trans ((ovr_below V v).mono h.size))⟩
theorem ovr_row {W : World} {b : Nat} {o : Obj} (h : W.heap[b]? = some o) (u : World) : (ovr W u).heap[b]? = some o := ((ovr_below W u).block _ (Array.getElem?_eq_some_iff.1 h).1).trans h
theorem tr_cell {W X : World} (h : ∀ v, ∃ x, ovr X v = ovr W x) {p : Addr} {v : Option Value} (H : ∀ u, (ovr W u).cell? p = v) : ∀ u, (ovr X u).cell? p = v := fun u => by obtain ⟨x, hx⟩ := h u; rw [hx]; exact H x
theorem tr_froz {W X : World} (h : ∀ v, ∃ x, ovr X v = ovr W x) {p : Addr} {v : Bool} (H : ∀ u, (ovr W u).frozen? p = v) : ∀ u, (ovr X u).frozen? p = v := fun u => by obtain ⟨x, hx⟩ := h u; rw [hx]; exact H x
theorem tr_row {W X : World} (h : ∀ v, ∃ x, ovr X v = ovr W x) {b : Nat} {v : Option Obj} (H : ∀ u, (ovr W u).heap[b]? = v) : ∀ u, (ovr X u).heap[b]? = v := fun u => by obtain ⟨x, hx⟩ := h u; rw [hx]; exact H x
theorem one1 {a : Value} (h : a.oneCell' = true) : ∀ v ∈ (#[a] : Array Value).toList, v.oneCell' = true := by intro v hv; simp at hv; rcases hv with rfl; exact h
theorem one2 {a b : Value} (h : a.oneCell' = true) (h2 : b.oneCell' = true) : ∀ v ∈ (#[a, b] : Array Value).toList, v.oneCell' = true := by intro v hv; simp at hv; rcases hv with rfl | rfl <;> assumption
theorem U1 {w W : World} {a : Obj} (h : W = w.alloc a) (u : World) : Below w.heap.size w (ovr W u) := by subst h; exact under2 (ovr_below _ _)
theorem U2 {w W : World} {a b : Obj} (h : W = (w.alloc a).alloc b) (u : World) : Below w.heap.size w (ovr W u) := by subst h; exact under2 (under2 (ovr_below _ _))
theorem U3 {w W : World} {a b c : Obj} (h : W = ((w.alloc a).alloc b).alloc c) (u : World) : Below w.heap.size w (ovr W u) := by subst h; exact under2 (under2 (under2 (ovr_below _ _)))
theorem U4 {w W : World} {a b c d : Obj} (h : W = (((w.alloc a).alloc b).alloc c).alloc d) (u : World) : Below w.heap.size w (ovr W u) := by subst h; exact under2 (under2 (under2 (under2 (ovr_below _ _))))
theorem quo_bd {n d K : Int} (h : -K ≤ n ∧ n ≤ K) (hd : 1 ≤ d) (hK : 0 ≤ K) : -K ≤ n / d ∧ n / d ≤ K := by
 have h1 : -(K * d) ≤ n := by have := Int.mul_le_mul_of_nonneg_left hd hK; omega
 have h2 : n ≤ K * d := by have := Int.mul_le_mul_of_nonneg_left hd hK; omega
 refine ⟨?_, ?_⟩
 · rw [Int.le_ediv_iff_mul_le (by omega), Int.neg_mul]; exact h1
 · exact Int.ediv_le_of_le_mul (by omega) h2
theorem simp_bd {an ad : Int} (h : fBd ⟨an, ad⟩) (hd : 1 ≤ ad) : -2000000000000000 ≤ an / ad ∧ an / ad ≤ 2000000000000000 := quo_bd h.1 hd (by omega)
theorem simp_rec {m : Nat} {an ad bn bd : Int} (h : fBd ⟨an, ad⟩ ∧ fBd ⟨bn, bd⟩ ∧ 1 ≤ ad ∧ 1 ≤ bd ∧ fle ⟨an, ad⟩ ⟨bn, bd⟩ ∧ bd + ad ≤ ((m + 1 : Nat) : Int)) (h0 : ¬ an % ad = 0) (h1 : ¬ an / ad < bn / bd) :
 (fBd ⟨bd, bn % bd⟩ ∧ fBd ⟨ad, an % ad⟩ ∧ 1 ≤ bn % bd ∧ 1 ≤ an % ad ∧ fle ⟨bd, bn % bd⟩ ⟨ad, an % ad⟩ ∧ an % ad + bn % bd ≤ (m : Int)) ∧
 (-2000000000000000 ≤ an / ad * (simF m ⟨bd, bn % bd⟩ ⟨ad, an % ad⟩).n + (simF m ⟨bd, bn % bd⟩ ⟨ad, an % ad⟩).d ∧ an / ad * (simF m ⟨bd, bn % bd⟩ ⟨ad, an % ad⟩).n + (simF m ⟨bd, bn % bd⟩ ⟨ad, an % ad⟩).d ≤ 2000000000000000) ∧
 0 ≤ (simF m ⟨bd, bn % bd⟩ ⟨ad, an % ad⟩).d ∧ (simF m ⟨bd, bn % bd⟩ ⟨ad, an % ad⟩).d ≤ 2000000000000000 := by
 obtain ⟨fa, fb, ha, hb, hab, hm⟩ := h
 obtain ⟨i1, i2, i3, i4⟩ := fle_inv (a := ⟨an, ad⟩) (b := ⟨bn, bd⟩) ha hb hab h0 h1
 simp only at i1 i2 i3 i4
 have l1 := Int.emod_lt_of_pos an (show 0 < ad by omega)
 have l2 := Int.emod_lt_of_pos bn (show 0 < bd by omega)
 have hn := simF_num (m := m + 1) (K := 2000000000000000) (a := ⟨an, ad⟩) (b := ⟨bn, bd⟩) ha hb hab (by simp only; omega) (by omega) fa.1.1 fb.1.2
 have hd := simF_den m ⟨bd, bn % bd⟩ ⟨ad, an % ad⟩ i3 i2 i4 (by simp only; omega)
 simp only [simF] at hn
 rw [if_neg h0, if_neg h1] at hn
 obtain ⟨⟨_, _⟩, f3, f4⟩ := fa
 obtain ⟨⟨_, _⟩, f5, f6⟩ := fb
 simp only at f3 f4 f5 f6 hd
 refine ⟨⟨⟨⟨by simp only; omega, by simp only; omega⟩, by simp only; omega, by simp only; omega⟩, ⟨⟨by simp only; omega, by simp only; omega⟩, by simp only; omega, by simp only; omega⟩, i3, i2, i4, by omega⟩, hn, by omega, by omega⟩
end Go.Proofs.YtnkaoplgmglijaaDoor.Un
/- The contract of Simplest of package units. -/
namespace Go.Proofs.YtnkaoplgmglijaaDoor.Un
open Go.RowKit
def siF (a b : Frc) : Frc × Int := if fok a && (fok b && decide (fcm a b ≤ 0)) then (simF (b.d + a.d).toNat a b, 0) else (⟨0, 0⟩, 2)
theorem fle_of {a b : Frc} (h : fcm a b ≤ 0) : fle a b := by
 unfold fcm cmpI at h
 unfold fle
 split at h
 · omega
 · split at h <;> omega
theorem fcm_of {a b : Frc} (h : fle a b) : fcm a b ≤ 0 := by
 unfold fcm cmpI
 unfold fle at h
 split
 · omega
 · split <;> omega
end Go.Proofs.YtnkaoplgmglijaaDoor.Un
