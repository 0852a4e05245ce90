/- share of the laws. -/
import Derived.Test.YtfifdfagikbahaaDoorCm3
import Derived.Test.YtfifdfagikbahaaDoorFo5
namespace Go.Proofs.YtfifdfagikbahaaDoor
open Go.RowKit
attribute [local go_sem] Oper.semAt_some
set_option maxHeartbeats 1000000 in
theorem share_any (n a b : Int) (w : World) (hn : 0 ≤ n ∧ n ≤ 300000000000000) (ha : 0 ≤ a ∧ a ≤ b) (hb : 1 ≤ b ∧ b ≤ 1000000000) : Calls Tryd.prog 33 #[I n, I a, I b] w fun e w' => e = .returned (I (shF n a b)) ∧ Below w.heap.size w w' := by
  have hf : Hid (shF n a b = n / b * a + n % b * a / b) := rfl
  obtain ⟨r, hr⟩ : ∃ r, shF n a b = r := ⟨_, rfl⟩
  rw [hr]
  have hf : Hid (r = n / b * a + n % b * a / b) := by show _ = _; rw [← hr]; rfl
  have hq0 : 0 ≤ n / b := Int.ediv_nonneg hn.1 (by omega)
  have hq1 : n / b ≤ n := Int.ediv_le_self _ hn.1
  have hr0 : 0 ≤ n % b := Int.emod_nonneg _ (by omega)
  have hr1 : n % b < b := Int.emod_lt_of_pos _ (by omega)
  have hm1 : 0 ≤ n / b * a ∧ n / b * a ≤ n := by
    refine ⟨Int.mul_nonneg hq0 ha.1, ?_⟩
    have h1 : n / b * a ≤ n / b * b := Int.mul_le_mul_of_nonneg_left ha.2 hq0
    have h2 := Int.ediv_mul_le n (show b ≠ 0 by omega)
    omega
  have hm2 : 0 ≤ n % b * a ∧ n % b * a ≤ 1000000000000000000 := by
    refine ⟨Int.mul_nonneg hr0 ha.1, ?_⟩
    have h1 : n % b * a ≤ 1000000000 * 1000000000 := Int.mul_le_mul (by omega) (by omega) ha.1 (by omega)
    omega
  have hm3 : 0 ≤ n % b * a / b ∧ n % b * a / b ≤ 1000000000000000000 := ⟨Int.ediv_nonneg hm2.1 (by omega), Int.le_trans (Int.ediv_le_self _ hm2.1) hm2.2⟩
  have t1 : Int.tdiv n b = n / b := Int.tdiv_eq_ediv_of_nonneg hn.1
  have t2 : Int.tmod n b = n % b := Int.tmod_eq_emod_of_nonneg hn.1
  have t3 : Int.tdiv (n % b * a) b = n % b * a / b := Int.tdiv_eq_ediv_of_nonneg hm2.1
  clear hr
  have e0 : Hid (r = n / b * a + n % b * a / b) := hf
  obtain ⟨q, hq⟩ : ∃ q, n / b = q := ⟨_, rfl⟩
  obtain ⟨p, hp⟩ : ∃ q, n % b = q := ⟨_, rfl⟩
  rw [hq] at hq0 hq1 hm1 t1 e0
  rw [hp] at hr0 hr1 hm2 hm3 t2 t3 e0
  obtain ⟨v, hv⟩ : ∃ v, p * a = v := ⟨_, rfl⟩
  obtain ⟨x, hx⟩ : ∃ v, q * a = v := ⟨_, rfl⟩
  rw [hv] at hm2 hm3 t3 e0
  rw [hx] at hm1 e0
  obtain ⟨u, hu⟩ : ∃ u, v / b = u := ⟨_, rfl⟩
  rw [hu] at hm3 t3 e0
  have w1 : IntKind.i64.wrap q = q := IntWalk.i64_in _ (by omega)
  have w2 : IntKind.i64.wrap p = p := IntWalk.i64_in _ (by omega)
  have w3 : IntKind.i64.wrap (q * a) = x := by rw [hx]; exact IntWalk.i64_in _ (by omega)
  have w4 : IntKind.i64.wrap (p * a) = v := by rw [hv]; exact IntWalk.i64_in _ (by omega)
  have w5 : IntKind.i64.wrap u = u := IntWalk.i64_in _ (by omega)
  have w6 : IntKind.i64.wrap (x + u) = x + u := IntWalk.i64_in _ (by omega)
  have n0 : ¬ b = 0 := by omega
  have n1 : (b == 0) = false := by simpa using n0
  have hE : Hid (r = x + u) := e0
  clear e0 hf hv hx hm1 hm2 hm3 hr0 hr1 hq0 hq1 hn ha hb
  go_enter Tryd.func33, Tryd.ntmps33
  go_upto_region 1 with (fail)
  refine wp_region_below_lit (by kernel_rfl) (by kernel_rfl) ?_
  repeat (go_big_quiet_step (fail))
  refine wpQuiet_nil ?_
  intro w1 hb1
  go_wp2_with fail
  go_ret
  exact ⟨by rw [hE.out]; rfl, hb1⟩
end Go.Proofs.YtfifdfagikbahaaDoor
