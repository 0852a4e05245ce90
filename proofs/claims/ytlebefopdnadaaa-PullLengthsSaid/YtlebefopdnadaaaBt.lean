/- The contract of between of package pull's chart. -/
import Derived.Test.YtlebefopdnadaaaAt
import Derived.BigRegion
import Derived.Deep.RegionHeld3
import Derived.Deep.DeepCutAuto
namespace Go.Proofs.Ytlebefopdnadaaa
open Go.RowKit
def betK (p : Vec) (a b : Kn) : Kn :=
  if a.some = false then laterK b (p 111) (p 110) else if b.some = false then laterK a (p 110) (p 111)
  else ⟨-peakF (-a.lo) (p 111) (-b.lo) (p 110), peakF a.hi (p 110) b.hi (p 111), true⟩
def knBd (k : Kn) : Prop := (-100000000000000 ≤ k.lo ∧ k.lo ≤ 100000000000000) ∧ (-100000000000000 ≤ k.hi ∧ k.hi ≤ 100000000000000)
theorem peakF_bd (a up b dn : Int) (h1 : -100000000000000 ≤ a ∧ a ≤ 100000000000000) (h2 : -100000000000000 ≤ b ∧ b ≤ 100000000000000) (h3 : 0 ≤ up ∧ up ≤ 1000000) (h4 : 0 ≤ dn ∧ dn ≤ 1000000) :
    -200000000000000 ≤ peakF a up b dn ∧ peakF a up b dn ≤ 200000000000000 := by
  unfold peakF
  split
  · omega
  · split
    · omega
    · have m1 : 0 ≤ up * (b + dn - a) := Int.mul_nonneg h3.1 (by omega)
      have m2 : up * (b + dn - a) ≤ 1000000 * 2000000 := Int.mul_le_mul h3.2 (by omega) (by omega) (by omega)
      have := ceilF_bd (up * (b + dn - a)) (up + dn) (by omega) m1
      omega
set_option maxRecDepth 100000 in
set_option maxHeartbeats 1000000 in
theorem between_any (cb bb fb n : Nat) (p : Vec) (B F : Nat → Kn) (t : Int) (w : World) (h : Chart w cb bb fb p n B F) (ht : 0 ≤ t ∧ t + 1 < n) (hn : n ≤ 1000000) (hp : VPul p) (hB : knBd (B t.toNat)) (hF : knBd (F (t.toNat + 1))) :
    Calls Try.prog 62 #[.pointer (some ⟨cb, 0, none⟩), I t] w fun e w' => e = .returned (betK p (B t.toNat) (F (t.toNat + 1))).val ∧ Below w.heap.size w w' := by
  obtain ⟨t1, t2⟩ := ht
  obtain ⟨W1, hW1⟩ : ∃ W1, W1 = w.alloc (.cells #[I 0, I 0, .bool false] 147) := ⟨_, rfl⟩
  have H1 : Chart W1 cb bb fb p n B F := by rw [hW1]; exact h.below ((Below.refl _ _).alloc (Nat.le_refl _) _)
  have HC := Lib.hid H1
  have HR : Hid (W1.heap[w.heap.size]? = some (.cells #[I 0, I 0, .bool false] 147 (0, 0))) := by show W1.heap[_]? = _; rw [hW1]; exact heap_last _ _ _ rfl
  have HU : Hid (∀ W, Below W1.heap.size W1 W → Below w.heap.size w W) := fun W hW => by rw [hW1] at hW; exact under2 hW
  have HW := Lib.hid hW1
  have hk : t.toNat + 1 < n := by omega
  have Hp := Lib.hid hp
  have y0 := H1.cs
  have y1 := H1.cf
  have b0 := H1.b t.toNat (by omega) 0 (by omega)
  have b1 := H1.b t.toNat (by omega) 1 (by omega)
  have b2 := H1.b t.toNat (by omega) 2 (by omega)
  have f0 := H1.f (t.toNat + 1) hk 0 (by omega)
  have f1 := H1.f (t.toNat + 1) hk 1 (by omega)
  have f2 := H1.f (t.toNat + 1) hk 2 (by omega)
  simp only [Kn.c, Nat.add_zero] at b0 b1 b2 f0 f1 f2
  generalize hba : B t.toNat = a at *
  generalize hfb : F (t.toNat + 1) = b at *
  have Hba := Lib.hid hba
  have Hfb := Lib.hid hfb
  obtain ⟨⟨a1, a2⟩, ⟨a3, a4⟩⟩ := hB
  obtain ⟨⟨b3, b4⟩, ⟨b5, b6⟩⟩ := hF
  obtain ⟨g1, g2⟩ := hp.grow
  obtain ⟨s1, s2⟩ := hp.shrink
  have i1 : IntKind.i64.wrap (t + 1) = t + 1 := IntWalk.i64_in _ (by omega)
  have i2 : (t + 1).toNat = t.toNat + 1 := by omega
  have i3 : 0 ≤ t + 1 := by omega
  have i4 : t < (n : Int) := by omega
  clear h H1 hW1 hba hfb hp
  go_enter Try.func62, Try.ntmps62
  go_wp2
  rw [← HW.out]
  go_cut [5, 6] (fun s5 s6 wx => ∃ ka kb : Nat, s5 = .pointer (some ⟨ka, 0, none⟩) ∧ s6 = .pointer (some ⟨kb, 0, none⟩) ∧ wx.heap[ka]? = some (.cells (knArr a) 147 (0, 0)) ∧ wx.heap[kb]? = some (.cells (knArr b) 147 (0, 0)) ∧ Below W1.heap.size W1 wx)
  case first =>
    go_region_held3 (fun w' => w'.cell? ⟨cb, 117, none⟩ = some (.slice (some ⟨bb, 0, none⟩) n n) ∧ w'.cell? ⟨cb, 118, none⟩ = some (.slice (some ⟨fb, 0, none⟩) n n) ∧
      w'.cell? ⟨bb, t.toNat * 3, none⟩ = some (I a.lo) ∧ w'.cell? ⟨bb, t.toNat * 3 + 1, none⟩ = some (I a.hi) ∧ w'.cell? ⟨bb, t.toNat * 3 + 2, none⟩ = some (.bool a.some) ∧
      w'.cell? ⟨fb, (t.toNat + 1) * 3, none⟩ = some (I b.lo) ∧ w'.cell? ⟨fb, (t.toNat + 1) * 3 + 1, none⟩ = some (I b.hi) ∧ w'.cell? ⟨fb, (t.toNat + 1) * 3 + 2, none⟩ = some (.bool b.some)) (go_keep) (fail)
    all_goals
      go_wp2_with fail
      go_meet
      case rel =>
        first
          | exact ⟨_, _, rfl, rfl, (by rw [heap_drew]; exact heap_before (heap_last _ _ _ rfl)), (by rw [heap_drew]; exact heap_last _ _ _ (by simp)), (((Below.refl _ _).alloc (Nat.le_refl _) _).alloc (by simp) _).drew⟩
          | exact ⟨_, _, rfl, rfl, (by rw [heap_drew]; exact heap_last _ _ _ (by simp)), (by rw [heap_drew]; exact heap_before (heap_last _ _ _ rfl)), (((Below.refl _ _).alloc (Nat.le_refl _) _).alloc (by simp) _).drew⟩
  case rest =>
    obtain ⟨ka, kb, rfl, rfl, hka, hkb, hbx⟩ := hcut
    have q0 : wc.cell? ⟨ka, 0, none⟩ = some (I a.lo) := by rw [cell_of_row _ _ _ _ _ _ hka]; rfl
    have q1 : wc.cell? ⟨ka, 1, none⟩ = some (I a.hi) := by rw [cell_of_row _ _ _ _ _ _ hka]; rfl
    have q2 : wc.cell? ⟨ka, 2, none⟩ = some (.bool a.some) := by rw [cell_of_row _ _ _ _ _ _ hka]; rfl
    have q3 : wc.cell? ⟨kb, 0, none⟩ = some (I b.lo) := by rw [cell_of_row _ _ _ _ _ _ hkb]; rfl
    have q4 : wc.cell? ⟨kb, 1, none⟩ = some (I b.hi) := by rw [cell_of_row _ _ _ _ _ _ hkb]; rfl
    have q5 : wc.cell? ⟨kb, 2, none⟩ = some (.bool b.some) := by rw [cell_of_row _ _ _ _ _ _ hkb]; rfl
    have HCx := Lib.hid (HC.out.below hbx)
    have Hbx := Lib.hid hbx
    have hrx : Hid (wc.heap[w.heap.size]? = some (.cells #[I 0, I 0, .bool false] 147 (0, 0))) := (hbx.block _ (Array.getElem?_eq_some_iff.1 HR.out).1).trans HR.out
    have p0 := HCx.out.c 110 (by omega)
    have p1 := HCx.out.c 111 (by omega)
    have fin : Hid (∀ (k : Kn) (W : World), betK p a b = k → Below wc.heap.size wc W → (Ending.returned (.agg (knArr k)) = .returned (betK p a b).val ∧ Below w.heap.size w (W.setRow w.heap.size (knArr k)))) := fun k W hk hb => ⟨by rw [hk], below_setRow (HU.out _ (Hbx.out.trans (hb.mono Hbx.out.size))) (Nat.le_refl _) _⟩
    clear hka hkb hbx y0 y1 b0 b1 b2 f0 f1 f2
    rcases ha : a.some with _ | _
    · have hk : Hid (betK p a b = laterK b (p 111) (p 110)) := if_pos ha
      go_wp2
      have z0 := ovr_cell q3
      have z1 := ovr_cell q4
      have z2 := ovr_cell q5
      have z3 := ovr_cell p0
      have z4 := ovr_cell p1
      clear q0 q1 q2 q3 q4 q5 p0 p1
      refine wp_region_below_last (by kernel_rfl) (by kernel_rfl) (by kernel_rfl) ?_
      simp only [skipLast_two, skipLast_one, lastOf_two, lastOf_one]
      repeat (go_big_quiet_step ((go_at_call 88; exact call_below (later_any b (p 111) (p 110) _ ⟨by omega, by omega⟩ ⟨by omega, by omega⟩ ⟨s1, s2⟩ ⟨g1, g2⟩))))
      refine wpQuiet_nil ?_
      intro w1 hb1
      have hr1 := (hb1.block _ (Array.getElem?_eq_some_iff.1 hrx.out).1).trans hrx.out
      refine wp_store_row 147 _ _ rfl w.heap.size rfl _ _ hr1 (knArr (laterK b (p 111) (p 110))) rfl (knOne _) rfl (by kernel_rfl) ?_
      go_wp2
      refine bodyPost_ret (results_cell_only rfl _ _ w.heap.size 147 (knArr (laterK b (p 111) (p 110))) (0, 0) _ rfl (setRow_same hr1) Try.underlying147 rfl (by kernel_rfl)) rfl ?_
      exact fin.out _ _ hk.out hb1
    · rcases hb : b.some with _ | _
      · have hk : Hid (betK p a b = laterK a (p 110) (p 111)) := by show _ = _; rw [betK, if_neg (by simp [ha]), if_pos hb]
        go_wp2
        have z0 := ovr_cell q0
        have z1 := ovr_cell q1
        have z2 := ovr_cell q2
        have z3 := ovr_cell p0
        have z4 := ovr_cell p1
        clear q0 q1 q2 q3 q4 q5 p0 p1
        have hav : Hid (a.val = .agg #[I a.lo, I a.hi, .bool true]) := by show _ = _; rw [← ha]
        have hla := later_any a (p 110) (p 111)
        rw [hav.out] at hla
        have Hla := Lib.hid hla
        clear hla
        refine wp_region_below_last (by kernel_rfl) (by kernel_rfl) (by kernel_rfl) ?_
        simp only [skipLast_two, skipLast_one, lastOf_two, lastOf_one]
        repeat (go_big_quiet_step ((go_at_call 88; exact call_below (Hla.out _ ⟨by omega, by omega⟩ ⟨by omega, by omega⟩ ⟨g1, g2⟩ ⟨s1, s2⟩))))
        refine wpQuiet_nil ?_
        intro w1 hb1
        have hr1 := (hb1.block _ (Array.getElem?_eq_some_iff.1 hrx.out).1).trans hrx.out
        refine wp_store_row 147 _ _ rfl w.heap.size rfl _ _ hr1 (knArr (laterK a (p 110) (p 111))) rfl (knOne _) rfl (by kernel_rfl) ?_
        go_wp2
        refine bodyPost_ret (results_cell_only rfl _ _ w.heap.size 147 (knArr (laterK a (p 110) (p 111))) (0, 0) _ rfl (setRow_same hr1) Try.underlying147 rfl (by kernel_rfl)) rfl ?_
        exact fin.out _ _ hk.out hb1
      · have hk : Hid (betK p a b = ⟨-peakF (-a.lo) (p 111) (-b.lo) (p 110), peakF a.hi (p 110) b.hi (p 111), true⟩) := by show _ = _; rw [betK, if_neg (by simp [ha]), if_neg (by simp [hb])]
        have pb1 := peakF_bd (-a.lo) (p 111) (-b.lo) (p 110) ⟨by omega, by omega⟩ ⟨by omega, by omega⟩ ⟨s1, s2⟩ ⟨g1, g2⟩
        obtain ⟨pb2, pb3⟩ := pb1
        go_wp2
        have z0 := ovr_cell q0
        have z1 := ovr_cell q1
        have z2 := ovr_cell q3
        have z5 := ovr_cell q4
        have z3 := ovr_cell p0
        have z4 := ovr_cell p1
        clear q0 q1 q2 q3 q4 q5 p0 p1
        have peak0 : ∀ (x u y v : Int) (W : World), -1000000000000000 ≤ x ∧ x ≤ 1000000000000000 → -1000000000000000 ≤ y ∧ y ≤ 1000000000000000 → 0 ≤ u ∧ u ≤ 1000000 → 0 ≤ v ∧ v ≤ 1000000 →
            Calls Try.prog 89 #[I x, I u, I y, I v] W fun e w' => e = .returned (I (peakF x u y v)) ∧ Below W.heap.size W w' := fun x u y v W h1 h2 h3 h4 => (peak_any x u y v W h1 h2 h3 h4).mono fun e w' ⟨he, hw⟩ => ⟨he, hw ▸ Below.refl _ _⟩
        have Hpk := Lib.hid peak0
        clear peak0
        refine wp_region_below_last (by kernel_rfl) (by kernel_rfl) (by kernel_rfl) ?_
        simp only [skipLast_two, skipLast_one, lastOf_two, lastOf_one]
        repeat (go_big_quiet_step ((first | (go_at_call_of 89 (Value.int .i64 (-a.lo)); exact call_below (Hpk.out (-a.lo) (p 111) (-b.lo) (p 110) _ ⟨by omega, by omega⟩ ⟨by omega, by omega⟩ ⟨s1, s2⟩ ⟨g1, g2⟩)) | (go_at_call 89; exact call_below (Hpk.out a.hi (p 110) b.hi (p 111) _ ⟨by omega, by omega⟩ ⟨by omega, by omega⟩ ⟨g1, g2⟩ ⟨s1, s2⟩)))))
        refine wpQuiet_nil ?_
        intro w1 hb1
        have hr1 := (hb1.block _ (Array.getElem?_eq_some_iff.1 hrx.out).1).trans hrx.out
        refine wp_store_row 147 _ _ rfl w.heap.size rfl _ _ hr1 (knArr (⟨-peakF (-a.lo) (p 111) (-b.lo) (p 110), peakF a.hi (p 110) b.hi (p 111), true⟩)) rfl (knOne _) rfl (by kernel_rfl) ?_
        go_wp2
        refine bodyPost_ret (results_cell_only rfl _ _ w.heap.size 147 (knArr (⟨-peakF (-a.lo) (p 111) (-b.lo) (p 110), peakF a.hi (p 110) b.hi (p 111), true⟩)) (0, 0) _ rfl (setRow_same hr1) Try.underlying147 rfl (by kernel_rfl)) rfl ?_
        exact fin.out _ _ hk.out hb1
end Go.Proofs.Ytlebefopdnadaaa
