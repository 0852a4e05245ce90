/- The contract of at of package pull's chart. -/
import Derived.Test.YtbojgcaehlapiaaOba
import Derived.Test.YtbojgcaehlapiaaBa
import Derived.BigRegion
import Derived.Deep.RegionHeld3
import Derived.Deep.DeepCutAuto
namespace Go.Proofs.Ytbojgcaehlapiaa
open Go.RowKit
def Kn.c (k : Kn) : Nat → Value
  | 0 => I k.lo | 1 => I k.hi | _ => .bool k.some
def rK (f : Nat → Kn) (k j : Nat) : Value := (f k).c j
def kArr (f : Nat → Kn) (n : Nat) : Array Value := (flat 3 (rK f) n).toArray
theorem kArr_size (f : Nat → Kn) (n : Nat) : (kArr f n).size = n * 3 := by simp [kArr, flat_len]
theorem kArr_get (f : Nat → Kn) {n k j : Nat} (hk : k < n) (hj : j < 3) : (kArr f n)[k * 3 + j]? = some ((f k).c j) := by
  simp only [kArr, List.getElem?_toArray]; exact flat_get _ hk hj
/-- A chart in memory: a puller, what is known before and from each second. -/
structure Chart (w : World) (cb bb fb : Nat) (p : Vec) (n : Nat) (B F : Nat → Kn) : Prop where
  c : ∀ j, j < 117 → w.cell? ⟨cb, j, none⟩ = some (I (p j))
  cs : w.cell? ⟨cb, 117, none⟩ = some (.slice (some ⟨bb, 0, none⟩) n n)
  cf : w.cell? ⟨cb, 118, none⟩ = some (.slice (some ⟨fb, 0, none⟩) n n)
  b : ∀ k, k < n → ∀ j, j < 3 → w.cell? ⟨bb, k * 3 + j, none⟩ = some ((B k).c j)
  f : ∀ k, k < n → ∀ j, j < 3 → w.cell? ⟨fb, k * 3 + j, none⟩ = some ((F k).c j)
theorem Chart.below {w w' : World} {cb bb fb n : Nat} {p : Vec} {B F : Nat → Kn} (h : Chart w cb bb fb p n B F) (hb : Below w.heap.size w w') : Chart w' cb bb fb p n B F where
  c := fun j hj => (hb.cell (p := ⟨cb, j, none⟩) (block_lt_of_cell (h.c j hj))).trans (h.c j hj)
  cs := (hb.cell (p := ⟨_, _, none⟩) (block_lt_of_cell h.cs)).trans h.cs
  cf := (hb.cell (p := ⟨_, _, none⟩) (block_lt_of_cell h.cf)).trans h.cf
  b := fun k hk j hj => (hb.cell (p := ⟨_, _, none⟩) (block_lt_of_cell (h.b k hk j hj))).trans (h.b k hk j hj)
  f := fun k hk j hj => (hb.cell (p := ⟨_, _, none⟩) (block_lt_of_cell (h.f k hk j hj))).trans (h.f k hk j hj)
set_option maxRecDepth 100000 in
set_option maxHeartbeats 1000000 in
theorem at_any (cb bb fb n : Nat) (p : Vec) (B F : Nat → Kn) (t : Int) (w : World) (h : Chart w cb bb fb p n B F) (ht : 0 ≤ t ∧ t < n) :
    Calls Try.prog 48 #[.pointer (some ⟨cb, 0, none⟩), I t] w fun e w' => e = .returned (meetK (B t.toNat) (F t.toNat)).val ∧ Below w.heap.size w w' := by
  obtain ⟨t1, t2⟩ := ht
  obtain ⟨W1, hW1⟩ : ∃ W1, W1 = w.alloc (.cells #[I 0, I 0, .bool false] 154) := ⟨_, rfl⟩
  have H1 : Chart W1 cb bb fb p n B F := by rw [hW1]; exact h.below ((Below.refl _ _).alloc (Nat.le_refl _) _)
  have HR : Hid (W1.heap[w.heap.size]? = some (.cells #[I 0, I 0, .bool false] 154 (0, 0))) := by show W1.heap[_]? = _; rw [hW1]; exact heap_last _ _ _ rfl
  have HU : Hid (∀ W, Below W1.heap.size W1 W → Below w.heap.size w W) := fun W hW => by rw [hW1] at hW; exact under2 hW
  have HW := Lib.hid hW1
  have y0 := ovr_cell H1.cs
  have y1 := ovr_cell H1.cf
  have hk : t.toNat < n := by omega
  have b0 := ovr_cell (H1.b t.toNat hk 0 (by omega))
  have b1 := ovr_cell (H1.b t.toNat hk 1 (by omega))
  have b2 := ovr_cell (H1.b t.toNat hk 2 (by omega))
  have f0 := ovr_cell (H1.f t.toNat hk 0 (by omega))
  have f1 := ovr_cell (H1.f t.toNat hk 1 (by omega))
  have f2 := ovr_cell (H1.f t.toNat hk 2 (by omega))
  simp only [Kn.c, Nat.add_zero] at b0 b1 b2 f0 f1 f2
  clear h H1 hW1
  go_enter Try.func48, Try.ntmps48
  go_wp2
  rw [← HW.out]
  refine wp_region_below_last (by kernel_rfl) (by kernel_rfl) (by kernel_rfl) ?_
  simp only [skipLast_two, skipLast_one, lastOf_two, lastOf_one]
  repeat (go_big_quiet_step ((go_at_call 80; exact call_below (meet_any (B t.toNat) (F t.toNat) _))))
  refine wpQuiet_nil ?_
  intro w1 hb1
  have hr1 := (hb1.block _ (Array.getElem?_eq_some_iff.1 HR.out).1).trans HR.out
  refine wp_store_row 154 _ _ rfl w.heap.size rfl _ _ hr1 (knArr (meetK (B t.toNat) (F t.toNat))) rfl (knOne _) rfl (by kernel_rfl) ?_
  go_wp2
  refine bodyPost_ret (results_cell_only rfl _ _ w.heap.size 154 (knArr (meetK (B t.toNat) (F t.toNat))) (0, 0) _ rfl (setRow_same hr1) Try.underlying154 rfl (by kernel_rfl)) rfl ?_
  exact ⟨rfl, below_setRow (HU.out _ hb1) (Nat.le_refl _) _⟩
end Go.Proofs.Ytbojgcaehlapiaa
/- The contract of between of package pull's chart. -/
namespace Go.Proofs.Ytbojgcaehlapiaa
open Go.RowKit
def betK (p : Vec) (a b : Kn) : Kn :=
  if a.some = false then laterK b (p 111) (p 110) else if b.some = false then laterK a (p 110) (p 111)
  else ⟨-peakF (-a.lo) (p 111) (-b.lo) (p 110), peakF a.hi (p 110) b.hi (p 111), true⟩
def knBd (k : Kn) : Prop := (-100000000000000 ≤ k.lo ∧ k.lo ≤ 100000000000000) ∧ (-100000000000000 ≤ k.hi ∧ k.hi ≤ 100000000000000)
theorem peakF_bd (a up b dn : Int) (h1 : -100000000000000 ≤ a ∧ a ≤ 100000000000000) (h2 : -100000000000000 ≤ b ∧ b ≤ 100000000000000) (h3 : 0 ≤ up ∧ up ≤ 1000000) (h4 : 0 ≤ dn ∧ dn ≤ 1000000) :
    -200000000000000 ≤ peakF a up b dn ∧ peakF a up b dn ≤ 200000000000000 := by
  unfold peakF
  split
  · omega
  · split
    · omega
    · have m1 : 0 ≤ up * (b + dn - a) := Int.mul_nonneg h3.1 (by omega)
      have m2 : up * (b + dn - a) ≤ 1000000 * 2000000 := Int.mul_le_mul h3.2 (by omega) (by omega) (by omega)
      have := ceilF_bd (up * (b + dn - a)) (up + dn) (by omega) m1
      omega
set_option maxRecDepth 100000 in
set_option maxHeartbeats 1000000 in
theorem between_any (cb bb fb n : Nat) (p : Vec) (B F : Nat → Kn) (t : Int) (w : World) (h : Chart w cb bb fb p n B F) (ht : 0 ≤ t ∧ t + 1 < n) (hn : n ≤ 1000000) (hp : VPul p) (hB : knBd (B t.toNat)) (hF : knBd (F (t.toNat + 1))) :
    Calls Try.prog 49 #[.pointer (some ⟨cb, 0, none⟩), I t] w fun e w' => e = .returned (betK p (B t.toNat) (F (t.toNat + 1))).val ∧ Below w.heap.size w w' := by
  obtain ⟨t1, t2⟩ := ht
  obtain ⟨W1, hW1⟩ : ∃ W1, W1 = w.alloc (.cells #[I 0, I 0, .bool false] 154) := ⟨_, rfl⟩
  have H1 : Chart W1 cb bb fb p n B F := by rw [hW1]; exact h.below ((Below.refl _ _).alloc (Nat.le_refl _) _)
  have HC := Lib.hid H1
  have HR : Hid (W1.heap[w.heap.size]? = some (.cells #[I 0, I 0, .bool false] 154 (0, 0))) := by show W1.heap[_]? = _; rw [hW1]; exact heap_last _ _ _ rfl
  have HU : Hid (∀ W, Below W1.heap.size W1 W → Below w.heap.size w W) := fun W hW => by rw [hW1] at hW; exact under2 hW
  have HW := Lib.hid hW1
  have hk : t.toNat + 1 < n := by omega
  have Hp := Lib.hid hp
  have y0 := H1.cs
  have y1 := H1.cf
  have b0 := H1.b t.toNat (by omega) 0 (by omega)
  have b1 := H1.b t.toNat (by omega) 1 (by omega)
  have b2 := H1.b t.toNat (by omega) 2 (by omega)
  have f0 := H1.f (t.toNat + 1) hk 0 (by omega)
  have f1 := H1.f (t.toNat + 1) hk 1 (by omega)
  have f2 := H1.f (t.toNat + 1) hk 2 (by omega)
  simp only [Kn.c, Nat.add_zero] at b0 b1 b2 f0 f1 f2
  generalize hba : B t.toNat = a at *
  generalize hfb : F (t.toNat + 1) = b at *
  have Hba := Lib.hid hba
  have Hfb := Lib.hid hfb
  obtain ⟨⟨a1, a2⟩, ⟨a3, a4⟩⟩ := hB
  obtain ⟨⟨b3, b4⟩, ⟨b5, b6⟩⟩ := hF
  obtain ⟨g1, g2⟩ := hp.grow
  obtain ⟨s1, s2⟩ := hp.shrink
  have i1 : IntKind.i64.wrap (t + 1) = t + 1 := IntWalk.i64_in _ (by omega)
  have i2 : (t + 1).toNat = t.toNat + 1 := by omega
  have i3 : 0 ≤ t + 1 := by omega
  have i4 : t < (n : Int) := by omega
  clear h H1 hW1 hba hfb hp
  go_enter Try.func49, Try.ntmps49
  go_wp2
  rw [← HW.out]
  go_cut [5, 6] (fun s5 s6 wx => ∃ ka kb : Nat, s5 = .pointer (some ⟨ka, 0, none⟩) ∧ s6 = .pointer (some ⟨kb, 0, none⟩) ∧ wx.heap[ka]? = some (.cells (knArr a) 154 (0, 0)) ∧ wx.heap[kb]? = some (.cells (knArr b) 154 (0, 0)) ∧ Below W1.heap.size W1 wx)
  case first =>
    go_region_held3 (fun w' => w'.cell? ⟨cb, 117, none⟩ = some (.slice (some ⟨bb, 0, none⟩) n n) ∧ w'.cell? ⟨cb, 118, none⟩ = some (.slice (some ⟨fb, 0, none⟩) n n) ∧
      w'.cell? ⟨bb, t.toNat * 3, none⟩ = some (I a.lo) ∧ w'.cell? ⟨bb, t.toNat * 3 + 1, none⟩ = some (I a.hi) ∧ w'.cell? ⟨bb, t.toNat * 3 + 2, none⟩ = some (.bool a.some) ∧
      w'.cell? ⟨fb, (t.toNat + 1) * 3, none⟩ = some (I b.lo) ∧ w'.cell? ⟨fb, (t.toNat + 1) * 3 + 1, none⟩ = some (I b.hi) ∧ w'.cell? ⟨fb, (t.toNat + 1) * 3 + 2, none⟩ = some (.bool b.some)) (go_keep) (fail)
    all_goals
      go_wp2_with fail
      go_meet
      case rel =>
        first
          | exact ⟨_, _, rfl, rfl, (by rw [heap_drew]; exact heap_before (heap_last _ _ _ rfl)), (by rw [heap_drew]; exact heap_last _ _ _ (by simp)), (((Below.refl _ _).alloc (Nat.le_refl _) _).alloc (by simp) _).drew⟩
          | exact ⟨_, _, rfl, rfl, (by rw [heap_drew]; exact heap_last _ _ _ (by simp)), (by rw [heap_drew]; exact heap_before (heap_last _ _ _ rfl)), (((Below.refl _ _).alloc (Nat.le_refl _) _).alloc (by simp) _).drew⟩
  case rest =>
    obtain ⟨ka, kb, rfl, rfl, hka, hkb, hbx⟩ := hcut
    have q0 : wc.cell? ⟨ka, 0, none⟩ = some (I a.lo) := by rw [cell_of_row _ _ _ _ _ _ hka]; rfl
    have q1 : wc.cell? ⟨ka, 1, none⟩ = some (I a.hi) := by rw [cell_of_row _ _ _ _ _ _ hka]; rfl
    have q2 : wc.cell? ⟨ka, 2, none⟩ = some (.bool a.some) := by rw [cell_of_row _ _ _ _ _ _ hka]; rfl
    have q3 : wc.cell? ⟨kb, 0, none⟩ = some (I b.lo) := by rw [cell_of_row _ _ _ _ _ _ hkb]; rfl
    have q4 : wc.cell? ⟨kb, 1, none⟩ = some (I b.hi) := by rw [cell_of_row _ _ _ _ _ _ hkb]; rfl
    have q5 : wc.cell? ⟨kb, 2, none⟩ = some (.bool b.some) := by rw [cell_of_row _ _ _ _ _ _ hkb]; rfl
    have HCx := Lib.hid (HC.out.below hbx)
    have Hbx := Lib.hid hbx
    have hrx : Hid (wc.heap[w.heap.size]? = some (.cells #[I 0, I 0, .bool false] 154 (0, 0))) := (hbx.block _ (Array.getElem?_eq_some_iff.1 HR.out).1).trans HR.out
    have p0 := HCx.out.c 110 (by omega)
    have p1 := HCx.out.c 111 (by omega)
    have fin : Hid (∀ (k : Kn) (W : World), betK p a b = k → Below wc.heap.size wc W → (Ending.returned (.agg (knArr k)) = .returned (betK p a b).val ∧ Below w.heap.size w (W.setRow w.heap.size (knArr k)))) := fun k W hk hb => ⟨by rw [hk], below_setRow (HU.out _ (Hbx.out.trans (hb.mono Hbx.out.size))) (Nat.le_refl _) _⟩
    clear hka hkb hbx y0 y1 b0 b1 b2 f0 f1 f2
    rcases ha : a.some with _ | _
    · have hk : Hid (betK p a b = laterK b (p 111) (p 110)) := if_pos ha
      go_wp2
      have z0 := ovr_cell q3
      have z1 := ovr_cell q4
      have z2 := ovr_cell q5
      have z3 := ovr_cell p0
      have z4 := ovr_cell p1
      clear q0 q1 q2 q3 q4 q5 p0 p1
      refine wp_region_below_last (by kernel_rfl) (by kernel_rfl) (by kernel_rfl) ?_
      simp only [skipLast_two, skipLast_one, lastOf_two, lastOf_one]
      repeat (go_big_quiet_step ((go_at_call 81; exact call_below (later_any b (p 111) (p 110) _ ⟨by omega, by omega⟩ ⟨by omega, by omega⟩ ⟨s1, s2⟩ ⟨g1, g2⟩))))
      refine wpQuiet_nil ?_
      intro w1 hb1
      have hr1 := (hb1.block _ (Array.getElem?_eq_some_iff.1 hrx.out).1).trans hrx.out
      refine wp_store_row 154 _ _ rfl w.heap.size rfl _ _ hr1 (knArr (laterK b (p 111) (p 110))) rfl (knOne _) rfl (by kernel_rfl) ?_
      go_wp2
      refine bodyPost_ret (results_cell_only rfl _ _ w.heap.size 154 (knArr (laterK b (p 111) (p 110))) (0, 0) _ rfl (setRow_same hr1) Try.underlying154 rfl (by kernel_rfl)) rfl ?_
      exact fin.out _ _ hk.out hb1
    · rcases hb : b.some with _ | _
      · have hk : Hid (betK p a b = laterK a (p 110) (p 111)) := by show _ = _; rw [betK, if_neg (by simp [ha]), if_pos hb]
        go_wp2
        have z0 := ovr_cell q0
        have z1 := ovr_cell q1
        have z2 := ovr_cell q2
        have z3 := ovr_cell p0
        have z4 := ovr_cell p1
        clear q0 q1 q2 q3 q4 q5 p0 p1
        have hav : Hid (a.val = .agg #[I a.lo, I a.hi, .bool true]) := by show _ = _; rw [← ha]
        have hla := later_any a (p 110) (p 111)
        rw [hav.out] at hla
        have Hla := Lib.hid hla
        clear hla
        refine wp_region_below_last (by kernel_rfl) (by kernel_rfl) (by kernel_rfl) ?_
        simp only [skipLast_two, skipLast_one, lastOf_two, lastOf_one]
        repeat (go_big_quiet_step ((go_at_call 81; exact call_below (Hla.out _ ⟨by omega, by omega⟩ ⟨by omega, by omega⟩ ⟨g1, g2⟩ ⟨s1, s2⟩))))
        refine wpQuiet_nil ?_
        intro w1 hb1
        have hr1 := (hb1.block _ (Array.getElem?_eq_some_iff.1 hrx.out).1).trans hrx.out
        refine wp_store_row 154 _ _ rfl w.heap.size rfl _ _ hr1 (knArr (laterK a (p 110) (p 111))) rfl (knOne _) rfl (by kernel_rfl) ?_
        go_wp2
        refine bodyPost_ret (results_cell_only rfl _ _ w.heap.size 154 (knArr (laterK a (p 110) (p 111))) (0, 0) _ rfl (setRow_same hr1) Try.underlying154 rfl (by kernel_rfl)) rfl ?_
        exact fin.out _ _ hk.out hb1
      · have hk : Hid (betK p a b = ⟨-peakF (-a.lo) (p 111) (-b.lo) (p 110), peakF a.hi (p 110) b.hi (p 111), true⟩) := by show _ = _; rw [betK, if_neg (by simp [ha]), if_neg (by simp [hb])]
        have pb1 := peakF_bd (-a.lo) (p 111) (-b.lo) (p 110) ⟨by omega, by omega⟩ ⟨by omega, by omega⟩ ⟨s1, s2⟩ ⟨g1, g2⟩
        obtain ⟨pb2, pb3⟩ := pb1
        go_wp2
        have z0 := ovr_cell q0
        have z1 := ovr_cell q1
        have z2 := ovr_cell q3
        have z5 := ovr_cell q4
        have z3 := ovr_cell p0
        have z4 := ovr_cell p1
        clear q0 q1 q2 q3 q4 q5 p0 p1
        have peak0 : ∀ (x u y v : Int) (W : World), -1000000000000000 ≤ x ∧ x ≤ 1000000000000000 → -1000000000000000 ≤ y ∧ y ≤ 1000000000000000 → 0 ≤ u ∧ u ≤ 1000000 → 0 ≤ v ∧ v ≤ 1000000 →
            Calls Try.prog 82 #[I x, I u, I y, I v] W fun e w' => e = .returned (I (peakF x u y v)) ∧ Below W.heap.size W w' := fun x u y v W h1 h2 h3 h4 => (peak_any x u y v W h1 h2 h3 h4).mono fun e w' ⟨he, hw⟩ => ⟨he, hw ▸ Below.refl _ _⟩
        have Hpk := Lib.hid peak0
        clear peak0
        refine wp_region_below_last (by kernel_rfl) (by kernel_rfl) (by kernel_rfl) ?_
        simp only [skipLast_two, skipLast_one, lastOf_two, lastOf_one]
        repeat (go_big_quiet_step ((first | (go_at_call_of 82 (Value.int .i64 (-a.lo)); exact call_below (Hpk.out (-a.lo) (p 111) (-b.lo) (p 110) _ ⟨by omega, by omega⟩ ⟨by omega, by omega⟩ ⟨s1, s2⟩ ⟨g1, g2⟩)) | (go_at_call 82; exact call_below (Hpk.out a.hi (p 110) b.hi (p 111) _ ⟨by omega, by omega⟩ ⟨by omega, by omega⟩ ⟨g1, g2⟩ ⟨s1, s2⟩)))))
        refine wpQuiet_nil ?_
        intro w1 hb1
        have hr1 := (hb1.block _ (Array.getElem?_eq_some_iff.1 hrx.out).1).trans hrx.out
        refine wp_store_row 154 _ _ rfl w.heap.size rfl _ _ hr1 (knArr (⟨-peakF (-a.lo) (p 111) (-b.lo) (p 110), peakF a.hi (p 110) b.hi (p 111), true⟩)) rfl (knOne _) rfl (by kernel_rfl) ?_
        go_wp2
        refine bodyPost_ret (results_cell_only rfl _ _ w.heap.size 154 (knArr (⟨-peakF (-a.lo) (p 111) (-b.lo) (p 110), peakF a.hi (p 110) b.hi (p 111), true⟩)) (0, 0) _ rfl (setRow_same hr1) Try.underlying154 rfl (by kernel_rfl)) rfl ?_
        exact fin.out _ _ hk.out hb1
end Go.Proofs.Ytbojgcaehlapiaa
/- The contract of accepted of package pull's chart. -/
namespace Go.Proofs.Ytbojgcaehlapiaa
open Go.RowKit
def accB (p : Vec) (k : Kn) : Bool := k.some && decide (p 112 ≤ k.lo) && decide (k.hi ≤ p 113)
set_option maxRecDepth 100000 in
set_option maxHeartbeats 1000000 in
theorem accepted_any (cb bb fb n : Nat) (p : Vec) (B F : Nat → Kn) (t : Int) (w : World) (h : Chart w cb bb fb p n B F) (ht : 0 ≤ t ∧ t + 1 < n) (hn : n ≤ 1000000) (hp : VPul p) (hB : knBd (B t.toNat)) (hF : knBd (F (t.toNat + 1))) :
    Calls Try.prog 52 #[.pointer (some ⟨cb, 0, none⟩), I t] w fun e w' => e = .returned (.bool (accB p (betK p (B t.toNat) (F (t.toNat + 1))))) ∧ Below w.heap.size w w' := by
  have HC := Lib.hid h
  have Hc := Lib.hid (between_any cb bb fb n p B F t w h ht hn hp hB hF)
  generalize betK p (B t.toNat) (F (t.toNat + 1)) = k at *
  have hfin : Hid (accB p k = (k.some && decide (p 112 ≤ k.lo) && decide (k.hi ≤ p 113))) := rfl
  clear h ht hn hp hB hF
  go_enter Try.func52, Try.ntmps52
  go_wp2_with fail
  refine Hc.out.mono ?_
  rintro e w1 ⟨rfl, hb1⟩
  have H1 := HC.out.below hb1
  have l0 : ∀ x : Obj, (w1.alloc x).cell? ⟨cb, 112, none⟩ = some (I (p 112)) := fun x => by rw [World.cell?_alloc_past _ _ _ (block_lt_of_cell (H1.c 112 (by omega)))]; exact H1.c 112 (by omega)
  have l1 : ∀ x : Obj, (w1.alloc x).cell? ⟨cb, 113, none⟩ = some (I (p 113)) := fun x => by rw [World.cell?_alloc_past _ _ _ (block_lt_of_cell (H1.c 113 (by omega)))]; exact H1.c 113 (by omega)
  clear H1
  go_wp2
  have z0 := ovr_cell (l0 (.cells (knArr k) 154))
  have z1 := ovr_cell (l1 (.cells (knArr k) 154))
  have z2 := ovr_cell (W := w1.alloc (.cells (knArr k) 154)) (b := w1.heap.size) (o := 0) (v := I k.lo) (by simp)
  have z3 := ovr_cell (W := w1.alloc (.cells (knArr k) 154)) (b := w1.heap.size) (o := 1) (v := I k.hi) (by simp)
  have z4 := ovr_cell (W := w1.alloc (.cells (knArr k) 154)) (b := w1.heap.size) (o := 2) (v := .bool k.some) (by simp)
  have fin : Hid (∀ (b : Bool) W, accB p k = b → Below (w1.alloc (.cells (knArr k) 154)).heap.size (w1.alloc (.cells (knArr k) 154)) W → (Ending.returned (.bool b) = .returned (.bool (accB p k)) ∧ Below w.heap.size w W)) := fun b W hb hW => ⟨by rw [hb], hb1.trans ((under2 hW).mono hb1.size)⟩
  clear l0 l1
  generalize (w1.alloc (.cells (knArr k) 154)) = Wk at *
  rcases hs : k.some with _ | _
  · refine wp_region_below_lit (by kernel_rfl) (by kernel_rfl) ?_
    repeat (go_big_quiet_step (fail))
    refine wpQuiet_nil ?_
    intro w2 hb2
    go_wp2
    go_ret
    exact fin.out _ _ (by rw [hfin.out, hs]; rfl) hb2
  · by_cases h1 : p 112 ≤ k.lo
    · by_cases h2 : k.hi ≤ p 113
      · refine wp_region_below_lit (by kernel_rfl) (by kernel_rfl) ?_
        repeat (go_big_quiet_step (fail))
        refine wpQuiet_nil ?_
        intro w2 hb2
        go_wp2
        go_ret
        exact fin.out _ _ (by rw [hfin.out, hs]; simp [h1, h2]) hb2
      · refine wp_region_below_lit (by kernel_rfl) (by kernel_rfl) ?_
        repeat (go_big_quiet_step (fail))
        refine wpQuiet_nil ?_
        intro w2 hb2
        go_wp2
        go_ret
        exact fin.out _ _ (by rw [hfin.out, hs]; simp [h2]) hb2
    · have h1' : decide (p 112 ≤ k.lo) = false := by simpa using h1
      refine wp_region_below_lit (by kernel_rfl) (by kernel_rfl) ?_
      repeat (go_big_quiet_step (fail))
      refine wpQuiet_nil ?_
      intro w2 hb2
      go_wp2
      go_ret
      exact fin.out _ _ (by rw [hfin.out, hs]; simp; omega) hb2
end Go.Proofs.Ytbojgcaehlapiaa
/- The contract of runs of package pull: the runs of seconds for which something is true. -/
namespace Go.Proofs.Ytbojgcaehlapiaa
open Go.RowKit
def rnStep (b : Bool) (k : Nat) (q : List Rng × Bool) : List Rng × Bool :=
  if b then (if q.2 then (q.1.dropLast ++ [⟨(q.1.getLastD ⟨0, 0⟩).lo, k⟩], true) else (q.1 ++ [⟨k, k⟩], true)) else (q.1, false)
def rnK (f : Nat → Bool) : Nat → List Rng × Bool
  | 0 => ([], false) | k + 1 => rnStep (f k) k (rnK f k)
def runsF (f : Nat → Bool) (n : Nat) : List Rng := (rnK f n).1
theorem rnK_open (f : Nat → Bool) : ∀ k, (rnK f k).2 = true → ∃ i x, (rnK f k).1 = i ++ [x]
  | 0, h => by cases h
  | k + 1, h => by
    simp only [rnK, rnStep] at h ⊢
    split
    · split
      · exact ⟨_, _, rfl⟩
      · exact ⟨_, _, rfl⟩
    · rename_i h1; rw [if_neg h1] at h; cases h
theorem rnK_len (f : Nat → Bool) : ∀ k, (rnK f k).1.length ≤ k
  | 0 => by simp [rnK]
  | k + 1 => by
    have := rnK_len f k
    simp only [rnK, rnStep]
    split
    · split
      · simp; omega
      · simp; omega
    · simp only; omega
theorem rc_len (l : List Rng) : (rc l).length = l.length * 2 := by rw [rc_flat, flat_len]
theorem rc_set (i : List Rng) (x : Rng) (k : Int) : (rc (i ++ [x])).set (i.length * 2 + 1) (I k) = rc (i ++ [⟨x.lo, k⟩]) := by
  rw [rc_app, rc_app, List.set_append_right _ _ (by rw [rc_len]; omega), rc_len]
  have : i.length * 2 + 1 - i.length * 2 = 1 := by omega
  rw [this]; rfl
set_option maxHeartbeats 1000000 in
theorem runs_at (cb : Nat) (N : Nat) (f : Nat → Bool) (w : World) (hN : N ≤ 1000000)
    (hf : ∀ k, k < N → ∀ W, Below w.heap.size w W → Calls Try.prog 52 #[.pointer (some ⟨cb, 0, none⟩), I (k : Nat)] W fun e w' => e = .returned (.bool (f k)) ∧ Below W.heap.size W w') :
    Calls Try.prog 51 #[I N, .func (Fn.func 52) #[.pointer (some ⟨cb, 0, none⟩)] #[]] w (RetR w (runsF f N)) := by
  have Hf := Lib.hid hf
  clear hf
  obtain ⟨i0, hi0, iz0, iz1, iz2⟩ := info_parts rng_info
  go_enter Try.func51, Try.ntmps51
  go_wp2
  go_loopw [5, 6, 10] (fun v op i wr => ∃ k l o, k ≤ N ∧ i = .int .i64 (k : Nat) ∧ rnK f k = (l, o) ∧ op = .bool o ∧ wr.ownsRow w.heap.size 23 2 v l.length (rc l) ∧ Below w.heap.size w wr) (fun _ _ i _ => N - (intOf i).toNat)
  case atStart => exact ⟨0, [], false, by omega, rfl, rfl, rfl, ⟨rfl, .inl ⟨rfl, rfl⟩⟩, Below.refl _ _⟩
  case round =>
    obtain ⟨k, l, o, hk, rfl, hst, rfl, hown, hbw⟩ := hrel
    have hsz := hbw.size
    have hll : l.length ≤ k := by have := rnK_len f k; rw [hst] at this; exact this
    have hop := rnK_open f k
    rw [hst] at hop
    have Hop := Lib.hid hop
    have Hst := Lib.hid hst
    clear hst hop
    by_cases hlt : k < N
    · go_wp2_with fail
      refine (Hf.out k hlt _ hbw).mono ?_
      rintro e w1 ⟨rfl, hb1⟩
      have hB1 : Below w.heap.size w w1 := hbw.trans (hb1.mono hsz)
      have Hown := Lib.hid (own_below hown hb1)
      have hns : Hid (rnK f (k + 1) = rnStep (f k) k (l, o)) := by show _ = _; rw [← Hst.out]; rfl
      have z1 := hB1.size
      clear hown
      rcases hfk : f k with _ | _
      · have hn2 : Hid (rnK f (k + 1) = (l, false)) := by show _ = _; rw [hns.out, hfk]; rfl
        go_wp2_with fail
        go_roundw
        case rel => exact ⟨k + 1, l, false, by omega, by go_num, hn2.out, rfl, Hown.out, hB1⟩
        case measure => simp [intOf]; omega
      · rcases o with _ | _
        · have hn2 : Hid (rnK f (k + 1) = (l ++ [⟨k, k⟩], true)) := by show _ = _; rw [hns.out, hfk]; rfl
          have hrc := Lib.hid (rc_app l ⟨k, k⟩)
          go_wp2_with (at_builtin; go_loud (refine wpList_append_own _ rfl _ _ 69 rfl w.heap.size 23 i0 _ 2 16 Try.underlying69 hi0 iz0 iz1 iz2 rfl (by decide) u5 l.length (rc l) rfl (Hown.out.alloc _) ⟨w1.heap.size, 0, none⟩ 1 1 [I k, I k] rfl (by rfl) (news_lit (cs := #[I k, I k]) (heap_last _ _ _ (by simp))) ?h1 ?h63 ?hby ?hba ?_))
          case h1 => simp [Value.oneCell']
          case h63 => unfold maxLen; omega
          case hby => omega
          case hba => first | omega | (simp; omega)
          intro v' w2 own3 hg2 _
          have hB3 : Below w.heap.size w w2 := (hB1.alloc z1 _).grown hg2 (by simp; omega) (fun g hg => (Hown.out.lt g hg).1)
          have own4 : Hid (w2.ownsRow w.heap.size 23 2 v' (l ++ [(⟨k, k⟩ : Rng)]).length (rc (l ++ [⟨k, k⟩]))) := by
            show w2.ownsRow _ _ _ _ _ _
            rw [hrc.out]; simpa using own3
          clear own3
          go_wp2_with fail
          go_roundw
          case rel => exact ⟨k + 1, _, true, by omega, by go_num, hn2.out, rfl, own4.out, hB3⟩
          case measure => simp [intOf]; omega
        · obtain ⟨ii, x, rfl⟩ := Hop.out rfl
          have hn2 : Hid (rnK f (k + 1) = (ii ++ [⟨x.lo, k⟩], true)) := by show _ = _; rw [hns.out, hfk]; simp [rnStep]
          obtain ⟨g, cap, rfl, hg1, hg2⟩ := Hown.out.form (by simp)
          have c1 : w1.cell? ⟨g, ii.length * 2 + 1, none⟩ = some (I x.hi) := by
            rw [Hown.out.cellAt _ (by simp; omega), rc_app, List.getElem?_append_right (by rw [rc_len]; omega), rc_len, show ii.length * 2 + 1 - ii.length * 2 = 1 by omega]; rfl
          have c2 : w1.frozen? ⟨g, ii.length * 2 + 1, none⟩ = false := Hown.out.frozenAt _
          have hl1 : (ii ++ [x]).length = ii.length + 1 := by simp
          have own4 : Hid ((w1.setCell ⟨g, ii.length * 2 + 1, none⟩ (I k)).ownsRow w.heap.size 23 2 (.slice (some ⟨g, 0, none⟩) (ii ++ [(⟨x.lo, k⟩ : Rng)]).length cap) (ii ++ [(⟨x.lo, k⟩ : Rng)]).length (rc (ii ++ [⟨x.lo, k⟩]))) := by
            have := (Hown.out.stored (ii.length * 2 + 1) (I k)).1
            rw [rc_set] at this
            show World.ownsRow _ _ _ _ _ _ _
            simpa using this
          have i1 : IntKind.i64.wrap ((ii.length : Int) + 1 - 1) = ii.length := by rw [IntWalk.i64_in _ (by omega)]; omega
          simp only [hl1]
          go_wp2_with fail
          go_roundw
          case rel => exact ⟨k + 1, _, true, by omega, by go_num, hn2.out, rfl, by simpa using own4.out, hB1.setCell hg1 _⟩
          case measure => simp [intOf]; omega
    · have hkn : k = N := by omega
      have hfin : Hid (runsF f N = l) := by show _ = _; rw [runsF, ← hkn, Hst.out]
      obtain ⟨A, c, rfl, hr⟩ := Rd.of_rc hown
      have HR := Lib.hid hr
      clear hr
      go_wp2_with fail
      go_ret
      exact ⟨A, _, c, rfl, by rw [hfin.out], by rw [hfin.out]; exact HR.out, hbw⟩
set_option maxHeartbeats 1000000 in
theorem runs_sd (b1 b2 : Nat) (N : Nat) (f : Nat → Bool) (w : World) (hN : N ≤ 1000000)
    (hf : ∀ k, k < N → ∀ W, Below w.heap.size w W → Calls Try.prog 55 #[I (k : Nat), .pointer (some ⟨b1, 0, none⟩), .pointer (some ⟨b2, 0, none⟩)] W fun e w' => e = .returned (.bool (f k)) ∧ Below W.heap.size W w') :
    Calls Try.prog 51 #[I N, .func (Fn.func 55) #[] #[.pointer (some ⟨b1, 0, none⟩), .pointer (some ⟨b2, 0, none⟩)]] w (RetR w (runsF f N)) := by
  have Hf := Lib.hid hf
  clear hf
  obtain ⟨i0, hi0, iz0, iz1, iz2⟩ := info_parts rng_info
  go_enter Try.func51, Try.ntmps51
  go_wp2
  go_loopw [5, 6, 10] (fun v op i wr => ∃ k l o, k ≤ N ∧ i = .int .i64 (k : Nat) ∧ rnK f k = (l, o) ∧ op = .bool o ∧ wr.ownsRow w.heap.size 23 2 v l.length (rc l) ∧ Below w.heap.size w wr) (fun _ _ i _ => N - (intOf i).toNat)
  case atStart => exact ⟨0, [], false, by omega, rfl, rfl, rfl, ⟨rfl, .inl ⟨rfl, rfl⟩⟩, Below.refl _ _⟩
  case round =>
    obtain ⟨k, l, o, hk, rfl, hst, rfl, hown, hbw⟩ := hrel
    have hsz := hbw.size
    have hll : l.length ≤ k := by have := rnK_len f k; rw [hst] at this; exact this
    have hop := rnK_open f k
    rw [hst] at hop
    have Hop := Lib.hid hop
    have Hst := Lib.hid hst
    clear hst hop
    by_cases hlt : k < N
    · go_wp2_with fail
      refine (Hf.out k hlt _ hbw).mono ?_
      rintro e w1 ⟨rfl, hb1⟩
      have hB1 : Below w.heap.size w w1 := hbw.trans (hb1.mono hsz)
      have Hown := Lib.hid (own_below hown hb1)
      have hns : Hid (rnK f (k + 1) = rnStep (f k) k (l, o)) := by show _ = _; rw [← Hst.out]; rfl
      have z1 := hB1.size
      clear hown
      rcases hfk : f k with _ | _
      · have hn2 : Hid (rnK f (k + 1) = (l, false)) := by show _ = _; rw [hns.out, hfk]; rfl
        go_wp2_with fail
        go_roundw
        case rel => exact ⟨k + 1, l, false, by omega, by go_num, hn2.out, rfl, Hown.out, hB1⟩
        case measure => simp [intOf]; omega
      · rcases o with _ | _
        · have hn2 : Hid (rnK f (k + 1) = (l ++ [⟨k, k⟩], true)) := by show _ = _; rw [hns.out, hfk]; rfl
          have hrc := Lib.hid (rc_app l ⟨k, k⟩)
          go_wp2_with (at_builtin; go_loud (refine wpList_append_own _ rfl _ _ 69 rfl w.heap.size 23 i0 _ 2 16 Try.underlying69 hi0 iz0 iz1 iz2 rfl (by decide) u5 l.length (rc l) rfl (Hown.out.alloc _) ⟨w1.heap.size, 0, none⟩ 1 1 [I k, I k] rfl (by rfl) (news_lit (cs := #[I k, I k]) (heap_last _ _ _ (by simp))) ?h1 ?h63 ?hby ?hba ?_))
          case h1 => simp [Value.oneCell']
          case h63 => unfold maxLen; omega
          case hby => omega
          case hba => first | omega | (simp; omega)
          intro v' w2 own3 hg2 _
          have hB3 : Below w.heap.size w w2 := (hB1.alloc z1 _).grown hg2 (by simp; omega) (fun g hg => (Hown.out.lt g hg).1)
          have own4 : Hid (w2.ownsRow w.heap.size 23 2 v' (l ++ [(⟨k, k⟩ : Rng)]).length (rc (l ++ [⟨k, k⟩]))) := by
            show w2.ownsRow _ _ _ _ _ _
            rw [hrc.out]; simpa using own3
          clear own3
          go_wp2_with fail
          go_roundw
          case rel => exact ⟨k + 1, _, true, by omega, by go_num, hn2.out, rfl, own4.out, hB3⟩
          case measure => simp [intOf]; omega
        · obtain ⟨ii, x, rfl⟩ := Hop.out rfl
          have hn2 : Hid (rnK f (k + 1) = (ii ++ [⟨x.lo, k⟩], true)) := by show _ = _; rw [hns.out, hfk]; simp [rnStep]
          obtain ⟨g, cap, rfl, hg1, hg2⟩ := Hown.out.form (by simp)
          have c1 : w1.cell? ⟨g, ii.length * 2 + 1, none⟩ = some (I x.hi) := by
            rw [Hown.out.cellAt _ (by simp; omega), rc_app, List.getElem?_append_right (by rw [rc_len]; omega), rc_len, show ii.length * 2 + 1 - ii.length * 2 = 1 by omega]; rfl
          have c2 : w1.frozen? ⟨g, ii.length * 2 + 1, none⟩ = false := Hown.out.frozenAt _
          have hl1 : (ii ++ [x]).length = ii.length + 1 := by simp
          have own4 : Hid ((w1.setCell ⟨g, ii.length * 2 + 1, none⟩ (I k)).ownsRow w.heap.size 23 2 (.slice (some ⟨g, 0, none⟩) (ii ++ [(⟨x.lo, k⟩ : Rng)]).length cap) (ii ++ [(⟨x.lo, k⟩ : Rng)]).length (rc (ii ++ [⟨x.lo, k⟩]))) := by
            have := (Hown.out.stored (ii.length * 2 + 1) (I k)).1
            rw [rc_set] at this
            show World.ownsRow _ _ _ _ _ _ _
            simpa using this
          have i1 : IntKind.i64.wrap ((ii.length : Int) + 1 - 1) = ii.length := by rw [IntWalk.i64_in _ (by omega)]; omega
          simp only [hl1]
          go_wp2_with fail
          go_roundw
          case rel => exact ⟨k + 1, _, true, by omega, by go_num, hn2.out, rfl, by simpa using own4.out, hB1.setCell hg1 _⟩
          case measure => simp [intOf]; omega
    · have hkn : k = N := by omega
      have hfin : Hid (runsF f N = l) := by show _ = _; rw [runsF, ← hkn, Hst.out]
      obtain ⟨A, c, rfl, hr⟩ := Rd.of_rc hown
      have HR := Lib.hid hr
      clear hr
      go_wp2_with fail
      go_ret
      exact ⟨A, _, c, rfl, by rw [hfin.out], by rw [hfin.out]; exact HR.out, hbw⟩
end Go.Proofs.Ytbojgcaehlapiaa
/- The contract of newChart of package pull: what is known before and from each second. -/
namespace Go.Proofs.Ytbojgcaehlapiaa
open Go.RowKit
def kn0 : Kn := ⟨0, 0, false⟩
theorem kn_info : (Try.prog.info? 154).map (fun i => (i.zero, i.size, i.bytes)) = some (some (.agg #[I 0, I 0, .bool false]), 3, 24) := by kernel_rfl
theorem made_kn (N : Nat) : madeCells (Value.agg #[I 0, I 0, .bool false]).cells (N * 3) = kArr (fun _ => kn0) N := by
  apply Array.ext_getElem?
  intro i
  by_cases hi : i < N * 3
  · have h3 : i % 3 = 0 ∨ i % 3 = 1 ∨ i % 3 = 2 := by omega
    have e1 : (madeCells (Value.agg #[I 0, I 0, .bool false]).cells (N * 3))[i]? = some ((#[I 0, I 0, .bool false] : Array Value)[i % 3]!) := by
      simp [madeCells, hi, Value.cells]
    have e2 : (kArr (fun _ => kn0) N)[i]? = some (kn0.c (i % 3)) := by simp [kArr, flat, hi, rK]
    rw [e1, e2]
    rcases h3 with h | h | h <;> rw [h] <;> rfl
  · rw [Array.getElem?_eq_none (by rw [size_madeCells]; omega), Array.getElem?_eq_none (by rw [kArr_size]; omega)]
theorem make_kn (m : Int) (N : Nat) (hN : N = m.toNat) (h0 : 0 ≤ m) (h1 : m ≤ 1000000) (w : World) :
    (Instr.makeSlice 155 (.int .i64 m) (.int .i64 m)).run Try.prog w = .ok (.slice (some ⟨w.heap.size, 0, none⟩) N N) (w.alloc (.cells (kArr (fun _ => kn0) N) 154)) := by
  obtain ⟨i0, hi0, iz0, iz1, iz2⟩ := info_parts kn_info
  have hm : m = (N : Int) := by omega
  rw [hm]
  have hr := run_make (P := Try.prog) w 155 154 i0 _ Try.underlying155 hi0 iz0 .i64 .i64 N N (by omega) (by omega) (by rw [iz2]; omega) (by omega)
  simp only [Int.toNat_natCast] at hr
  rw [hr, iz1, made_kn]
def updK (f : Nat → Kn) (k : Nat) (q : Kn) (i : Nat) : Kn := if i = k then q else f i
theorem kArr_upd (f : Nat → Kn) {n k : Nat} (hk : k < n) (q : Kn) : ((kArr f n).toList.take (k * 3 + 0) ++ (knArr q).toList ++ (kArr f n).toList.drop (k * 3 + 0 + (knArr q).toList.length)).toArray = kArr (updK f k q) n := by
  have hl : (kArr f n).toList.length = n * 3 := by simp [kArr, flat_len]
  have hle : k * 3 + 3 ≤ n * 3 := by omega
  apply Array.ext_getElem?
  intro i
  rw [List.getElem?_toArray]
  have h3 : (knArr q).toList.length = 3 := rfl
  rw [h3, Nat.add_zero]
  have hf : ∀ (g : Nat → Kn) i, i < n * 3 → (kArr g n)[i]? = some ((g (i / 3)).c (i % 3)) := fun g i hi => by simp [kArr, flat, hi, rK]
  by_cases hi : i < n * 3
  · rw [hf _ i hi]
    by_cases h1 : i < k * 3
    · rw [List.append_assoc, List.getElem?_append_left (by rw [List.length_take]; omega), List.getElem?_take, if_pos h1, Array.getElem?_toList, hf _ i hi, updK, if_neg (by omega)]
    · by_cases h2 : i < k * 3 + 3
      · rw [List.append_assoc, List.getElem?_append_right (by rw [List.length_take]; omega), List.length_take, List.getElem?_append_left (by rw [h3]; omega)]
        have e1 : i / 3 = k := by omega
        have e2 : i - min (k * 3) (kArr f n).toList.length = i % 3 := by omega
        rw [e1, e2, updK, if_pos rfl]
        have : i % 3 = 0 ∨ i % 3 = 1 ∨ i % 3 = 2 := by omega
        rcases this with h | h | h <;> rw [h] <;> rfl
      · rw [List.getElem?_append_right (by rw [List.length_append, List.length_take, h3]; omega), List.length_append, List.length_take, h3, List.getElem?_drop]
        have e : k * 3 + 3 + (i - (min (k * 3) (kArr f n).toList.length + 3)) = i := by omega
        rw [e, Array.getElem?_toList, hf _ i hi, updK, if_neg (by omega)]
  · rw [List.getElem?_eq_none (by simp only [List.length_append, List.length_take, List.length_drop, h3]; omega), Array.getElem?_eq_none (by rw [kArr_size]; omega)]
section
variable {P : Program}
theorem run_store_kn {w : World} {g k n : Nat} {f : Nat → Kn} {t : TypeId} (hg : w.heap[g]? = some (.cells (kArr f n) t (0, 0))) (hk : k < n) (q : Kn) {ty : TypeId} (hi : (P.info? ty).map (·.size) = some 3) :
    (storeVar ty ⟨g, k * 3, none⟩ (.agg (knArr q))).run P w = .ok () (w.setRow g (kArr (updK f k q) n)) := by
  have hst := run_storeCells_at (P := P) g (k * 3) t (knArr q).toList 0 (kArr f n) w hg (by rw [kArr_size]; show k * 3 + 0 + 3 ≤ _; omega) (knOne q)
  rw [kArr_upd f hk q] at hst
  cases hq : P.info? ty with
  | none => simp [hq] at hi
  | some i =>
    have hs' : i.size = 3 := by simpa [hq] using hi
    simp only [storeVar, Sem.run_bind, sizeOf, typeInfo, Value.cells]
    simp [hq, hs', Sem.run_bind] at hst ⊢
    exact hst
theorem wp_store_kn {o : Oper} {a : Act} {w : World} {K : Act → World → Prop} {Q : Exit → Act → World → Prop} (ty : TypeId) (x y : Operand) (ho : o.op = .store ty x y)
    (g k : Nat) (hx : a.eval x = .pointer (some ⟨g, k * 3, none⟩)) (f : Nat → Kn) (n : Nat) (t : TypeId) (hg : w.heap[g]? = some (.cells (kArr f n) t (0, 0))) (hk : k < n) (q : Kn) (hy : a.eval y = .agg (knArr q)) (hi : (P.info? ty).map (·.size) = some 3)
    (h : K (a.put o.dst undef) (w.setRow g (kArr (updK f k q) n))) : o.wp P a w K Q := by
  unfold Oper.wp execOp
  simp only [ho, hx, hy, Instr.storeAt, Instr.sureAddr, Sem.run_bind, Sem.run_pure, Result.andThen_ok, run_store_kn hg hk q hi]
  exact h
theorem wpList_store_kn {ops : Array Oper} {rest : List Oper} {o : Oper} {a : Act} {w : World} {Q : Exit → Act → World → Prop} (hgd : o.guard = none) (ty : TypeId) (x y : Operand) (ho : o.op = .store ty x y)
    (g k : Nat) (hx : a.eval x = .pointer (some ⟨g, k * 3, none⟩)) (f : Nat → Kn) (n : Nat) (t : TypeId) (hg : w.heap[g]? = some (.cells (kArr f n) t (0, 0))) (hk : k < n) (q : Kn) (hy : a.eval y = .agg (knArr q)) (hi : (P.info? ty).map (·.size) = some 3)
    (h : wpList P ops Q rest (a.put o.dst undef) (w.setRow g (kArr (updK f k q) n))) : wpList P ops Q (o :: rest) a w :=
  wpList_plain hgd fun _ hK => wp_store_kn ty x y ho g k hx f n t hg hk q hy hi (hK _ _ h)
end
end Go.Proofs.Ytbojgcaehlapiaa
/- The contract of newChart of package pull. -/
namespace Go.Proofs.Ytbojgcaehlapiaa
open Go.RowKit
/-- What is seen at each second, by the first j samples. -/
def seenK (R : Run) : Nat → Nat → Kn
  | 0 => fun _ => kn0 | j + 1 => updK (seenK R j) (at0 R.ms j).t.toNat ⟨(at0 R.ms j).lo, (at0 R.ms j).hi, true⟩
def seenF (R : Run) : Nat → Kn := seenK R R.ms.length
/-- What is known at a second by all samples up to it. -/
def befF (p : Vec) (R : Run) : Nat → Kn
  | 0 => seenF R 0 | t + 1 => meetK (seenF R (t + 1)) (laterK (befF p R t) (p 110) (p 111))
/-- What is known d seconds ahead of the end by all samples from then on. -/
def frmD (p : Vec) (R : Run) : Nat → Kn
  | 0 => seenF R R.e.toNat | d + 1 => meetK (seenF R (R.e.toNat - (d + 1))) (laterK (frmD p R d) (p 111) (p 110))
def frmF (p : Vec) (R : Run) (t : Nat) : Kn := frmD p R (R.e.toNat - t)
set_option maxRecDepth 100000 in
set_option maxHeartbeats 1000000 in
theorem newChart_no (A1 A2 A3 : Option Addr) (c1 c2 c3 : Nat) (p : Vec) (R : Run) (w : World) (h : RunIn w A1 A2 A3 R) (hc2 : R.ms.length ≤ c2) (er' : Int)
    (hno : (okPuller p && okRun R) = false ∧ er' = 2 ∨ (okPuller p && okRun R) = true ∧ (conf p R).isSome = true ∧ er' = 40) :
    Calls Try.prog 50 #[.agg (ia 117 p), runV A1 A2 A3 c1 c2 c3 R] w fun e w' => e = .returned (.tuple #[.pointer none, I er']) ∧ Below w.heap.size w w' := by
  obtain ⟨W2, hW2⟩ : ∃ W2, W2 = ((w.alloc (.cells (ia 117 p) 30)).alloc (.cells #[.slice A1 R.ss.length c1, I R.e, .slice A2 R.ms.length c2, .slice A3 R.es.length c3] 48)) := ⟨_, rfl⟩
  have T : Hid (Two w A1 A2 A3 c1 c2 c3 p R W2) := hW2 ▸ two_mk h c1 c2 c3 p
  have HW := Lib.hid hW2
  clear h hW2
  rcases hno with ⟨hok, rfl⟩ | ⟨hok, hcf, rfl⟩
  · go_enter Try.func50, Try.ntmps50
    go_wp2_with (refine wpList_load_ia rfl 30 _ rfl w.heap.size 0 rfl 117 p _ (by rw [← HW.out]; exact T.out.pul _ (Below.refl _ _)) Try.underlying30 rfl (by kernel_rfl) ?_)
    rw [← HW.out]
    refine (conflict_any A1 A2 A3 c1 c2 c3 p R _ T.out.run hc2).mono ?_
    rintro e w1 ⟨rfl, hb1⟩
    rw [hok, show er false = 2 from rfl]
    go_wp2_with fail
    go_ret2
    exact ⟨rfl, T.out.up _ hb1⟩
  · obtain ⟨⟨ci, cj⟩, hci⟩ := Option.isSome_iff_exists.1 hcf
    have hv : Hid (confV p R = ((ci : Int), (cj : Int))) := by show _ = _; rw [confV, hok, hci]; rfl
    have hpos : (0 : Int) ≤ (ci : Int) := by omega
    clear hci hcf
    go_enter Try.func50, Try.ntmps50
    go_wp2_with (refine wpList_load_ia rfl 30 _ rfl w.heap.size 0 rfl 117 p _ (by rw [← HW.out]; exact T.out.pul _ (Below.refl _ _)) Try.underlying30 rfl (by kernel_rfl) ?_)
    rw [← HW.out]
    refine (conflict_any A1 A2 A3 c1 c2 c3 p R _ T.out.run hc2).mono ?_
    rintro e w1 ⟨rfl, hb1⟩
    rw [hok, show er true = 0 from rfl, hv.out]
    go_wp2_with fail
    go_ret2
    exact ⟨rfl, T.out.up _ hb1⟩
end Go.Proofs.Ytbojgcaehlapiaa
/- Bounds of what is known at each second, and the memory of a chart that is being drawn. -/
namespace Go.Proofs.Ytbojgcaehlapiaa
open Go.RowKit
/-- Both numbers lie within m of 0. -/
def knIn (m : Int) (k : Kn) : Prop := (-m ≤ k.lo ∧ k.lo ≤ m) ∧ (-m ≤ k.hi ∧ k.hi ≤ m)
theorem knIn.more {m m' : Int} {k : Kn} (h : knIn m k) (hm : m ≤ m') : knIn m' k := by
  obtain ⟨⟨_, _⟩, _, _⟩ := h
  exact ⟨⟨by omega, by omega⟩, by omega, by omega⟩
theorem knIn_meet {m : Int} {k o : Kn} (hk : knIn m k) (ho : knIn m o) : knIn m (meetK k o) := by
  unfold meetK
  split
  · exact hk
  · split
    · exact ho
    · obtain ⟨⟨_, _⟩, _, _⟩ := hk
      obtain ⟨⟨_, _⟩, _, _⟩ := ho
      exact ⟨⟨by show _ ≤ max _ _; omega, by show max _ _ ≤ _; omega⟩, by show _ ≤ min _ _; omega, by show min _ _ ≤ _; omega⟩
theorem knIn_later {m g s : Int} {k : Kn} (hk : knIn m k) (hg : 0 ≤ g ∧ g ≤ 1000000) (hs : 0 ≤ s ∧ s ≤ 1000000) : knIn (m + 1000000) (laterK k g s) := by
  obtain ⟨⟨_, _⟩, _, _⟩ := hk
  exact ⟨⟨by show _ ≤ k.lo - s; omega, by show k.lo - s ≤ _; omega⟩, by show _ ≤ k.hi + g; omega, by show k.hi + g ≤ _; omega⟩
theorem knIn_seenK {R : Run} (h : VRun R) : ∀ j, j ≤ R.ms.length → ∀ t, knIn 1000000 (seenK R j t)
  | 0, _, t => ⟨⟨by show _ ≤ (0 : Int); omega, by show (0 : Int) ≤ _; omega⟩, by show _ ≤ (0 : Int); omega, by show (0 : Int) ≤ _; omega⟩
  | j + 1, hj, t => by
    have := h.mr j (by omega)
    have ih := knIn_seenK h j (by omega) t
    unfold seenK updK
    split
    · exact ⟨⟨by show _ ≤ (at0 R.ms j).lo; omega, by show (at0 R.ms j).lo ≤ _; omega⟩, by show _ ≤ (at0 R.ms j).hi; omega, by show (at0 R.ms j).hi ≤ _; omega⟩
    · exact ih
theorem knIn_bef {p : Vec} {R : Run} (h : VRun R) (hp : VPul p) : ∀ t : Nat, knIn (1000000 * (t + 1)) (befF p R t)
  | 0 => knIn_seenK h _ (Nat.le_refl _) 0
  | t + 1 => by
    have hs : knIn (1000000 * ((t + 1 : Nat) + 1)) (seenF R (t + 1)) := (knIn_seenK h _ (Nat.le_refl _) (t + 1)).more (by omega)
    exact knIn_meet hs ((knIn_later (knIn_bef h hp t) hp.grow hp.shrink).more (by omega))
theorem knIn_frm {p : Vec} {R : Run} (h : VRun R) (hp : VPul p) : ∀ d : Nat, knIn (1000000 * (d + 1)) (frmD p R d)
  | 0 => knIn_seenK h _ (Nat.le_refl _) _
  | d + 1 => by
    have hs : knIn (1000000 * ((d + 1 : Nat) + 1)) (seenF R (R.e.toNat - (d + 1))) := (knIn_seenK h _ (Nat.le_refl _) _).more (by omega)
    exact knIn_meet hs ((knIn_later (knIn_frm h hp d) hp.shrink hp.grow).more (by omega))
theorem bd_bef {p : Vec} {R : Run} (h : VRun R) (hp : VPul p) {t : Nat} (ht : t ≤ 200000) : knBd (befF p R t) := by
  have := (knIn_bef h hp t).more (m' := 100000000000000) (by omega)
  exact this
theorem bd_frm {p : Vec} {R : Run} (h : VRun R) (hp : VPul p) (t : Nat) : knBd (frmF p R t) := by
  have hl := h.last
  have := (knIn_frm h hp (R.e.toNat - t)).more (m' := 100000000000000) (by omega)
  exact this
/-- The blocks of a chart: what is seen, what is known before and from each second, and the chart itself. -/
structure Ch (w : World) (sb bb fb cb N : Nat) (p : Vec) (S B F : Nat → Kn) : Prop where
  s : w.heap[sb]? = some (.cells (kArr S N) 154 (0, 0))
  b : w.heap[bb]? = some (.cells (kArr B N) 154 (0, 0))
  f : w.heap[fb]? = some (.cells (kArr F N) 154 (0, 0))
  c : w.heap[cb]? = some (.cells (ia 117 p ++ #[.slice (some ⟨bb, 0, none⟩) N N, .slice (some ⟨fb, 0, none⟩) N N]) 157 (0, 0))
  sb : sb ≠ bb ∧ sb ≠ fb ∧ sb ≠ cb
  bf : bb ≠ fb ∧ bb ≠ cb ∧ fb ≠ cb
section
variable {w w' : World} {sb bb fb cb N : Nat} {p : Vec} {S B F : Nat → Kn}
theorem Ch.below (h : Ch w sb bb fb cb N p S B F) (hb : Below w.heap.size w w') : Ch w' sb bb fb cb N p S B F where
  s := (hb.block _ (Array.getElem?_eq_some_iff.1 h.s).1).trans h.s
  b := (hb.block _ (Array.getElem?_eq_some_iff.1 h.b).1).trans h.b
  f := (hb.block _ (Array.getElem?_eq_some_iff.1 h.f).1).trans h.f
  c := (hb.block _ (Array.getElem?_eq_some_iff.1 h.c).1).trans h.c
  sb := h.sb
  bf := h.bf
theorem Ch.setB (h : Ch w sb bb fb cb N p S B F) (B' : Nat → Kn) : Ch (w.setRow bb (kArr B' N)) sb bb fb cb N p S B' F where
  s := (setRow_other h.sb.1).trans h.s
  b := setRow_same h.b
  f := (setRow_other (Ne.symm h.bf.1)).trans h.f
  c := (setRow_other (Ne.symm h.bf.2.1)).trans h.c
  sb := h.sb
  bf := h.bf
theorem Ch.setF (h : Ch w sb bb fb cb N p S B F) (F' : Nat → Kn) : Ch (w.setRow fb (kArr F' N)) sb bb fb cb N p S B F' where
  s := (setRow_other h.sb.2.1).trans h.s
  b := (setRow_other h.bf.1).trans h.b
  f := setRow_same h.f
  c := (setRow_other (Ne.symm h.bf.2.2)).trans h.c
  sb := h.sb
  bf := h.bf
theorem Ch.cellS (h : Ch w sb bb fb cb N p S B F) {k j : Nat} (hk : k < N) (hj : j < 3) : w.cell? ⟨sb, k * 3 + j, none⟩ = some ((S k).c j) := by
  rw [cell_of_row w sb _ _ _ _ h.s]; exact kArr_get S hk hj
theorem Ch.cellB (h : Ch w sb bb fb cb N p S B F) {k j : Nat} (hk : k < N) (hj : j < 3) : w.cell? ⟨bb, k * 3 + j, none⟩ = some ((B k).c j) := by
  rw [cell_of_row w bb _ _ _ _ h.b]; exact kArr_get B hk hj
theorem Ch.cellF (h : Ch w sb bb fb cb N p S B F) {k j : Nat} (hk : k < N) (hj : j < 3) : w.cell? ⟨fb, k * 3 + j, none⟩ = some ((F k).c j) := by
  rw [cell_of_row w fb _ _ _ _ h.f]; exact kArr_get F hk hj
theorem Ch.lb (h : Ch w sb bb fb cb N p S B F) : w.cell? ⟨cb, 117, none⟩ = some (.slice (some ⟨bb, 0, none⟩) N N) := by
  rw [cell_of_row w cb _ _ _ _ h.c, Array.getElem?_append_right (by rw [ia_size]; omega), ia_size]; rfl
theorem Ch.lf (h : Ch w sb bb fb cb N p S B F) : w.cell? ⟨cb, 118, none⟩ = some (.slice (some ⟨fb, 0, none⟩) N N) := by
  rw [cell_of_row w cb _ _ _ _ h.c, Array.getElem?_append_right (by rw [ia_size]; omega), ia_size]; rfl
theorem Ch.lp (h : Ch w sb bb fb cb N p S B F) {j : Nat} (hj : j < 117) : w.cell? ⟨cb, j, none⟩ = some (I (p j)) := by
  rw [cell_of_row w cb _ _ _ _ h.c, Array.getElem?_append_left (by rw [ia_size]; omega), ia_get hj]
theorem Ch.chart (h : Ch w sb bb fb cb N p S B F) {B' F' : Nat → Kn} (hB : ∀ k, k < N → B k = B' k) (hF : ∀ k, k < N → F k = F' k) : Chart w cb bb fb p N B' F' where
  c := fun j hj => h.lp hj
  cs := h.lb
  cf := h.lf
  b := fun k hk j hj => by rw [← hB k hk]; exact h.cellB hk hj
  f := fun k hk j hj => by rw [← hF k hk]; exact h.cellF hk hj
end
/-- What is drawn after k rounds, upwards. -/
def upto (f : Nat → Kn) (k t : Nat) : Kn := if t < k then f t else kn0
theorem upto_zero (f : Nat → Kn) : upto f 0 = fun _ => kn0 := by funext t; simp [upto]
theorem upto_upd (f : Nat → Kn) (k : Nat) : updK (upto f k) k (f k) = upto f (k + 1) := by
  funext t
  unfold updK upto
  by_cases h : t = k
  · subst h; rw [if_pos rfl, if_pos (by omega)]
  · rw [if_neg h]
    by_cases h2 : t < k
    · rw [if_pos h2, if_pos (by omega)]
    · rw [if_neg h2, if_neg (by omega)]
theorem upd_upd (f : Nat → Kn) (k : Nat) (a b : Kn) : updK (updK f k a) k b = updK f k b := by
  funext t
  unfold updK
  split <;> rfl
/-- What is drawn from second k on. -/
def from' (f : Nat → Kn) (k t : Nat) : Kn := if k ≤ t then f t else kn0
theorem from_upd (f : Nat → Kn) (k : Nat) : updK (from' f (k + 1)) k (f k) = from' f k := by
  funext t
  unfold updK from'
  by_cases h : t = k
  · subst h; rw [if_pos rfl, if_pos (by omega)]
  · rw [if_neg h]
    by_cases h2 : k + 1 ≤ t
    · rw [if_pos h2, if_pos (by omega)]
    · rw [if_neg h2, if_neg (by omega)]
theorem kArr_congr {f g : Nat → Kn} {n : Nat} (h : ∀ k, k < n → f k = g k) : kArr f n = kArr g n := by
  unfold kArr
  rw [flat_congr (g := rK f) (g' := rK g) fun k hk j _ => by show (f k).c j = (g k).c j; rw [h k hk]]
theorem Ch.congrF {w : World} {sb bb fb cb N : Nat} {p : Vec} {S B F F' : Nat → Kn} (h : Ch w sb bb fb cb N p S B F) (he : ∀ k, k < N → F k = F' k) : Ch w sb bb fb cb N p S B F' where
  s := h.s
  b := h.b
  f := by rw [← kArr_congr he]; exact h.f
  c := h.c
  sb := h.sb
  bf := h.bf
theorem frmF_last (p : Vec) (R : Run) : frmF p R R.e.toNat = seenF R R.e.toNat := by unfold frmF; rw [Nat.sub_self]; rfl
theorem frmF_succ (p : Vec) (R : Run) {i : Nat} (h : i < R.e.toNat) : frmF p R i = meetK (seenF R i) (laterK (frmF p R (i + 1)) (p 111) (p 110)) := by
  unfold frmF
  obtain ⟨d, hd⟩ : ∃ d, R.e.toNat - i = d + 1 := ⟨R.e.toNat - i - 1, by omega⟩
  rw [hd, show R.e.toNat - (i + 1) = d by omega]
  show meetK (seenF R (R.e.toNat - (d + 1))) _ = _
  rw [show R.e.toNat - (d + 1) = i by omega]
end Go.Proofs.Ytbojgcaehlapiaa
