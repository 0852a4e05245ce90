/- Feeds of the reference. -/
import Derived.Test.YtfifdfagikbahaaDoorNu
namespace Go.Proofs.YtfifdfagikbahaaDoor
open Go.RowKit
attribute [local go_sem] Oper.semAt_some
theorem pw6 : pw 6 = 1000000000000000000000000000000000000 := rfl
theorem pw3 : pw 3 = 1000000000000000000 := rfl
set_option maxHeartbeats 2000000 in
set_option maxRecDepth 6000 in
theorem feedsD_any (sh ct fd bd ms x : Nat) (w : World) (h1 : sh ≤ 1000000000) (h2 : ct ≤ 1000000000000) (h3 : fd ≤ 1000000000) (h4 : bd ≤ 1000000000) (h5 : ms ≤ 1000000000) (h6 : x ≤ 1000000000) :
    Calls Tryd.prog 56 #[I (sh : Int), I (ct : Int), I (fd : Int), I (bd : Int), I (ms : Int), I (x : Int)] w fun e w' => e = .returned (I (cm2 ((ct * 1000000 + fd * x) * sh) (bd * (ms + x) * 10000))) ∧ Below w.heap.size w w' := by
  have hfx : fd * x ≤ 1000000000 * 1000000000 := Nat.mul_le_mul h3 h6
  have hbx : bd * (ms + x) ≤ 1000000000 * 2000000000 := Nat.mul_le_mul h4 (by omega)
  have hd0 : Dig [] := fun x hx => by cases hx
  have c1 := sumsD_any 6 (by decide) (by decide) [] ct 1000000 none 0 w.heap.size w hd0 (by decide) (by rw [pw3]; omega) (by rw [pw3]; omega) (by rw [pw6]; show 0 + _ < _; omega) (Nat.le_refl _) Rd.nil
  have C1 := Lib.hid c1
  have w1 : IntKind.i64.wrap ((ms : Int) + (x : Int)) = ((ms + x : Nat) : Int) := by rw [IntWalk.i64_in _ (by omega)]; omega
  clear c1
  go_enter Tryd.func56, Tryd.ntmps56
  go_wp2_with fail
  refine C1.out.mono ?_
  rintro e W1 ⟨v1, o1, rfl, ho1, hl1, hv1, hs1, hb1⟩
  have hv1' : val o1 = ct * 1000000 := by rw [hv1]; show 0 + _ = _; omega
  obtain ⟨A1, k1, rfl, _, _, hr1⟩ := hs1.rd
  have C2 := Lib.hid (sumsD_any 6 (by decide) (by decide) o1 fd x A1 k1 W1.heap.size W1 ho1 hl1 (by rw [pw3]; omega) (by rw [pw3]; omega) (by rw [hv1', pw6]; omega) (Nat.le_refl _) hr1)
  have Hb1 := Lib.hid hb1
  have z1 := hb1.size
  clear hb1 hs1 hr1 C1 hv1
  go_wp2_with fail
  refine C2.out.mono ?_
  rintro e W2 ⟨v2, o2, rfl, ho2, hl2, hv2, hs2, hb2⟩
  rw [hv1'] at hv2
  obtain ⟨A2, k2, rfl, _, _, hr2⟩ := hs2.rd
  have C3 := Lib.hid (productD_any o2 sh A2 k2 W2.heap.size W2 ho2 hl2 (by rw [pw3]; omega) (Nat.le_refl _) hr2)
  have Hb2 : Hid (Below w.heap.size w W2) := Hb1.out.trans (hb2.mono z1)
  have z2 := Hb2.out.size
  clear hb2 hs2 hr2 C2
  go_wp2_with fail
  refine C3.out.mono ?_
  rintro e W3 ⟨v3, o3, rfl, ho3, hl3, hv3, hs3, hb3⟩
  rw [hv2] at hv3
  obtain ⟨A3, k3, rfl, _, _, hr3⟩ := hs3.rd
  have Hb3 : Hid (Below w.heap.size w W3) := Hb2.out.trans (hb3.mono z2)
  have z3 := Hb3.out.size
  have C4 := Lib.hid (sumsD_any 6 (by decide) (by decide) [] bd (ms + x) none 0 W3.heap.size W3 hd0 (by decide) (by rw [pw3]; omega) (by rw [pw3]; omega) (by rw [pw6]; show 0 + _ < _; omega) (Nat.le_refl _) Rd.nil)
  have Hr3 := Lib.hid hr3
  clear hb3 hs3 hr3 C3
  go_wp2_with fail
  refine C4.out.mono ?_
  rintro e W4 ⟨v4, o4, rfl, ho4, hl4, hv4, hs4, hb4⟩
  have hv4' : val o4 = bd * (ms + x) := by rw [hv4]; show 0 + _ = _; omega
  obtain ⟨A4, k4, rfl, _, _, hr4⟩ := hs4.rd
  have C5 := Lib.hid (productD_any o4 10000 A4 k4 W4.heap.size W4 ho4 hl4 (by rw [pw3]; omega) (Nat.le_refl _) hr4)
  have Hr3b := Lib.hid (Hr3.out.below hb4)
  have Hb4 : Hid (Below w.heap.size w W4) := Hb3.out.trans (hb4.mono z3)
  have z4 := hb4.size
  clear hb4 hs4 hr4 C4 Hr3 hv4
  go_wp2_with fail
  refine C5.out.mono ?_
  rintro e W5 ⟨v5, o5, rfl, ho5, hl5, hv5, hs5, hb5⟩
  rw [hv4'] at hv5
  obtain ⟨A5, k5, rfl, _, _, hr5⟩ := hs5.rd
  have z5 := hb5.size
  have C6 := compareD_any o3 o5 A3 A5 k3 k5 W5.heap.size W5 ho3 ho5 (by omega) (by omega) (Nat.le_refl _) ((Hr3b.out.below (hb5.mono z4)).more (by omega)) hr5
  rw [hv3, hv5] at C6
  have C6' := Lib.hid C6
  have Hb5 : Hid (Below w.heap.size w W5) := Hb4.out.trans (hb5.mono (by omega))
  have z6 := Hb5.out.size
  clear hb5 hs5 hr5 C5 C6 hv5 hv3
  go_wp2_with fail
  refine C6'.out.mono ?_
  rintro e W6 ⟨rfl, hb6⟩
  have Hb6 : Hid (Below w.heap.size w W6) := Hb5.out.trans (hb6.mono z6)
  clear hb6
  go_wp2_with fail
  go_ret
  exact ⟨rfl, Hb6.out⟩
end Go.Proofs.YtfifdfagikbahaaDoor
