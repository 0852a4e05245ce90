/- Whether a content of a slice lies in a target: over, below, meets, some; the concentration of a slice. -/
import Derived.Test.YtfifdfagikbahaaDoorNd
import Derived.Test.YtfifdfagikbahaaDoorMr
import Derived.Test.YtfifdfagikbahaaDoorNf
import Derived.Test.YtfifdfagikbahaaDoorNoa
import Derived.Test.YtfifdfagikbahaaDoorNh
import Derived.Test.YtfifdfagikbahaaDoorCm2
import Derived.Test.YtfifdfagikbahaaDoorNg
namespace Go.Proofs.YtfifdfagikbahaaDoor
open Go.RowKit
attribute [local go_sem] Oper.semAt_some
def ovB (c ms k : Int) : Bool := decide (k * ms < c * 1000000)
def blB (c ms k : Int) : Bool := decide (c * 1000000 < k * ms)
def mtB (c ms : Int) (t : Rng) : Bool := !ovB c ms t.hi && !blB c ms t.lo
/-- The least content that is not below a target. -/
def lsN (lo ms : Int) (t : Rng) : Int := max (upF t.lo ms 1000000) lo
def smB (lo hi ms : Int) (t : Rng) : Bool := decide (lsN lo ms t ≤ hi) && !ovB (lsN lo ms t) ms t.hi
/-- The grade of a slice. -/
def gdF (lo hi ms : Int) (t : Rng) : Int := if mtB lo ms t && mtB hi ms t then 1 else if smB lo hi ms t then 2 else 3
theorem slOver_any (c ms k : Int) (w : World) (h1 : 0 ≤ c ∧ c ≤ 1000000000000000) (h2 : 0 ≤ ms ∧ ms ≤ 1000000000) (h3 : 0 ≤ k ∧ k ≤ 1000000000000) : Calls Tryd.prog 87 #[I c, I ms, I k] w fun e w' => e = .returned (.bool (ovB c ms k)) ∧ Below w.heap.size w w' := by
  obtain ⟨c, rfl⟩ : ∃ q : Nat, c = q := ⟨c.toNat, by omega⟩
  obtain ⟨ms, rfl⟩ : ∃ q : Nat, ms = q := ⟨ms.toNat, by omega⟩
  obtain ⟨k, rfl⟩ : ∃ q : Nat, k = q := ⟨k.toNat, by omega⟩
  have p1 : Hid (∀ W, Calls Tryd.prog 75 #[I (c : Int), I 1000000] W fun e w' => e = .returned (wN (c * 1000000)) ∧ Below W.heap.size W w') := fun W => wprod_any c 1000000 W (by omega) (by decide)
  have p2 : Hid (∀ W, Calls Tryd.prog 75 #[I (k : Int), I (ms : Int)] W fun e w' => e = .returned (wN (k * ms)) ∧ Below W.heap.size W w') := fun W => wprod_any k ms W (by omega) (by omega)
  have p3 : Hid (∀ W, Calls Tryd.prog 78 #[wN (c * 1000000), wN (k * ms)] W fun e w' => e = .returned (I (cmN (c * 1000000) (k * ms))) ∧ Below W.heap.size W w') := fun W => wcmp_any _ _ W
  have e1 : ((k * ms : Nat) : Int) = (k : Int) * (ms : Int) := Int.natCast_mul _ _
  have e2 : ((c * 1000000 : Nat) : Int) = (c : Int) * 1000000 := Int.natCast_mul _ _
  obtain ⟨P1, hP1⟩ : ∃ q, wN (c * 1000000) = q := ⟨_, rfl⟩
  obtain ⟨P2, hP2⟩ : ∃ q, wN (k * ms) = q := ⟨_, rfl⟩
  simp only [hP1] at p1 p3
  simp only [hP2] at p2 p3
  clear hP1 hP2
  obtain ⟨q, hq⟩ : ∃ q, cmN (c * 1000000) (k * ms) = q := ⟨_, rfl⟩
  obtain ⟨b, hb⟩ : ∃ b, ovB (c : Int) (ms : Int) (k : Int) = b := ⟨_, rfl⟩
  have d1 : decide (0 < q) = b := by
    rw [← hb, ← hq]
    unfold ovB cmN
    congr 1
    apply propext
    split
    · omega
    · split <;> omega
  simp only [hq] at p3
  rw [hb]
  clear hb hq
  clear e1 e2 h1 h2 h3
  have hB : Hid (Below w.heap.size w w) := Below.refl _ _
  go_enter Tryd.func87, Tryd.ntmps87
  go_wp2_with fail
  refine (p1.out _).mono ?_
  rintro e w1 ⟨rfl, hb1⟩
  have H1 := Lib.hid hb1
  have z1 := hb1.size
  clear hb1
  go_wp2_with fail
  refine (p2.out _).mono ?_
  rintro e w2 ⟨rfl, hb2⟩
  have H2 : Hid (Below w.heap.size w w2) := H1.out.trans (hb2.mono z1)
  have z2 := H2.out.size
  clear hb2
  go_wp2_with fail
  refine (p3.out _).mono ?_
  rintro e w3 ⟨rfl, hb3⟩
  have H3 : Hid (Below w.heap.size w w3) := H2.out.trans (hb3.mono z2)
  clear hb3
  go_wp2_with fail
  go_ret
  exact ⟨rfl, H3.out⟩
theorem slBelow_any (c ms k : Int) (w : World) (h1 : 0 ≤ c ∧ c ≤ 1000000000000000) (h2 : 0 ≤ ms ∧ ms ≤ 1000000000) (h3 : 0 ≤ k ∧ k ≤ 1000000000000) : Calls Tryd.prog 88 #[I c, I ms, I k] w fun e w' => e = .returned (.bool (blB c ms k)) ∧ Below w.heap.size w w' := by
  obtain ⟨c, rfl⟩ : ∃ q : Nat, c = q := ⟨c.toNat, by omega⟩
  obtain ⟨ms, rfl⟩ : ∃ q : Nat, ms = q := ⟨ms.toNat, by omega⟩
  obtain ⟨k, rfl⟩ : ∃ q : Nat, k = q := ⟨k.toNat, by omega⟩
  have p1 : Hid (∀ W, Calls Tryd.prog 75 #[I (c : Int), I 1000000] W fun e w' => e = .returned (wN (c * 1000000)) ∧ Below W.heap.size W w') := fun W => wprod_any c 1000000 W (by omega) (by decide)
  have p2 : Hid (∀ W, Calls Tryd.prog 75 #[I (k : Int), I (ms : Int)] W fun e w' => e = .returned (wN (k * ms)) ∧ Below W.heap.size W w') := fun W => wprod_any k ms W (by omega) (by omega)
  have p3 : Hid (∀ W, Calls Tryd.prog 78 #[wN (c * 1000000), wN (k * ms)] W fun e w' => e = .returned (I (cmN (c * 1000000) (k * ms))) ∧ Below W.heap.size W w') := fun W => wcmp_any _ _ W
  have e1 : ((k * ms : Nat) : Int) = (k : Int) * (ms : Int) := Int.natCast_mul _ _
  have e2 : ((c * 1000000 : Nat) : Int) = (c : Int) * 1000000 := Int.natCast_mul _ _
  obtain ⟨P1, hP1⟩ : ∃ q, wN (c * 1000000) = q := ⟨_, rfl⟩
  obtain ⟨P2, hP2⟩ : ∃ q, wN (k * ms) = q := ⟨_, rfl⟩
  simp only [hP1] at p1 p3
  simp only [hP2] at p2 p3
  clear hP1 hP2
  obtain ⟨q, hq⟩ : ∃ q, cmN (c * 1000000) (k * ms) = q := ⟨_, rfl⟩
  obtain ⟨b, hb⟩ : ∃ b, blB (c : Int) (ms : Int) (k : Int) = b := ⟨_, rfl⟩
  have d1 : decide (q < 0) = b := by
    rw [← hb, ← hq]
    unfold blB cmN
    congr 1
    apply propext
    split
    · omega
    · split <;> omega
  simp only [hq] at p3
  rw [hb]
  clear hb hq
  clear e1 e2 h1 h2 h3
  have hB : Hid (Below w.heap.size w w) := Below.refl _ _
  go_enter Tryd.func88, Tryd.ntmps88
  go_wp2_with fail
  refine (p1.out _).mono ?_
  rintro e w1 ⟨rfl, hb1⟩
  have H1 := Lib.hid hb1
  have z1 := hb1.size
  clear hb1
  go_wp2_with fail
  refine (p2.out _).mono ?_
  rintro e w2 ⟨rfl, hb2⟩
  have H2 : Hid (Below w.heap.size w w2) := H1.out.trans (hb2.mono z1)
  have z2 := H2.out.size
  clear hb2
  go_wp2_with fail
  refine (p3.out _).mono ?_
  rintro e w3 ⟨rfl, hb3⟩
  have H3 : Hid (Below w.heap.size w w3) := H2.out.trans (hb3.mono z2)
  clear hb3
  go_wp2_with fail
  go_ret
  exact ⟨rfl, H3.out⟩
theorem slMeets_any (c ms : Int) (t : Rng) (w : World) (h1 : 0 ≤ c ∧ c ≤ 1000000000000000) (h2 : 0 ≤ ms ∧ ms ≤ 1000000000) (h3 : rgB t 1000000000000 = true) : Calls Tryd.prog 64 #[I c, I ms, .agg #[I t.lo, I t.hi]] w fun e w' => e = .returned (.bool (mtB c ms t)) ∧ Below w.heap.size w w' := by
  have hr := rgB_iff.1 h3
  obtain ⟨lo, hi⟩ := t
  have p1 : Hid (∀ W, Calls Tryd.prog 87 #[I c, I ms, I hi] W fun e w' => e = .returned (.bool (ovB c ms hi)) ∧ Below W.heap.size W w') := fun W => slOver_any c ms hi W h1 h2 (by have := hr; simp only at this; omega)
  have p2 : Hid (∀ W, Calls Tryd.prog 88 #[I c, I ms, I lo] W fun e w' => e = .returned (.bool (blB c ms lo)) ∧ Below W.heap.size W w') := fun W => slBelow_any c ms lo W h1 h2 (by have := hr; simp only at this; omega)
  show Calls _ _ _ _ fun e w' => e = .returned (.bool (!ovB c ms hi && !blB c ms lo)) ∧ _
  obtain ⟨b1, hb1⟩ : ∃ b, ovB c ms hi = b := ⟨_, rfl⟩
  obtain ⟨b2, hb2⟩ : ∃ b, blB c ms lo = b := ⟨_, rfl⟩
  simp only [hb1] at p1 ⊢
  simp only [hb2] at p2 ⊢
  have hB : Hid (Below w.heap.size w (w.alloc (.cells #[I lo, I hi] 23))) := (Below.refl _ _).alloc (Nat.le_refl _) _
  clear hb1 hb2 hr h1 h2 h3
  go_enter Tryd.func64, Tryd.ntmps64
  go_wp2_with fail
  refine (p1.out _).mono ?_
  rintro e w1 ⟨rfl, hb⟩
  have H1 : Hid (Below w.heap.size w w1) := hB.out.trans (hb.mono hB.out.size)
  have r1 := (hb.block w.heap.size (by simp)).trans (heap_last w (.cells #[I lo, I hi] 23) _ rfl)
  have z1 : w1.cell? ⟨w.heap.size, 0, none⟩ = some (I lo) := by rw [cell_of_row _ _ _ _ _ _ r1]; rfl
  have s1 := H1.out.size
  clear hb r1
  rcases b1 with _ | _
  · go_wp2_with fail
    refine (p2.out _).mono ?_
    rintro e w2 ⟨rfl, hb⟩
    have H2 : Hid (Below w.heap.size w w2) := H1.out.trans (hb.mono s1)
    clear hb
    go_wp2_with fail
    go_ret
    exact ⟨rfl, H2.out⟩
  · go_wp2_with fail
    go_ret
    exact ⟨rfl, H1.out⟩
theorem md_full {a b c how : Int} (hw : 1 ≤ how ∧ how ≤ 3) (ha : numB a = true) (hb : numB b = true) (hc : 1 ≤ c ∧ c ≤ 1000000000000000) : mdF a b c how = if numB (rnd (a * b) c how).1 then ((rnd (a * b) c how).1, (rnd (a * b) c how).2, 0) else (0, 0, 10) := by
  unfold mdF
  rw [if_neg (by omega), if_neg (by
    rintro (h | h | h)
    · rw [ha, hb] at h; exact absurd h (by decide)
    · omega
    · omega)]
theorem up_bd {lo ms : Int} (h1 : 0 ≤ lo ∧ lo ≤ 1000000000000) (h2 : 0 ≤ ms ∧ ms ≤ 1000000000) : 0 ≤ upF lo ms 1000000 ∧ upF lo ms 1000000 ≤ 1000000000000000 ∧ lo * ms ≤ upF lo ms 1000000 * 1000000 := by
  have a := Int.mul_nonneg h1.1 h2.1
  have b : lo * ms ≤ 1000000000000 * 1000000000 := Int.mul_le_mul h1.2 h2.2 h2.1 (by omega)
  unfold upF
  generalize lo * ms = p at *
  split <;> omega
theorem slSome_any (c0 c1 ms : Int) (t : Rng) (w : World) (h1 : 0 ≤ c0 ∧ c0 ≤ 1000000000000000) (h2 : 0 ≤ ms ∧ ms ≤ 1000000000) (h3 : rgB t 1000000000000 = true) : Calls Tryd.prog 65 #[.agg #[I c0, I c1], I ms, .agg #[I t.lo, I t.hi]] w fun e w' => e = .returned (.bool (smB c0 c1 ms t)) ∧ Below w.heap.size w w' := by
  have hr := rgB_iff.1 h3
  obtain ⟨lo, hi⟩ := t
  simp only at hr
  have hu := up_bd (lo := lo) (ms := ms) (by omega) h2
  have hp1 : 0 ≤ lo * ms := Int.mul_nonneg hr.1 h2.1
  have hm : mdF lo ms 1000000 2 = (upF lo ms 1000000, (rnd (lo * ms) 1000000 2).2, 0) := by
    rw [md_full (by omega) (numB_iff.2 (by omega)) (numB_iff.2 (by omega)) (by omega), if_pos (numB_iff.2 (by rw [rnd_two (by omega)]; have := hu; unfold upF at this; omega)), rnd_two (by omega)]
    rfl
  have p1 : Hid (∀ W, Calls Tryd.prog 63 #[I lo, I ms, I 1000000, .int .u8 2] W (RetMd W (mdF lo ms 1000000 2))) := fun W => muldiv_any lo ms 1000000 2 W (by omega) (by omega) (by omega)
  rw [hm] at p1
  have hN : lsN c0 ms ⟨lo, hi⟩ = max (upF lo ms 1000000) c0 := rfl
  have p2 : Hid (∀ W, Calls Tryd.prog 87 #[I (lsN c0 ms ⟨lo, hi⟩), I ms, I hi] W fun e w' => e = .returned (.bool (ovB (lsN c0 ms ⟨lo, hi⟩) ms hi)) ∧ Below W.heap.size W w') := fun W => slOver_any _ ms hi W (by rw [hN]; omega) h2 (by omega)
  show Calls _ _ _ _ fun e w' => e = .returned (.bool (decide (lsN c0 ms ⟨lo, hi⟩ ≤ c1) && !ovB (lsN c0 ms ⟨lo, hi⟩) ms hi)) ∧ _
  obtain ⟨n, hn⟩ : ∃ q, lsN c0 ms ⟨lo, hi⟩ = q := ⟨_, rfl⟩
  obtain ⟨u, hu'⟩ : ∃ q, upF lo ms 1000000 = q := ⟨_, rfl⟩
  obtain ⟨r, hr'⟩ : ∃ q, (rnd (lo * ms) 1000000 2).2 = q := ⟨_, rfl⟩
  rw [hn, hu'] at hN
  simp only [hn] at p2 ⊢
  simp only [hu', hr'] at p1
  obtain ⟨b2, hb2⟩ : ∃ b, ovB n ms hi = b := ⟨_, rfl⟩
  simp only [hb2] at p2 ⊢
  have w1 : (if c0 ≤ u then u else c0) = n := by rw [hN]; split <;> omega
  have w2 : (if u ≤ c0 then c0 else u) = n := by rw [hN]; split <;> omega
  have w3 : max u c0 = n := hN.symm
  clear hb2 hn hu' hr' hN hm hr hu hp1 h1 h2 h3
  obtain ⟨W, hW⟩ : ∃ W, W = (w.alloc (.cells #[I c0, I c1] 23)).alloc (.cells #[I lo, I hi] 23) := ⟨_, rfl⟩
  have hB : Hid (Below w.heap.size w W) := by show Below _ _ _; rw [hW]; exact ((Below.refl _ _).alloc (Nat.le_refl _) _).alloc (by simp) _
  have r0 : Hid (∀ W', Below W.heap.size W W' → W'.heap[w.heap.size]? = some (.cells #[I c0, I c1] 23 (0, 0)) ∧ W'.heap[w.heap.size + 1]? = some (.cells #[I lo, I hi] 23 (0, 0))) := fun W' h => by
    have hs : w.heap.size + 2 = W.heap.size := by rw [hW]; simp
    exact ⟨(h.block _ (by omega)).trans (by rw [hW]; exact heap_before (heap_last _ _ _ rfl)), (h.block _ (by omega)).trans (by rw [hW]; exact heap_last _ _ _ (by simp))⟩
  have y1 : W.cell? ⟨w.heap.size + 1, 0, none⟩ = some (I lo) := by rw [cell_of_row _ _ _ _ _ _ (r0.out W (Below.refl _ _)).2]; rfl
  have HW := Lib.hid hW
  clear hW
  go_enter Tryd.func65, Tryd.ntmps65
  go_upto_region 1 with (fail)
  rw [← HW.out]
  go_wp2_with fail
  refine (p1.out _).mono ?_
  rintro e w1 ⟨rfl, hb⟩
  have x0 : w1.cell? ⟨w.heap.size, 0, none⟩ = some (I c0) := by rw [cell_of_row _ _ _ _ _ _ (r0.out w1 hb).1]; rfl
  have x1 : w1.cell? ⟨w.heap.size, 1, none⟩ = some (I c1) := by rw [cell_of_row _ _ _ _ _ _ (r0.out w1 hb).1]; rfl
  have x3 : w1.cell? ⟨w.heap.size + 1, 1, none⟩ = some (I hi) := by rw [cell_of_row _ _ _ _ _ _ (r0.out w1 hb).2]; rfl
  have H1 : Hid (Below w.heap.size w w1) := hB.out.trans (hb.mono hB.out.size)
  have s1 := H1.out.size
  clear hb y1
  go_upto_region 5 with (fail)
  try simp only [w1, w2, w3]
  by_cases hle : n ≤ c1
  · have d1 : decide (n ≤ c1) = true := decide_eq_true hle
    go_wp2_with fail
    refine (p2.out _).mono ?_
    rintro e w2 ⟨rfl, hb⟩
    have H2 : Hid (Below w.heap.size w w2) := H1.out.trans (hb.mono s1)
    clear hb
    go_wp2_with fail
    go_ret
    exact ⟨by (first | rfl | (rw [d1]; rfl)), H2.out⟩
  · have d1 : decide (n ≤ c1) = false := decide_eq_false hle
    go_wp2_with fail
    go_ret
    exact ⟨by (first | rfl | (rw [d1]; rfl)), H1.out⟩
/-- The concentration of a slice, or its error. -/
def cnF (lo hi ms : Int) : Int × Int × Int := if upF hi 1000000 ms ≤ 1000000000000000 then (lo * 1000000 / ms, upF hi 1000000 ms, 0) else (0, 0, 10)
end Go.Proofs.YtfifdfagikbahaaDoor
/- The concentration of a slice; Concentration, Meets and Grade of the reference. -/
namespace Go.Proofs.YtfifdfagikbahaaDoor
open Go.RowKit
attribute [local go_sem] Oper.semAt_some
theorem U1 {w W : World} {a : Obj} (h : W = w.alloc a) (u : World) : Below w.heap.size w (ovr W u) := by subst h; exact under2 (ovr_below _ _)
theorem U2 {w W : World} {a b : Obj} (h : W = (w.alloc a).alloc b) (u : World) : Below w.heap.size w (ovr W u) := by subst h; exact under2 (under2 (ovr_below _ _))
theorem up_bd2 {a ms : Int} (h1 : 0 ≤ a ∧ a ≤ 1000000000000) (h2 : 1 ≤ ms) : 0 ≤ a * 1000000 / ms ∧ a * 1000000 / ms ≤ 1000000000000000000 ∧ (upF a 1000000 ms = a * 1000000 / ms ∨ upF a 1000000 ms = a * 1000000 / ms + 1) := by
  have h0 : 0 ≤ a * 1000000 / ms := Int.ediv_nonneg (by omega) (by omega)
  refine ⟨h0, ?_, ?_⟩
  · refine Int.ediv_le_of_le_mul (by omega) ?_
    have : (1000000000000000000 : Int) * 1 ≤ 1000000000000000000 * ms := Int.mul_le_mul_of_nonneg_left h2 (by omega)
    omega
  · unfold upF
    split
    · exact .inl rfl
    · exact .inr rfl
theorem up_mono {a b ms : Int} (h : a ≤ b) (h2 : 1 ≤ ms) : a * 1000000 / ms ≤ upF b 1000000 ms := by
  have : a * 1000000 / ms ≤ b * 1000000 / ms := Int.ediv_le_ediv (by omega) (by omega)
  unfold upF
  split <;> omega
/-- The concentration that is returned, with its error. -/
def cnA (lo hi ms s : Int) : Int × Int × Int := if spB s then (if wiB ms 1 1000000000 && rgB ⟨lo, hi⟩ 1000000000000 then cnF lo hi ms else (0, 0, 2)) else (0, 0, 7)
abbrev frArr (ms : Int) (ct : Nat → Int) : Array Value := #[I ms, I (ct 0), I (ct 1), I (ct 2), I (ct 3), I (ct 4), I (ct 5)]
theorem fr_at {W : World} {q : Nat} {t : TypeId} {ms : Int} {ct : Nat → Int} (h : W.heap[q]? = some (.cells (frArr ms ct) t (0, 0))) {s : Nat} (hs : s < 3) : W.cell? ⟨q, 1 + s * 2, none⟩ = some (I (ct (s * 2))) ∧ W.cell? ⟨q, 1 + s * 2 + 1, none⟩ = some (I (ct (s * 2 + 1))) := by
  rw [cell_of_row _ _ _ _ _ _ h, cell_of_row _ _ _ _ _ _ h]
  match s, hs with
  | 0, _ => exact ⟨rfl, rfl⟩
  | 1, _ => exact ⟨rfl, rfl⟩
  | 2, _ => exact ⟨rfl, rfl⟩
set_option maxRecDepth 100000 in
set_option maxHeartbeats 2000000 in
theorem concentration_any (ms : Int) (ct : Nat → Int) (s : Int) (w : World) :
    Calls Tryd.prog 34 #[.agg (frArr ms ct), I s] w fun e w' => e = .returned (.tuple #[.agg #[I (cnA (ct (s.toNat * 2)) (ct (s.toNat * 2 + 1)) ms s).1, I (cnA (ct (s.toNat * 2)) (ct (s.toNat * 2 + 1)) ms s).2.1], I (cnA (ct (s.toNat * 2)) (ct (s.toNat * 2 + 1)) ms s).2.2]) ∧ Below w.heap.size w w' := by
  have p0 : Hid (∀ W, Calls Tryd.prog 48 #[I s] W fun e w' => e = .returned (.bool (spB s)) ∧ Below W.heap.size W w') := fun W => isSpecies_any s W
  obtain ⟨q, hq⟩ : ∃ q, cnA (ct (s.toNat * 2)) (ct (s.toNat * 2 + 1)) ms s = q := ⟨_, rfl⟩
  have hz : cnA (ct (s.toNat * 2)) (ct (s.toNat * 2 + 1)) ms s = q := hq
  rw [hq]
  clear hq
  unfold cnA at hz
  obtain ⟨W, hW⟩ : ∃ W, W = ((w.alloc (.cells #[I ms, I (ct 0), I (ct 1), I (ct 2), I (ct 3), I (ct 4), I (ct 5)] 60)).alloc (.cells #[I 0, I 0] 23)) := ⟨_, rfl⟩
  have rowW0 : W.heap[w.heap.size]? = some (.cells #[I ms, I (ct 0), I (ct 1), I (ct 2), I (ct 3), I (ct 4), I (ct 5)] 60 (0, 0)) := by rw [hW]; exact heap_before (heap_last _ _ _ rfl)
  have yW00 := ovr_cell (W := W) (b := w.heap.size) (o := 0) (v := I ms) (by rw [cell_of_row _ _ _ _ _ _ rowW0]; rfl)
  have yW01 := ovr_cell (W := W) (b := w.heap.size) (o := 1) (v := I (ct 0)) (by rw [cell_of_row _ _ _ _ _ _ rowW0]; rfl)
  have yW02 := ovr_cell (W := W) (b := w.heap.size) (o := 2) (v := I (ct 1)) (by rw [cell_of_row _ _ _ _ _ _ rowW0]; rfl)
  have yW03 := ovr_cell (W := W) (b := w.heap.size) (o := 3) (v := I (ct 2)) (by rw [cell_of_row _ _ _ _ _ _ rowW0]; rfl)
  have yW04 := ovr_cell (W := W) (b := w.heap.size) (o := 4) (v := I (ct 3)) (by rw [cell_of_row _ _ _ _ _ _ rowW0]; rfl)
  have yW05 := ovr_cell (W := W) (b := w.heap.size) (o := 5) (v := I (ct 4)) (by rw [cell_of_row _ _ _ _ _ _ rowW0]; rfl)
  have yW06 := ovr_cell (W := W) (b := w.heap.size) (o := 6) (v := I (ct 5)) (by rw [cell_of_row _ _ _ _ _ _ rowW0]; rfl)
  have RrowW0 := Lib.hid (ovr_row rowW0)
  clear rowW0
  have rowW1 : W.heap[w.heap.size + 1]? = some (.cells #[I 0, I 0] 23 (0, 0)) := by rw [hW]; exact heap_last _ _ _ (by simp)
  have yW10 := ovr_cell (W := W) (b := w.heap.size + 1) (o := 0) (v := I 0) (by rw [cell_of_row _ _ _ _ _ _ rowW1]; rfl)
  have yW11 := ovr_cell (W := W) (b := w.heap.size + 1) (o := 1) (v := I 0) (by rw [cell_of_row _ _ _ _ _ _ rowW1]; rfl)
  have RrowW1 := Lib.hid (ovr_row rowW1)
  clear rowW1
  have HUW : Hid (∀ u, Below w.heap.size w (ovr W u)) := U2 hW
  have HW := Lib.hid hW
  clear hW
  by_cases hs : spB s = false
  · have Hz : Hid (q = (0, 0, 7)) := by show _ = _; rw [← hz, if_neg (by rw [hs]; decide)]
    rw [hs] at p0
    go_enter Tryd.func34, Tryd.ntmps34
    go_upto_region 1 with (fail)
    rw [← HW.out]
    obtain ⟨u0, hu0⟩ := ovr_self W
    rw [hu0]
    clear hu0
    go_wp2_with fail
    refine (p0.out _).mono ?_
    rintro e w1 ⟨rfl, hb1⟩
    obtain ⟨u1, rfl⟩ := ovr_next hb1
    clear hb1
    go_wp2_with (refine wpList_store_row rfl 23 _ _ rfl (w.heap.size + 1) rfl _ _ (RrowW1.out _) _ rfl (one2 rfl rfl) rfl (by kernel_rfl) ?_)
    refine bodyPost_ret (results_cell_tmp rfl _ _ (w.heap.size + 1) 23 _ (0, 0) _ rfl (setRow_same (RrowW1.out _)) Tryd.underlying23 rfl (by kernel_rfl)) rfl ?_
    exact ⟨by rw [Hz.out]; rfl, below_setRow (HUW.out _) (by omega) _⟩
  have hs1 : spB s = true := by simpa using hs
  obtain ⟨s, rfl⟩ : ∃ k : Nat, s = k := ⟨s.toNat, by unfold spB at hs1; simp only [Bool.and_eq_true, decide_eq_true_eq] at hs1; omega⟩
  have hs3 : s < 3 := by unfold spB at hs1; simp only [Bool.and_eq_true, decide_eq_true_eq] at hs1; omega
  rw [if_pos hs1] at hz
  rw [Int.toNat_natCast] at hz
  have hsn : decide (s < 3) = true := decide_eq_true hs3
  have hsi : decide ((s : Int) < 3) = true := decide_eq_true (by omega)
  have hs0 : decide (0 ≤ (s : Int)) = true := decide_eq_true (by omega)
  rw [hs1] at p0
  have z1 : ∀ u, (ovr W u).cell? ⟨w.heap.size, 1 + s * 2, none⟩ = some (I (ct (s * 2))) := fun u => (fr_at (RrowW0.out u) hs3).1
  have z2 : ∀ u, (ovr W u).cell? ⟨w.heap.size, 1 + s * 2 + 1, none⟩ = some (I (ct (s * 2 + 1))) := fun u => (fr_at (RrowW0.out u) hs3).2
  obtain ⟨lo, hlo⟩ : ∃ k, ct (s * 2) = k := ⟨_, rfl⟩
  obtain ⟨hi, hhi⟩ : ∃ k, ct (s * 2 + 1) = k := ⟨_, rfl⟩
  simp only [hlo] at z1 hz
  simp only [hhi] at z2 hz
  have p1 : Hid (∀ W, Calls Tryd.prog 57 #[I ms, I 1, I 1000000000] W fun e w' => e = .returned (.bool (wiB ms 1 1000000000)) ∧ W = w') := fun W => within_any ms 1 1000000000 W
  have p2 : Hid (∀ W, Calls Tryd.prog 49 #[.agg #[I lo, I hi], I 1000000000000] W fun e w' => e = .returned (.bool (rgB ⟨lo, hi⟩ 1000000000000)) ∧ Below W.heap.size W w') := fun W => isRange_any ⟨lo, hi⟩ _ W
  clear hs hs1 hlo hhi
  by_cases hw : wiB ms 1 1000000000 = false
  · have Hz : Hid (q = (0, 0, 2)) := by show _ = _; rw [← hz, if_neg (by rw [hw]; simp)]
    rw [hw] at p1
    clear hz hw
    go_enter Tryd.func34, Tryd.ntmps34
    go_upto_region 1 with (fail)
    rw [← HW.out]
    obtain ⟨u0, hu0⟩ := ovr_self W
    rw [hu0]
    clear hu0
    go_wp2_with fail
    refine (p0.out _).mono ?_
    rintro e w1 ⟨rfl, hb1⟩
    obtain ⟨u1, rfl⟩ := ovr_next hb1
    clear hb1
    go_wp2_with fail
    refine (p1.out _).mono ?_
    rintro e w1 ⟨rfl, rfl⟩
    go_wp2_with (refine wpList_store_row rfl 23 _ _ rfl (w.heap.size + 1) rfl _ _ (RrowW1.out _) _ rfl (one2 rfl rfl) rfl (by kernel_rfl) ?_)
    refine bodyPost_ret (results_cell_tmp rfl _ _ (w.heap.size + 1) 23 _ (0, 0) _ rfl (setRow_same (RrowW1.out _)) Tryd.underlying23 rfl (by kernel_rfl)) rfl ?_
    exact ⟨by rw [Hz.out]; rfl, below_setRow (HUW.out _) (by omega) _⟩
  have hw1 : wiB ms 1 1000000000 = true := by simpa using hw
  rw [hw1] at p1 hz
  by_cases hr : rgB ⟨lo, hi⟩ 1000000000000 = false
  · have Hz : Hid (q = (0, 0, 2)) := by show _ = _; rw [← hz, if_neg (by rw [hr]; simp)]
    rw [hr] at p2
    clear hz hw hw1 hr
    go_enter Tryd.func34, Tryd.ntmps34
    go_upto_region 1 with (fail)
    rw [← HW.out]
    obtain ⟨u0, hu0⟩ := ovr_self W
    rw [hu0]
    clear hu0
    go_wp2_with fail
    refine (p0.out _).mono ?_
    rintro e w1 ⟨rfl, hb1⟩
    obtain ⟨u1, rfl⟩ := ovr_next hb1
    clear hb1
    go_wp2_with fail
    refine (p1.out _).mono ?_
    rintro e w1 ⟨rfl, rfl⟩
    go_wp2_with fail
    refine (p2.out _).mono ?_
    rintro e w1 ⟨rfl, hb1⟩
    obtain ⟨u2, rfl⟩ := ovr_next hb1
    clear hb1
    go_wp2_with (refine wpList_store_row rfl 23 _ _ rfl (w.heap.size + 1) rfl _ _ (RrowW1.out _) _ rfl (one2 rfl rfl) rfl (by kernel_rfl) ?_)
    refine bodyPost_ret (results_cell_tmp rfl _ _ (w.heap.size + 1) 23 _ (0, 0) _ rfl (setRow_same (RrowW1.out _)) Tryd.underlying23 rfl (by kernel_rfl)) rfl ?_
    exact ⟨by rw [Hz.out]; rfl, below_setRow (HUW.out _) (by omega) _⟩
  have hr1 : rgB ⟨lo, hi⟩ 1000000000000 = true := by simpa using hr
  rw [hr1] at p2 hz
  rw [if_pos (by rfl)] at hz
  have hrr := rgB_iff.1 hr1
  simp only at hrr
  have hmm : 1 ≤ ms ∧ ms ≤ 1000000000 := by unfold wiB at hw1; simp only [Bool.and_eq_true, decide_eq_true_eq] at hw1; omega
  have hb1 := up_bd2 (a := lo) (ms := ms) (by omega) hmm.1
  have hb2 := up_bd2 (a := hi) (ms := ms) (by omega) hmm.1
  have hmo := up_mono (a := lo) (b := hi) (ms := ms) (by omega) hmm.1
  have m1 : mdF lo 1000000 ms 1 = if numB (lo * 1000000 / ms) then (lo * 1000000 / ms, (rnd (lo * 1000000) ms 1).2, 0) else (0, 0, 10) := by
    rw [md_full (by omega) (numB_iff.2 (by omega)) (numB_iff.2 (by omega)) (by omega), rnd_one]
  have m2 : mdF hi 1000000 ms 2 = if numB (upF hi 1000000 ms) then (upF hi 1000000 ms, (rnd (hi * 1000000) ms 2).2, 0) else (0, 0, 10) := by
    rw [md_full (by omega) (numB_iff.2 (by omega)) (numB_iff.2 (by omega)) (by omega), rnd_two (by omega)]
    rfl
  have p3 : Hid (∀ W, Calls Tryd.prog 63 #[I lo, I 1000000, I ms, .int .u8 1] W fun e w' => e = .returned (.tuple #[I (mdF lo 1000000 ms 1).1, I (mdF lo 1000000 ms 1).2.1, I (mdF lo 1000000 ms 1).2.2]) ∧ Below W.heap.size W w') := fun W => muldiv_any lo 1000000 ms 1 W (by omega) (by omega) (by omega)
  have p4 : Hid (∀ W, Calls Tryd.prog 63 #[I hi, I 1000000, I ms, .int .u8 2] W fun e w' => e = .returned (.tuple #[I (mdF hi 1000000 ms 2).1, I (mdF hi 1000000 ms 2).2.1, I (mdF hi 1000000 ms 2).2.2]) ∧ Below W.heap.size W w') := fun W => muldiv_any hi 1000000 ms 2 W (by omega) (by omega) (by omega)
  unfold cnF at hz
  by_cases hle : upF hi 1000000 ms ≤ 1000000000000000
  · rw [if_pos hle] at hz
    rw [if_pos (numB_iff.2 (by omega))] at m1 m2
    simp only [m1] at p3
    simp only [m2] at p4
    obtain ⟨v1, h1⟩ : ∃ v, lo * 1000000 / ms = v := ⟨_, rfl⟩
    obtain ⟨v2, h2⟩ : ∃ v, upF hi 1000000 ms = v := ⟨_, rfl⟩
    obtain ⟨r1, h3⟩ : ∃ v, (rnd (lo * 1000000) ms 1).2 = v := ⟨_, rfl⟩
    obtain ⟨r2, h4⟩ : ∃ v, (rnd (hi * 1000000) ms 2).2 = v := ⟨_, rfl⟩
    simp only [h1, h3] at p3
    simp only [h2, h4] at p4
    have Hz : Hid (q = (v1, v2, 0)) := by show _ = _; rw [← hz, h1, h2]
    clear hz hw hw1 hr hr1 hrr hmm hb1 hb2 hmo m1 m2 hle h1 h2 h3 h4
    go_enter Tryd.func34, Tryd.ntmps34
    go_upto_region 1 with (fail)
    rw [← HW.out]
    obtain ⟨u0, hu0⟩ := ovr_self W
    rw [hu0]
    clear hu0
    go_wp2_with fail
    refine (p0.out _).mono ?_
    rintro e w1 ⟨rfl, hb1⟩
    obtain ⟨u1, rfl⟩ := ovr_next hb1
    clear hb1
    go_wp2_with fail
    refine (p1.out _).mono ?_
    rintro e w1 ⟨rfl, rfl⟩
    go_wp2_with fail
    refine (p2.out _).mono ?_
    rintro e w1 ⟨rfl, hb1⟩
    obtain ⟨u2, rfl⟩ := ovr_next hb1
    clear hb1
    go_upto_region 5 with (fail)
    obtain ⟨V, hV⟩ : ∃ V, V = ovr W u2 := ⟨_, rfl⟩
    rw [← hV]
    have bV : Below W.heap.size W V := by rw [hV]; exact ovr_below _ _
    have q0 := tr_cell (ovr_reB bV) yW00
    have q1 := tr_cell (ovr_reB bV) z1
    have q2 := tr_cell (ovr_reB bV) z2
    clear hV
    refine wp_region_below_lit (by kernel_rfl) (by kernel_rfl) ?_
    repeat (go_big_quiet_step ((go_at_call 63; exact call_below (p3.out _))))
    refine wpQuiet_nil ?_
    intro V2 hb2
    obtain ⟨u3, hu3⟩ : ∃ x, V2 = ovr W x := ⟨V2, ovr_of (bV.trans (hb2.mono bV.size))⟩
    subst hu3
    clear hb2 q0 q1 q2 bV
    go_upto_region 6 with (fail)
    obtain ⟨V, hV⟩ : ∃ V, V = ovr W u3 := ⟨_, rfl⟩
    rw [← hV]
    have bV : Below W.heap.size W V := by rw [hV]; exact ovr_below _ _
    have q0 := tr_cell (ovr_reB bV) yW00
    have q1 := tr_cell (ovr_reB bV) z1
    have q2 := tr_cell (ovr_reB bV) z2
    clear hV
    refine wp_region_below_lit (by kernel_rfl) (by kernel_rfl) ?_
    repeat (go_big_quiet_step ((go_at_call 63; exact call_below (p4.out _))))
    refine wpQuiet_nil ?_
    intro V2 hb2
    obtain ⟨u4, hu4⟩ : ∃ x, V2 = ovr W x := ⟨V2, ovr_of (bV.trans (hb2.mono bV.size))⟩
    subst hu4
    clear hb2 q0 q1 q2 bV
    go_wp2_with (refine wpList_store_row rfl 23 _ _ rfl (w.heap.size + 1) rfl _ _ (RrowW1.out _) _ rfl (one2 rfl rfl) rfl (by kernel_rfl) ?_)
    refine bodyPost_ret (results_cell_tmp rfl _ _ (w.heap.size + 1) 23 _ (0, 0) _ rfl (setRow_same (RrowW1.out _)) Tryd.underlying23 rfl (by kernel_rfl)) rfl ?_
    exact ⟨by rw [Hz.out]; rfl, below_setRow (HUW.out _) (by omega) _⟩
  · rw [if_neg hle] at hz
    have hf : numB (upF hi 1000000 ms) = false := by
      rcases hk : numB (upF hi 1000000 ms) with _ | _
      · rfl
      · have := numB_iff.1 hk; omega
    rw [hf, if_neg (by decide)] at m2
    simp only [m2] at p4
    obtain ⟨v1, h1⟩ : ∃ v, (mdF lo 1000000 ms 1).1 = v := ⟨_, rfl⟩
    obtain ⟨r1, h3⟩ : ∃ v, (mdF lo 1000000 ms 1).2.1 = v := ⟨_, rfl⟩
    obtain ⟨x1, h4⟩ : ∃ v, (mdF lo 1000000 ms 1).2.2 = v := ⟨_, rfl⟩
    simp only [h1, h3, h4] at p3
    have Hz : Hid (q = (0, 0, 10)) := hz.symm
    clear hz hw hw1 hr hr1 hrr hmm hb1 hb2 hmo m1 m2 hle h1 h3 h4 hf
    by_cases hx : x1 = 0
    · subst hx
      go_enter Tryd.func34, Tryd.ntmps34
      go_upto_region 1 with (fail)
      rw [← HW.out]
      obtain ⟨u0, hu0⟩ := ovr_self W
      rw [hu0]
      clear hu0
      go_wp2_with fail
      refine (p0.out _).mono ?_
      rintro e w1 ⟨rfl, hb1⟩
      obtain ⟨u1, rfl⟩ := ovr_next hb1
      clear hb1
      go_wp2_with fail
      refine (p1.out _).mono ?_
      rintro e w1 ⟨rfl, rfl⟩
      go_wp2_with fail
      refine (p2.out _).mono ?_
      rintro e w1 ⟨rfl, hb1⟩
      obtain ⟨u2, rfl⟩ := ovr_next hb1
      clear hb1
      go_upto_region 5 with (fail)
      obtain ⟨V, hV⟩ : ∃ V, V = ovr W u2 := ⟨_, rfl⟩
      rw [← hV]
      have bV : Below W.heap.size W V := by rw [hV]; exact ovr_below _ _
      have q0 := tr_cell (ovr_reB bV) yW00
      have q1 := tr_cell (ovr_reB bV) z1
      have q2 := tr_cell (ovr_reB bV) z2
      clear hV
      refine wp_region_below_lit (by kernel_rfl) (by kernel_rfl) ?_
      repeat (go_big_quiet_step ((go_at_call 63; exact call_below (p3.out _))))
      refine wpQuiet_nil ?_
      intro V2 hb2
      obtain ⟨u3, hu3⟩ : ∃ x, V2 = ovr W x := ⟨V2, ovr_of (bV.trans (hb2.mono bV.size))⟩
      subst hu3
      clear hb2 q0 q1 q2 bV
      go_upto_region 6 with (fail)
      obtain ⟨V, hV⟩ : ∃ V, V = ovr W u3 := ⟨_, rfl⟩
      rw [← hV]
      have bV : Below W.heap.size W V := by rw [hV]; exact ovr_below _ _
      have q0 := tr_cell (ovr_reB bV) yW00
      have q1 := tr_cell (ovr_reB bV) z1
      have q2 := tr_cell (ovr_reB bV) z2
      clear hV
      refine wp_region_below_lit (by kernel_rfl) (by kernel_rfl) ?_
      repeat (go_big_quiet_step ((go_at_call 63; exact call_below (p4.out _))))
      refine wpQuiet_nil ?_
      intro V2 hb2
      obtain ⟨u4, hu4⟩ : ∃ x, V2 = ovr W x := ⟨V2, ovr_of (bV.trans (hb2.mono bV.size))⟩
      subst hu4
      clear hb2 q0 q1 q2 bV
      go_wp2_with (refine wpList_store_row rfl 23 _ _ rfl (w.heap.size + 1) rfl _ _ (RrowW1.out _) _ rfl (one2 rfl rfl) rfl (by kernel_rfl) ?_)
      refine bodyPost_ret (results_cell_tmp rfl _ _ (w.heap.size + 1) 23 _ (0, 0) _ rfl (setRow_same (RrowW1.out _)) Tryd.underlying23 rfl (by kernel_rfl)) rfl ?_
      exact ⟨by rw [Hz.out]; rfl, below_setRow (HUW.out _) (by omega) _⟩
    · have hx1 : (x1 != 0) = true := by simpa using hx
      clear hx
      go_enter Tryd.func34, Tryd.ntmps34
      go_upto_region 1 with (fail)
      rw [← HW.out]
      obtain ⟨u0, hu0⟩ := ovr_self W
      rw [hu0]
      clear hu0
      go_wp2_with fail
      refine (p0.out _).mono ?_
      rintro e w1 ⟨rfl, hb1⟩
      obtain ⟨u1, rfl⟩ := ovr_next hb1
      clear hb1
      go_wp2_with fail
      refine (p1.out _).mono ?_
      rintro e w1 ⟨rfl, rfl⟩
      go_wp2_with fail
      refine (p2.out _).mono ?_
      rintro e w1 ⟨rfl, hb1⟩
      obtain ⟨u2, rfl⟩ := ovr_next hb1
      clear hb1
      go_upto_region 5 with (fail)
      obtain ⟨V, hV⟩ : ∃ V, V = ovr W u2 := ⟨_, rfl⟩
      rw [← hV]
      have bV : Below W.heap.size W V := by rw [hV]; exact ovr_below _ _
      have q0 := tr_cell (ovr_reB bV) yW00
      have q1 := tr_cell (ovr_reB bV) z1
      have q2 := tr_cell (ovr_reB bV) z2
      clear hV
      refine wp_region_below_lit (by kernel_rfl) (by kernel_rfl) ?_
      repeat (go_big_quiet_step ((go_at_call 63; exact call_below (p3.out _))))
      refine wpQuiet_nil ?_
      intro V2 hb2
      obtain ⟨u3, hu3⟩ : ∃ x, V2 = ovr W x := ⟨V2, ovr_of (bV.trans (hb2.mono bV.size))⟩
      subst hu3
      clear hb2 q0 q1 q2 bV
      go_upto_region 6 with (fail)
      obtain ⟨V, hV⟩ : ∃ V, V = ovr W u3 := ⟨_, rfl⟩
      rw [← hV]
      have bV : Below W.heap.size W V := by rw [hV]; exact ovr_below _ _
      have q0 := tr_cell (ovr_reB bV) yW00
      have q1 := tr_cell (ovr_reB bV) z1
      have q2 := tr_cell (ovr_reB bV) z2
      clear hV
      refine wp_region_below_lit (by kernel_rfl) (by kernel_rfl) ?_
      repeat (go_big_quiet_step ((go_at_call 63; exact call_below (p4.out _))))
      refine wpQuiet_nil ?_
      intro V2 hb2
      obtain ⟨u4, hu4⟩ : ∃ x, V2 = ovr W x := ⟨V2, ovr_of (bV.trans (hb2.mono bV.size))⟩
      subst hu4
      clear hb2 q0 q1 q2 bV
      go_wp2_with (refine wpList_store_row rfl 23 _ _ rfl (w.heap.size + 1) rfl _ _ (RrowW1.out _) _ rfl (one2 rfl rfl) rfl (by kernel_rfl) ?_)
      refine bodyPost_ret (results_cell_tmp rfl _ _ (w.heap.size + 1) 23 _ (0, 0) _ rfl (setRow_same (RrowW1.out _)) Tryd.underlying23 rfl (by kernel_rfl)) rfl ?_
      exact ⟨by rw [Hz.out]; rfl, below_setRow (HUW.out _) (by omega) _⟩
theorem refConc_any (lo hi ms : Int) (w : World) (hr : 0 ≤ lo ∧ lo ≤ hi ∧ hi ≤ 1000000000000) (hm : 1 ≤ ms ∧ ms ≤ 1000000000) : Calls Tryd.prog 36 #[.agg #[I lo, I hi], I ms] w fun e w' => e = .returned (.agg #[I (lo * 1000000 / ms), I (upF hi 1000000 ms)]) ∧ Below w.heap.size w w' := by
  have hb1 := up_bd2 (a := lo) (ms := ms) (by omega) hm.1
  have hb2 := up_bd2 (a := hi) (ms := ms) (by omega) hm.1
  have p1 : Hid (∀ W, Calls Tryd.prog 66 #[I lo, I 1000000, I ms] W fun e w' => e = .returned (.tuple #[I (lo * 1000000 / ms), .bool (decide (lo * 1000000 % ms = 0))]) ∧ Below W.heap.size W w') := fun W => ratio_any lo ms 1000000 W (by omega) (by decide) (by omega) hb1.2.1
  have p2 : Hid (∀ W, Calls Tryd.prog 67 #[I hi, I 1000000, I ms] W fun e w' => e = .returned (I (upF hi 1000000 ms)) ∧ Below W.heap.size W w') := fun W => up_any hi ms 1000000 W (by omega) (by decide) (by omega) hb2.2.1
  obtain ⟨v1, h1⟩ : ∃ v, lo * 1000000 / ms = v := ⟨_, rfl⟩
  obtain ⟨v2, h2⟩ : ∃ v, upF hi 1000000 ms = v := ⟨_, rfl⟩
  obtain ⟨v3, h3⟩ : ∃ v, decide (lo * 1000000 % ms = 0) = v := ⟨_, rfl⟩
  simp only [h1, h3] at p1
  simp only [h2] at p2
  rw [h1, h2]
  clear h1 h2 h3 hb1 hb2 hr hm
  obtain ⟨W, hW⟩ : ∃ W, W = ((w.alloc (.cells #[I lo, I hi] 23)).alloc (.cells #[I 0, I 0] 23)) := ⟨_, rfl⟩
  have rowW0 : W.heap[w.heap.size]? = some (.cells #[I lo, I hi] 23 (0, 0)) := by rw [hW]; exact heap_before (heap_last _ _ _ rfl)
  have yW00 := ovr_cell (W := W) (b := w.heap.size) (o := 0) (v := I lo) (by rw [cell_of_row _ _ _ _ _ _ rowW0]; rfl)
  have yW01 := ovr_cell (W := W) (b := w.heap.size) (o := 1) (v := I hi) (by rw [cell_of_row _ _ _ _ _ _ rowW0]; rfl)
  have RrowW0 := Lib.hid (ovr_row rowW0)
  clear rowW0
  have rowW1 : W.heap[w.heap.size + 1]? = some (.cells #[I 0, I 0] 23 (0, 0)) := by rw [hW]; exact heap_last _ _ _ (by simp)
  have yW10 := ovr_cell (W := W) (b := w.heap.size + 1) (o := 0) (v := I 0) (by rw [cell_of_row _ _ _ _ _ _ rowW1]; rfl)
  have yW11 := ovr_cell (W := W) (b := w.heap.size + 1) (o := 1) (v := I 0) (by rw [cell_of_row _ _ _ _ _ _ rowW1]; rfl)
  have RrowW1 := Lib.hid (ovr_row rowW1)
  clear rowW1
  have HUW : Hid (∀ u, Below w.heap.size w (ovr W u)) := U2 hW
  have HW := Lib.hid hW
  clear hW
  go_enter Tryd.func36, Tryd.ntmps36
  go_upto_region 1 with (fail)
  rw [← HW.out]
  obtain ⟨u0, hu0⟩ := ovr_self W
  rw [hu0]
  clear hu0
  go_wp2_with fail
  refine (p1.out _).mono ?_
  rintro e w1 ⟨rfl, hb1⟩
  obtain ⟨u1, rfl⟩ := ovr_next hb1
  clear hb1
  go_wp2_with fail
  refine (p2.out _).mono ?_
  rintro e w1 ⟨rfl, hb1⟩
  obtain ⟨u2, rfl⟩ := ovr_next hb1
  clear hb1
  go_wp2_with (refine wpList_store_row rfl 23 _ _ rfl (w.heap.size + 1) rfl _ _ (RrowW1.out _) _ rfl (one2 rfl rfl) rfl (by kernel_rfl) ?_)
  refine bodyPost_ret (results_cell_only rfl _ _ (w.heap.size + 1) 23 #[I _, I _] (0, 0) _ rfl (setRow_same (RrowW1.out _)) Tryd.underlying23 rfl (by kernel_rfl)) rfl ?_
  exact ⟨rfl, below_setRow (HUW.out _) (by omega) _⟩
theorem cm2_ge0 (a b : Nat) : decide (cm2 a b ≥ 0) = decide (b ≤ a) := by
  unfold cm2
  split
  · simp; omega
  · split
    · simp; omega
    · simp; omega
set_option maxHeartbeats 2000000 in
set_option maxRecDepth 6000 in
theorem refMeets_any (c ms : Int) (t : Rng) (w : World) (h1 : 0 ≤ c ∧ c ≤ 1000000000000000) (h2 : 0 ≤ ms ∧ ms ≤ 1000000000) (h3 : rgB t 1000000000000 = true) : Calls Tryd.prog 68 #[I c, I ms, .agg #[I t.lo, I t.hi]] w fun e w' => e = .returned (.bool (mtB c ms t)) ∧ Below w.heap.size w w' := by
  have hr := rgB_iff.1 h3
  obtain ⟨lo, hi⟩ := t
  simp only at hr
  obtain ⟨c, rfl⟩ : ∃ q : Nat, c = q := ⟨c.toNat, by omega⟩
  obtain ⟨ms, rfl⟩ : ∃ q : Nat, ms = q := ⟨ms.toNat, by omega⟩
  obtain ⟨lo, rfl⟩ : ∃ q : Nat, lo = q := ⟨lo.toNat, by omega⟩
  obtain ⟨hi, rfl⟩ : ∃ q : Nat, hi = q := ⟨hi.toNat, by omega⟩
  have hlm : lo * ms ≤ 1000000000000 * 1000000000 := Nat.mul_le_mul (by omega) (by omega)
  have hhm : hi * ms ≤ 1000000000000 * 1000000000 := Nat.mul_le_mul (by omega) (by omega)
  have hd0 : Dig [] := fun x hx => by cases hx
  have S1 : Hid (∀ W, Calls Tryd.prog 80 #[.slice none 0 0, I (c : Int), I 1000000] W fun e w' => ∃ v o, e = .returned v ∧ Dig o ∧ o.length ≤ 6 ∧ val o = c * 1000000 ∧ SoC 3 1 W.heap.size o.length (flat 1 (rN o) o.length) v w' ∧ Below W.heap.size W w') := fun W => (sumsD_any 6 (by decide) (by decide) [] c 1000000 none 0 W.heap.size W hd0 (by decide) (by rw [pw3]; omega) (by rw [pw3]; omega) (by rw [pw6]; show 0 + _ < _; omega) (Nat.le_refl _) Rd.nil).mono fun e w' ⟨v, o, h1, h2, h3, h4, h5, h6⟩ => ⟨v, o, h1, h2, h3, by rw [h4]; show 0 + _ = _; omega, h5, h6⟩
  have S2 : Hid (∀ W, Calls Tryd.prog 80 #[.slice none 0 0, I (lo : Int), I (ms : Int)] W fun e w' => ∃ v o, e = .returned v ∧ Dig o ∧ o.length ≤ 6 ∧ val o = lo * ms ∧ SoC 3 1 W.heap.size o.length (flat 1 (rN o) o.length) v w' ∧ Below W.heap.size W w') := fun W => (sumsD_any 6 (by decide) (by decide) [] lo ms none 0 W.heap.size W hd0 (by decide) (by rw [pw3]; omega) (by rw [pw3]; omega) (by rw [pw6]; show 0 + _ < _; omega) (Nat.le_refl _) Rd.nil).mono fun e w' ⟨v, o, h1, h2, h3, h4, h5, h6⟩ => ⟨v, o, h1, h2, h3, by rw [h4]; show 0 + _ = _; omega, h5, h6⟩
  have S3 : Hid (∀ W, Calls Tryd.prog 80 #[.slice none 0 0, I (hi : Int), I (ms : Int)] W fun e w' => ∃ v o, e = .returned v ∧ Dig o ∧ o.length ≤ 6 ∧ val o = hi * ms ∧ SoC 3 1 W.heap.size o.length (flat 1 (rN o) o.length) v w' ∧ Below W.heap.size W w') := fun W => (sumsD_any 6 (by decide) (by decide) [] hi ms none 0 W.heap.size W hd0 (by decide) (by rw [pw3]; omega) (by rw [pw3]; omega) (by rw [pw6]; show 0 + _ < _; omega) (Nat.le_refl _) Rd.nil).mono fun e w' ⟨v, o, h1, h2, h3, h4, h5, h6⟩ => ⟨v, o, h1, h2, h3, by rw [h4]; show 0 + _ = _; omega, h5, h6⟩
  have hm : mtB (c : Int) (ms : Int) ⟨(lo : Int), (hi : Int)⟩ = (decide (cm2 (c * 1000000) (lo * ms) ≥ 0) && decide (cm2 (c * 1000000) (hi * ms) ≤ 0)) := by
    rw [cm2_ge0]
    have e1 : ((lo * ms : Nat) : Int) = (lo : Int) * (ms : Int) := Int.natCast_mul _ _
    have e2 : ((hi * ms : Nat) : Int) = (hi : Int) * (ms : Int) := Int.natCast_mul _ _
    have e3 : ((c * 1000000 : Nat) : Int) = (c : Int) * 1000000 := Int.natCast_mul _ _
    have e4 : decide (cm2 (c * 1000000) (hi * ms) ≤ 0) = decide (c * 1000000 ≤ hi * ms) := by
      unfold cm2
      split
      · simp; omega
      · split
        · simp; omega
        · simp; omega
    rw [e4]
    unfold mtB ovB blB
    simp only
    rw [← decide_not, ← decide_not, Bool.and_comm]
    congr 1
    · congr 1; apply propext; omega
    · congr 1; apply propext; omega
  rw [hm]
  have hq : ∃ q1, cm2 (c * 1000000) (lo * ms) = q1 := ⟨_, rfl⟩
  obtain ⟨q1, hq1⟩ := hq
  obtain ⟨q2, hq2⟩ : ∃ q2, cm2 (c * 1000000) (hi * ms) = q2 := ⟨_, rfl⟩
  rw [hq1, hq2]
  have Hq1 := Lib.hid hq1
  have Hq2 := Lib.hid hq2
  clear hq1 hq2 hm hlm hhm hd0 hr h1 h2 h3
  obtain ⟨W, hW⟩ : ∃ W, W = w.alloc (.cells #[I (lo : Int), I (hi : Int)] 23) := ⟨_, rfl⟩
  have hB : Hid (Below w.heap.size w W) := by show Below _ _ _; rw [hW]; exact (Below.refl _ _).alloc (Nat.le_refl _) _
  have r0 : Hid (∀ W', Below W.heap.size W W' → W'.heap[w.heap.size]? = some (.cells #[I (lo : Int), I (hi : Int)] 23 (0, 0)) ∧ Below w.heap.size w W') := fun W' h => by
    have hs : w.heap.size + 1 = W.heap.size := by rw [hW]; simp
    exact ⟨(h.block _ (by omega)).trans (by rw [hW]; exact heap_last _ _ _ rfl), hB.out.trans (h.mono hB.out.size)⟩
  have HW := Lib.hid hW
  clear hW hB
  go_enter Tryd.func68, Tryd.ntmps68
  go_upto_region 1 with (fail)
  rw [← HW.out]
  go_wp2_with fail
  refine (S1.out _).mono ?_
  rintro e W1 ⟨v1, o1, rfl, ho1, hl1, hv1, hs1, hb1⟩
  obtain ⟨A1, k1, rfl, _, _, hr1⟩ := hs1.rd
  have Hb1 := Lib.hid hb1
  have Hr1 := Lib.hid hr1
  have y0 : W1.cell? ⟨w.heap.size, 0, none⟩ = some (I (lo : Int)) := by rw [cell_of_row _ _ _ _ _ _ (r0.out W1 hb1).1]; rfl
  have z1 := hb1.size
  clear hb1 hr1 hs1
  go_wp2_with fail
  refine (S2.out _).mono ?_
  rintro e W2 ⟨v2, o2, rfl, ho2, hl2, hv2, hs2, hb2⟩
  obtain ⟨A2, k2, rfl, _, _, hr2⟩ := hs2.rd
  have Hb2 : Hid (Below W.heap.size W W2) := Hb1.out.trans (hb2.mono z1)
  have z2 := hb2.size
  have Hr1b := Lib.hid (Hr1.out.below hb2)
  have C1 := Lib.hid (compareD_any o1 o2 A1 A2 k1 k2 W2.heap.size W2 ho1 ho2 (by omega) (by omega) (Nat.le_refl _) (Hr1b.out.more z2) hr2)
  rw [hv1, hv2, Hq1.out] at C1
  clear hb2 hr2 hs2 y0
  go_wp2_with fail
  refine C1.out.mono ?_
  rintro e W3 ⟨rfl, hb3⟩
  have Hb3 : Hid (Below W.heap.size W W3) := Hb2.out.trans (hb3.mono (by omega))
  have Hr1c := Lib.hid (Hr1b.out.below (hb3.mono z2))
  have y1 : W3.cell? ⟨w.heap.size, 1, none⟩ = some (I (hi : Int)) := by rw [cell_of_row _ _ _ _ _ _ (r0.out W3 Hb3.out).1]; rfl
  have z3 := hb3.size
  clear hb3 C1
  by_cases hq : 0 ≤ q1
  · have g1 : decide (0 ≤ q1) = true := decide_eq_true hq
    go_wp2_with fail
    refine (S3.out _).mono ?_
    rintro e W4 ⟨v4, o4, rfl, ho4, hl4, hv4, hs4, hb4⟩
    obtain ⟨A4, k4, rfl, _, _, hr4⟩ := hs4.rd
    have z4 := hb4.size
    have Hb4 : Hid (Below W.heap.size W W4) := Hb3.out.trans (hb4.mono (by omega))
    have C2 := Lib.hid (compareD_any o1 o4 A1 A4 k1 k4 W4.heap.size W4 ho1 ho4 (by omega) (by omega) (Nat.le_refl _) ((Hr1c.out.below (hb4.mono (by omega))).more (by omega)) hr4)
    rw [hv1, hv4, Hq2.out] at C2
    clear hb4 hr4 hs4 y1
    go_wp2_with fail
    refine C2.out.mono ?_
    rintro e W5 ⟨rfl, hb5⟩
    have Hb5 : Hid (Below W.heap.size W W5) := Hb4.out.trans (hb5.mono (by omega))
    clear hb5
    go_wp2_with fail
    go_ret
    exact ⟨by rw [g1]; rfl, (r0.out W5 Hb5.out).2⟩
  · have g1 : decide (0 ≤ q1) = false := decide_eq_false hq
    go_wp2_with fail
    go_ret
    exact ⟨by rw [show decide (q1 ≥ 0) = false from g1]; rfl, (r0.out W3 Hb3.out).2⟩
end Go.Proofs.YtfifdfagikbahaaDoor
/- Grade of the reference; Judge. -/
namespace Go.Proofs.YtfifdfagikbahaaDoor
open Go.RowKit
attribute [local go_sem] Oper.semAt_some
theorem prS_ms0 (m : Mlt) {l : List Stp} {k : Nat} (hk : k < l.length) (h1 : (at0 l k).kd = 1) : prS m l (fzK l k) 0 = (at0 l k).ms := by
  show slK m l 2 (slK m l 1 (slK m l 0 (gI l) l.length) l.length) l.length _ 0 = _
  rw [slK_else (by omega), slK_else (by omega), slK_else (by omega)]
  unfold gI
  rw [if_pos rfl, (frz_at hk h1).2]
/-- Bounds of the numbers of a slice. -/
theorem sl_bd {m : Mlt} {l : List Stp} (hv : Vld m l) {i : Nat} (hi : i < fzK l l.length) {s : Nat} (hs : s < 3) : (1 ≤ prS m l i 0 ∧ prS m l i 0 ≤ 1000000000) ∧ (0 ≤ prS m l i (1 + s * 2) ∧ prS m l i (1 + s * 2) ≤ 300000000000000) ∧ (0 ≤ prS m l i (1 + s * 2 + 1) ∧ prS m l i (1 + s * 2 + 1) ≤ 300000000000000) := by
  obtain ⟨k, hk, h1, rfl⟩ := fz_ex _ _ hi
  have hx := hv.isS hk
  have hn := hv.hn
  have hms := isS_ms hx (.inl h1)
  have e := prS_at (m := m) hs hk h1
  have hc := hv.ct hs
  have a := wk_bd (m := m) (c := crsPoor) (l := l) (st := m.ct (s * 2)) hs (by omega) k fun j hj => hv.he j (by omega)
  have b := wk_bd (m := m) (c := crsRich) (l := l) (st := m.ct (s * 2 + 1)) hs (by omega) k fun j hj => hv.he j (by omega)
  have ca := ch_bd (mass := msK m l k) hx hs a.1
  have cb := ch_bd (mass := msK m l k) hx hs b.1
  have ca2 := ca.2.1 (by omega)
  have cb2 := cb.2.1 (by omega)
  refine ⟨?_, ?_, ?_⟩
  · rw [prS_ms0 m hk h1]
    omega
  · rw [e.1]
    show 0 ≤ (chF (at0 l k) s (wkD m crsPoor s (m.ct (s * 2)) l k) (msK m l k)).1 ∧ (chF (at0 l k) s (wkD m crsPoor s (m.ct (s * 2)) l k) (msK m l k)).1 ≤ _
    omega
  · rw [e.2]
    show 0 ≤ (chF (at0 l k) s (wkD m crsRich s (m.ct (s * 2 + 1)) l k) (msK m l k)).2 ∧ (chF (at0 l k) s (wkD m crsRich s (m.ct (s * 2 + 1)) l k) (msK m l k)).2 ≤ _
    omega
theorem lsN_below {lo ms : Int} {t : Rng} (hl : 0 ≤ t.lo ∧ t.lo ≤ 1000000000000) (hm : 0 ≤ ms ∧ ms ≤ 1000000000) : blB (lsN lo ms t) ms t.lo = false := by
  have h := up_bd hl hm
  unfold blB lsN
  refine decide_eq_false ?_
  omega
set_option maxHeartbeats 2000000 in
theorem refGrade_any (lo hi ms : Int) (t : Rng) (w : World) (h1 : 0 ≤ lo ∧ lo ≤ 1000000000000000) (h2 : 0 ≤ hi ∧ hi ≤ 1000000000000000) (h3 : 0 ≤ ms ∧ ms ≤ 1000000000) (h4 : rgB t 1000000000000 = true) : Calls Tryd.prog 37 #[.agg #[I lo, I hi], I ms, .agg #[I t.lo, I t.hi]] w fun e w' => e = .returned (.int .u8 (gdF lo hi ms t)) ∧ Below w.heap.size w w' := by
  have hr := rgB_iff.1 h4
  have hb := up_bd (lo := t.lo) (ms := ms) (by omega) h3
  have hN : lsN lo ms t = max (upF t.lo ms 1000000) lo := rfl
  have hbl := lsN_below (lo := lo) (t := t) (by omega) h3
  have p1 : Hid (∀ W, Calls Tryd.prog 68 #[I lo, I ms, .agg #[I t.lo, I t.hi]] W fun e w' => e = .returned (.bool (mtB lo ms t)) ∧ Below W.heap.size W w') := fun W => refMeets_any lo ms t W h1 h3 h4
  have p2 : Hid (∀ W, Calls Tryd.prog 68 #[I hi, I ms, .agg #[I t.lo, I t.hi]] W fun e w' => e = .returned (.bool (mtB hi ms t)) ∧ Below W.heap.size W w') := fun W => refMeets_any hi ms t W h2 h3 h4
  have p3 : Hid (∀ W, Calls Tryd.prog 68 #[I (lsN lo ms t), I ms, .agg #[I t.lo, I t.hi]] W fun e w' => e = .returned (.bool (mtB (lsN lo ms t) ms t)) ∧ Below W.heap.size W w') := fun W => refMeets_any _ ms t W (by rw [hN]; omega) h3 h4
  have p4 : Hid (∀ W, Calls Tryd.prog 67 #[I t.lo, I ms, I 1000000] W fun e w' => e = .returned (I (upF t.lo ms 1000000)) ∧ Below W.heap.size W w') := fun W => by
    obtain ⟨k, rfl⟩ : ∃ q : Nat, ms = q := ⟨ms.toNat, by omega⟩
    refine up_any t.lo 1000000 k W (by omega) (by omega) (by omega) ?_
    have : t.lo * (k : Int) ≤ 1000000000000 * 1000000000 := Int.mul_le_mul (by omega) h3.2 h3.1 (by omega)
    omega
  have hs : smB lo hi ms t = (decide (lsN lo ms t ≤ hi) && mtB (lsN lo ms t) ms t) := by
    unfold smB mtB
    rw [hbl]
    simp
  obtain ⟨tl, th⟩ := t
  simp only at p1 p2 p3 p4 hN
  unfold gdF
  rw [hs]
  obtain ⟨b1, e1⟩ : ∃ b, mtB lo ms ⟨tl, th⟩ = b := ⟨_, rfl⟩
  obtain ⟨b2, e2⟩ : ∃ b, mtB hi ms ⟨tl, th⟩ = b := ⟨_, rfl⟩
  obtain ⟨n, e3⟩ : ∃ b, lsN lo ms ⟨tl, th⟩ = b := ⟨_, rfl⟩
  obtain ⟨u, e4⟩ : ∃ b, upF tl ms 1000000 = b := ⟨_, rfl⟩
  simp only [e3] at p3 hN
  simp only [e4] at p4 hN
  simp only [e1] at p1
  simp only [e2] at p2
  obtain ⟨b3, e5⟩ : ∃ b, mtB n ms ⟨tl, th⟩ = b := ⟨_, rfl⟩
  simp only [e5] at p3
  rw [e1, e2, e3, e5]
  have w1 : (if lo ≤ u then u else lo) = n := by rw [hN]; split <;> omega
  have w2 : (if u ≤ lo then lo else u) = n := by rw [hN]; split <;> omega
  have w3 : max lo u = n := by rw [hN]; omega
  clear e1 e2 e3 e4 e5 hs hN hbl hb hr h1 h2 h3 h4
  obtain ⟨W, hW⟩ : ∃ W, W = ((w.alloc (.cells #[I lo, I hi] 23)).alloc (.cells #[I tl, I th] 23)) := ⟨_, rfl⟩
  have rowW0 : W.heap[w.heap.size]? = some (.cells #[I lo, I hi] 23 (0, 0)) := by rw [hW]; exact heap_before (heap_last _ _ _ rfl)
  have yW00 := ovr_cell (W := W) (b := w.heap.size) (o := 0) (v := I lo) (by rw [cell_of_row _ _ _ _ _ _ rowW0]; rfl)
  have yW01 := ovr_cell (W := W) (b := w.heap.size) (o := 1) (v := I hi) (by rw [cell_of_row _ _ _ _ _ _ rowW0]; rfl)
  have RrowW0 := Lib.hid (ovr_row rowW0)
  clear rowW0
  have rowW1 : W.heap[w.heap.size + 1]? = some (.cells #[I tl, I th] 23 (0, 0)) := by rw [hW]; exact heap_last _ _ _ (by simp)
  have yW10 := ovr_cell (W := W) (b := w.heap.size + 1) (o := 0) (v := I tl) (by rw [cell_of_row _ _ _ _ _ _ rowW1]; rfl)
  have yW11 := ovr_cell (W := W) (b := w.heap.size + 1) (o := 1) (v := I th) (by rw [cell_of_row _ _ _ _ _ _ rowW1]; rfl)
  have RrowW1 := Lib.hid (ovr_row rowW1)
  clear rowW1
  have HUW : Hid (∀ u, Below w.heap.size w (ovr W u)) := U2 hW
  have HW := Lib.hid hW
  clear hW
  rcases b1 with _ | _
  · go_enter Tryd.func37, Tryd.ntmps37
    go_upto_region 1 with (fail)
    rw [← HW.out]
    obtain ⟨u0, hu0⟩ := ovr_self W
    rw [hu0]
    clear hu0
    go_wp2_with fail
    refine (p1.out _).mono ?_
    rintro e w1 ⟨rfl, hb1⟩
    obtain ⟨u1, rfl⟩ := ovr_next hb1
    clear hb1
    go_upto_region 3 with (fail)
    obtain ⟨V, hV⟩ : ∃ V, V = ovr W u1 := ⟨_, rfl⟩
    rw [← hV]
    have bV : Below W.heap.size W V := by rw [hV]; exact ovr_below _ _
    have q0 := tr_cell (ovr_reB bV) yW00
    have q1 := tr_cell (ovr_reB bV) yW10
    clear hV
    refine wp_region_below_lit (by kernel_rfl) (by kernel_rfl) ?_
    repeat (go_big_quiet_step ((go_at_call 67; exact call_below (p4.out _))))
    refine wpQuiet_nil ?_
    intro V2 hb2
    obtain ⟨ux, hux⟩ : ∃ x, V2 = ovr W x := ⟨V2, ovr_of (bV.trans (hb2.mono bV.size))⟩
    subst hux
    clear hb2 q0 q1 bV
    try simp only [w1, w2, w3]
    by_cases hle : n ≤ hi
    · have d1 : decide (n ≤ hi) = true := decide_eq_true hle
      rcases b3 with _ | _
      · go_wp2_with fail
        refine (p3.out _).mono ?_
        rintro e w1 ⟨rfl, hb1⟩
        obtain ⟨uy, rfl⟩ := ovr_next hb1
        clear hb1
        go_wp2_with fail
        go_ret
        exact ⟨by (first | rfl | (rw [d1]; rfl) | simp [d1]), HUW.out _⟩
      · go_wp2_with fail
        refine (p3.out _).mono ?_
        rintro e w1 ⟨rfl, hb1⟩
        obtain ⟨uy, rfl⟩ := ovr_next hb1
        clear hb1
        go_wp2_with fail
        go_ret
        exact ⟨by (first | rfl | (rw [d1]; rfl) | simp [d1]), HUW.out _⟩
    · have d1 : decide (n ≤ hi) = false := decide_eq_false hle
      go_wp2_with fail
      go_ret
      exact ⟨by (first | rfl | (rw [d1]; rfl) | simp [d1]), HUW.out _⟩
  rcases b2 with _ | _
  · go_enter Tryd.func37, Tryd.ntmps37
    go_upto_region 1 with (fail)
    rw [← HW.out]
    obtain ⟨u0, hu0⟩ := ovr_self W
    rw [hu0]
    clear hu0
    go_wp2_with fail
    refine (p1.out _).mono ?_
    rintro e w1 ⟨rfl, hb1⟩
    obtain ⟨u1, rfl⟩ := ovr_next hb1
    clear hb1
    go_wp2_with fail
    refine (p2.out _).mono ?_
    rintro e w1 ⟨rfl, hb1⟩
    obtain ⟨u2, rfl⟩ := ovr_next hb1
    clear hb1
    go_upto_region 3 with (fail)
    obtain ⟨V, hV⟩ : ∃ V, V = ovr W u2 := ⟨_, rfl⟩
    rw [← hV]
    have bV : Below W.heap.size W V := by rw [hV]; exact ovr_below _ _
    have q0 := tr_cell (ovr_reB bV) yW00
    have q1 := tr_cell (ovr_reB bV) yW10
    clear hV
    refine wp_region_below_lit (by kernel_rfl) (by kernel_rfl) ?_
    repeat (go_big_quiet_step ((go_at_call 67; exact call_below (p4.out _))))
    refine wpQuiet_nil ?_
    intro V2 hb2
    obtain ⟨ux, hux⟩ : ∃ x, V2 = ovr W x := ⟨V2, ovr_of (bV.trans (hb2.mono bV.size))⟩
    subst hux
    clear hb2 q0 q1 bV
    try simp only [w1, w2, w3]
    by_cases hle : n ≤ hi
    · have d1 : decide (n ≤ hi) = true := decide_eq_true hle
      rcases b3 with _ | _
      · go_wp2_with fail
        refine (p3.out _).mono ?_
        rintro e w1 ⟨rfl, hb1⟩
        obtain ⟨uy, rfl⟩ := ovr_next hb1
        clear hb1
        go_wp2_with fail
        go_ret
        exact ⟨by (first | rfl | (rw [d1]; rfl) | simp [d1]), HUW.out _⟩
      · go_wp2_with fail
        refine (p3.out _).mono ?_
        rintro e w1 ⟨rfl, hb1⟩
        obtain ⟨uy, rfl⟩ := ovr_next hb1
        clear hb1
        go_wp2_with fail
        go_ret
        exact ⟨by (first | rfl | (rw [d1]; rfl) | simp [d1]), HUW.out _⟩
    · have d1 : decide (n ≤ hi) = false := decide_eq_false hle
      go_wp2_with fail
      go_ret
      exact ⟨by (first | rfl | (rw [d1]; rfl) | simp [d1]), HUW.out _⟩
  · go_enter Tryd.func37, Tryd.ntmps37
    go_upto_region 1 with (fail)
    rw [← HW.out]
    obtain ⟨u0, hu0⟩ := ovr_self W
    rw [hu0]
    clear hu0
    go_wp2_with fail
    refine (p1.out _).mono ?_
    rintro e w1 ⟨rfl, hb1⟩
    obtain ⟨u1, rfl⟩ := ovr_next hb1
    clear hb1
    go_wp2_with fail
    refine (p2.out _).mono ?_
    rintro e w1 ⟨rfl, hb1⟩
    obtain ⟨u2, rfl⟩ := ovr_next hb1
    clear hb1
    go_wp2_with fail
    go_ret
    exact ⟨rfl, HUW.out _⟩
end Go.Proofs.YtfifdfagikbahaaDoor
/- Judge. -/
namespace Go.Proofs.YtfifdfagikbahaaDoor
open Go.RowKit
attribute [local go_sem] Oper.semAt_some
theorem row_cl {W : World} {q : Nat} {t : TypeId} {cs : Array Value} (h : W.heap[q]? = some (.cells cs t (0, 0))) (k : Nat) (v : Value) (hv : cs[k]? = some v) : W.cell? ⟨q, k, none⟩ = some v := by
  rw [cell_of_row _ _ _ _ _ _ h]; exact hv
/-- The grades of the slices. -/
def gdV (m : Mlt) (l : List Stp) (s : Nat) (t : Rng) (i _ : Nat) : Value := .int .u8 (gdF (prS m l i (1 + s * 2)) (prS m l i (1 + s * 2 + 1)) (prS m l i 0) t)
/-- The error of Judge. -/
def jgE (m : Mlt) (l : List Stp) (s : Int) (t : Rng) : Int := if ckF m l = 0 then (if spB s then (if rgB t 1000000000000 then 0 else 2) else 7) else ckF m l
/-- What Judge tells. -/
def JdF (m : Mlt) (l : List Stp) (s : Int) (t : Rng) (u : Value) (w : World) : Prop := (jgE m l s t ≠ 0 ∧ u = .tuple #[.slice none 0 0, I (jgE m l s t)]) ∨
  (jgE m l s t = 0 ∧ ∃ A c, u = .tuple #[.slice A (fzK l l.length) c, I 0] ∧ fzK l l.length ≤ c ∧ c ≤ maxLen ∧ Rd w w.heap.size 1 A (fzK l l.length) (gdV m l s.toNat t))
theorem JdF.le {m : Mlt} {l : List Stp} {s : Int} {t : Rng} {u : Value} {w w' : World} (h : JdF m l s t u w) (hl : Le w w') : JdF m l s t u w' := by
  rcases h with h | ⟨h0, A, c, h1, h2, h3, h4⟩
  · exact .inl h
  · exact .inr ⟨h0, A, c, h1, h2, h3, (h4.below hl).more (Below.size hl)⟩
theorem grd_info : (Tryd.prog.info? 88).map (fun i => (i.zero, i.size, i.bytes)) = some (some (.int .u8 0), 1, 1) := by kernel_rfl
theorem gd_next (g : Nat → Nat → Value) (k : Nat) : flat 1 g (k + 1) = flat 1 g k ++ [g k 0] := by
  rw [flat_succ 1 (by decide)]
  rfl
set_option maxRecDepth 100000 in
set_option maxHeartbeats 4000000 in
theorem judge_any (m : Mlt) (A : Option Addr) (c : Nat) (l : List Stp) (s : Int) (t : Rng) (w : World) (hG : Glob w) (hx : Rd w w.heap.size 8 A l.length (rT l)) (hk : ∀ j, j < l.length → 0 ≤ (at0 l j).kd ∧ (at0 l j).kd ≤ 255) (hn : l.length ≤ maxLen) :
    Calls Tryd.prog 35 #[.agg (mltArr m), .slice A l.length c, I s, .agg #[I t.lo, I t.hi]] w fun e w' => ∃ u, e = .returned u ∧ Below w.heap.size w w' ∧ JdF m l s t u w' := by
  obtain ⟨i0, hi0, iz0, iz1, iz2⟩ := info_parts grd_info
  obtain ⟨W, hW⟩ : ∃ W, W = (w.alloc (.cells (mltArr m) 27)).alloc (.cells #[I t.lo, I t.hi] 23) := ⟨_, rfl⟩
  have hb0 : Below w.heap.size w W := by rw [hW]; exact ((Below.refl _ _).alloc (Nat.le_refl _) _).alloc (by simp) _
  have r0 : W.heap[w.heap.size]? = some (.cells (mltArr m) 27 (0, 0)) := by rw [hW]; exact heap_before (heap_last _ _ _ rfl)
  have r1 : W.heap[w.heap.size + 1]? = some (.cells #[I t.lo, I t.hi] 23 (0, 0)) := by rw [hW]; exact heap_last _ _ _ (by simp)
  have sW : w.heap.size + 2 = W.heap.size := by rw [hW]; simp
  have HW := Lib.hid hW
  have HY : Hid (∀ W', Below W.heap.size W W' → W'.heap[w.heap.size]? = some (.cells (mltArr m) 27 (0, 0)) ∧ W'.heap[w.heap.size + 1]? = some (.cells #[I t.lo, I t.hi] 23 (0, 0)) ∧ Rd W' w.heap.size 8 A l.length (rT l) ∧ Glob W' ∧ Below w.heap.size w W') := fun W' h => by
    have h' := hb0.trans (h.mono hb0.size)
    exact ⟨(h.block _ (by omega)).trans r0, (h.block _ (by omega)).trans r1, hx.below h', hG.below h', h'⟩
  have H0 : Hid (Below W.heap.size W W) := Below.refl _ _
  have hp := predict_grow m A c l W (HY.out W H0.out).2.2.2.1 ((HY.out W H0.out).2.2.1.more (by omega)) hk hn
  have Hp := Lib.hid hp
  have ps : Hid (∀ X, Calls Tryd.prog 48 #[I s] X fun e w' => e = .returned (.bool (spB s)) ∧ Below X.heap.size X w') := fun X => isSpecies_any s X
  have pr : Hid (∀ X, Calls Tryd.prog 49 #[.agg #[I t.lo, I t.hi], I 1000000000000] X fun e w' => e = .returned (.bool (rgB t 1000000000000)) ∧ Below X.heap.size X w') := fun X => isRange_any t _ X
  clear hW hb0 r0 r1 hG hx hk hn hp sW
  go_enter Tryd.func35, Tryd.ntmps35
  go_upto_region 1 with (fail)
  rw [← HW.out]
  have y := fun k v h => row_cl (HY.out W H0.out).1 k v h
  have y0 := y 0 _ rfl
  have y1 := y 1 _ rfl
  have y2 := y 2 _ rfl
  have y3 := y 3 _ rfl
  have y4 := y 4 _ rfl
  have y5 := y 5 _ rfl
  have y6 := y 6 _ rfl
  clear y
  go_wp2_with fail
  refine Hp.out.mono ?_
  clear y0 y1 y2 y3 y4 y5 y6
  rintro e X ⟨u, rfl, hbX, hu⟩
  have HX : Hid (Below W.heap.size W X) := hbX
  have zX := Below.size hbX
  by_cases h0 : ckF m l = 0
  case neg =>
    as_aux_lemma =>
      have he : jgE m l s t = ckF m l := by unfold jgE; rw [if_neg h0]
      rcases hu.now with ⟨_, rfl⟩ | ⟨h1, _⟩
      rotate_left
      · exact absurd h1 h0
      obtain ⟨er, her⟩ : ∃ q, ckF m l = q := ⟨_, rfl⟩
      rw [her] at he h0
      have He := Lib.hid he
      have H0' := Lib.hid h0
      rw [her]
      have e1 : (er != 0) = true := by simpa using h0
      clear hbX hu he h0
      go_upto_region 2 with (refine wpList_store_row rfl 35 _ _ rfl X.heap.size rfl _ _ (heap_last X (.cells (runArr (.slice none 0 0) fun _ => 0) 35) _ rfl) (runArr (.slice none 0 0) fun _ => 0) rfl (run_one rfl) rfl (by kernel_rfl) ?_)
      go_wp2_with fail
      go_ret2
      exact ⟨_, rfl, (HY.out _ (below_setRow (HX.out.alloc zX _) zX _)).2.2.2.2, .inl ⟨by rw [He.out]; exact H0'.out, by rw [He.out]; rfl⟩⟩
  rcases hu.now with ⟨h1, _⟩ | ⟨_, S, d, rfl, hd1, hd2, hsl⟩
  · exact absurd h0 h1
  have Hsl := Lib.hid hsl.rd
  have Hv : Hid (Vld m l) := vld_of h0
  have hjg : jgE m l s t = if spB s then (if rgB t 1000000000000 then 0 else 2) else 7 := by unfold jgE; rw [if_pos h0]
  clear hu hsl h0 hbX
  obtain ⟨fz, hfz⟩ : ∃ q, fzK l l.length = q := ⟨_, rfl⟩
  have Hfz := Lib.hid hfz
  have hfl : fz ≤ 200 := by have := fzK_le l l.length; have := Hv.out.hn; omega
  rw [hfz] at hd1 Hsl ⊢
  clear hfz
  go_upto_region 2 with (refine wpList_store_row rfl 35 _ _ rfl X.heap.size rfl _ _ (heap_last X (.cells (runArr (.slice none 0 0) fun _ => 0) 35) _ rfl) (runArr (.slice S fz d) (prR m l)) rfl (run_one rfl) rfl (by kernel_rfl) ?_)
  refine name_w fun V hV => ?_
  try simp only [Act.put]
  obtain ⟨xb, hxb⟩ : ∃ q, X.heap.size = q := ⟨_, rfl⟩
  have rV : V.heap[xb]? = some (.cells (runArr (.slice S fz d) (prR m l)) 35 (0, 0)) := by rw [hV, ← hxb]; exact setRow_same (heap_last _ _ _ rfl)
  have b5 : Below X.heap.size X V := by rw [hV]; exact below_setRow ((Below.refl _ _).alloc (Nat.le_refl _) _) (Nat.le_refl _) _
  have HV : Hid (Below W.heap.size W V) := HX.out.trans (b5.mono zX)
  have HrV := Lib.hid rV
  have HsV := Lib.hid ((Hsl.out.below b5).more b5.size)
  have hsV := HV.out.size
  have hxV := (Array.getElem?_eq_some_iff.1 rV).1
  rw [hxb]
  clear hV rV b5 hxb HX zX Hsl
  have HQ : Hid (∀ X', Below V.heap.size V X' → X'.heap[xb]? = some (.cells (runArr (.slice S fz d) (prR m l)) 35 (0, 0)) ∧ Rd X' V.heap.size 7 S fz (fun i j => I (prS m l i j)) ∧ Below W.heap.size W X') := fun X' h =>
    ⟨(h.block xb hxV).trans HrV.out, HsV.out.below h, HV.out.trans (h.mono hsV)⟩
  clear HrV HsV
  by_cases hs : spB s = true
  case neg =>
    as_aux_lemma =>
      have hs1 : spB s = false := by simpa using hs
      rw [if_neg hs] at hjg
      have Hj := Lib.hid hjg
      rw [hs1] at ps
      clear hjg hs hs1
      go_wp2_with fail
      refine (ps.out _).mono ?_
      rintro e X1 ⟨rfl, hb⟩
      have H1 := Lib.hid hb
      clear hb
      go_wp2_with fail
      go_ret2
      exact ⟨_, rfl, (HY.out _ (HQ.out _ H1.out).2.2).2.2.2.2, .inl ⟨by rw [Hj.out]; decide, by rw [Hj.out]; rfl⟩⟩
  rw [if_pos hs] at hjg
  obtain ⟨s, rfl⟩ : ∃ k : Nat, s = k := ⟨s.toNat, by unfold spB at hs; simp only [Bool.and_eq_true, decide_eq_true_eq] at hs; omega⟩
  have hs3 : s < 3 := by unfold spB at hs; simp only [Bool.and_eq_true, decide_eq_true_eq] at hs; omega
  rw [hs] at ps
  clear hs
  go_upto_region 4 with (fail)
  go_wp2_with fail
  refine (ps.out _).mono ?_
  rintro e X1 ⟨rfl, hb1⟩
  have H1 := Lib.hid hb1
  have z1 := H1.out.size
  clear hb1
  have t0 := row_cl (HY.out X1 (HQ.out _ H1.out).2.2).2.1 0 _ rfl
  have t1 := row_cl (HY.out X1 (HQ.out _ H1.out).2.2).2.1 1 _ rfl
  by_cases hr : rgB t 1000000000000 = true
  case neg =>
    as_aux_lemma =>
      have hr1 : rgB t 1000000000000 = false := by simpa using hr
      rw [if_neg hr] at hjg
      have Hj := Lib.hid hjg
      rw [hr1] at pr
      clear hjg hr hr1
      go_wp2_with fail
      refine (pr.out _).mono ?_
      rintro e X2 ⟨rfl, hb2⟩
      have H2 := Lib.hid (H1.out.trans (hb2.mono z1))
      clear hb2
      go_wp2_with fail
      go_ret2
      exact ⟨_, rfl, (HY.out _ (HQ.out _ H2.out).2.2).2.2.2.2, .inl ⟨by rw [Hj.out]; decide, by rw [Hj.out]; rfl⟩⟩
  rw [if_pos hr] at hjg
  have Hj := Lib.hid hjg
  have Hr := Lib.hid hr
  rw [hr] at pr
  clear hjg hr
  go_wp2_with fail
  refine (pr.out _).mono ?_
  rintro e X2 ⟨rfl, hb2⟩
  have H2 : Hid (Below V.heap.size V X2) := H1.out.trans (hb2.mono z1)
  clear hb2 H1 z1 t0 t1
  have s0 := row_cl (HQ.out X2 H2.out).1 0 _ rfl
  have hsn : decide (s < 3) = true := decide_eq_true hs3
  have hsi : decide ((s : Int) < 3) = true := decide_eq_true (by omega)
  have hs0 : decide (0 ≤ (s : Int)) = true := decide_eq_true (by omega)
  obtain ⟨gv, hgv⟩ : ∃ g : Nat → Nat → Value, gdV m l s t = g := ⟨_, rfl⟩
  have Hgv := Lib.hid hgv
  clear hgv
  go_wp2_with fail
  go_loopw [38, 12] (fun i sl wr => ∃ k : Nat, k ≤ fz ∧ i = .int .i64 k ∧ SoC 88 1 V.heap.size k (flat 1 gv k) sl wr ∧ Below V.heap.size V wr) (fun i _ _ => fz - (intOf i).toNat)
  case atStart => exact ⟨0, Nat.zero_le _, rfl, .inr ⟨rfl, .inl ⟨rfl, rfl⟩⟩, H2.out⟩
  case round =>
    rename World => X0
    obtain ⟨k, hk, rfl, hso, hbw⟩ := hrel
    obtain ⟨sl, hsl⟩ : ∃ s, s = u12 := ⟨_, rfl⟩
    subst hsl
    have Hso := Lib.hid hso
    have Hbw := Lib.hid hbw
    clear hso hbw s0
    by_cases hlt : k < fz
    · have hki : decide ((k : Int) < (fz : Int)) = true := decide_eq_true (by omega)
      have hkn : decide (k < fz) = true := decide_eq_true hlt
      have hk0 : decide (0 ≤ (k : Int)) = true := decide_eq_true (by omega)
      have hbd := sl_bd Hv.out (show k < fzK l l.length by rw [Hfz.out]; exact hlt) hs3
      have hg : gv k 0 = .int .u8 (gdF (prS m l k (1 + s * 2)) (prS m l k (1 + s * 2 + 1)) (prS m l k 0) t) := by rw [← Hgv.out]; rfl
      have hrd := (HQ.out X0 Hbw.out).2.1
      obtain ⟨sb, so, rfl, _, hsc⟩ := hrd (by omega)
      obtain ⟨P, hP⟩ : ∃ P, prS m l k = P := ⟨_, rfl⟩
      simp only [hP] at hbd hg
      have z0 : X0.cell? ⟨sb, so + k * 7, none⟩ = some (I (P 0)) := by rw [← hP]; exact hsc k hlt 0 (by omega)
      have z1 : X0.cell? ⟨sb, so + k * 7 + 1, none⟩ = some (I (P 1)) := by rw [← hP]; exact hsc k hlt 1 (by omega)
      have z2 : X0.cell? ⟨sb, so + k * 7 + 2, none⟩ = some (I (P 2)) := by rw [← hP]; exact hsc k hlt 2 (by omega)
      have z3 : X0.cell? ⟨sb, so + k * 7 + 3, none⟩ = some (I (P 3)) := by rw [← hP]; exact hsc k hlt 3 (by omega)
      have z4 : X0.cell? ⟨sb, so + k * 7 + 4, none⟩ = some (I (P 4)) := by rw [← hP]; exact hsc k hlt 4 (by omega)
      have z5 : X0.cell? ⟨sb, so + k * 7 + 5, none⟩ = some (I (P 5)) := by rw [← hP]; exact hsc k hlt 5 (by omega)
      have z6 : X0.cell? ⟨sb, so + k * 7 + 6, none⟩ = some (I (P 6)) := by rw [← hP]; exact hsc k hlt 6 (by omega)
      clear hsc hrd hP
      go_upto_region 12 with (fail)
      obtain ⟨X1, hX1⟩ : ∃ X1, X1 = X0.alloc (.cells #[I (P 0), I (P 1), I (P 2), I (P 3), I (P 4), I (P 5), I (P 6)] 60) := ⟨_, rfl⟩
      have b01 : Below X0.heap.size X0 X1 := by rw [hX1]; exact (Below.refl _ _).alloc (Nat.le_refl _) _
      have ts : X1.heap[X0.heap.size]? = some (.cells (frArr (P 0) fun j => P (1 + j)) 60 (0, 0)) := by rw [hX1]; exact heap_last _ _ _ rfl
      obtain ⟨tq, htq⟩ : ∃ q, X0.heap.size = q := ⟨_, rfl⟩
      rw [htq] at ts
      rw [← hX1, htq]
      have ms0 : X1.cell? ⟨tq, 0, none⟩ = some (I (P 0)) := row_cl ts 0 _ rfl
      obtain ⟨a1, a2⟩ := fr_at ts hs3
      try simp only at a1 a2
      rw [show 1 + (s * 2 + 1) = 1 + s * 2 + 1 by omega] at a2
      obtain ⟨ms, hms⟩ : ∃ q, P 0 = q := ⟨_, rfl⟩
      obtain ⟨c0, hc0⟩ : ∃ q, P (1 + s * 2) = q := ⟨_, rfl⟩
      obtain ⟨c1, hc1⟩ : ∃ q, P (1 + s * 2 + 1) = q := ⟨_, rfl⟩
      rw [hms] at hbd hg ms0 ts
      rw [hc0] at hbd hg a1
      rw [hc1] at hbd hg a2
      clear hX1 z0 z1 z2 z3 z4 z5 z6 hms hc0 hc1
      have ltq := (Array.getElem?_eq_some_iff.1 ts).1
      have Hts := Lib.hid ts
      clear ts
      have m1 : Hid (∀ X, Calls Tryd.prog 64 #[I c0, I ms, .agg #[I t.lo, I t.hi]] X fun e w' => e = .returned (.bool (mtB c0 ms t)) ∧ Below X.heap.size X w') := fun X => slMeets_any c0 ms t X (by omega) (by omega) Hr.out
      have m2 : Hid (∀ X, Calls Tryd.prog 64 #[I c1, I ms, .agg #[I t.lo, I t.hi]] X fun e w' => e = .returned (.bool (mtB c1 ms t)) ∧ Below X.heap.size X w') := fun X => slMeets_any c1 ms t X (by omega) (by omega) Hr.out
      have m3 : Hid (∀ X, Calls Tryd.prog 65 #[.agg #[I c0, I c1], I ms, .agg #[I t.lo, I t.hi]] X fun e w' => e = .returned (.bool (smB c0 c1 ms t)) ∧ Below X.heap.size X w') := fun X => slSome_any c0 c1 ms t X (by omega) (by omega) Hr.out
      unfold gdF at hg
      obtain ⟨b1, e1⟩ : ∃ b, mtB c0 ms t = b := ⟨_, rfl⟩
      obtain ⟨b2, e2⟩ : ∃ b, mtB c1 ms t = b := ⟨_, rfl⟩
      obtain ⟨b3, e3⟩ : ∃ b, smB c0 c1 ms t = b := ⟨_, rfl⟩
      rw [e1, e2, e3] at hg
      simp only [e1] at m1
      simp only [e2] at m2
      simp only [e3] at m3
      have Hgk := Lib.hid hg
      clear hg e1 e2 e3 hbd
      go_upto_region 14 with (fail)
      obtain ⟨X2, hX2⟩ : ∃ X2, X2 = X1.alloc (.cells #[I c0, I c1] 23) := ⟨_, rfl⟩
      have b12 : Below X1.heap.size X1 X2 := by rw [hX2]; exact (Below.refl _ _).alloc (Nat.le_refl _) _
      have r2 : X2.heap[X1.heap.size]? = some (.cells #[I c0, I c1] 23 (0, 0)) := by rw [hX2]; exact heap_last _ _ _ rfl
      obtain ⟨rq, hrq⟩ : ∃ q, X1.heap.size = q := ⟨_, rfl⟩
      have b02 : Below X0.heap.size X0 X2 := b01.trans (b12.mono b01.size)
      have c1' := row_cl r2 0 _ rfl
      have HZ : Hid (∀ X', Below X2.heap.size X2 X' → X'.cell? ⟨rq, 0, none⟩ = some (I c0) ∧ X'.cell? ⟨rq, 1, none⟩ = some (I c1) ∧ X'.cell? ⟨tq, 0, none⟩ = some (I ms) ∧ X'.cell? ⟨w.heap.size + 1, 0, none⟩ = some (I t.lo) ∧ X'.cell? ⟨w.heap.size + 1, 1, none⟩ = some (I t.hi) ∧ Below X0.heap.size X0 X') := fun X' h => by
        have hr := (h.block _ (Array.getElem?_eq_some_iff.1 r2).1).trans r2
        have ht := (h.block tq (by have := b12.size; omega)).trans ((b12.block tq ltq).trans Hts.out)
        have hb := b02.trans (h.mono b02.size)
        have hy := (HY.out X' (HQ.out X' (Hbw.out.trans (hb.mono Hbw.out.size))).2.2).2.1
        rw [hrq] at hr
        exact ⟨row_cl hr 0 _ rfl, row_cl hr 1 _ rfl, row_cl ht 0 _ rfl, row_cl hy 0 _ rfl, row_cl hy 1 _ rfl, hb⟩
      have HS : Hid (∀ X', Below X2.heap.size X2 X' → SoC 88 1 V.heap.size k (flat 1 gv k) sl X' ∧ Below V.heap.size V X') := fun X' h => ⟨Hso.out.over (b02.trans (h.mono b02.size)), Hbw.out.trans ((b02.trans (h.mono b02.size)).mono Hbw.out.size)⟩
      rw [← hX2, hrq]
      have B2 : Hid (Below X2.heap.size X2 X2) := Below.refl _ _
      clear hX2 r2 hrq b02 b12 b01 ltq c1' htq a1 a2 ms0
      obtain ⟨k0, k1, k2, k3, k4, _⟩ := HZ.out X2 B2.out
      rcases b1 with _ | _
      · go_wp2_with fail
        refine (m1.out _).mono ?_
        rintro e X3 ⟨rfl, hbz⟩
        have B3 : Hid (Below X2.heap.size X2 X3) := B2.out.trans (hbz.mono B2.out.size)
        clear k0 k1 k2 k3 k4 hbz
        obtain ⟨k0, k1, k2, k3, k4, _⟩ := HZ.out X3 B3.out
        go_wp2_with fail
        refine (m3.out _).mono ?_
        rintro e X5 ⟨rfl, hbz⟩
        have B5 : Hid (Below X2.heap.size X2 X5) := B3.out.trans (hbz.mono B3.out.size)
        clear k0 k1 k2 k3 k4 hbz
        obtain ⟨k0, k1, k2, k3, k4, _⟩ := HZ.out X5 B5.out
        clear k0 k1 k2 k3 k4
        rcases b3 with _ | _
        · skip
          go_wp2_with (at_builtin; go_loud (refine wpList_app_soc rfl _ _ 84 rfl 88 i0 _ 1 1 Tryd.underlying84 hi0 iz0 iz1 iz2 rfl (by decide) V.heap.size k (flat 1 gv k) sl rfl ((HS.out X5 B5.out).1.over ((Below.refl _ _).alloc (Nat.le_refl _) _)) ⟨X5.heap.size, 0, none⟩ 1 [.int .u8 3] rfl rfl (news_lit (cs := #[.int .u8 3]) (heap_last _ _ _ rfl)) (by simp [Value.oneCell']) (by have := (HS.out X5 B5.out).2.size; simp; omega) (by omega) (by decide) ?_))
          intro v' w2 hso2 hb2
          have H2 : Hid (Below V.heap.size V w2) := (HS.out X5 B5.out).2.trans (((Below.refl _ _).alloc (HS.out X5 B5.out).2.size _).trans hb2)
          have Hso2 : Hid (SoC 88 1 V.heap.size (k + 1) (flat 1 gv (k + 1)) v' w2) := by show SoC _ _ _ _ _ _ _; rw [gd_next, Hgk.out]; exact hso2
          clear hso2 hb2
          go_wp2_with fail
          go_roundw
          case rel => exact ⟨k + 1, hlt, by go_num, Hso2.out, H2.out⟩
          case measure => simp [intOf]; omega
        · skip
          go_wp2_with (at_builtin; go_loud (refine wpList_app_soc rfl _ _ 84 rfl 88 i0 _ 1 1 Tryd.underlying84 hi0 iz0 iz1 iz2 rfl (by decide) V.heap.size k (flat 1 gv k) sl rfl ((HS.out X5 B5.out).1.over ((Below.refl _ _).alloc (Nat.le_refl _) _)) ⟨X5.heap.size, 0, none⟩ 1 [.int .u8 2] rfl rfl (news_lit (cs := #[.int .u8 2]) (heap_last _ _ _ rfl)) (by simp [Value.oneCell']) (by have := (HS.out X5 B5.out).2.size; simp; omega) (by omega) (by decide) ?_))
          intro v' w2 hso2 hb2
          have H2 : Hid (Below V.heap.size V w2) := (HS.out X5 B5.out).2.trans (((Below.refl _ _).alloc (HS.out X5 B5.out).2.size _).trans hb2)
          have Hso2 : Hid (SoC 88 1 V.heap.size (k + 1) (flat 1 gv (k + 1)) v' w2) := by show SoC _ _ _ _ _ _ _; rw [gd_next, Hgk.out]; exact hso2
          clear hso2 hb2
          go_wp2_with fail
          go_roundw
          case rel => exact ⟨k + 1, hlt, by go_num, Hso2.out, H2.out⟩
          case measure => simp [intOf]; omega
      · go_wp2_with fail
        refine (m1.out _).mono ?_
        rintro e X3 ⟨rfl, hbz⟩
        have B3 : Hid (Below X2.heap.size X2 X3) := B2.out.trans (hbz.mono B2.out.size)
        clear k0 k1 k2 k3 k4 hbz
        obtain ⟨k0, k1, k2, k3, k4, _⟩ := HZ.out X3 B3.out
        go_wp2_with fail
        refine (m2.out _).mono ?_
        rintro e X4 ⟨rfl, hbz⟩
        have B4 : Hid (Below X2.heap.size X2 X4) := B3.out.trans (hbz.mono B3.out.size)
        clear k0 k1 k2 k3 k4 hbz
        obtain ⟨k0, k1, k2, k3, k4, _⟩ := HZ.out X4 B4.out
        rcases b2 with _ | _
        · skip
          go_wp2_with fail
          refine (m3.out _).mono ?_
          rintro e X5 ⟨rfl, hbz⟩
          have B5 : Hid (Below X2.heap.size X2 X5) := B4.out.trans (hbz.mono B4.out.size)
          clear k0 k1 k2 k3 k4 hbz
          obtain ⟨k0, k1, k2, k3, k4, _⟩ := HZ.out X5 B5.out
          clear k0 k1 k2 k3 k4
          rcases b3 with _ | _
          · skip
            go_wp2_with (at_builtin; go_loud (refine wpList_app_soc rfl _ _ 84 rfl 88 i0 _ 1 1 Tryd.underlying84 hi0 iz0 iz1 iz2 rfl (by decide) V.heap.size k (flat 1 gv k) sl rfl ((HS.out X5 B5.out).1.over ((Below.refl _ _).alloc (Nat.le_refl _) _)) ⟨X5.heap.size, 0, none⟩ 1 [.int .u8 3] rfl rfl (news_lit (cs := #[.int .u8 3]) (heap_last _ _ _ rfl)) (by simp [Value.oneCell']) (by have := (HS.out X5 B5.out).2.size; simp; omega) (by omega) (by decide) ?_))
            intro v' w2 hso2 hb2
            have H2 : Hid (Below V.heap.size V w2) := (HS.out X5 B5.out).2.trans (((Below.refl _ _).alloc (HS.out X5 B5.out).2.size _).trans hb2)
            have Hso2 : Hid (SoC 88 1 V.heap.size (k + 1) (flat 1 gv (k + 1)) v' w2) := by show SoC _ _ _ _ _ _ _; rw [gd_next, Hgk.out]; exact hso2
            clear hso2 hb2
            go_wp2_with fail
            go_roundw
            case rel => exact ⟨k + 1, hlt, by go_num, Hso2.out, H2.out⟩
            case measure => simp [intOf]; omega
          · skip
            go_wp2_with (at_builtin; go_loud (refine wpList_app_soc rfl _ _ 84 rfl 88 i0 _ 1 1 Tryd.underlying84 hi0 iz0 iz1 iz2 rfl (by decide) V.heap.size k (flat 1 gv k) sl rfl ((HS.out X5 B5.out).1.over ((Below.refl _ _).alloc (Nat.le_refl _) _)) ⟨X5.heap.size, 0, none⟩ 1 [.int .u8 2] rfl rfl (news_lit (cs := #[.int .u8 2]) (heap_last _ _ _ rfl)) (by simp [Value.oneCell']) (by have := (HS.out X5 B5.out).2.size; simp; omega) (by omega) (by decide) ?_))
            intro v' w2 hso2 hb2
            have H2 : Hid (Below V.heap.size V w2) := (HS.out X5 B5.out).2.trans (((Below.refl _ _).alloc (HS.out X5 B5.out).2.size _).trans hb2)
            have Hso2 : Hid (SoC 88 1 V.heap.size (k + 1) (flat 1 gv (k + 1)) v' w2) := by show SoC _ _ _ _ _ _ _; rw [gd_next, Hgk.out]; exact hso2
            clear hso2 hb2
            go_wp2_with fail
            go_roundw
            case rel => exact ⟨k + 1, hlt, by go_num, Hso2.out, H2.out⟩
            case measure => simp [intOf]; omega
        · clear k0 k1 k2 k3 k4
          go_wp2_with (at_builtin; go_loud (refine wpList_app_soc rfl _ _ 84 rfl 88 i0 _ 1 1 Tryd.underlying84 hi0 iz0 iz1 iz2 rfl (by decide) V.heap.size k (flat 1 gv k) sl rfl ((HS.out X4 B4.out).1.over ((Below.refl _ _).alloc (Nat.le_refl _) _)) ⟨X4.heap.size, 0, none⟩ 1 [.int .u8 1] rfl rfl (news_lit (cs := #[.int .u8 1]) (heap_last _ _ _ rfl)) (by simp [Value.oneCell']) (by have := (HS.out X4 B4.out).2.size; simp; omega) (by omega) (by decide) ?_))
          intro v' w2 hso2 hb2
          have H2 : Hid (Below V.heap.size V w2) := (HS.out X4 B4.out).2.trans (((Below.refl _ _).alloc (HS.out X4 B4.out).2.size _).trans hb2)
          have Hso2 : Hid (SoC 88 1 V.heap.size (k + 1) (flat 1 gv (k + 1)) v' w2) := by show SoC _ _ _ _ _ _ _; rw [gd_next, Hgk.out]; exact hso2
          clear hso2 hb2
          go_wp2_with fail
          go_roundw
          case rel => exact ⟨k + 1, hlt, by go_num, Hso2.out, H2.out⟩
          case measure => simp [intOf]; omega
    · obtain rfl : k = fz := by omega
      have hki : decide ((k : Int) < (k : Int)) = false := decide_eq_false (by omega)
      obtain ⟨A', c', rfl, hc1, hc2, hrd⟩ := Hso.out.rd
      have Hrd := Lib.hid hrd
      clear hrd Hso
      go_wp2_with fail
      go_ret2
      refine ⟨_, rfl, (HY.out _ (HQ.out _ Hbw.out).2.2).2.2.2.2, .inr ⟨Hj.out, A', c', ?_, ?_, hc2, ?_⟩⟩
      · rw [Hfz.out]; rfl
      · rw [Hfz.out]; exact hc1
      · rw [Hfz.out, Int.toNat_natCast, Hgv.out]; exact Hrd.out
theorem judge_grow (m : Mlt) (A : Option Addr) (c : Nat) (l : List Stp) (s : Int) (t : Rng) (w : World) (hG : Glob w) (hx : Rd w w.heap.size 8 A l.length (rT l)) (hk : ∀ j, j < l.length → 0 ≤ (at0 l j).kd ∧ (at0 l j).kd ≤ 255) (hn : l.length ≤ maxLen) :
    Calls Tryd.prog 35 #[.agg (mltArr m), .slice A l.length c, I s, .agg #[I t.lo, I t.hi]] w fun e w' => ∃ u, e = .returned u ∧ Le w w' ∧ Box (JdF m l s t) u w' :=
  (judge_any m A c l s t w hG hx hk hn).mono fun _ _ ⟨u, he, hb, hu⟩ => ⟨u, he, hb, fun _ hl => hu.le hl⟩
end Go.Proofs.YtfifdfagikbahaaDoor
