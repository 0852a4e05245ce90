/- The contracts of both, Grown and Reached of package pull. -/
import Derived.Test.YtlebefopdnadaaaVal
namespace Go.Proofs.Ytlebefopdnadaaa
open Go.RowKit
theorem RunIn.below {w w' : World} {A1 A2 A3 : Option Addr} {R : Run} (h : RunIn w A1 A2 A3 R) (hb : Below w.heap.size w w') : RunIn w' A1 A2 A3 R :=
  ⟨(h.s.below hb).more hb.size, (h.m.below hb).more hb.size, (h.e.below hb).more hb.size, h.ls, h.lm, h.le⟩
theorem RunIn.alloc {w : World} {A1 A2 A3 : Option Addr} {R : Run} (h : RunIn w A1 A2 A3 R) (o : Obj) : RunIn (w.alloc o) A1 A2 A3 R := h.below ((Below.refl _ _).alloc (Nat.le_refl _) o)
theorem under2 {w W : World} {o : Obj} (h : Below (w.alloc o).heap.size (w.alloc o) W) : Below w.heap.size w W := ((Below.refl _ _).alloc (Nat.le_refl _) o).trans (h.mono (by simp))
/-- The place at a time. -/
def placeR (R : Run) (t : Int) : Int := placeF (pcs R) t (R.ss.length - 1)
theorem placeF_bd {R : Run} (h : VRun R) {t : Int} (ht : 0 ≤ t) : ∀ i, i < R.ss.length → 0 ≤ placeF (pcs R) t i ∧ placeF (pcs R) t i ≤ 1000000 * t := by
  have key : ∀ i, i < R.ss.length → (at0 R.ss i).t ≤ t → 0 ≤ plS R i + (at0 R.ss i).v 0 * (t - (at0 R.ss i).t) ∧ plS R i + (at0 R.ss i).v 0 * (t - (at0 R.ss i).t) ≤ 1000000 * t := by
    intro i hi hle
    have h4 := h.pl i (by omega)
    rw [if_pos hi] at h4
    have hv := h.v i hi 0 (by omega)
    have m1 : 0 ≤ (at0 R.ss i).v 0 * (t - (at0 R.ss i).t) := Int.mul_nonneg hv.1 (by omega)
    have m2 : (at0 R.ss i).v 0 * (t - (at0 R.ss i).t) ≤ 1000000 * (t - (at0 R.ss i).t) := Int.mul_le_mul_of_nonneg_right hv.2 (by omega)
    omega
  intro i
  induction i with
  | zero => intro hi; simp only [placeF, at0_pcs R hi]; exact key 0 hi (by rw [h.first]; exact ht)
  | succ i ih =>
    intro hi
    simp only [placeF, at0_pcs R hi]
    split
    · rename_i hle; exact key (i + 1) hi hle
    · exact ih (by omega)
theorem placeR_bd {R : Run} (h : VRun R) {t : Int} (ht : 0 ≤ t) : 0 ≤ placeR R t ∧ placeR R t ≤ 1000000 * t := placeF_bd h ht _ (by have := h.n1; omega)
theorem place_at (A : Option Addr) (n c : Nat) (R : Run) (t : Int) (w : World) (h : VRun R) (hn : n = R.ss.length) (hx : Rd w w.heap.size 10 A n (rP (pcs R))) (ht : 0 ≤ t) (ht2 : t ≤ 1000000) :
    Calls Try.prog 50 #[.slice A n c, I t] w fun e w' => e = .returned (I (placeR R t)) ∧ Below w.heap.size w w' := by
  have hl := pcs_len R
  rw [← hl] at hn
  subst hn
  have hb := h.pcb
  have := place_any A c (pcs R) t w hx (by have := h.n1; omega) (by have := h.n60; omega) (by rw [at0_pcs R (by have := h.n1; omega)]; show (at0 R.ss 0).t ≤ t; rw [h.first]; exact ht) ht2
    (fun k hk => by rw [hl] at hk; rw [at0_pcs R hk]; have := hb k hk; exact ⟨this.1, this.2.2.2.2.2.1, this.2.2.2.2.2.2, this.2.2.2.1, this.2.2.2.2.1⟩)
  refine this.mono ?_
  rintro e w' ⟨rfl, hb'⟩
  exact ⟨by rw [hl]; rfl, hb'⟩
theorem er_ne (b : Bool) : (er b == 0) = b := by cases b <;> rfl
def grownE (R : Run) (a b : Int) : Int := if okRun R then (if a < 0 ∨ b < a ∨ R.e < b then 3 else 0) else 2
def grownN (R : Run) (a b : Int) : Int := if grownE R a b = 0 then placeR R b - placeR R a else 0
set_option maxHeartbeats 1000000 in
theorem grown_any (A1 A2 A3 : Option Addr) (c1 c2 c3 : Nat) (R : Run) (a b : Int) (w : World) (h : RunIn w A1 A2 A3 R) :
    Calls Try.prog 19 #[runV A1 A2 A3 c1 c2 c3 R, I a, I b] w fun e w' => e = .returned (.tuple #[I (grownN R a b), I (grownE R a b)]) ∧ Below w.heap.size w w' := by
  have H1 := Lib.hid (h.alloc (.cells #[.slice A1 R.ss.length c1, I R.e, .slice A2 R.ms.length c2, .slice A3 R.es.length c3] 35))
  clear h
  rcases hok : okRun R with _ | _
  · have e1 : Hid (grownE R a b = 2) := by show grownE R a b = 2; simp [grownE, hok]
    have e2 : Hid (grownN R a b = 0) := by show grownN R a b = 0; simp [grownN, e1.out]
    go_enter Try.func19, Try.ntmps19
    go_wp2_with fail
    refine (checkRun_any _ _ _ _ _ _ R _ H1.out).mono ?_
    rintro e w1 ⟨rfl, hb1⟩
    rw [hok, show er false = 2 from rfl]
    go_wp2_with fail
    go_ret2
    exact ⟨by rw [e1.out, e2.out]; rfl, under2 hb1⟩
  · have hv := Lib.hid ((vRun_iff R).1 hok)
    by_cases hr : a < 0 ∨ b < a ∨ R.e < b
    · have e1 : Hid (grownE R a b = 3) := by show grownE R a b = 3; simp [grownE, hok, hr]
      have e2 : Hid (grownN R a b = 0) := by show grownN R a b = 0; simp [grownN, e1.out]
      go_enter Try.func19, Try.ntmps19
      go_wp2_with fail
      refine (checkRun_any _ _ _ _ _ _ R _ H1.out).mono ?_
      rintro e w1 ⟨rfl, hb1⟩
      have cE : w1.cell? ⟨w.heap.size, 1, none⟩ = some (I R.e) := (hb1.cell (p := ⟨_, _, none⟩) (by simp)).trans (by simp)
      rw [hok, show er true = 0 from rfl]
      go_wp2_with fail
      all_goals
        go_ret2
        exact ⟨by rw [e1.out, e2.out]; rfl, under2 hb1⟩
    · have e1 : Hid (grownE R a b = 0) := by show grownE R a b = 0; simp [grownE, hok]; omega
      have e2 : Hid (grownN R a b = placeR R b - placeR R a) := by show grownN R a b = _; simp [grownN, e1.out]
      have hr' : 0 ≤ a ∧ a ≤ b ∧ b ≤ R.e := by omega
      obtain ⟨r1, r2, r3⟩ := hr'
      clear hr
      have hl := hv.out.last
      have p1 := placeR_bd hv.out (t := a) r1
      have p2 := placeR_bd hv.out (t := b) (by omega)
      go_enter Try.func19, Try.ntmps19
      go_wp2_with fail
      refine (checkRun_any _ _ _ _ _ _ R _ H1.out).mono ?_
      rintro e w1 ⟨rfl, hb1⟩
      have cS : w1.cell? ⟨w.heap.size, 0, none⟩ = some (.slice A1 R.ss.length c1) := (hb1.cell (p := ⟨_, _, none⟩) (by simp)).trans (by simp)
      have cE : w1.cell? ⟨w.heap.size, 1, none⟩ = some (I R.e) := (hb1.cell (p := ⟨_, _, none⟩) (by simp)).trans (by simp)
      have cM : w1.cell? ⟨w.heap.size, 2, none⟩ = some (.slice A2 R.ms.length c2) := (hb1.cell (p := ⟨_, _, none⟩) (by simp)).trans (by simp)
      have cV : w1.cell? ⟨w.heap.size, 3, none⟩ = some (.slice A3 R.es.length c3) := (hb1.cell (p := ⟨_, _, none⟩) (by simp)).trans (by simp)
      rw [hok, show er true = 0 from rfl]
      go_wp2_with fail
      refine (pieces_any _ _ _ _ _ _ R _ (H1.out.below hb1) (by have := hv.out.n60; omega) hv.out.pcb).mono ?_
      rintro e w2 ⟨A, n, c, rfl, hn, hx, hb2, _⟩
      have Hn := Lib.hid hn
      clear hn
      have Hx := Lib.hid hx
      clear hx
      go_wp2_with fail
      refine (place_at _ _ _ R _ _ hv.out Hn.out Hx.out (by omega) (by omega)).mono ?_
      rintro e w3 ⟨rfl, hb3⟩
      go_wp2_with fail
      refine (place_at _ _ _ R _ _ hv.out Hn.out ((Hx.out.below hb3).more hb3.size) (by omega) (by omega)).mono ?_
      rintro e w4 ⟨rfl, hb4⟩
      have z2 := hb2.size
      have z3 := hb3.size
      go_wp2_with fail
      go_ret2
      exact ⟨by rw [e1.out, e2.out]; rfl, under2 (hb1.trans ((hb2.trans ((hb3.trans (hb4.mono z3)).mono z2)).mono hb1.size))⟩
/-- Does a piece reach a length? -/
def hits (L : Int) (c : Pce) : Bool := decide (0 < c.s.v 0) && decide (L ≤ c.p + c.s.v 0 * (c.e - c.s.t))
def reachE (R : Run) (L : Int) : Int := if okRun R then (if inB 100000000000 [L] then (if L = 0 then 0 else if ixOf (hits L) (pcs R) < 0 then 7 else 0) else 3) else 2
def reachAt (L : Int) (c : Pce) : Int := c.s.t + (L - c.p + c.s.v 0 - 1) / c.s.v 0
def reachN (R : Run) (L : Int) : Int := if reachE R L = 0 then (if L = 0 then 0 else reachAt L (at0 (pcs R) (ixOf (hits L) (pcs R)).toNat)) else 0
theorem plS_lt {R : Run} (h : VRun R) {L : Int} (hL : 1 ≤ L) : ∀ {k : Nat}, k ≤ R.ss.length → (∀ j, j < k → hits L (pcS R j) = false) → plS R k < L
  | 0, _, _ => by simp [plS]; omega
  | k + 1, hk, hj => by
    have ih := plS_lt h hL (k := k) (by omega) (fun j hjk => hj j (by omega))
    have hv := (h.v k (by omega) 0 (by omega)).1
    have h0 := hj k (by omega)
    unfold hits at h0
    rw [Bool.and_eq_false_iff, decide_eq_false_iff_not, decide_eq_false_iff_not] at h0
    simp only [pcS] at h0
    simp only [plS]
    rcases h0 with h0 | h0
    · have : (at0 R.ss k).v 0 = 0 := by omega
      rw [this]; omega
    · omega
set_option maxHeartbeats 1000000 in
theorem reached_any (A1 A2 A3 : Option Addr) (c1 c2 c3 : Nat) (R : Run) (L : Int) (w : World) (h : RunIn w A1 A2 A3 R) :
    Calls Try.prog 20 #[runV A1 A2 A3 c1 c2 c3 R, I L] w fun e w' => e = .returned (.tuple #[I (reachN R L), I (reachE R L)]) ∧ Below w.heap.size w w' := by
  have H1 := Lib.hid (h.alloc (.cells #[.slice A1 R.ss.length c1, I R.e, .slice A2 R.ms.length c2, .slice A3 R.es.length c3] 35))
  clear h
  rcases hok : okRun R with _ | _
  · have e1 : Hid (reachE R L = 2) := by show reachE R L = 2; simp [reachE, hok]
    have e2 : Hid (reachN R L = 0) := by show reachN R L = 0; simp [reachN, e1.out]
    go_enter Try.func20, Try.ntmps20
    go_wp2_with fail
    refine (checkRun_any _ _ _ _ _ _ R _ H1.out).mono ?_
    rintro e w1 ⟨rfl, hb1⟩
    rw [hok, show er false = 2 from rfl]
    go_wp2_with fail
    go_ret2
    exact ⟨by rw [e1.out, e2.out]; rfl, under2 hb1⟩
  have hv := Lib.hid ((vRun_iff R).1 hok)
  rcases hin : inB 100000000000 [L] with _ | _
  · have e1 : Hid (reachE R L = 3) := by show reachE R L = 3; simp [reachE, hok, hin]
    have e2 : Hid (reachN R L = 0) := by show reachN R L = 0; simp [reachN, e1.out]
    go_enter Try.func20, Try.ntmps20
    go_wp2_with fail
    refine (checkRun_any _ _ _ _ _ _ R _ H1.out).mono ?_
    rintro e w1 ⟨rfl, hb1⟩
    rw [hok, show er true = 0 from rfl]
    go_wp2_with fail
    refine (in_any _ _ _ [L] _ _ (by rfl) (by unfold maxLen; omega) (Rd_new (heap_last _ _ _ rfl) _ _ _ _ (all1 (all1 rfl)))).mono ?_
    rintro e w2 ⟨rfl, hb2⟩
    rw [hin]
    have z1 := hb1.size
    go_wp2_with fail
    go_ret2
    exact ⟨by rw [e1.out, e2.out]; rfl, under2 (hb1.trans (((Below.refl _ _).alloc (Nat.le_refl _) _).trans (hb2.mono (by simp)) |>.mono z1))⟩
  have hL := (inB_iff _ _).1 hin L (by simp)
  obtain ⟨l1, l2⟩ := hL
  by_cases hz : L = 0
  · subst hz
    have e1 : Hid (reachE R 0 = 0) := by show reachE R 0 = 0; simp [reachE, hok, hin]
    have e2 : Hid (reachN R 0 = 0) := by show reachN R 0 = 0; simp [reachN, e1.out]
    go_enter Try.func20, Try.ntmps20
    go_wp2_with fail
    refine (checkRun_any _ _ _ _ _ _ R _ H1.out).mono ?_
    rintro e w1 ⟨rfl, hb1⟩
    rw [hok, show er true = 0 from rfl]
    go_wp2_with fail
    refine (in_any _ _ _ [0] _ _ (by rfl) (by unfold maxLen; omega) (Rd_new (heap_last _ _ _ rfl) _ _ _ _ (all1 (all1 rfl)))).mono ?_
    rintro e w2 ⟨rfl, hb2⟩
    rw [hin]
    have z1 := hb1.size
    go_wp2_with fail
    go_ret2
    exact ⟨by rw [e1.out, e2.out]; rfl, under2 (hb1.trans (((Below.refl _ _).alloc (Nat.le_refl _) _).trans (hb2.mono (by simp)) |>.mono z1))⟩
  have hz' : (L == 0) = false := by simpa using hz
  have hpos : 1 ≤ L := by omega
  have e1 : Hid (reachE R L = if ixOf (hits L) (pcs R) < 0 then 7 else 0) := by show reachE R L = _; simp [reachE, hok, hin, hz]
  have e2 : Hid (reachN R L = if ixOf (hits L) (pcs R) < 0 then 0 else reachAt L (at0 (pcs R) (ixOf (hits L) (pcs R)).toNat)) := by
    show reachN R L = _
    rw [reachN, e1.out]
    split <;> simp_all
  clear hz
  go_enter Try.func20, Try.ntmps20
  go_wp2_with fail
  refine (checkRun_any _ _ _ _ _ _ R _ H1.out).mono ?_
  rintro e w1 ⟨rfl, hb1⟩
  rw [hok, show er true = 0 from rfl]
  go_wp2_with fail
  refine (in_any _ _ _ [L] _ _ (by rfl) (by unfold maxLen; omega) (Rd_new (heap_last _ _ _ rfl) _ _ _ _ (all1 (all1 rfl)))).mono ?_
  rintro e w2 ⟨rfl, hb2⟩
  rw [hin]
  have z1 := hb1.size
  have hB2 : Below (w.alloc (.cells #[.slice A1 R.ss.length c1, I R.e, .slice A2 R.ms.length c2, .slice A3 R.es.length c3] 35)).heap.size (w.alloc (.cells #[.slice A1 R.ss.length c1, I R.e, .slice A2 R.ms.length c2, .slice A3 R.es.length c3] 35)) w2 := hb1.trans (((Below.refl _ _).alloc (Nat.le_refl _) _).trans (hb2.mono (by simp)) |>.mono z1)
  have cS : w2.cell? ⟨w.heap.size, 0, none⟩ = some (.slice A1 R.ss.length c1) := (hB2.cell (p := ⟨_, _, none⟩) (by simp)).trans (by simp)
  have cE : w2.cell? ⟨w.heap.size, 1, none⟩ = some (I R.e) := (hB2.cell (p := ⟨_, _, none⟩) (by simp)).trans (by simp)
  have cM : w2.cell? ⟨w.heap.size, 2, none⟩ = some (.slice A2 R.ms.length c2) := (hB2.cell (p := ⟨_, _, none⟩) (by simp)).trans (by simp)
  have cV : w2.cell? ⟨w.heap.size, 3, none⟩ = some (.slice A3 R.es.length c3) := (hB2.cell (p := ⟨_, _, none⟩) (by simp)).trans (by simp)
  go_wp2_with fail
  refine (pieces_any _ _ _ _ _ _ R _ (H1.out.below hB2) (by have := hv.out.n60; omega) hv.out.pcb).mono ?_
  rintro e w3 ⟨A, n, c, rfl, hn, hx, hb3, _⟩
  have Hn := Lib.hid hn
  clear hn
  have Hx := Lib.hid hx
  clear hx
  have hn60 : n ≤ 60 := by rw [Hn.out]; exact hv.out.n60
  have HB3 := Lib.hid (under2 (hB2.trans (hb3.mono hB2.size)))
  clear cS cE cM cV hb1 hb2 z1 hB2 hb3
  go_wp2_with fail
  go_loopw [24] (fun i wr => ∃ k : Nat, k ≤ n ∧ i = .int .i64 k ∧ (∀ j, j < k → hits L (at0 (pcs R) j) = false) ∧ Below w3.heap.size w3 wr) (fun i _ => n - (intOf i).toNat)
  case atStart => exact ⟨0, by omega, rfl, by omega, Below.refl _ _⟩
  case round =>
    obtain ⟨k, hk, rfl, hb, hbw⟩ := hrel
    have Hb := Lib.hid hb
    clear hb
    have z3 : w.heap.size ≤ w3.heap.size := HB3.out.size
    have zr := hbw.size
    by_cases hlt : k < n
    · obtain ⟨b, o, rfl, hB, x0, x1, x2, x3, x4, x5, x6, x7, x8, x9⟩ := (Hx.out.below hbw).pce hlt
      have hkR : k < R.ss.length := by rw [← Hn.out]; exact hlt
      have hpc := hv.out.pcb k hkR
      have hP : at0 (pcs R) k = pcS R k := at0_pcs R hkR
      generalize hq : at0 (pcs R) k = q at *
      have HQ := Lib.hid hq
      clear hq
      have HP := Lib.hid hP
      clear hP
      have hpc' : 0 ≤ q.s.t ∧ q.s.t ≤ q.e ∧ q.e ≤ 1000000 ∧ 0 ≤ q.s.v 0 ∧ q.s.v 0 ≤ 1000000 ∧ 0 ≤ q.p ∧ q.p ≤ 1000000000000 := by rw [HP.out]; exact hpc
      clear hpc
      obtain ⟨g1, g2, g3, g4, g5, g6, g7⟩ := hpc'
      have m1 : 0 ≤ q.s.v 0 * (q.e - q.s.t) := Int.mul_nonneg g4 (by omega)
      have m2 : q.s.v 0 * (q.e - q.s.t) ≤ 1000000 * 1000000 := Int.mul_le_mul g5 (by omega) (by omega) (by omega)
      go_wp2_with fail
      refine (rate_any q _).mono ?_
      rintro e w4 ⟨rfl, hb4⟩
      have hB4 : Below w3.heap.size w3 w4 := (hbw.alloc zr _).trans (hb4.mono (by simp; omega))
      have d0 : w4.cell? ⟨wr.heap.size, 0, none⟩ = some (I q.s.t) := (hb4.cell (p := ⟨_, _, none⟩) (by simp)).trans (by simp)
      have d8 : w4.cell? ⟨wr.heap.size, 8, none⟩ = some (I q.e) := (hb4.cell (p := ⟨_, _, none⟩) (by simp)).trans (by simp)
      have d9 : w4.cell? ⟨wr.heap.size, 9, none⟩ = some (I q.p) := (hb4.cell (p := ⟨_, _, none⟩) (by simp)).trans (by simp)
      clear x0 x1 x2 x3 x4 x5 x6 x7 x8 x9
      have hh : Hid (hits L q = (decide (0 < q.s.v 0) && decide (L ≤ q.p + q.s.v 0 * (q.e - q.s.t)))) := rfl
      by_cases h1 : 0 < q.s.v 0
      · by_cases h2 : L ≤ q.p + q.s.v 0 * (q.e - q.s.t)
        · have hyes : hits L q = true := by rw [hh.out]; simp [h1, h2]
          go_wp2_with fail
          have y0 := ovr_cell d0
          have y9 := ovr_cell d9
          have hne : (q.s.v 0 == 0) = false := by simp; omega
          clear d0 d8 d9
          refine wp_region_below_lit (by kernel_rfl) (by kernel_rfl) ?_
          repeat (go_big_quiet_step (fail))
          refine wpQuiet_nil ?_
          intro w5 hb5
          have hix : Hid (ixOf (hits L) (pcs R) = k) := ixOf_at (by rw [pcs_len]; exact hkR) (by rw [HQ.out]; exact hyes) Hb.out
          have hb6 := Lib.hid (HB3.out.trans ((hB4.trans (hb5.mono hB4.size)).mono z3))
          have hpl := plS_lt hv.out hpos (k := k) (by omega) (fun j hj => by rw [← at0_pcs R (by omega)]; exact Hb.out j hj)
          have hqp : q.p < L := by rw [HP.out]; exact hpl
          have hx0 : 0 ≤ L - q.p + q.s.v 0 - 1 := by omega
          have q1 : (L - q.p + q.s.v 0 - 1).tdiv (q.s.v 0) = (L - q.p + q.s.v 0 - 1) / q.s.v 0 := Int.tdiv_eq_ediv_of_nonneg hx0
          have q2 : 0 ≤ (L - q.p + q.s.v 0 - 1) / q.s.v 0 := Int.ediv_nonneg hx0 (by omega)
          have q3 : (L - q.p + q.s.v 0 - 1) / q.s.v 0 ≤ L - q.p + q.s.v 0 - 1 := Int.ediv_le_self _ hx0
          rw [q1, IntWalk.wrap64_in _ (by omega)]
          clear q1
          have e3 : Hid (reachN R L = q.s.t + (L - q.p + q.s.v 0 - 1) / q.s.v 0) := by
            show reachN R L = _
            rw [e2.out, hix.out, if_neg (by omega), Int.toNat_natCast, HQ.out]; rfl
          have e4 : Hid (reachE R L = 0) := by show reachE R L = 0; rw [e1.out, hix.out, if_neg (by omega)]
          go_wp2_with fail
          go_ret2
          exact ⟨by rw [e3.out, e4.out]; rfl, hb6.out⟩
        · have hno : hits L q = false := by rw [hh.out]; simp; omega
          have Hno := Lib.hid hno
          clear hno
          go_wp2_with fail
          go_roundw
          case rel => exact ⟨k + 1, by omega, by go_num, succ_case Hb.out (by rw [HQ.out]; exact Hno.out), hB4⟩
          case measure => simp [intOf]; omega
      · have hno : hits L q = false := by rw [hh.out]; simp; omega
        have Hno := Lib.hid hno
        clear hno
        go_wp2_with fail
        go_roundw
        case rel => exact ⟨k + 1, by omega, by go_num, succ_case Hb.out (by rw [HQ.out]; exact Hno.out), hB4⟩
        case measure => simp [intOf]; omega
    · have hnone : Hid (ixOf (hits L) (pcs R) = -1) := ixOf_none0 fun j hj => Hb.out j (by rw [pcs_len, ← Hn.out] at hj; omega)
      go_wp2_with fail
      go_ret2
      exact ⟨by rw [e1.out, e2.out, hnone.out]; rfl, HB3.out.trans (hbw.mono z3)⟩
end Go.Proofs.Ytlebefopdnadaaa
