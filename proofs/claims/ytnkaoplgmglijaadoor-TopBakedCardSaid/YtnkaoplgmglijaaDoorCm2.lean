/- What is told of a run, number by number; what is followed is a course. -/
import Derived.Test.YtnkaoplgmglijaaDoorMw
import Derived.Test.YtnkaoplgmglijaaDoorNb
import Derived.Test.YtnkaoplgmglijaaDoorFo4
namespace Go.Proofs.YtnkaoplgmglijaaDoor
open Go.RowKit
theorem upF_eq (u p c : Int) (hc : 0 < c) : upF u p c = (u * p + (c - 1)) / c := by
 unfold upF
 have h1 := Int.emod_add_mul_ediv (u * p) c
 have h2 := Int.emod_nonneg (u * p) (show c ≠ 0 by omega)
 have h3 := Int.emod_lt_of_pos (u * p) hc
 generalize u * p % c = r at *
 obtain ⟨q, hq⟩ : ∃ q, u * p / c = q := ⟨_, rfl⟩
 rw [hq] at h1 ⊢
 have hm : c * q = q * c := Int.mul_comm c q
 split
 · rw [← h1, hm, show r + q * c + (c - 1) = (c - 1) + q * c by omega, Int.add_mul_ediv_right _ _ (by omega), Int.ediv_eq_zero_of_lt (by omega) (by omega)]
   omega
 · rw [← h1, hm, show r + q * c + (c - 1) = (r - 1) + (q + 1) * c by rw [Int.add_mul]; omega, Int.add_mul_ediv_right _ _ (by omega), Int.ediv_eq_zero_of_lt (by omega) (by omega)]
   omega
theorem share_mono {d d' p p' c r : Int} (hd : 0 ≤ d) (hdd : d ≤ d') (hp : 0 ≤ p) (hpp : p ≤ p') (hc : 0 < c) : (d * p + r) / c ≤ (d' * p' + r) / c := by
 have h1 : d * p ≤ d' * p := Int.mul_le_mul_of_nonneg_right hdd hp
 have h2 : d' * p ≤ d' * p' := Int.mul_le_mul_of_nonneg_left hpp (by omega)
 exact Int.ediv_le_ediv hc (by omega)
theorem share_lip {d d' p c r : Int} (hd : 0 ≤ d) (hdd : d ≤ d') (hr : 0 ≤ r) (hc : 0 < c) : min d' ((d' * p + r) / c) - min d ((d * p + r) / c) ≤ d' - d := by
 rcases Int.le_total c p with h | h
 · have h1 : d * c ≤ d * p := Int.mul_le_mul_of_nonneg_left h hd
   have h2 : d ≤ (d * p + r) / c := (Int.le_ediv_iff_mul_le hc).2 (by omega)
   omega
 · have h1 : (d' - d) * p ≤ (d' - d) * c := Int.mul_le_mul_of_nonneg_left h (by omega)
   have h2 : (d' - d) * p = d' * p - d * p := Int.sub_mul _ _ _
   have h3 : (d' * p + r) / c ≤ (d * p + r + (d' - d) * c) / c := Int.ediv_le_ediv hc (by omega)
   rw [Int.add_mul_ediv_right _ _ (by omega)] at h3
   omega
structure Takes (lo hi : Int → Int) : Prop where
 mono : ∀ d d', 0 ≤ d → d ≤ d' → d' ≤ 300000000000000 → lo d ≤ lo d' ∧ lo d' - lo d ≤ d' - d ∧ hi d ≤ hi d' ∧ hi d' - hi d ≤ d' - d
 le : ∀ d, 0 ≤ d → d ≤ 300000000000000 → 0 ≤ lo d ∧ lo d ≤ hi d ∧ hi d ≤ d
theorem takes_of {P Q C : Int} (hP : 0 ≤ P) (hQ : P ≤ Q) (hC : 0 < C) : Takes (fun d => min d (d * P / C)) (fun d => min d (upF d Q C)) := by
 refine ⟨fun d d' h0 h1 _ => ?_, fun d h0 _ => ?_⟩
 · show min d (d * P / C) ≤ min d' (d' * P / C) ∧ min d' (d' * P / C) - min d (d * P / C) ≤ d' - d ∧ min d (upF d Q C) ≤ min d' (upF d' Q C) ∧ min d' (upF d' Q C) - min d (upF d Q C) ≤ d' - d
   rw [upF_eq _ _ _ hC, upF_eq _ _ _ hC]
   have a1 := share_mono (r := 0) h0 h1 hP (Int.le_refl P) hC
   have a2 := share_lip (p := P) (r := 0) h0 h1 (Int.le_refl 0) hC
   have b1 := share_mono (r := C - 1) h0 h1 (Int.le_trans hP hQ) (Int.le_refl Q) hC
   have b2 := share_lip (p := Q) (r := C - 1) h0 h1 (by omega) hC
   simp only [Int.add_zero] at a1 a2
   omega
 · show 0 ≤ min d (d * P / C) ∧ min d (d * P / C) ≤ min d (upF d Q C) ∧ min d (upF d Q C) ≤ d
   rw [upF_eq _ _ _ hC]
   have a1 : 0 ≤ d * P / C := Int.ediv_nonneg (Int.mul_nonneg h0 hP) (by omega)
   have a2 := share_mono (r := 0) h0 (Int.le_refl d) hP hQ hC
   have a3 : (d * Q + 0) / C ≤ (d * Q + (C - 1)) / C := Int.ediv_le_ediv hC (by omega)
   simp only [Int.add_zero] at a2 a3
   omega
theorem ch_spell {x : Stp} {s : Nat} {mass : Int} (hx : isS x = true) (hs : s < 3) (hm : 0 ≤ mass ∧ mass ≤ 1000000000) (hxm : x.kd = 1 → x.ms ≤ mass) (hk : x.kd = 1 ∨ x.kd = 4) :
 (x.kd = 1 ∧ x.ms = mass ∧ ∀ d, chF x s d mass = (d, d)) ∨ ¬ (x.kd = 1 ∧ x.ms = mass) ∧ ∃ M C, 0 ≤ M ∧ 0 < C ∧ (M = if x.kd = 1 then x.ms else 1) ∧ (C = if x.kd = 1 then 10000 * mass else 10000 * 1) ∧ ∀ d, 0 ≤ d → d ≤ 300000000000000 → chF x s d mass = (min d (d * (x.b (s * 2) * M) / C), min d (upF d (x.b (s * 2 + 1) * M) C)) := by
 have hby := isS_by hx hs
 have hms := isS_ms hx
 by_cases h1 : x.kd = 1
 · have hm1 := hms (.inl h1)
   have hmm := hxm h1
   have h20 := hby.2.2.1 (.inl h1)
   by_cases h2 : x.ms = mass
   · exact .inl ⟨h1, h2, fun d => by unfold chF; rw [if_pos ⟨h1, h2⟩]⟩
   · refine .inr ⟨fun h => h2 h.2, x.ms, 10000 * mass, by omega, by omega, by rw [if_pos h1], by rw [if_pos h1], fun d h0 hd => ?_⟩
     have p1 := share_bd (q := x.b (s * 2)) (ms := x.ms) (mass := mass) (by omega) (by omega) (by omega)
     have p2 := share_bd (q := x.b (s * 2 + 1)) (ms := x.ms) (mass := mass) (by omega) (by omega) (by omega)
     unfold chF
     rw [if_neg (fun h => h2 h.2), if_pos h1, pt_one ⟨h0, hd⟩ p1 (by omega), pt_two ⟨h0, hd⟩ p2 (by omega)]
 · have h4 : x.kd = 4 := by omega
   have h20 := hby.2.2.1 (.inr h4)
   refine .inr ⟨fun h => h1 h.1, 1, 10000 * 1, by omega, by omega, by rw [if_neg h1], by rw [if_neg h1], fun d h0 hd => ?_⟩
   have p1 : 0 ≤ x.b (s * 2) * 1 ∧ x.b (s * 2) * 1 ≤ 2 * (10000 * 1) ∧ x.b (s * 2) * 1 ≤ 20000000000000 := by omega
   have p2 : 0 ≤ x.b (s * 2 + 1) * 1 ∧ x.b (s * 2 + 1) * 1 ≤ 2 * (10000 * 1) ∧ x.b (s * 2 + 1) * 1 ≤ 20000000000000 := by omega
   unfold chF
   rw [if_neg (fun h => h1 h.1), if_neg h1, if_pos h4, pt_one ⟨h0, hd⟩ p1 (by omega), pt_two ⟨h0, hd⟩ p2 (by omega)]
theorem ch_takes {x : Stp} {s : Nat} {mass : Int} (hx : isS x = true) (hs : s < 3) (hm : 0 ≤ mass ∧ mass ≤ 1000000000) (hxm : x.kd = 1 → x.ms ≤ mass) (hk : x.kd = 1 ∨ x.kd = 4) :
 Takes (fun d => (chF x s d mass).1) (fun d => (chF x s d mass).2) := by
 rcases ch_spell hx hs hm hxm hk with ⟨_, _, h⟩ | ⟨_, M, C, hM, hC, _, _, h⟩
 · refine ⟨fun d d' h0 h1 h2 => ?_, fun d h0 h1 => ?_⟩
   · simp only [h]; omega
   · simp only [h]; omega
 · have hby := isS_by hx hs
   have ht := takes_of (P := x.b (s * 2) * M) (Q := x.b (s * 2 + 1) * M) (C := C) (Int.mul_nonneg hby.1 hM) (Int.mul_le_mul_of_nonneg_right hby.2.1 hM) hC
   refine ⟨fun d d' h0 h1 h2 => ?_, fun d h0 h1 => ?_⟩
   · simp only [h d h0 (by omega), h d' (by omega) h2]
     exact ht.mono d d' h0 h1 h2
   · simp only [h d h0 h1]
     exact ht.le d h0 h1
structure NrwS (y x : Stp) : Prop where
 kd : y.kd = x.kd
 ms : y.ms = x.ms
 lo : ∀ s, s < 3 → x.b (s * 2) ≤ y.b (s * 2)
 hi : ∀ s, s < 3 → y.b (s * 2 + 1) ≤ x.b (s * 2 + 1)
theorem ch_narrow {x y : Stp} {s : Nat} {mass d : Int} (hy : isS y = true) (hx : isS x = true) (hn : NrwS y x) (hs : s < 3) (hm : 0 ≤ mass ∧ mass ≤ 1000000000) (hxm : x.kd = 1 → x.ms ≤ mass) (hd : 0 ≤ d ∧ d ≤ 300000000000000) :
 (chF x s d mass).1 ≤ (chF y s d mass).1 ∧ (chF y s d mass).2 ≤ (chF x s d mass).2 := by
 have h1 := hn.lo s hs
 have h2 := hn.hi s hs
 by_cases hk : x.kd = 1 ∨ x.kd = 4
 · rcases ch_spell hx hs hm hxm hk with ⟨a1, a2, a3⟩ | ⟨a1, M, C, hM, hC, e1, e2, a3⟩
   · rcases ch_spell (x := y) hy hs hm (by rw [hn.kd, hn.ms]; exact hxm) (by rw [hn.kd]; exact hk) with ⟨b1, b2, b3⟩ | ⟨b1, _⟩
     · rw [a3, b3]; exact ⟨Int.le_refl _, Int.le_refl _⟩
     · exact absurd ⟨hn.kd.trans a1, hn.ms.trans a2⟩ b1
   · rcases ch_spell (x := y) hy hs hm (by rw [hn.kd, hn.ms]; exact hxm) (by rw [hn.kd]; exact hk) with ⟨b1, b2, b3⟩ | ⟨b1, M', C', hM', hC', e1', e2', b3⟩
     · exact absurd ⟨hn.kd.symm.trans b1, hn.ms.symm.trans b2⟩ a1
     · rw [hn.kd, hn.ms] at e1'
       rw [hn.kd] at e2'
       rw [← e1] at e1'
       rw [← e2] at e2'
       subst e1'
       subst e2'
       rw [a3 d hd.1 hd.2, b3 d hd.1 hd.2, upF_eq _ _ _ hC, upF_eq _ _ _ hC]
       have c1 := share_mono (r := 0) hd.1 (Int.le_refl d) (Int.mul_nonneg (isS_by hx hs).1 hM) (Int.mul_le_mul_of_nonneg_right h1 hM) hC
       have c2 := share_mono (r := C' - 1) hd.1 (Int.le_refl d) (Int.mul_nonneg (Int.le_trans (isS_by hy hs).1 (isS_by hy hs).2.1) hM) (Int.mul_le_mul_of_nonneg_right h2 hM) hC
       simp only [Int.add_zero] at c1
       show min d _ ≤ min d _ ∧ min d _ ≤ min d _
       omega
 · have hk' : ¬ (y.kd = 1 ∨ y.kd = 4) := by rw [hn.kd]; exact hk
   unfold chF
   rw [if_neg (fun h => hk (.inl h.1)), if_neg (fun h => hk (.inl h)), if_neg (fun h => hk (.inr h)), if_neg (fun h => hk' (.inl h.1)), if_neg (fun h => hk' (.inl h)), if_neg (fun h => hk' (.inr h))]
   exact ⟨h1, h2⟩
structure Goes (m : Mlt) (l : List Stp) (s : Nat) (D c : Nat → Int) (n : Nat) : Prop where
 z : m.ct (s * 2) ≤ D 0 ∧ D 0 ≤ m.ct (s * 2 + 1)
 st : ∀ k, k < n → D (k + 1) = if (at0 l k).kd = 2 ∨ (at0 l k).kd = 3 then D k + c k else D k - c k
 ch : ∀ k, k < n → (chF (at0 l k) s (D k) (msK m l k)).1 ≤ c k ∧ c k ≤ (chF (at0 l k) s (D k) (msK m l k)).2
structure Vld (m : Mlt) (l : List Stp) : Prop where
 hm : isM m = true
 hn : l.length ≤ 200
 he : ∀ j, j < l.length → stE m l j = 0
theorem Vld.ms {m : Mlt} {l : List Stp} (h : Vld m l) {k : Nat} (hk : k ≤ l.length) : 0 ≤ msK m l k ∧ msK m l k ≤ 1000000000 := msK_bd h.hm k fun j hj => h.he j (by omega)
theorem Vld.le {m : Mlt} {l : List Stp} (h : Vld m l) {k : Nat} (hk : k < l.length) : (at0 l k).kd = 1 → (at0 l k).ms ≤ msK m l k := fun h1 => by
 have h2 := h.ms (show k + 1 ≤ l.length by omega)
 rw [msK] at h2
 unfold grF at h2
 rw [if_pos h1] at h2
 omega
theorem Vld.isS {m : Mlt} {l : List Stp} (h : Vld m l) {k : Nat} (hk : k < l.length) : isS (at0 l k) = true := stE_isS (h.he k hk)
theorem Vld.ct {m : Mlt} {l : List Stp} (h : Vld m l) {s : Nat} (hs : s < 3) : 0 ≤ m.ct (s * 2) ∧ m.ct (s * 2) ≤ m.ct (s * 2 + 1) ∧ m.ct (s * 2 + 1) ≤ 1000000000000 := by
 have h2 : bdB m.ct 1000000000000 = true := by have := h.hm; unfold isM at this; rw [Bool.and_eq_true] at this; exact this.2
 exact bdB_at h2 hs
theorem Vld.takes {m : Mlt} {l : List Stp} (h : Vld m l) {k s : Nat} (hk : k < l.length) (hs : s < 3) (hkd : ¬ ((at0 l k).kd = 2 ∨ (at0 l k).kd = 3)) : Takes (fun d => (chF (at0 l k) s d (msK m l k)).1) (fun d => (chF (at0 l k) s d (msK m l k)).2) :=
 ch_takes (h.isS hk) hs (h.ms (by omega)) (h.le hk) (by have := isS_kd (h.isS hk); omega)
theorem Vld.mono {m : Mlt} {l : List Stp} (h : Vld m l) {k s : Nat} (hk : k < l.length) (hs : s < 3) (hkd : ¬ ((at0 l k).kd = 2 ∨ (at0 l k).kd = 3)) {d d' : Int} (h0 : 0 ≤ d) (h1 : d ≤ d') (h2 : d' ≤ 300000000000000) :
 (chF (at0 l k) s d (msK m l k)).1 ≤ (chF (at0 l k) s d' (msK m l k)).1 ∧ (chF (at0 l k) s d' (msK m l k)).1 - (chF (at0 l k) s d (msK m l k)).1 ≤ d' - d ∧ (chF (at0 l k) s d (msK m l k)).2 ≤ (chF (at0 l k) s d' (msK m l k)).2 ∧ (chF (at0 l k) s d' (msK m l k)).2 - (chF (at0 l k) s d (msK m l k)).2 ≤ d' - d := (h.takes hk hs hkd).mono d d' h0 h1 h2
theorem ch_add {x : Stp} {s : Nat} {d mass : Int} (h : x.kd = 2 ∨ x.kd = 3) : chF x s d mass = (x.b (s * 2), x.b (s * 2 + 1)) := by
 unfold chF
 rw [if_neg (by omega), if_neg (by omega), if_neg (by omega)]
theorem Goes.bd {m : Mlt} {l : List Stp} {s : Nat} {D c : Nat → Int} {n : Nat} (h : Goes m l s D c n) (hv : Vld m l) (hs : s < 3) (hn : n ≤ l.length) : ∀ k, k ≤ n → 0 ≤ D k ∧ D k ≤ 1000000000000 + k * 1000000000000
 | 0, _ => by have := h.z; have := hv.ct hs; omega
 | k + 1, hk => by
   have ih := h.bd hv hs hn k (by omega)
   have hb := ch_bd (mass := msK m l k) (hv.isS (show k < l.length by omega)) hs ih.1
   have hc := h.ch k (by omega)
   rw [h.st k (by omega)]
   split
   · rename_i h'
     have := hb.2.2 h'
     omega
   · rename_i h'
     have := hb.2.1 h'
     omega
theorem Goes.bd' {m : Mlt} {l : List Stp} {s : Nat} {D c : Nat → Int} {n : Nat} (h : Goes m l s D c n) (hv : Vld m l) (hs : s < 3) (hn : n ≤ l.length) {k : Nat} (hk : k ≤ n) : 0 ≤ D k ∧ D k ≤ 300000000000000 := by
 have := h.bd hv hs hn k hk
 have := hv.hn
 omega
theorem goes_wk {m : Mlt} {l : List Stp} {s : Nat} (q : Crs) (hv : Vld m l) (hs : s < 3) : Goes m l s (wkD m q s (stF q (m.ct (s * 2)) (m.ct (s * 2 + 1))) l) (fun k => pkF q (at0 l k).kd (chF (at0 l k) s (wkD m q s (stF q (m.ct (s * 2)) (m.ct (s * 2 + 1))) l k) (msK m l k)).1 (chF (at0 l k) s (wkD m q s (stF q (m.ct (s * 2)) (m.ct (s * 2 + 1))) l k) (msK m l k)).2) l.length := by
 have hct := hv.ct hs
 have hst : m.ct (s * 2) ≤ stF q (m.ct (s * 2)) (m.ct (s * 2 + 1)) ∧ stF q (m.ct (s * 2)) (m.ct (s * 2 + 1)) ≤ m.ct (s * 2 + 1) := by unfold stF; split <;> omega
 refine ⟨hst, fun k hk => rfl, fun k hk => ?_⟩
 have hb := wk_bd (m := m) (c := q) (st := stF q (m.ct (s * 2)) (m.ct (s * 2 + 1))) (l := l) hs (by omega) k fun j hj => hv.he j (by omega)
 have hn := hv.hn
 have hle : (chF (at0 l k) s (wkD m q s (stF q (m.ct (s * 2)) (m.ct (s * 2 + 1))) l k) (msK m l k)).1 ≤ (chF (at0 l k) s (wkD m q s (stF q (m.ct (s * 2)) (m.ct (s * 2 + 1))) l k) (msK m l k)).2 := by
  by_cases hkd : (at0 l k).kd = 2 ∨ (at0 l k).kd = 3
  · rw [ch_add hkd]; exact (isS_by (hv.isS hk) hs).2.1
  · exact ((hv.takes hk hs hkd).le _ hb.1 (by omega)).2.1
 rcases pk_or q (at0 l k).kd (chF (at0 l k) s (wkD m q s (stF q (m.ct (s * 2)) (m.ct (s * 2 + 1))) l k) (msK m l k)).1 (chF (at0 l k) s (wkD m q s (stF q (m.ct (s * 2)) (m.ct (s * 2 + 1))) l k) (msK m l k)).2 with e | e
 · show _ ≤ pkF _ _ _ _ ∧ pkF _ _ _ _ ≤ _; rw [e]; exact ⟨Int.le_refl _, hle⟩
 · show _ ≤ pkF _ _ _ _ ∧ pkF _ _ _ _ ≤ _; rw [e]; exact ⟨hle, Int.le_refl _⟩
def sumK (l : List Stp) (c : Nat → Int) (p : Int → Bool) : Nat → Int
 | 0 => 0
 | k + 1 => if p (at0 l k).kd then sumK l c p k + c k else sumK l c p k
def isF (k : Int) : Bool := k == 1
def isV (k : Int) : Bool := k == 4
def isA (k : Int) : Bool := k == 2 || k == 3
section
variable {m : Mlt} {l : List Stp} {s : Nat} {D c : Nat → Int} {n : Nat}
theorem wk_step (q : Crs) (st : Int) (k : Nat) : wkD m q s st l (k + 1) = if (at0 l k).kd = 2 ∨ (at0 l k).kd = 3 then wkD m q s st l k + (if q.added then (chF (at0 l k) s (wkD m q s st l k) (msK m l k)).2 else (chF (at0 l k) s (wkD m q s st l k) (msK m l k)).1)
 else if (at0 l k).kd = 1 then wkD m q s st l k - (if q.frozen then (chF (at0 l k) s (wkD m q s st l k) (msK m l k)).2 else (chF (at0 l k) s (wkD m q s st l k) (msK m l k)).1)
 else if (at0 l k).kd = 4 then wkD m q s st l k - (if q.gone then (chF (at0 l k) s (wkD m q s st l k) (msK m l k)).2 else (chF (at0 l k) s (wkD m q s st l k) (msK m l k)).1)
 else wkD m q s st l k - (if q.added then (chF (at0 l k) s (wkD m q s st l k) (msK m l k)).2 else (chF (at0 l k) s (wkD m q s st l k) (msK m l k)).1) := by
 rw [wkD]
 unfold pkF
 by_cases h2 : (at0 l k).kd = 2 ∨ (at0 l k).kd = 3
 · rw [if_pos h2, if_pos h2, if_neg (show ¬ (at0 l k).kd = 1 by omega), if_neg (show ¬ (at0 l k).kd = 4 by omega)]
 · rw [if_neg h2, if_neg h2]
   by_cases h1 : (at0 l k).kd = 1
   · rw [if_pos h1, if_pos h1]
   · rw [if_neg h1, if_neg h1]
     by_cases h4 : (at0 l k).kd = 4
     · rw [if_pos h4, if_pos h4]
     · rw [if_neg h4, if_neg h4]
theorem Goes.between (h : Goes m l s D c n) (hv : Vld m l) (hs : s < 3) (hn : n ≤ l.length) : ∀ k, k ≤ n → wkD m crsPoor s (m.ct (s * 2)) l k ≤ D k ∧ D k ≤ wkD m crsRich s (m.ct (s * 2 + 1)) l k
 | 0, _ => h.z
 | k + 1, hk => by
   have ih := h.between hv hs hn k (by omega)
   have hkl : k < l.length := by omega
   have hct := hv.ct hs
   have hn2 := hv.hn
   have bp := wk_bd (m := m) (c := crsPoor) (st := m.ct (s * 2)) (l := l) hs (by omega) k fun j hj => hv.he j (by omega)
   have br := wk_bd (m := m) (c := crsRich) (st := m.ct (s * 2 + 1)) (l := l) hs (by omega) k fun j hj => hv.he j (by omega)
   have hc := h.ch k (by omega)
   have hd := h.bd' hv hs hn (show k ≤ n by omega)
   rw [h.st k (by omega), wk_step, wk_step]
   generalize wkD m crsPoor s (m.ct (s * 2)) l k = P at *
   generalize wkD m crsRich s (m.ct (s * 2 + 1)) l k = R at *
   by_cases hkd : (at0 l k).kd = 2 ∨ (at0 l k).kd = 3
   · rw [if_pos hkd, if_pos hkd, if_pos hkd]
     rw [ch_add hkd, ch_add hkd]
     rw [ch_add hkd] at hc
     show P + (at0 l k).b (s * 2) ≤ _ ∧ _ ≤ R + (at0 l k).b (s * 2 + 1)
     simp only at hc
     omega
   · have t1 := hv.mono hkl hs hkd bp.1 ih.1 hd.2
     have t2 := hv.mono hkl hs hkd hd.1 ih.2 (by omega)
     rw [if_neg hkd, if_neg hkd, if_neg hkd]
     have h14 : (at0 l k).kd = 1 ∨ (at0 l k).kd = 4 := by have := isS_kd (hv.isS hkl); omega
     have e : ∀ a b c d : Int, (if (at0 l k).kd = 1 then a - (if true = true then b else c) else if (at0 l k).kd = 4 then a - (if true = true then b else c) else d) = a - b := fun a b c d => by
       rcases h14 with h1 | h1
       · rw [if_pos h1]; rfl
       · rw [if_neg (by omega), if_pos h1]; rfl
     have e' : ∀ a b c d : Int, (if (at0 l k).kd = 1 then a - (if false = true then b else c) else if (at0 l k).kd = 4 then a - (if false = true then b else c) else d) = a - c := fun a b c d => by
       rcases h14 with h1 | h1
       · rw [if_pos h1]; rfl
       · rw [if_neg (by omega), if_pos h1]; rfl
     have g1 := e P (chF (at0 l k) s P (msK m l k)).2 (chF (at0 l k) s P (msK m l k)).1 (P - (if false = true then (chF (at0 l k) s P (msK m l k)).2 else (chF (at0 l k) s P (msK m l k)).1))
     have g2 := e' R (chF (at0 l k) s R (msK m l k)).2 (chF (at0 l k) s R (msK m l k)).1 (R - (if true = true then (chF (at0 l k) s R (msK m l k)).2 else (chF (at0 l k) s R (msK m l k)).1))
     have gg : P - (chF (at0 l k) s P (msK m l k)).2 ≤ D k - c k ∧ D k - c k ≤ R - (chF (at0 l k) s R (msK m l k)).1 := by omega
     exact ⟨Int.le_trans (Int.le_of_eq g1) gg.1, Int.le_trans gg.2 (Int.le_of_eq g2.symm)⟩
theorem Goes.slice (h : Goes m l s D c n) (hv : Vld m l) (hs : s < 3) (hn : n ≤ l.length) {k : Nat} (hk : k < n) (h1 : (at0 l k).kd = 1) :
 (chF (at0 l k) s (wkD m crsPoor s (m.ct (s * 2)) l k) (msK m l k)).1 ≤ c k ∧ c k ≤ (chF (at0 l k) s (wkD m crsRich s (m.ct (s * 2 + 1)) l k) (msK m l k)).2 := by
 have ih := h.between hv hs hn k (by omega)
 have hkl : k < l.length := by omega
 have hct := hv.ct hs
 have hn2 := hv.hn
 have bp := wk_bd (m := m) (c := crsPoor) (st := m.ct (s * 2)) (l := l) hs (by omega) k fun j hj => hv.he j (by omega)
 have br := wk_bd (m := m) (c := crsRich) (st := m.ct (s * 2 + 1)) (l := l) hs (by omega) k fun j hj => hv.he j (by omega)
 have hc := h.ch k hk
 have hd := h.bd' hv hs hn (show k ≤ n by omega)
 have hkd : ¬ ((at0 l k).kd = 2 ∨ (at0 l k).kd = 3) := by omega
 have t1 := hv.mono hkl hs hkd bp.1 ih.1 hd.2
 have t2 := hv.mono hkl hs hkd hd.1 ih.2 (by omega)
 omega
theorem tl1_step (q : Crs) (st : Int) (k : Nat) : (tlK m q s st l (k + 1)).1 = if (at0 l k).kd = 1 then (tlK m q s st l k).1 + (wkD m q s st l k - wkD m q s st l (k + 1)) else (tlK m q s st l k).1 := by
 rw [tlK]
 split
 · rfl
 · split <;> rfl
theorem tl2_step (q : Crs) (st : Int) (k : Nat) : (tlK m q s st l (k + 1)).2 = if (at0 l k).kd = 4 then (tlK m q s st l k).2 + (wkD m q s st l k - wkD m q s st l (k + 1)) else (tlK m q s st l k).2 := by
 rw [tlK]
 split
 · rename_i h
   rw [if_neg (by omega)]
 · split <;> rfl
theorem wk_add (q : Crs) (st : Int) (k : Nat) (h : (at0 l k).kd = 2 ∨ (at0 l k).kd = 3) : wkD m q s st l (k + 1) = wkD m q s st l k + (if q.added then (at0 l k).b (s * 2 + 1) else (at0 l k).b (s * 2)) := by
 rw [wk_step, if_pos h, ch_add h]
theorem wk_frz (q : Crs) (st : Int) (k : Nat) (h : (at0 l k).kd = 1) : wkD m q s st l (k + 1) = wkD m q s st l k - (if q.frozen then (chF (at0 l k) s (wkD m q s st l k) (msK m l k)).2 else (chF (at0 l k) s (wkD m q s st l k) (msK m l k)).1) := by
 rw [wk_step, if_neg (by omega), if_pos h]
theorem wk_vap (q : Crs) (st : Int) (k : Nat) (h : (at0 l k).kd = 4) : wkD m q s st l (k + 1) = wkD m q s st l k - (if q.gone then (chF (at0 l k) s (wkD m q s st l k) (msK m l k)).2 else (chF (at0 l k) s (wkD m q s st l k) (msK m l k)).1) := by
 rw [wk_step, if_neg (by omega), if_neg (by omega), if_pos h]
theorem Goes.solid_lo (h : Goes m l s D c n) (hv : Vld m l) (hs : s < 3) (hn : n ≤ l.length) : ∀ k, k ≤ n → ((tlK m ⟨false, false, true⟩ s (m.ct (s * 2)) l k).1 ≤ sumK l c isF k) ∧ (wkD m ⟨false, false, true⟩ s (m.ct (s * 2)) l k + (tlK m ⟨false, false, true⟩ s (m.ct (s * 2)) l k).1 ≤ D k + sumK l c isF k)
 | 0, _ => by
   have hz := h.z
   show ((0:Int) ≤ 0) ∧ (m.ct (s * 2) + 0 ≤ D 0 + 0)
   omega
 | k + 1, hk => by
   have ih := h.solid_lo hv hs hn k (by omega)
   have hkl : k < l.length := by omega
   have hct := hv.ct hs
   have hn2 := hv.hn
   have be := wk_bd (m := m) (c := ⟨false, false, true⟩) (st := m.ct (s * 2)) (l := l) hs (by omega) k fun j hj => hv.he j (by omega)
   have hc := h.ch k (by omega)
   have hd := h.bd' hv hs hn (show k ≤ n by omega)
   have hst := h.st k (by omega)
   rw [tl1_step, hst, sumK]
   rcases isS_kd (hv.isS hkl) with h1 | h1 | h1 | h1
   · have hw : wkD m ⟨false, false, true⟩ s (m.ct (s * 2)) l (k + 1) = wkD m ⟨false, false, true⟩ s (m.ct (s * 2)) l k - (chF (at0 l k) s (wkD m ⟨false, false, true⟩ s (m.ct (s * 2)) l k) (msK m l k)).1 := wk_frz (m := m) (s := s) ⟨false, false, true⟩ (m.ct (s * 2)) k h1
     have hkd : ¬ ((at0 l k).kd = 2 ∨ (at0 l k).kd = 3) := by omega
     rw [if_neg hkd, if_pos h1, if_pos (show isF (at0 l k).kd = true by rw [h1]; rfl)]
     rw [hw]
     generalize wkD m ⟨false, false, true⟩ s (m.ct (s * 2)) l k = E at *
     rcases Int.le_total E (D k) with hle | hle
     · have t := hv.mono hkl hs hkd be.1 hle hd.2
       omega
     · have t := hv.mono hkl hs hkd hd.1 hle (by omega)
       omega
   · have hw : wkD m ⟨false, false, true⟩ s (m.ct (s * 2)) l (k + 1) = wkD m ⟨false, false, true⟩ s (m.ct (s * 2)) l k + (at0 l k).b (s * 2) := wk_add (m := m) (s := s) ⟨false, false, true⟩ (m.ct (s * 2)) k (.inl h1)
     rw [if_pos (show (at0 l k).kd = 2 ∨ (at0 l k).kd = 3 from .inl h1), if_neg (show ¬ (at0 l k).kd = 1 by omega), if_neg (show ¬ isF (at0 l k).kd = true by rw [h1]; decide)]
     rw [ch_add (.inl h1)] at hc
     simp only at hc
     rw [hw]
     omega
   · have hw : wkD m ⟨false, false, true⟩ s (m.ct (s * 2)) l (k + 1) = wkD m ⟨false, false, true⟩ s (m.ct (s * 2)) l k + (at0 l k).b (s * 2) := wk_add (m := m) (s := s) ⟨false, false, true⟩ (m.ct (s * 2)) k (.inr h1)
     rw [if_pos (show (at0 l k).kd = 2 ∨ (at0 l k).kd = 3 from .inr h1), if_neg (show ¬ (at0 l k).kd = 1 by omega), if_neg (show ¬ isF (at0 l k).kd = true by rw [h1]; decide)]
     rw [ch_add (.inr h1)] at hc
     simp only at hc
     rw [hw]
     omega
   · have hw : wkD m ⟨false, false, true⟩ s (m.ct (s * 2)) l (k + 1) = wkD m ⟨false, false, true⟩ s (m.ct (s * 2)) l k - (chF (at0 l k) s (wkD m ⟨false, false, true⟩ s (m.ct (s * 2)) l k) (msK m l k)).2 := wk_vap (m := m) (s := s) ⟨false, false, true⟩ (m.ct (s * 2)) k h1
     have hkd : ¬ ((at0 l k).kd = 2 ∨ (at0 l k).kd = 3) := by omega
     rw [if_neg hkd, if_neg (show ¬ (at0 l k).kd = 1 by omega), if_neg (show ¬ isF (at0 l k).kd = true by rw [h1]; decide)]
     rw [hw]
     generalize wkD m ⟨false, false, true⟩ s (m.ct (s * 2)) l k = E at *
     rcases Int.le_total E (D k) with hle | hle
     · have t := hv.mono hkl hs hkd be.1 hle hd.2
       omega
     · have t := hv.mono hkl hs hkd hd.1 hle (by omega)
       omega
theorem Goes.solid_hi (h : Goes m l s D c n) (hv : Vld m l) (hs : s < 3) (hn : n ≤ l.length) : ∀ k, k ≤ n → (sumK l c isF k ≤ (tlK m ⟨true, true, false⟩ s (m.ct (s * 2 + 1)) l k).1) ∧ (D k + sumK l c isF k ≤ wkD m ⟨true, true, false⟩ s (m.ct (s * 2 + 1)) l k + (tlK m ⟨true, true, false⟩ s (m.ct (s * 2 + 1)) l k).1)
 | 0, _ => by
   have hz := h.z
   show ((0:Int) ≤ 0) ∧ (D 0 + 0 ≤ m.ct (s * 2 + 1) + 0)
   omega
 | k + 1, hk => by
   have ih := h.solid_hi hv hs hn k (by omega)
   have hkl : k < l.length := by omega
   have hct := hv.ct hs
   have hn2 := hv.hn
   have be := wk_bd (m := m) (c := ⟨true, true, false⟩) (st := m.ct (s * 2 + 1)) (l := l) hs (by omega) k fun j hj => hv.he j (by omega)
   have hc := h.ch k (by omega)
   have hd := h.bd' hv hs hn (show k ≤ n by omega)
   have hst := h.st k (by omega)
   rw [tl1_step, hst, sumK]
   rcases isS_kd (hv.isS hkl) with h1 | h1 | h1 | h1
   · have hw : wkD m ⟨true, true, false⟩ s (m.ct (s * 2 + 1)) l (k + 1) = wkD m ⟨true, true, false⟩ s (m.ct (s * 2 + 1)) l k - (chF (at0 l k) s (wkD m ⟨true, true, false⟩ s (m.ct (s * 2 + 1)) l k) (msK m l k)).2 := wk_frz (m := m) (s := s) ⟨true, true, false⟩ (m.ct (s * 2 + 1)) k h1
     have hkd : ¬ ((at0 l k).kd = 2 ∨ (at0 l k).kd = 3) := by omega
     rw [if_neg hkd, if_pos h1, if_pos (show isF (at0 l k).kd = true by rw [h1]; rfl)]
     rw [hw]
     generalize wkD m ⟨true, true, false⟩ s (m.ct (s * 2 + 1)) l k = E at *
     rcases Int.le_total E (D k) with hle | hle
     · have t := hv.mono hkl hs hkd be.1 hle hd.2
       omega
     · have t := hv.mono hkl hs hkd hd.1 hle (by omega)
       omega
   · have hw : wkD m ⟨true, true, false⟩ s (m.ct (s * 2 + 1)) l (k + 1) = wkD m ⟨true, true, false⟩ s (m.ct (s * 2 + 1)) l k + (at0 l k).b (s * 2 + 1) := wk_add (m := m) (s := s) ⟨true, true, false⟩ (m.ct (s * 2 + 1)) k (.inl h1)
     rw [if_pos (show (at0 l k).kd = 2 ∨ (at0 l k).kd = 3 from .inl h1), if_neg (show ¬ (at0 l k).kd = 1 by omega), if_neg (show ¬ isF (at0 l k).kd = true by rw [h1]; decide)]
     rw [ch_add (.inl h1)] at hc
     simp only at hc
     rw [hw]
     omega
   · have hw : wkD m ⟨true, true, false⟩ s (m.ct (s * 2 + 1)) l (k + 1) = wkD m ⟨true, true, false⟩ s (m.ct (s * 2 + 1)) l k + (at0 l k).b (s * 2 + 1) := wk_add (m := m) (s := s) ⟨true, true, false⟩ (m.ct (s * 2 + 1)) k (.inr h1)
     rw [if_pos (show (at0 l k).kd = 2 ∨ (at0 l k).kd = 3 from .inr h1), if_neg (show ¬ (at0 l k).kd = 1 by omega), if_neg (show ¬ isF (at0 l k).kd = true by rw [h1]; decide)]
     rw [ch_add (.inr h1)] at hc
     simp only at hc
     rw [hw]
     omega
   · have hw : wkD m ⟨true, true, false⟩ s (m.ct (s * 2 + 1)) l (k + 1) = wkD m ⟨true, true, false⟩ s (m.ct (s * 2 + 1)) l k - (chF (at0 l k) s (wkD m ⟨true, true, false⟩ s (m.ct (s * 2 + 1)) l k) (msK m l k)).1 := wk_vap (m := m) (s := s) ⟨true, true, false⟩ (m.ct (s * 2 + 1)) k h1
     have hkd : ¬ ((at0 l k).kd = 2 ∨ (at0 l k).kd = 3) := by omega
     rw [if_neg hkd, if_neg (show ¬ (at0 l k).kd = 1 by omega), if_neg (show ¬ isF (at0 l k).kd = true by rw [h1]; decide)]
     rw [hw]
     generalize wkD m ⟨true, true, false⟩ s (m.ct (s * 2 + 1)) l k = E at *
     rcases Int.le_total E (D k) with hle | hle
     · have t := hv.mono hkl hs hkd be.1 hle hd.2
       omega
     · have t := hv.mono hkl hs hkd hd.1 hle (by omega)
       omega
theorem Goes.gone_lo (h : Goes m l s D c n) (hv : Vld m l) (hs : s < 3) (hn : n ≤ l.length) : ∀ k, k ≤ n → ((tlK m ⟨false, true, false⟩ s (m.ct (s * 2)) l k).2 ≤ sumK l c isV k) ∧ (wkD m ⟨false, true, false⟩ s (m.ct (s * 2)) l k + (tlK m ⟨false, true, false⟩ s (m.ct (s * 2)) l k).2 ≤ D k + sumK l c isV k)
 | 0, _ => by
   have hz := h.z
   show ((0:Int) ≤ 0) ∧ (m.ct (s * 2) + 0 ≤ D 0 + 0)
   omega
 | k + 1, hk => by
   have ih := h.gone_lo hv hs hn k (by omega)
   have hkl : k < l.length := by omega
   have hct := hv.ct hs
   have hn2 := hv.hn
   have be := wk_bd (m := m) (c := ⟨false, true, false⟩) (st := m.ct (s * 2)) (l := l) hs (by omega) k fun j hj => hv.he j (by omega)
   have hc := h.ch k (by omega)
   have hd := h.bd' hv hs hn (show k ≤ n by omega)
   have hst := h.st k (by omega)
   rw [tl2_step, hst, sumK]
   rcases isS_kd (hv.isS hkl) with h1 | h1 | h1 | h1
   · have hw : wkD m ⟨false, true, false⟩ s (m.ct (s * 2)) l (k + 1) = wkD m ⟨false, true, false⟩ s (m.ct (s * 2)) l k - (chF (at0 l k) s (wkD m ⟨false, true, false⟩ s (m.ct (s * 2)) l k) (msK m l k)).2 := wk_frz (m := m) (s := s) ⟨false, true, false⟩ (m.ct (s * 2)) k h1
     have hkd : ¬ ((at0 l k).kd = 2 ∨ (at0 l k).kd = 3) := by omega
     rw [if_neg hkd, if_neg (show ¬ (at0 l k).kd = 4 by omega), if_neg (show ¬ isV (at0 l k).kd = true by rw [h1]; decide)]
     rw [hw]
     generalize wkD m ⟨false, true, false⟩ s (m.ct (s * 2)) l k = E at *
     rcases Int.le_total E (D k) with hle | hle
     · have t := hv.mono hkl hs hkd be.1 hle hd.2
       omega
     · have t := hv.mono hkl hs hkd hd.1 hle (by omega)
       omega
   · have hw : wkD m ⟨false, true, false⟩ s (m.ct (s * 2)) l (k + 1) = wkD m ⟨false, true, false⟩ s (m.ct (s * 2)) l k + (at0 l k).b (s * 2) := wk_add (m := m) (s := s) ⟨false, true, false⟩ (m.ct (s * 2)) k (.inl h1)
     rw [if_pos (show (at0 l k).kd = 2 ∨ (at0 l k).kd = 3 from .inl h1), if_neg (show ¬ (at0 l k).kd = 4 by omega), if_neg (show ¬ isV (at0 l k).kd = true by rw [h1]; decide)]
     rw [ch_add (.inl h1)] at hc
     simp only at hc
     rw [hw]
     omega
   · have hw : wkD m ⟨false, true, false⟩ s (m.ct (s * 2)) l (k + 1) = wkD m ⟨false, true, false⟩ s (m.ct (s * 2)) l k + (at0 l k).b (s * 2) := wk_add (m := m) (s := s) ⟨false, true, false⟩ (m.ct (s * 2)) k (.inr h1)
     rw [if_pos (show (at0 l k).kd = 2 ∨ (at0 l k).kd = 3 from .inr h1), if_neg (show ¬ (at0 l k).kd = 4 by omega), if_neg (show ¬ isV (at0 l k).kd = true by rw [h1]; decide)]
     rw [ch_add (.inr h1)] at hc
     simp only at hc
     rw [hw]
     omega
   · have hw : wkD m ⟨false, true, false⟩ s (m.ct (s * 2)) l (k + 1) = wkD m ⟨false, true, false⟩ s (m.ct (s * 2)) l k - (chF (at0 l k) s (wkD m ⟨false, true, false⟩ s (m.ct (s * 2)) l k) (msK m l k)).1 := wk_vap (m := m) (s := s) ⟨false, true, false⟩ (m.ct (s * 2)) k h1
     have hkd : ¬ ((at0 l k).kd = 2 ∨ (at0 l k).kd = 3) := by omega
     rw [if_neg hkd, if_pos h1, if_pos (show isV (at0 l k).kd = true by rw [h1]; rfl)]
     rw [hw]
     generalize wkD m ⟨false, true, false⟩ s (m.ct (s * 2)) l k = E at *
     rcases Int.le_total E (D k) with hle | hle
     · have t := hv.mono hkl hs hkd be.1 hle hd.2
       omega
     · have t := hv.mono hkl hs hkd hd.1 hle (by omega)
       omega
theorem Goes.gone_hi (h : Goes m l s D c n) (hv : Vld m l) (hs : s < 3) (hn : n ≤ l.length) : ∀ k, k ≤ n → (sumK l c isV k ≤ (tlK m ⟨true, false, true⟩ s (m.ct (s * 2 + 1)) l k).2) ∧ (D k + sumK l c isV k ≤ wkD m ⟨true, false, true⟩ s (m.ct (s * 2 + 1)) l k + (tlK m ⟨true, false, true⟩ s (m.ct (s * 2 + 1)) l k).2)
 | 0, _ => by
   have hz := h.z
   show ((0:Int) ≤ 0) ∧ (D 0 + 0 ≤ m.ct (s * 2 + 1) + 0)
   omega
 | k + 1, hk => by
   have ih := h.gone_hi hv hs hn k (by omega)
   have hkl : k < l.length := by omega
   have hct := hv.ct hs
   have hn2 := hv.hn
   have be := wk_bd (m := m) (c := ⟨true, false, true⟩) (st := m.ct (s * 2 + 1)) (l := l) hs (by omega) k fun j hj => hv.he j (by omega)
   have hc := h.ch k (by omega)
   have hd := h.bd' hv hs hn (show k ≤ n by omega)
   have hst := h.st k (by omega)
   rw [tl2_step, hst, sumK]
   rcases isS_kd (hv.isS hkl) with h1 | h1 | h1 | h1
   · have hw : wkD m ⟨true, false, true⟩ s (m.ct (s * 2 + 1)) l (k + 1) = wkD m ⟨true, false, true⟩ s (m.ct (s * 2 + 1)) l k - (chF (at0 l k) s (wkD m ⟨true, false, true⟩ s (m.ct (s * 2 + 1)) l k) (msK m l k)).1 := wk_frz (m := m) (s := s) ⟨true, false, true⟩ (m.ct (s * 2 + 1)) k h1
     have hkd : ¬ ((at0 l k).kd = 2 ∨ (at0 l k).kd = 3) := by omega
     rw [if_neg hkd, if_neg (show ¬ (at0 l k).kd = 4 by omega), if_neg (show ¬ isV (at0 l k).kd = true by rw [h1]; decide)]
     rw [hw]
     generalize wkD m ⟨true, false, true⟩ s (m.ct (s * 2 + 1)) l k = E at *
     rcases Int.le_total E (D k) with hle | hle
     · have t := hv.mono hkl hs hkd be.1 hle hd.2
       omega
     · have t := hv.mono hkl hs hkd hd.1 hle (by omega)
       omega
   · have hw : wkD m ⟨true, false, true⟩ s (m.ct (s * 2 + 1)) l (k + 1) = wkD m ⟨true, false, true⟩ s (m.ct (s * 2 + 1)) l k + (at0 l k).b (s * 2 + 1) := wk_add (m := m) (s := s) ⟨true, false, true⟩ (m.ct (s * 2 + 1)) k (.inl h1)
     rw [if_pos (show (at0 l k).kd = 2 ∨ (at0 l k).kd = 3 from .inl h1), if_neg (show ¬ (at0 l k).kd = 4 by omega), if_neg (show ¬ isV (at0 l k).kd = true by rw [h1]; decide)]
     rw [ch_add (.inl h1)] at hc
     simp only at hc
     rw [hw]
     omega
   · have hw : wkD m ⟨true, false, true⟩ s (m.ct (s * 2 + 1)) l (k + 1) = wkD m ⟨true, false, true⟩ s (m.ct (s * 2 + 1)) l k + (at0 l k).b (s * 2 + 1) := wk_add (m := m) (s := s) ⟨true, false, true⟩ (m.ct (s * 2 + 1)) k (.inr h1)
     rw [if_pos (show (at0 l k).kd = 2 ∨ (at0 l k).kd = 3 from .inr h1), if_neg (show ¬ (at0 l k).kd = 4 by omega), if_neg (show ¬ isV (at0 l k).kd = true by rw [h1]; decide)]
     rw [ch_add (.inr h1)] at hc
     simp only at hc
     rw [hw]
     omega
   · have hw : wkD m ⟨true, false, true⟩ s (m.ct (s * 2 + 1)) l (k + 1) = wkD m ⟨true, false, true⟩ s (m.ct (s * 2 + 1)) l k - (chF (at0 l k) s (wkD m ⟨true, false, true⟩ s (m.ct (s * 2 + 1)) l k) (msK m l k)).2 := wk_vap (m := m) (s := s) ⟨true, false, true⟩ (m.ct (s * 2 + 1)) k h1
     have hkd : ¬ ((at0 l k).kd = 2 ∨ (at0 l k).kd = 3) := by omega
     rw [if_neg hkd, if_pos h1, if_pos (show isV (at0 l k).kd = true by rw [h1]; rfl)]
     rw [hw]
     generalize wkD m ⟨true, false, true⟩ s (m.ct (s * 2 + 1)) l k = E at *
     rcases Int.le_total E (D k) with hle | hle
     · have t := hv.mono hkl hs hkd be.1 hle hd.2
       omega
     · have t := hv.mono hkl hs hkd hd.1 hle (by omega)
       omega
theorem Goes.added (h : Goes m l s D c n) : ∀ k, k ≤ n → (adK l s k).1 ≤ sumK l c isA k ∧ sumK l c isA k ≤ (adK l s k).2
 | 0, _ => ⟨Int.le_refl _, Int.le_refl _⟩
 | k + 1, hk => by
   have ih := h.added k (by omega)
   have hc := h.ch k (by omega)
   rw [adK, sumK]
   by_cases h1 : (at0 l k).kd = 2 ∨ (at0 l k).kd = 3
   · rw [ch_add h1] at hc
     simp only at hc
     rw [if_pos h1, if_pos (show isA (at0 l k).kd = true by unfold isA; rcases h1 with h | h <;> rw [h] <;> rfl)]
     show _ + _ ≤ _ ∧ _ ≤ _ + _
     omega
   · rw [if_neg h1, if_neg (show ¬ isA (at0 l k).kd = true by unfold isA; simp; omega)]
     exact ih
theorem Goes.keeps (h : Goes m l s D c n) (hv : Vld m l) (hn : n ≤ l.length) : ∀ k, k ≤ n → D 0 + sumK l c isA k = sumK l c isF k + sumK l c isV k + D k
 | 0, _ => by show D 0 + 0 = 0 + 0 + D 0; omega
 | k + 1, hk => by
   have ih := h.keeps hv hn k (by omega)
   have hst := h.st k (by omega)
   rw [sumK, sumK, sumK, hst]
   rcases isS_kd (hv.isS (show k < l.length by omega)) with h1 | h1 | h1 | h1 <;> rw [h1] <;> simp [isA, isF, isV] <;> omega
end
end Go.Proofs.YtnkaoplgmglijaaDoor
namespace Go.Proofs.YtnkaoplgmglijaaDoor
open Go.RowKit
structure PrV (m : Mlt) (l : List Stp) (s : Nat) : Prop where
 e0 : prR m l (2 + s * 2) = wkD m crsPoor s (m.ct (s * 2)) l l.length
 e1 : prR m l (2 + s * 2 + 1) = wkD m crsRich s (m.ct (s * 2 + 1)) l l.length
 a0 : prR m l (8 + s * 2) = (adK l s l.length).1
 a1 : prR m l (8 + s * 2 + 1) = (adK l s l.length).2
 f0 : prR m l (14 + s * 2) = (tlF m ⟨false, false, true⟩ s l).1
 f1 : prR m l (14 + s * 2 + 1) = (tlF m ⟨true, true, false⟩ s l).1
 v0 : prR m l (20 + s * 2) = (tlF m ⟨false, true, false⟩ s l).2
 v1 : prR m l (20 + s * 2 + 1) = (tlF m ⟨true, false, true⟩ s l).2
theorem rnF_own {m : Mlt} {l : List Stp} {s : Nat} {R : Nat → Int} (hs : s < 3) (h8 : R (8 + s * 2) = 0) (h9 : R (8 + s * 2 + 1) = 0) : rnF m l s R (2 + s * 2) = wkD m crsPoor s (m.ct (s * 2)) l l.length ∧ rnF m l s R (2 + s * 2 + 1) = wkD m crsRich s (m.ct (s * 2 + 1)) l l.length ∧ rnF m l s R (8 + s * 2) = (adK l s l.length).1 ∧ rnF m l s R (8 + s * 2 + 1) = (adK l s l.length).2 ∧
 rnF m l s R (14 + s * 2) = (tlF m ⟨false, false, true⟩ s l).1 ∧ rnF m l s R (14 + s * 2 + 1) = (tlF m ⟨true, true, false⟩ s l).1 ∧ rnF m l s R (20 + s * 2) = (tlF m ⟨false, true, false⟩ s l).2 ∧ rnF m l s R (20 + s * 2 + 1) = (tlF m ⟨true, false, true⟩ s l).2 := by
 match s, hs with
 | 0, _ => simp only [rnF, rnK, upd]; simp at *; simp [h8, h9]
 | 1, _ => simp only [rnF, rnK, upd]; simp at *; simp [h8, h9]
 | 2, _ => simp only [rnF, rnK, upd]; simp at *; simp [h8, h9]
theorem prR_val (m : Mlt) (l : List Stp) {s : Nat} (hs : s < 3) : PrV m l s := by
 have z8 : prRk m l s (8 + s * 2) = 0 := prRk_zero s (by omega) (by omega)
 have z9 : prRk m l s (8 + s * 2 + 1) = 0 := prRk_zero s (by omega) (by omega)
 obtain ⟨h1, h2, h3, h4, h5, h6, h7, h8⟩ := rnF_own (m := m) (l := l) hs z8 z9
 have up : ∀ j, (∀ t, s < t → t < 3 → j ≠ 2 + t * 2 ∧ j ≠ 2 + t * 2 + 1 ∧ j ≠ 8 + t * 2 ∧ j ≠ 8 + t * 2 + 1 ∧ j ≠ 14 + t * 2 ∧ j ≠ 14 + t * 2 + 1 ∧ j ≠ 20 + t * 2 ∧ j ≠ 20 + t * 2 + 1) → prR m l j = rnF m l s (prRk m l s) j := by
  intro j hj
  match s, hs with
  | 0, _ =>
    show rnF m l 2 (rnF m l 1 (rnF m l 0 (prRk m l 0))) j = _
    rw [rnF_other (hj 2 (by omega) (by omega)), rnF_other (hj 1 (by omega) (by omega))]
  | 1, _ =>
    show rnF m l 2 (rnF m l 1 (prRk m l 1)) j = _
    rw [rnF_other (hj 2 (by omega) (by omega))]
  | 2, _ => rfl
 exact ⟨(up _ fun t h h' => by omega).trans h1, (up _ fun t h h' => by omega).trans h2, (up _ fun t h h' => by omega).trans h3, (up _ fun t h h' => by omega).trans h4, (up _ fun t h h' => by omega).trans h5, (up _ fun t h h' => by omega).trans h6, (up _ fun t h h' => by omega).trans h7, (up _ fun t h h' => by omega).trans h8⟩
theorem prR_1 (m : Mlt) (l : List Stp) : prR m l 1 = msK m l l.length := by
 show rnF m l 2 (rnF m l 1 (rnF m l 0 (rIni m (msK m l l.length)))) 1 = _
 rw [rnF_other (by omega), rnF_other (by omega), rnF_other (by omega)]
 rfl
theorem fz_lt {l : List Stp} {j k : Nat} (h : j < k) (h1 : (at0 l j).kd = 1) : fzK l j < fzK l k := by
 have h2 := fzK_mono l (show j + 1 ≤ k by omega)
 rw [fzK, if_pos h1] at h2
 omega
theorem fz_ex {l : List Stp} : ∀ n i, i < fzK l n → ∃ k, k < n ∧ (at0 l k).kd = 1 ∧ fzK l k = i
 | 0, i, h => absurd h (by show ¬ i < 0; omega)
 | n + 1, i, h => by
   rw [fzK] at h
   by_cases h1 : (at0 l n).kd = 1
   · rw [if_pos h1] at h
     by_cases h2 : i < fzK l n
     · obtain ⟨k, a, b, c⟩ := fz_ex n i h2
       exact ⟨k, by omega, b, c⟩
     · exact ⟨n, by omega, h1, by omega⟩
   · rw [if_neg h1] at h
     obtain ⟨k, a, b, c⟩ := fz_ex n i h
     exact ⟨k, by omega, b, c⟩
theorem fzL_at {l : List Stp} {cs : List (Nat → Int)} : ∀ n k, k < n → (at0 l k).kd = 1 → at0 (fzL l cs n) (fzK l k) = at0 cs k
 | 0, k, h, _ => absurd h (by omega)
 | n + 1, k, h, h1 => by
   rw [fzL]
   by_cases hk : k < n
   · have ih := fzL_at n k hk h1 (cs := cs)
     have hlt := fz_lt hk h1
     by_cases h2 : (at0 l n).kd = 1
     · rw [if_pos h2, at0_app _ _ (by rw [fzL_len]; exact hlt)]
       exact ih
     · rw [if_neg h2]
       exact ih
   · obtain rfl : k = n := by omega
     rw [if_pos h1]
     have := at0_new (fzL l cs k) (at0 cs k)
     rw [fzL_len] at this
     exact this
theorem slK_at {m : Mlt} {l : List Stp} {s : Nat} {g : Nat → Nat → Int} : ∀ n k, k < n → (at0 l k).kd = 1 → slK m l s g n (fzK l k) (1 + s * 2) = lwK m s l k ∧ slK m l s g n (fzK l k) (1 + s * 2 + 1) = hgK m s l k
 | 0, k, h, _ => absurd h (by omega)
 | n + 1, k, h, h1 => by
   rw [slK]
   by_cases hk : k < n
   · have ih := slK_at n k hk h1 (m := m) (s := s) (g := g)
     have hlt := fz_lt hk h1
     by_cases h2 : (at0 l n).kd = 1
     · rw [if_pos h2]
       unfold upd2
       rw [if_neg (by omega), if_neg (by omega), if_neg (by omega), if_neg (by omega)]
       exact ih
     · rw [if_neg h2]
       exact ih
   · obtain rfl : k = n := by omega
     rw [if_pos h1]
     unfold upd2
     rw [if_pos ⟨rfl, rfl⟩, if_neg (by omega), if_pos ⟨rfl, rfl⟩]
     exact ⟨rfl, rfl⟩
theorem slK_else {m : Mlt} {l : List Stp} {s i j : Nat} {g : Nat → Nat → Int} (h : j ≠ 1 + s * 2 ∧ j ≠ 1 + s * 2 + 1) : ∀ n, slK m l s g n i j = g i j
 | 0 => rfl
 | n + 1 => by
   rw [slK]
   split
   · unfold upd2
     rw [if_neg (by omega), if_neg (by omega)]
     exact slK_else h n
   · exact slK_else h n
theorem prS_at {m : Mlt} {l : List Stp} {s k : Nat} (hs : s < 3) (hk : k < l.length) (h1 : (at0 l k).kd = 1) : prS m l (fzK l k) (1 + s * 2) = lwK m s l k ∧ prS m l (fzK l k) (1 + s * 2 + 1) = hgK m s l k := by
 match s, hs with
 | 0, _ =>
   show slK m l 2 (slK m l 1 (prSk m l 1) l.length) l.length _ 1 = _ ∧ slK m l 2 (slK m l 1 (prSk m l 1) l.length) l.length _ 2 = _
   rw [slK_else (by omega), slK_else (by omega), slK_else (by omega), slK_else (by omega)]
   exact slK_at (s := 0) _ _ hk h1
 | 1, _ =>
   show slK m l 2 (prSk m l 2) l.length _ 3 = _ ∧ slK m l 2 (prSk m l 2) l.length _ 4 = _
   rw [slK_else (by omega), slK_else (by omega)]
   exact slK_at (s := 1) _ _ hk h1
 | 2, _ => exact slK_at (s := 2) _ _ hk h1
theorem okK_pre {m : Mlt} {l : List Stp} {v : Int} {cs : List (Nat → Int)} {s n : Nat} (h : okK m l v cs s n = true) {k : Nat} (hk : k ≤ n) : okK m l v cs s k = true := by
 rcases ho : okK m l v cs s k with _ | _
 · have := okK_no ho (n - k)
   rw [show k + (n - k) = n by omega, h] at this
   cases this
 · rfl
theorem okK_at {m : Mlt} {l : List Stp} {v : Int} {cs : List (Nat → Int)} {s n : Nat} (h : okK m l v cs s n = true) {k : Nat} (hk : k < n) : (chF (at0 l k) s (wkG m (tdG cs s) s v l k) (msK m l k)).1 ≤ at0 cs k s ∧ at0 cs k s ≤ (chF (at0 l k) s (wkG m (tdG cs s) s v l k) (msK m l k)).2 := by
 have h1 := okK_pre h (show k + 1 ≤ n by omega)
 rw [okK, Bool.and_eq_true] at h1
 have h2 := h1.2
 unfold wiB at h2
 simpa using h2
theorem goes_ok {m : Mlt} {l : List Stp} {v : Int} {cs : List (Nat → Int)} {s n : Nat} (h : okK m l v cs s n = true) : Goes m l s (wkG m (tdG cs s) s v l) (fun k => at0 cs k s) n := by
 have h0 : wiB v (m.ct (s * 2)) (m.ct (s * 2 + 1)) = true := okK_pre h (Nat.zero_le _)
 unfold wiB at h0
 have h0' : m.ct (s * 2) ≤ v ∧ v ≤ m.ct (s * 2 + 1) := by simpa using h0
 refine ⟨h0', fun k hk => ?_, fun k hk => okK_at h hk⟩
 have hc := okK_at h hk
 have e : tdG cs s k (chF (at0 l k) s (wkG m (tdG cs s) s v l k) (msK m l k)).1 (chF (at0 l k) s (wkG m (tdG cs s) s v l k) (msK m l k)).2 = at0 cs k s := by
  show min (max (at0 cs k s) _) _ = _
  omega
 rw [wkG, e]
theorem flE_ok {m : Mlt} {l : List Stp} {st : Nat → Int} {cs : List (Nat → Int)} (h : flE m l st cs = 0) : ckF m l = 0 ∧ cs.length = l.length ∧ ∀ s, s < 3 → okK m l (st s) cs s l.length = true := by
 unfold flE at h
 by_cases h0 : ckF m l = 0
 · rw [if_neg (by omega)] at h
   by_cases h1 : cs.length = l.length
   · rw [if_neg (by omega)] at h
     split at h
     · rename_i h2
       simp only [Bool.and_eq_true] at h2
       refine ⟨h0, h1, fun s hs => ?_⟩
       match s, hs with
       | 0, _ => exact h2.1.1
       | 1, _ => exact h2.1.2
       | 2, _ => exact h2.2
     · exact absurd h (by decide)
   · rw [if_pos h1] at h; exact absurd h (by decide)
 · rw [if_pos h0] at h; exact absurd h h0
theorem vld_of {m : Mlt} {l : List Stp} (h : ckF m l = 0) : Vld m l := ⟨(ckF_ok h).1, (ckF_ok h).2.1, (ckF_ok h).2.2⟩
structure Cons (m : Mlt) (l : List Stp) (st : Nat → Int) (cs : List (Nat → Int)) (s : Nat) : Prop where
 sum : st s + sumK l (fun k => at0 cs k s) isA l.length = sumK l (fun k => at0 cs k s) isF l.length + sumK l (fun k => at0 cs k s) isV l.length + wkG m (tdG cs s) s (st s) l l.length
 ad : wiB (sumK l (fun k => at0 cs k s) isA l.length) (prR m l (8 + s * 2)) (prR m l (8 + s * 2 + 1)) = true
 fr : wiB (sumK l (fun k => at0 cs k s) isF l.length) (prR m l (14 + s * 2)) (prR m l (14 + s * 2 + 1)) = true
 va : wiB (sumK l (fun k => at0 cs k s) isV l.length) (prR m l (20 + s * 2)) (prR m l (20 + s * 2 + 1)) = true
 en : wiB (wkG m (tdG cs s) s (st s) l l.length) (prR m l (2 + s * 2)) (prR m l (2 + s * 2 + 1)) = true
 sl : ∀ i, i < fzK l l.length → wiB (at0 (fzL l cs l.length) i s) (prS m l i (1 + s * 2)) (prS m l i (1 + s * 2 + 1)) = true
 bd : ∀ k, k < l.length → 0 ≤ at0 cs k s ∧ at0 cs k s ≤ 300000000000000
 eb : 0 ≤ wkG m (tdG cs s) s (st s) l l.length ∧ wkG m (tdG cs s) s (st s) l l.length ≤ 300000000000000
 sb : 0 ≤ st s ∧ st s ≤ 1000000000000
theorem wi_of {a b c : Int} (h : b ≤ a ∧ a ≤ c) : wiB a b c = true := by unfold wiB; simpa using h
theorem cons_all {m : Mlt} {l : List Stp} {st : Nat → Int} {cs : List (Nat → Int)} (h : flE m l st cs = 0) {s : Nat} (hs : s < 3) : Cons m l st cs s := by
 obtain ⟨h0, _, hok⟩ := flE_ok h
 have hv := vld_of h0
 have hg := goes_ok (hok s hs)
 have pv := prR_val m l hs
 have hct := hv.ct hs
 have hz : m.ct (s * 2) ≤ st s ∧ st s ≤ m.ct (s * 2 + 1) := hg.z
 refine ⟨hg.keeps hv (Nat.le_refl _) _ (Nat.le_refl _), ?_, ?_, ?_, ?_, fun i hi => ?_, fun k hk => ?_, hg.bd' hv hs (Nat.le_refl _) (Nat.le_refl _), by omega⟩
 · rw [pv.a0, pv.a1]; exact wi_of (hg.added _ (Nat.le_refl _))
 · rw [pv.f0, pv.f1]; exact wi_of ⟨(hg.solid_lo hv hs (Nat.le_refl _) _ (Nat.le_refl _)).1, (hg.solid_hi hv hs (Nat.le_refl _) _ (Nat.le_refl _)).1⟩
 · rw [pv.v0, pv.v1]; exact wi_of ⟨(hg.gone_lo hv hs (Nat.le_refl _) _ (Nat.le_refl _)).1, (hg.gone_hi hv hs (Nat.le_refl _) _ (Nat.le_refl _)).1⟩
 · rw [pv.e0, pv.e1]; exact wi_of (hg.between hv hs (Nat.le_refl _) _ (Nat.le_refl _))
 · obtain ⟨k, hk, h1, rfl⟩ := fz_ex _ _ hi
   have hp := prS_at hs hk h1 (m := m)
   rw [hp.1, hp.2, fzL_at _ _ hk h1]
   exact wi_of (hg.slice hv hs (Nat.le_refl _) hk h1)
 · have hb := hg.bd' hv hs (Nat.le_refl _) (show k ≤ l.length by omega)
   have hb2 := ch_bd (mass := msK m l k) (hv.isS hk) hs hb.1
   have hc := hg.ch k hk
   by_cases hkd : (at0 l k).kd = 2 ∨ (at0 l k).kd = 3
   · have := hb2.2.2 hkd; omega
   · have := hb2.2.1 hkd; omega
end Go.Proofs.YtnkaoplgmglijaaDoor
