/- Products of parts of ranges, rounded in any way, lie in the products (the plain law of UnitsAllResults, what FinishTrue needs of it). -/
import Derived.Test.YtliolnfcgaflcaaGreatU3
import Derived.Test.YtliolnfcgaflcaaGreatFae
namespace Go.Proofs.YtliolnfcgaflcaaGreat.Un
open Go.RowKit
theorem up_leF {v c n : Int} (hc : 0 < c) : (if 0 < v % c then v / c + 1 else v / c) ≤ n ↔ v ≤ n * c := by
 have h1 := Int.mul_ediv_add_emod v c
 have h2 := Int.emod_nonneg v (show c ≠ 0 by omega)
 have h3 := Int.emod_lt_of_pos v hc
 rw [Int.mul_comm] at h1
 generalize v / c = q at *
 generalize v % c = r at *
 constructor
 · intro h
   have h4 : (if 0 < r then q + 1 else q) * c ≤ n * c := Int.mul_le_mul_of_nonneg_right h (by omega)
   split at h4
   · rw [Int.add_mul] at h4; omega
   · omega
 · intro h
   by_cases hr : 0 < r
   · rw [if_pos hr]
     have : q * c < n * c := by omega
     have := Int.lt_of_mul_lt_mul_right this (by omega)
     omega
   · rw [if_neg hr]
     have : q * c ≤ n * c := by omega
     exact Int.le_of_mul_le_mul_right this hc
theorem lo_geF {v c n : Int} (hc : 0 < c) : n ≤ v / c ↔ n * c ≤ v := Int.le_ediv_iff_mul_le hc
theorem fle_tr {a b c : Frc} (ha : 1 ≤ a.d) (hb : 1 ≤ b.d) (hc : 1 ≤ c.d) (h1 : fle a b) (h2 : fle b c) : fle a c := by
 unfold fle at *
 have e1 : a.n * b.d * c.d ≤ b.n * a.d * c.d := Int.mul_le_mul_of_nonneg_right h1 (by omega)
 have e2 : b.n * c.d * a.d ≤ c.n * b.d * a.d := Int.mul_le_mul_of_nonneg_right h2 (by omega)
 have e3 : b.n * a.d * c.d = b.n * c.d * a.d := by rw [Int.mul_assoc, Int.mul_comm a.d, ← Int.mul_assoc]
 have e4 : a.n * c.d * b.d ≤ c.n * a.d * b.d := by
  rw [show a.n * c.d * b.d = a.n * b.d * c.d by rw [Int.mul_assoc, Int.mul_comm c.d, ← Int.mul_assoc], show c.n * a.d * b.d = c.n * b.d * a.d by rw [Int.mul_assoc, Int.mul_comm a.d, ← Int.mul_assoc]]
  omega
 exact Int.le_of_mul_le_mul_right e4 (by omega)
def insB (a b : Rng) : Bool := decide (b.lo ≤ a.lo) && (decide (a.hi ≤ b.hi) && decide (a.lo ≤ a.hi))
theorem insB_iff {a b : Rng} : insB a b = true ↔ b.lo ≤ a.lo ∧ a.hi ≤ b.hi ∧ a.lo ≤ a.hi := by
 unfold insB
 rw [Bool.and_eq_true, Bool.and_eq_true, decide_eq_true_eq, decide_eq_true_eq, decide_eq_true_eq]
theorem le_up2 (v c : Int) : v / c ≤ upF v c := by unfold upF; split <;> omega
theorem upF_le {v c n : Int} (hc : 0 < c) : upF v c ≤ n ↔ v ≤ n * c := up_leF hc
theorem quo_le {a b : Frc} (ha : 1 ≤ a.d) (hb : 1 ≤ b.d) (h : fle a b) : a.n / a.d ≤ b.n / b.d ∧ upF a.n a.d ≤ upF b.n b.d := by
 unfold fle at h
 constructor
 · rw [lo_geF (show 0 < b.d by omega)]
   have h1 : a.n / a.d * a.d ≤ a.n := Int.ediv_mul_le _ (by omega)
   have h2 : a.n / a.d * a.d * b.d ≤ a.n * b.d := Int.mul_le_mul_of_nonneg_right h1 (by omega)
   have h3 : a.n / a.d * b.d * a.d = a.n / a.d * a.d * b.d := by rw [Int.mul_assoc, Int.mul_comm b.d, ← Int.mul_assoc]
   exact Int.le_of_mul_le_mul_right (show a.n / a.d * b.d * a.d ≤ b.n * a.d by omega) (by omega)
 · rw [upF_le (show 0 < a.d by omega)]
   have h1 : b.n ≤ upF b.n b.d * b.d := (upF_le (show 0 < b.d by omega)).1 (Int.le_refl _)
   have h2 : b.n * a.d ≤ upF b.n b.d * b.d * a.d := Int.mul_le_mul_of_nonneg_right h1 (by omega)
   have h3 : upF b.n b.d * a.d * b.d = upF b.n b.d * b.d * a.d := by rw [Int.mul_assoc, Int.mul_comm a.d, ← Int.mul_assoc]
   exact Int.le_of_mul_le_mul_right (show a.n * b.d ≤ upF b.n b.d * a.d * b.d by omega) (by omega)
def Near (a : Frc) : Prop := a.n.natAbs / a.d.toNat ≤ 1000000000000000
theorem near_iff {a : Frc} (h : 1 ≤ a.d) : Near a ↔ -1000000000000001 * a.d < a.n ∧ a.n < 1000000000000001 * a.d := by
 unfold Near
 obtain ⟨n, d⟩ := a
 simp only at h ⊢
 obtain ⟨D, rfl⟩ : ∃ D : Nat, d = D := ⟨d.toNat, by omega⟩
 rw [Int.toNat_natCast, show n.natAbs / D ≤ 1000000000000000 ↔ n.natAbs / D < 1000000000000001 by omega, Nat.div_lt_iff_lt_mul (by omega)]
 omega
theorem near_mid {a b c : Frc} (ha : 1 ≤ a.d) (hb : 1 ≤ b.d) (hc : 1 ≤ c.d) (h1 : fle a b) (h2 : fle b c) (na : Near a) (nc : Near c) : Near b := by
 rw [near_iff ha] at na
 rw [near_iff hc] at nc
 rw [near_iff hb]
 unfold fle at h1 h2
 constructor
 · have e1 : -1000000000000001 * a.d * b.d < a.n * b.d := Int.mul_lt_mul_of_pos_right na.1 (by omega)
   have e2 : -1000000000000001 * b.d * a.d = -1000000000000001 * a.d * b.d := by rw [Int.mul_assoc, Int.mul_comm b.d, ← Int.mul_assoc]
   exact Int.lt_of_mul_lt_mul_right (show -1000000000000001 * b.d * a.d < b.n * a.d by omega) (by omega)
 · have e1 : c.n * b.d < 1000000000000001 * c.d * b.d := Int.mul_lt_mul_of_pos_right nc.2 (by omega)
   have e2 : 1000000000000001 * b.d * c.d = 1000000000000001 * c.d * b.d := by rw [Int.mul_assoc, Int.mul_comm b.d, ← Int.mul_assoc]
   exact Int.lt_of_mul_lt_mul_right (show b.n * c.d < 1000000000000001 * b.d * c.d by omega) (by omega)
structure HB (h : Hul) (vs : List Frc) : Prop where
 f : h.f = false
 s : h.s = true
 near : ∀ v ∈ vs, Near v
 lo : ∀ v ∈ vs, h.lo ≤ v.n / v.d
 hi : ∀ v ∈ vs, upF v.n v.d ≤ h.hi
 elo : ∃ v ∈ vs, h.lo = v.n / v.d
 ehi : ∃ v ∈ vs, h.hi = upF v.n v.d
theorem hb_first {v : Frc} (h : Near v) : HB (addH hul0 v.n v.d) [v] := by
 unfold addH
 rw [if_pos (show v.n.natAbs / v.d.toNat ≤ 1000000000000000 from h)]
 exact ⟨rfl, rfl, by simpa using h, by simp [hul0], by simp [hul0], ⟨v, by simp, by simp [hul0]⟩, ⟨v, by simp, by simp [hul0]⟩⟩
theorem hb_next {h : Hul} {vs : List Frc} {v : Frc} (hh : HB h vs) (hn : Near v) : HB (addH h v.n v.d) (v :: vs) := by
 unfold addH
 rw [if_pos (show v.n.natAbs / v.d.toNat ≤ 1000000000000000 from hn), if_pos hh.s]
 refine ⟨hh.f, rfl, fun w hw => ?_, fun w hw => ?_, fun w hw => ?_, ?_, ?_⟩
 · rcases List.mem_cons.1 hw with rfl | h1
   · exact hn
   · exact hh.near w h1
 · simp only
   rcases List.mem_cons.1 hw with rfl | h1
   · omega
   · have := hh.lo w h1; omega
 · simp only
   rcases List.mem_cons.1 hw with rfl | h1
   · omega
   · have := hh.hi w h1; omega
 · simp only
   obtain ⟨x, hx, e⟩ := hh.elo
   rcases Int.le_total h.lo (v.n / v.d) with h1 | h1
   · exact ⟨x, by simp [hx], by omega⟩
   · exact ⟨v, by simp, by omega⟩
 · simp only
   obtain ⟨x, hx, e⟩ := hh.ehi
   rcases Int.le_total h.hi (upF v.n v.d) with h1 | h1
   · exact ⟨v, by simp, by omega⟩
   · exact ⟨x, by simp [hx], by omega⟩
theorem add_far {h : Hul} {v c : Int} (hf : h.f = true) : (addH h v c).f = true := by
 unfold addH
 split
 · split <;> exact hf
 · rfl
theorem add_near {h : Hul} {v : Frc} (hf : (addH h v.n v.d).f = false) : Near v ∧ h.f = false := by
 unfold addH at hf
 unfold Near
 by_cases hn : v.n.natAbs / v.d.toNat ≤ 1000000000000000
 · rw [if_pos hn] at hf
   exact ⟨hn, by split at hf <;> exact hf⟩
 · rw [if_neg hn] at hf; cases hf
def HF : List Frc → Hul
 | [] => hul0 | v :: l => addH (HF l) v.n v.d
theorem hf_ok : ∀ (vs : List Frc), vs ≠ [] → (∀ v ∈ vs, Near v) → HB (HF vs) vs
 | [], h, _ => absurd rfl h
 | [v], _, hn => hb_first (hn v (by simp))
 | v :: u :: l, _, hn => hb_next (hf_ok (u :: l) (by simp) fun w hw => hn w (List.mem_cons_of_mem _ hw)) (hn v (by simp))
theorem hf_near : ∀ (vs : List Frc), (HF vs).f = false → ∀ v ∈ vs, Near v
 | [], _, v, hv => by cases hv
 | u :: l, hf, w, hw => by
   obtain ⟨h1, h2⟩ := add_near (h := HF l) (v := u) hf
   rcases List.mem_cons.1 hw with rfl | h3
   · exact h1
   · exact hf_near l h2 w h3
theorem re_ok {h : Hul} {X : Rng} (hr : reH h = (X, 0)) : h.f = false ∧ X = ⟨h.lo, h.hi⟩ ∧ numB h.lo = true ∧ numB h.hi = true := by
 unfold reH fiF at hr
 split at hr
 · injection hr with _ h2; cases h2
 · rename_i hf
   split at hr
   · rename_i hn
     obtain ⟨h1, h2⟩ := Bool.and_eq_true_iff.1 hn
     injection hr with h3 _
     exact ⟨by simpa using hf, h3.symm, h1, h2⟩
   · injection hr with _ h2; cases h2
theorem hull_in {vs ws : List Frc} {X : Rng} (hv : ∀ v ∈ vs, 1 ≤ v.d) (hw : ∀ w ∈ ws, 1 ≤ w.d ∧ (∃ v ∈ vs, fle v w) ∧ ∃ v ∈ vs, fle w v) (hvn : vs ≠ []) (hwn : ws ≠ []) (hr : reH (HF vs) = (X, 0)) :
 ∃ Y : Rng, reH (HF ws) = (Y, 0) ∧ X.lo ≤ Y.lo ∧ Y.lo ≤ Y.hi ∧ Y.hi ≤ X.hi ∧ ∀ w ∈ ws, Y.lo ≤ w.n / w.d ∧ upF w.n w.d ≤ Y.hi := by
 obtain ⟨hf, hX, n1, n2⟩ := re_ok hr
 have hn := hf_near vs hf
 have B := hf_ok vs hvn hn
 have C := hf_ok ws hwn (fun w hw' => by
  obtain ⟨hd, ⟨v1, hv1, l1⟩, ⟨v2, hv2, l2⟩⟩ := hw w hw'
  exact near_mid (hv v1 hv1) hd (hv v2 hv2) l1 l2 (hn v1 hv1) (hn v2 hv2))
 obtain ⟨x, hx, ex⟩ := C.elo
 obtain ⟨y, hy, ey⟩ := C.ehi
 have k1 : (HF vs).lo ≤ (HF ws).lo := by
  obtain ⟨hd, ⟨v1, hv1, l1⟩, _⟩ := hw x hx
  have := (quo_le (hv v1 hv1) hd l1).1
  have := B.lo v1 hv1
  omega
 have k2 : (HF ws).hi ≤ (HF vs).hi := by
  obtain ⟨hd, _, ⟨v2, hv2, l2⟩⟩ := hw y hy
  have := (quo_le hd (hv v2 hv2) l2).2
  have := B.hi v2 hv2
  omega
 have k3 : (HF ws).lo ≤ (HF ws).hi := by
  have h1 := C.hi x hx
  have h2 := le_up2 x.n x.d
  omega
 have m1 := numB_iff.1 n1
 have m2 := numB_iff.1 n2
 refine ⟨⟨(HF ws).lo, (HF ws).hi⟩, ?_, by rw [hX]; exact k1, k3, by rw [hX]; exact k2, fun w hw' => ⟨C.lo w hw', C.hi w hw'⟩⟩
 unfold reH fiF
 rw [if_neg (by rw [C.f]; decide), if_pos]
 rw [numB_iff.2 (show _ by omega), numB_iff.2 (show _ by omega)]; rfl
theorem rnd_in (v c how : Int) : v / c ≤ (rnd v c how).1 ∧ (rnd v c how).1 ≤ upF v c := by
 unfold rnd upF
 split
 · rename_i h
   rw [if_pos h.1]
   simp only
   omega
 · simp only
   split <;> omega
theorem md_in {a b c how : Int} {X : Rng} (hh : 1 ≤ how ∧ how ≤ 3) (ha : numB a = true) (hb : numB b = true) (hc : 1 ≤ c ∧ c ≤ 1000000000000000) (hX : numB X.lo = true ∧ numB X.hi = true) (h : X.lo ≤ a * b / c ∧ upF (a * b) c ≤ X.hi) :
 ∃ n r, mdF a b c how = (n, r, 0) ∧ X.lo ≤ n ∧ n ≤ X.hi := by
 have hr := rnd_in (a * b) c how
 have x1 := numB_iff.1 hX.1
 have x2 := numB_iff.1 hX.2
 refine ⟨(rnd (a * b) c how).1, (rnd (a * b) c how).2, ?_, by omega, by omega⟩
 unfold mdF
 rw [if_neg (by omega), if_neg (by rw [ha, hb]; simp; omega), if_pos (numB_iff.2 (by omega))]
theorem mul_ends {p q x : Int} (y : Int) (h : p ≤ x ∧ x ≤ q) : (p * y ≤ x * y ∨ q * y ≤ x * y) ∧ (x * y ≤ p * y ∨ x * y ≤ q * y) := by
 rcases Int.le_total 0 y with hy | hy
 · exact ⟨.inl (Int.mul_le_mul_of_nonneg_right h.1 hy), .inr (Int.mul_le_mul_of_nonneg_right h.2 hy)⟩
 · exact ⟨.inr (Int.mul_le_mul_of_nonpos_right h.2 hy), .inl (Int.mul_le_mul_of_nonpos_right h.1 hy)⟩
theorem fle_same {m n c : Int} (hc : 1 ≤ c) (h : m ≤ n) : fle ⟨m, c⟩ ⟨n, c⟩ := Int.mul_le_mul_of_nonneg_right h (by simp only; omega)
def tmV (a b : Rng) (c : Int) : List Frc := [⟨a.hi * b.hi, c⟩, ⟨a.hi * b.lo, c⟩, ⟨a.lo * b.hi, c⟩, ⟨a.lo * b.lo, c⟩]
theorem tm_btw {a b : Rng} {x y c : Int} (hx : a.lo ≤ x ∧ x ≤ a.hi) (hy : b.lo ≤ y ∧ y ≤ b.hi) (hc : 1 ≤ c) : (∃ v ∈ tmV a b c, fle v ⟨x * y, c⟩) ∧ ∃ v ∈ tmV a b c, fle ⟨x * y, c⟩ v := by
 have h1 := mul_ends y hx
 have h2 := mul_ends a.lo hy
 have h3 := mul_ends a.hi hy
 rw [Int.mul_comm b.lo, Int.mul_comm b.hi, Int.mul_comm y] at h2 h3
 constructor
 · rcases h1.1 with h | h
   · rcases h2.1 with g | g
     · exact ⟨⟨a.lo * b.lo, c⟩, by simp [tmV], fle_same hc (by omega)⟩
     · exact ⟨⟨a.lo * b.hi, c⟩, by simp [tmV], fle_same hc (by omega)⟩
   · rcases h3.1 with g | g
     · exact ⟨⟨a.hi * b.lo, c⟩, by simp [tmV], fle_same hc (by omega)⟩
     · exact ⟨⟨a.hi * b.hi, c⟩, by simp [tmV], fle_same hc (by omega)⟩
 · rcases h1.2 with h | h
   · rcases h2.2 with g | g
     · exact ⟨⟨a.lo * b.lo, c⟩, by simp [tmV], fle_same hc (by omega)⟩
     · exact ⟨⟨a.lo * b.hi, c⟩, by simp [tmV], fle_same hc (by omega)⟩
   · rcases h3.2 with g | g
     · exact ⟨⟨a.hi * b.lo, c⟩, by simp [tmV], fle_same hc (by omega)⟩
     · exact ⟨⟨a.hi * b.hi, c⟩, by simp [tmV], fle_same hc (by omega)⟩
structure Sub (a A : Rng) : Prop where
 lo : A.lo ≤ a.lo
 mid : a.lo ≤ a.hi
 hi : a.hi ≤ A.hi
theorem Sub.ok {a A : Rng} (h : Sub a A) (hA : rngOk A = true) : rngOk a = true := by
 have := rngOk_iff.1 hA
 obtain ⟨h1, h2, h3⟩ := h
 exact rngOk_iff.2 (by omega)
theorem times_part {A B a b X : Rng} {c : Int} (h : tmF A B c = (X, 0)) (ha : Sub a A) (hb : Sub b B) : ∃ Y : Rng, tmF a b c = (Y, 0) ∧ insB Y X = true ∧ (-1000000000000000 ≤ c ∧ c ≤ 1000000000000000) ∧ ∀ how, 1 ≤ how ∧ how ≤ 3 → ∃ n r, mdF a.lo b.hi c how = (n, r, 0) ∧ Y.lo ≤ n ∧ n ≤ Y.hi := by
 unfold tmF at h
 split at h
 · rename_i hk
   obtain ⟨k1, k2⟩ := Bool.and_eq_true_iff.1 hk
   split at h
   · rename_i hc
     have r1 := rngOk_iff.1 (ha.ok k1)
     have r2 := rngOk_iff.1 (hb.ok k2)
     obtain ⟨a1, a2, a3⟩ := ha
     obtain ⟨b1, b2, b3⟩ := hb
     obtain ⟨Y, hY, y1, y2, y3, y4⟩ := hull_in (vs := tmV A B c) (ws := tmV a b c) (X := X) (by simp [tmV]; omega) (by
        intro w hw
        simp only [tmV, List.mem_cons, List.not_mem_nil, or_false] at hw
        rcases hw with rfl | rfl | rfl | rfl
        all_goals exact ⟨by simp only; omega, tm_btw (by omega) (by omega) (by omega)⟩) (by simp [tmV]) (by simp [tmV]) h
     obtain ⟨_, hYe, n1, n2⟩ := re_ok hY
     refine ⟨Y, ?_, insB_iff.2 ⟨y1, y3, y2⟩, by omega, fun how hh => ?_⟩
     · unfold tmF
       rw [Sub.ok ⟨a1, a2, a3⟩ k1, Sub.ok ⟨b1, b2, b3⟩ k2, if_pos (by rfl), if_pos hc]
       exact hY
     · have := y4 ⟨a.lo * b.hi, c⟩ (by simp [tmV])
       exact md_in hh (numB_iff.2 (by omega)) (numB_iff.2 (by omega)) hc (by rw [hYe]; exact ⟨n1, n2⟩) this
   · injection h with _ h2; cases h2
 · injection h with _ h2; cases h2
end Go.Proofs.YtliolnfcgaflcaaGreat.Un
