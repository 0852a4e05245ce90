/- Plain law of oxygen: each course lies between the extreme ones, and what falls out, too. -/
import Derived.Test.YteibgenkklpoaaaDe
import Derived.Test.YteibgenkklpoaaaDt1
import Derived.Test.YteibgenkklpoaaaDw1
namespace Go.Proofs.Yteibgenkklpoaaa.Un
open Go.RowKit
/-- What is left after one step in region k. -/
def stF (pf : Int → Rng → Int) (h : Hst) (k : Nat) (x : Int) : Int := if 0 < x - h.d then x - pf (x - h.d) (h.s k) else x
def cuK (pf : Int → Rng → Int) (l : List Hst) (ox : Int) (k : Nat) : Nat → Int
  | 0 => ox
  | n + 1 => stF pf (at0 l n) k (cuK pf l ox k n)
theorem cu_fl (pf : Int → Rng → Int) (l : List Hst) (ox : Int) (k : Nat) : ∀ n, cuK pf l ox k n = ox - flK pf l ox k n
  | 0 => by unfold cuK flK; omega
  | n + 1 => by
    have ih := cu_fl pf l ox k n
    unfold cuK flK stF
    rw [ih]
    split <;> omega
/-- What is asked of a part. -/
structure PfOk (pf : Int → Rng → Int) (r : Rng) : Prop where
  bd : ∀ a, 0 ≤ a → a ≤ 1000000 → 0 ≤ pf a r ∧ pf a r ≤ a
  up : ∀ a b, 0 ≤ a → a ≤ b → b ≤ 1000000 → pf a r ≤ pf b r ∧ pf b r - pf a r ≤ b - a
theorem le_ok {r : Rng} (hr : spanB r 0 10000 = true) : PfOk leP r := by
  refine ⟨fun a h0 h1 => ⟨(leP_bd ⟨h0, h1⟩ hr).1, (leP_bd ⟨h0, h1⟩ hr).2.1⟩, fun a b h0 h1 h2 => ?_⟩
  have ha := leP_bd (a := a) ⟨h0, by omega⟩ hr
  have hb := leP_bd (a := b) ⟨by omega, h2⟩ hr
  have hr := spanB_iff.1 hr
  unfold leP at *
  rw [Int.tdiv_eq_ediv_of_nonneg ha.2.2.1] at *
  rw [Int.tdiv_eq_ediv_of_nonneg hb.2.2.1] at *
  have e1 : a * r.lo ≤ b * r.lo := Int.mul_le_mul_of_nonneg_right h1 hr.1
  have e2 : (b - a) * r.lo ≤ (b - a) * 10000 := Int.mul_le_mul_of_nonneg_left (by omega) (by omega)
  rw [Int.sub_mul] at e2
  omega
theorem mo_ok {r : Rng} (hr : spanB r 0 10000 = true) : PfOk moP r := by
  refine ⟨fun a h0 h1 => ⟨(moP_bd ⟨h0, h1⟩ hr).1, (moP_bd ⟨h0, h1⟩ hr).2.1⟩, fun a b h0 h1 h2 => ?_⟩
  have ha := moP_bd (a := a) ⟨h0, by omega⟩ hr
  have hb := moP_bd (a := b) ⟨by omega, h2⟩ hr
  have hr := spanB_iff.1 hr
  unfold moP at *
  rw [Int.tdiv_eq_ediv_of_nonneg (by omega : 0 ≤ a * r.hi + 9999)] at *
  rw [Int.tdiv_eq_ediv_of_nonneg (by omega : 0 ≤ b * r.hi + 9999)] at *
  have e1 : a * r.hi ≤ b * r.hi := Int.mul_le_mul_of_nonneg_right h1 (by omega)
  have e2 : (b - a) * r.hi ≤ (b - a) * 10000 := Int.mul_le_mul_of_nonneg_left (by omega) (by omega)
  rw [Int.sub_mul] at e2
  omega
theorem le_mo {a : Int} {r : Rng} (ha : 0 ≤ a) (hr : spanB r 0 10000 = true) : leP a r ≤ moP a r := by
  have hr := spanB_iff.1 hr
  have h1 : 0 ≤ a * r.lo := Int.mul_nonneg ha hr.1
  have h2 : a * r.lo ≤ a * r.hi := Int.mul_le_mul_of_nonneg_left (by omega) ha
  unfold leP moP
  rw [Int.tdiv_eq_ediv_of_nonneg h1, Int.tdiv_eq_ediv_of_nonneg (by omega)]
  omega
theorem st_bd {pf : Int → Rng → Int} {h : Hst} {k : Nat} (hp : PfOk pf (h.s k)) (hd : 0 ≤ h.d) {x : Int} (hx : 0 ≤ x ∧ x ≤ 1000000) : 0 ≤ stF pf h k x ∧ stF pf h k x ≤ x := by
  unfold stF
  split
  · have := hp.bd (x - h.d) (by omega) (by omega)
    omega
  · omega
/-- A step grows with what is there, but no faster. -/
theorem st_up {pf : Int → Rng → Int} {h : Hst} {k : Nat} (hp : PfOk pf (h.s k)) (hd : 0 ≤ h.d) {x y : Int} (_ : 0 ≤ x) (hxy : x ≤ y) (hy : y ≤ 1000000) : stF pf h k x ≤ stF pf h k y ∧ stF pf h k y - stF pf h k x ≤ y - x := by
  unfold stF
  by_cases h1 : 0 < x - h.d
  · rw [if_pos h1, if_pos (by omega)]
    have := hp.up (x - h.d) (y - h.d) (by omega) (by omega) (by omega)
    omega
  · rw [if_neg h1]
    split
    · have := hp.bd (y - h.d) (by omega) (by omega)
      omega
    · omega
def OkAll (l : List Hst) : Prop := ∀ i, i < l.length → stOk (at0 l i) = true
theorem OkAll.sp {l : List Hst} (h : OkAll l) {i k : Nat} (hi : i < l.length) (hk : k < 5) : spanB ((at0 l i).s k) 0 10000 = true ∧ 0 ≤ (at0 l i).d := ⟨(stOk_iff.1 (h i hi)).2.2 k hk, (stOk_iff.1 (h i hi)).1⟩
theorem cu_bd {pf : Int → Rng → Int} (hp : ∀ r, spanB r 0 10000 = true → PfOk pf r) {l : List Hst} (hl : OkAll l) {k : Nat} (hk : k < 5) {x : Int} (hx : 0 ≤ x ∧ x ≤ 1000000) : ∀ n, n ≤ l.length → 0 ≤ cuK pf l x k n ∧ cuK pf l x k n ≤ x
  | 0, _ => ⟨hx.1, Int.le_refl _⟩
  | n + 1, hn => by
    have ih := cu_bd hp hl hk hx n (by omega)
    have hs := hl.sp (i := n) (by omega) hk
    have := st_bd (h := at0 l n) (k := k) (hp _ hs.1) hs.2 (x := cuK pf l x k n) (by omega)
    unfold cuK
    omega
theorem cu_up {pf : Int → Rng → Int} (hp : ∀ r, spanB r 0 10000 = true → PfOk pf r) {l : List Hst} (hl : OkAll l) {k : Nat} (hk : k < 5) {x y : Int} (hx : 0 ≤ x) (hxy : x ≤ y) (hy : y ≤ 1000000) : ∀ n, n ≤ l.length → cuK pf l x k n ≤ cuK pf l y k n ∧ cuK pf l y k n - cuK pf l x k n ≤ y - x
  | 0, _ => ⟨hxy, Int.le_refl _⟩
  | n + 1, hn => by
    have ih := cu_up hp hl hk hx hxy hy n (by omega)
    have b1 := cu_bd hp hl hk (x := x) ⟨hx, by omega⟩ n (by omega)
    have b2 := cu_bd hp hl hk (x := y) ⟨by omega, hy⟩ n (by omega)
    have hs := hl.sp (i := n) (by omega) hk
    have := st_up (h := at0 l n) (k := k) (hp _ hs.1) hs.2 (x := cuK pf l x k n) (y := cuK pf l y k n) (by omega) (by omega) (by omega)
    unfold cuK
    omega
/-- A true course. -/
def trK (l : List Hst) (by' : Nat → Int) (x : Int) (k : Nat) : Nat → Int
  | 0 => x
  | n + 1 => if trK l by' x k n - (at0 l n).d ≤ 0 then trK l by' x k n else trK l by' x k n - plF ⟨leP (trK l by' x k n - (at0 l n).d) ((at0 l n).s k), moP (trK l by' x k n - (at0 l n).d) ((at0 l n).s k)⟩ (by' n)
theorem tr_in {l : List Hst} (hl : OkAll l) {by' : Nat → Int} (hb : ∀ i, 0 ≤ by' i) {k : Nat} (hk : k < 5) {x : Int} (hx : 0 ≤ x ∧ x ≤ 1000000) : ∀ n, n ≤ l.length → cuK moP l x k n ≤ trK l by' x k n ∧ trK l by' x k n ≤ cuK leP l x k n
  | 0, _ => ⟨Int.le_refl _, Int.le_refl _⟩
  | n + 1, hn => by
    have ih := tr_in hl hb hk hx n (by omega)
    have b1 := cu_bd (fun r => mo_ok) hl hk hx n (by omega)
    have b2 := cu_bd (fun r => le_ok) hl hk hx n (by omega)
    have hs := hl.sp (i := n) (by omega) hk
    have u1 := st_up (h := at0 l n) (k := k) (mo_ok hs.1) hs.2 (x := cuK moP l x k n) (y := trK l by' x k n) (by omega) (by omega) (by omega)
    have u2 := st_up (h := at0 l n) (k := k) (le_ok hs.1) hs.2 (x := trK l by' x k n) (y := cuK leP l x k n) (by omega) (by omega) (by omega)
    unfold cuK trK
    generalize trK l by' x k n = z at *
    unfold stF at *
    by_cases h0 : z - (at0 l n).d ≤ 0
    · rw [if_pos h0]
      rw [if_neg (show ¬ 0 < z - (at0 l n).d by omega)] at u1 u2
      omega
    · rw [if_neg h0]
      rw [if_pos (show 0 < z - (at0 l n).d by omega)] at u1 u2
      have := plF_in (r := ⟨leP (z - (at0 l n).d) ((at0 l n).s k), moP (z - (at0 l n).d) ((at0 l n).s k)⟩) (hb n) (le_mo (by omega) hs.1)
      simp only at this
      omega
theorem tr_bd {l : List Hst} (hl : OkAll l) {by' : Nat → Int} (hb : ∀ i, 0 ≤ by' i) {k : Nat} (hk : k < 5) {x : Int} (hx : 0 ≤ x ∧ x ≤ 1000000) {n : Nat} (hn : n ≤ l.length) : 0 ≤ trK l by' x k n ∧ trK l by' x k n ≤ 1000000 := by
  have := tr_in hl hb hk hx n hn
  have := cu_bd (fun r => mo_ok) hl hk hx n hn
  have := cu_bd (fun r => le_ok) hl hk hx n hn
  omega
theorem anX_cu (l : List Hst) (ox : Rng) (k : Nat) : anX l ox k = ⟨cuK moP l ox.lo k l.length, cuK leP l ox.hi k l.length⟩ := by
  unfold anX
  rw [cu_fl, cu_fl]
theorem anY_cu (l : List Hst) (ox : Rng) (k : Nat) : anY l ox k = ⟨ox.lo - cuK leP l ox.lo k l.length, ox.hi - cuK moP l ox.hi k l.length⟩ := by
  unfold anY
  rw [cu_fl, cu_fl]
  congr 1 <;> omega
/-- Each true course is within what is said. -/
theorem ox_true {l : List Hst} (hl : OkAll l) {by' : Nat → Int} (hb : ∀ i, 0 ≤ by' i) {k : Nat} (hk : k < 5) {ox : Rng} (ho : spanB ox 0 1000000 = true) {x : Int} (hx : ox.lo ≤ x ∧ x ≤ ox.hi) :
    inR (anX l ox k) (trK l by' x k l.length) ∧ inR (anY l ox k) (x - trK l by' x k l.length) := by
  have ho := spanB_iff.1 ho
  have t := tr_in hl hb hk (x := x) (by omega) l.length (Nat.le_refl _)
  have a1 := cu_up (fun r => mo_ok) hl hk (x := ox.lo) (y := x) ho.1 hx.1 (by omega) l.length (Nat.le_refl _)
  have a2 := cu_up (fun r => le_ok) hl hk (x := ox.lo) (y := x) ho.1 hx.1 (by omega) l.length (Nat.le_refl _)
  have a3 := cu_up (fun r => mo_ok) hl hk (x := x) (y := ox.hi) (by omega) hx.2 (by omega) l.length (Nat.le_refl _)
  have a4 := cu_up (fun r => le_ok) hl hk (x := x) (y := ox.hi) (by omega) hx.2 (by omega) l.length (Nat.le_refl _)
  rw [anX_cu, anY_cu]
  unfold inR
  simp only
  omega
def subR (a b : Rng) : Prop := b.lo ≤ a.lo ∧ a.hi ≤ b.hi
/-- Less that is not known of the oxygen: no range is wider. -/
theorem ox_less {l : List Hst} (hl : OkAll l) {k : Nat} (hk : k < 5) {ox : Rng} (ho : spanB ox 0 1000000 = true) {x : Int} (hx : ox.lo ≤ x ∧ x ≤ ox.hi) :
    subR (anX l ⟨x, x⟩ k) (anX l ox k) ∧ subR (anY l ⟨x, x⟩ k) (anY l ox k) ∧ (anX l ⟨x, x⟩ k).lo + (anY l ⟨x, x⟩ k).hi = x ∧ (anX l ⟨x, x⟩ k).hi + (anY l ⟨x, x⟩ k).lo = x := by
  have ho := spanB_iff.1 ho
  have a1 := cu_up (fun r => mo_ok) hl hk (x := ox.lo) (y := x) ho.1 hx.1 (by omega) l.length (Nat.le_refl _)
  have a2 := cu_up (fun r => le_ok) hl hk (x := ox.lo) (y := x) ho.1 hx.1 (by omega) l.length (Nat.le_refl _)
  have a3 := cu_up (fun r => mo_ok) hl hk (x := x) (y := ox.hi) (by omega) hx.2 (by omega) l.length (Nat.le_refl _)
  have a4 := cu_up (fun r => le_ok) hl hk (x := x) (y := ox.hi) (by omega) hx.2 (by omega) l.length (Nat.le_refl _)
  rw [anX_cu, anY_cu, anX_cu, anY_cu]
  unfold subR
  simp only
  omega
/-- The list without its last step. -/
theorem cu_take (pf : Int → Rng → Int) (l : List Hst) (ox : Int) (k m : Nat) : ∀ n, n ≤ m → n ≤ l.length → cuK pf (l.take m) ox k n = cuK pf l ox k n
  | 0, _, _ => rfl
  | n + 1, h1, h2 => by
    unfold cuK
    rw [cu_take pf l ox k m n (by omega) (by omega)]
    have : at0 (l.take m) n = at0 l n := by
      rw [at0_get (by rw [List.length_take]; omega), at0_get (by omega), List.getElem_take]
    rw [this]
theorem ox_before {l : List Hst} (hl : OkAll l) {k : Nat} (hk : k < 5) {ox : Rng} (ho : spanB ox 0 1000000 = true) (h0 : 0 < l.length) : (anX l ox k).lo ≤ (anX (l.take (l.length - 1)) ox k).lo ∧ (anX l ox k).hi ≤ (anX (l.take (l.length - 1)) ox k).hi := by
  have ho := spanB_iff.1 ho
  obtain ⟨n, hn⟩ : ∃ n, l.length = n + 1 := ⟨l.length - 1, by omega⟩
  rw [anX_cu, anX_cu]
  simp only
  rw [List.length_take, hn, Nat.add_sub_cancel, Nat.min_eq_left (by omega), cu_take _ _ _ _ _ _ (Nat.le_refl _) (by omega), cu_take _ _ _ _ _ _ (Nat.le_refl _) (by omega)]
  have hs := hl.sp (i := n) (by omega) hk
  have b1 := cu_bd (fun r => mo_ok) hl hk (x := ox.lo) (by omega) n (by omega)
  have b2 := cu_bd (fun r => le_ok) hl hk (x := ox.hi) (by omega) n (by omega)
  have s1 := st_bd (h := at0 l n) (k := k) (mo_ok hs.1) hs.2 (x := cuK moP l ox.lo k n) (by omega)
  have s2 := st_bd (h := at0 l n) (k := k) (le_ok hs.1) hs.2 (x := cuK leP l ox.hi k n) (by omega)
  exact ⟨s1.2, s2.2⟩
end Go.Proofs.Yteibgenkklpoaaa.Un
