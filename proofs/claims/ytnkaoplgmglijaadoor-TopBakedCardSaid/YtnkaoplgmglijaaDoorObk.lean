/- Plain law of TopBaked: what a heat treatment leaves of an end of a range. -/
import Derived.Test.YtnkaoplgmglijaaDoorDe
import Derived.Test.YtnkaoplgmglijaaDoorDt1
import Derived.Test.YtnkaoplgmglijaaDoorDw1
namespace Go.Proofs.YtnkaoplgmglijaaDoor.Un
open Go.RowKit
def stF (pf : Int → Rng → Int) (h : Hst) (k : Nat) (x : Int) : Int := if 0 < x - h.d then x - pf (x - h.d) (h.s k) else x
def cuK (pf : Int → Rng → Int) (l : List Hst) (ox : Int) (k : Nat) : Nat → Int
 | 0 => ox
 | n + 1 => stF pf (at0 l n) k (cuK pf l ox k n)
theorem cu_fl (pf : Int → Rng → Int) (l : List Hst) (ox : Int) (k : Nat) : ∀ n, cuK pf l ox k n = ox - flK pf l ox k n
 | 0 => by unfold cuK flK; omega
 | n + 1 => by
   have ih := cu_fl pf l ox k n
   unfold cuK flK stF
   rw [ih]
   split <;> omega
structure PfOk (pf : Int → Rng → Int) (r : Rng) : Prop where
 bd : ∀ a, 0 ≤ a → a ≤ 1000000 → 0 ≤ pf a r ∧ pf a r ≤ a
 up : ∀ a b, 0 ≤ a → a ≤ b → b ≤ 1000000 → pf a r ≤ pf b r ∧ pf b r - pf a r ≤ b - a
theorem le_ok {r : Rng} (hr : spanB r 0 10000 = true) : PfOk leP r := by
 refine ⟨fun a h0 h1 => ⟨(leP_bd ⟨h0, h1⟩ hr).1, (leP_bd ⟨h0, h1⟩ hr).2.1⟩, fun a b h0 h1 h2 => ?_⟩
 have ha := leP_bd (a := a) ⟨h0, by omega⟩ hr
 have hb := leP_bd (a := b) ⟨by omega, h2⟩ hr
 have hr := spanB_iff.1 hr
 unfold leP at *
 rw [Int.tdiv_eq_ediv_of_nonneg ha.2.2.1] at *
 rw [Int.tdiv_eq_ediv_of_nonneg hb.2.2.1] at *
 have e1 : a * r.lo ≤ b * r.lo := Int.mul_le_mul_of_nonneg_right h1 hr.1
 have e2 : (b - a) * r.lo ≤ (b - a) * 10000 := Int.mul_le_mul_of_nonneg_left (by omega) (by omega)
 rw [Int.sub_mul] at e2
 omega
theorem mo_ok {r : Rng} (hr : spanB r 0 10000 = true) : PfOk moP r := by
 refine ⟨fun a h0 h1 => ⟨(moP_bd ⟨h0, h1⟩ hr).1, (moP_bd ⟨h0, h1⟩ hr).2.1⟩, fun a b h0 h1 h2 => ?_⟩
 have ha := moP_bd (a := a) ⟨h0, by omega⟩ hr
 have hb := moP_bd (a := b) ⟨by omega, h2⟩ hr
 have hr := spanB_iff.1 hr
 unfold moP at *
 rw [Int.tdiv_eq_ediv_of_nonneg (by omega : 0 ≤ a * r.hi + 9999)] at *
 rw [Int.tdiv_eq_ediv_of_nonneg (by omega : 0 ≤ b * r.hi + 9999)] at *
 have e1 : a * r.hi ≤ b * r.hi := Int.mul_le_mul_of_nonneg_right h1 (by omega)
 have e2 : (b - a) * r.hi ≤ (b - a) * 10000 := Int.mul_le_mul_of_nonneg_left (by omega) (by omega)
 rw [Int.sub_mul] at e2
 omega
theorem le_mo {a : Int} {r : Rng} (ha : 0 ≤ a) (hr : spanB r 0 10000 = true) : leP a r ≤ moP a r := by
 have hr := spanB_iff.1 hr
 have h1 : 0 ≤ a * r.lo := Int.mul_nonneg ha hr.1
 have h2 : a * r.lo ≤ a * r.hi := Int.mul_le_mul_of_nonneg_left (by omega) ha
 unfold leP moP
 rw [Int.tdiv_eq_ediv_of_nonneg h1, Int.tdiv_eq_ediv_of_nonneg (by omega)]
 omega
theorem st_bd {pf : Int → Rng → Int} {h : Hst} {k : Nat} (hp : PfOk pf (h.s k)) (hd : 0 ≤ h.d) {x : Int} (hx : 0 ≤ x ∧ x ≤ 1000000) : 0 ≤ stF pf h k x ∧ stF pf h k x ≤ x := by
 unfold stF
 split
 · have := hp.bd (x - h.d) (by omega) (by omega)
   omega
 · omega
theorem st_up {pf : Int → Rng → Int} {h : Hst} {k : Nat} (hp : PfOk pf (h.s k)) (hd : 0 ≤ h.d) {x y : Int} (_ : 0 ≤ x) (hxy : x ≤ y) (hy : y ≤ 1000000) : stF pf h k x ≤ stF pf h k y ∧ stF pf h k y - stF pf h k x ≤ y - x := by
 unfold stF
 by_cases h1 : 0 < x - h.d
 · rw [if_pos h1, if_pos (by omega)]
   have := hp.up (x - h.d) (y - h.d) (by omega) (by omega) (by omega)
   omega
 · rw [if_neg h1]
   split
   · have := hp.bd (y - h.d) (by omega) (by omega)
     omega
   · omega
def OkAll (l : List Hst) : Prop := ∀ i, i < l.length → stOk (at0 l i) = true
theorem OkAll.sp {l : List Hst} (h : OkAll l) {i k : Nat} (hi : i < l.length) (hk : k < 5) : spanB ((at0 l i).s k) 0 10000 = true ∧ 0 ≤ (at0 l i).d := ⟨(stOk_iff.1 (h i hi)).2.2 k hk, (stOk_iff.1 (h i hi)).1⟩
theorem cu_bd {pf : Int → Rng → Int} (hp : ∀ r, spanB r 0 10000 = true → PfOk pf r) {l : List Hst} (hl : OkAll l) {k : Nat} (hk : k < 5) {x : Int} (hx : 0 ≤ x ∧ x ≤ 1000000) : ∀ n, n ≤ l.length → 0 ≤ cuK pf l x k n ∧ cuK pf l x k n ≤ x
 | 0, _ => ⟨hx.1, Int.le_refl _⟩
 | n + 1, hn => by
   have ih := cu_bd hp hl hk hx n (by omega)
   have hs := hl.sp (i := n) (by omega) hk
   have := st_bd (h := at0 l n) (k := k) (hp _ hs.1) hs.2 (x := cuK pf l x k n) (by omega)
   unfold cuK
   omega
theorem cu_up {pf : Int → Rng → Int} (hp : ∀ r, spanB r 0 10000 = true → PfOk pf r) {l : List Hst} (hl : OkAll l) {k : Nat} (hk : k < 5) {x y : Int} (hx : 0 ≤ x) (hxy : x ≤ y) (hy : y ≤ 1000000) : ∀ n, n ≤ l.length → cuK pf l x k n ≤ cuK pf l y k n ∧ cuK pf l y k n - cuK pf l x k n ≤ y - x
 | 0, _ => ⟨hxy, Int.le_refl _⟩
 | n + 1, hn => by
   have ih := cu_up hp hl hk hx hxy hy n (by omega)
   have b1 := cu_bd hp hl hk (x := x) ⟨hx, by omega⟩ n (by omega)
   have b2 := cu_bd hp hl hk (x := y) ⟨by omega, hy⟩ n (by omega)
   have hs := hl.sp (i := n) (by omega) hk
   have := st_up (h := at0 l n) (k := k) (hp _ hs.1) hs.2 (x := cuK pf l x k n) (y := cuK pf l y k n) (by omega) (by omega) (by omega)
   unfold cuK
   omega
def trK (l : List Hst) (by' : Nat → Int) (x : Int) (k : Nat) : Nat → Int
 | 0 => x
 | n + 1 => if trK l by' x k n - (at0 l n).d ≤ 0 then trK l by' x k n else trK l by' x k n - plF ⟨leP (trK l by' x k n - (at0 l n).d) ((at0 l n).s k), moP (trK l by' x k n - (at0 l n).d) ((at0 l n).s k)⟩ (by' n)
theorem tr_in {l : List Hst} (hl : OkAll l) {by' : Nat → Int} (hb : ∀ i, 0 ≤ by' i) {k : Nat} (hk : k < 5) {x : Int} (hx : 0 ≤ x ∧ x ≤ 1000000) : ∀ n, n ≤ l.length → cuK moP l x k n ≤ trK l by' x k n ∧ trK l by' x k n ≤ cuK leP l x k n
 | 0, _ => ⟨Int.le_refl _, Int.le_refl _⟩
 | n + 1, hn => by
   have ih := tr_in hl hb hk hx n (by omega)
   have b1 := cu_bd (fun r => mo_ok) hl hk hx n (by omega)
   have b2 := cu_bd (fun r => le_ok) hl hk hx n (by omega)
   have hs := hl.sp (i := n) (by omega) hk
   have u1 := st_up (h := at0 l n) (k := k) (mo_ok hs.1) hs.2 (x := cuK moP l x k n) (y := trK l by' x k n) (by omega) (by omega) (by omega)
   have u2 := st_up (h := at0 l n) (k := k) (le_ok hs.1) hs.2 (x := trK l by' x k n) (y := cuK leP l x k n) (by omega) (by omega) (by omega)
   unfold cuK trK
   generalize trK l by' x k n = z at *
   unfold stF at *
   by_cases h0 : z - (at0 l n).d ≤ 0
   · rw [if_pos h0]
     rw [if_neg (show ¬ 0 < z - (at0 l n).d by omega)] at u1 u2
     omega
   · rw [if_neg h0]
     rw [if_pos (show 0 < z - (at0 l n).d by omega)] at u1 u2
     have := plF_in (r := ⟨leP (z - (at0 l n).d) ((at0 l n).s k), moP (z - (at0 l n).d) ((at0 l n).s k)⟩) (hb n) (le_mo (by omega) hs.1)
     simp only at this
     omega
theorem tr_bd {l : List Hst} (hl : OkAll l) {by' : Nat → Int} (hb : ∀ i, 0 ≤ by' i) {k : Nat} (hk : k < 5) {x : Int} (hx : 0 ≤ x ∧ x ≤ 1000000) {n : Nat} (hn : n ≤ l.length) : 0 ≤ trK l by' x k n ∧ trK l by' x k n ≤ 1000000 := by
 have := tr_in hl hb hk hx n hn
 have := cu_bd (fun r => mo_ok) hl hk hx n hn
 have := cu_bd (fun r => le_ok) hl hk hx n hn
 omega
theorem anX_cu (l : List Hst) (ox : Rng) (k : Nat) : anX l ox k = ⟨cuK moP l ox.lo k l.length, cuK leP l ox.hi k l.length⟩ := by
 unfold anX
 rw [cu_fl, cu_fl]
theorem anY_cu (l : List Hst) (ox : Rng) (k : Nat) : anY l ox k = ⟨ox.lo - cuK leP l ox.lo k l.length, ox.hi - cuK moP l ox.hi k l.length⟩ := by
 unfold anY
 rw [cu_fl, cu_fl]
 congr 1 <;> omega
theorem ox_true {l : List Hst} (hl : OkAll l) {by' : Nat → Int} (hb : ∀ i, 0 ≤ by' i) {k : Nat} (hk : k < 5) {ox : Rng} (ho : spanB ox 0 1000000 = true) {x : Int} (hx : ox.lo ≤ x ∧ x ≤ ox.hi) :
 inR (anX l ox k) (trK l by' x k l.length) ∧ inR (anY l ox k) (x - trK l by' x k l.length) := by
 have ho := spanB_iff.1 ho
 have t := tr_in hl hb hk (x := x) (by omega) l.length (Nat.le_refl _)
 have a1 := cu_up (fun r => mo_ok) hl hk (x := ox.lo) (y := x) ho.1 hx.1 (by omega) l.length (Nat.le_refl _)
 have a2 := cu_up (fun r => le_ok) hl hk (x := ox.lo) (y := x) ho.1 hx.1 (by omega) l.length (Nat.le_refl _)
 have a3 := cu_up (fun r => mo_ok) hl hk (x := x) (y := ox.hi) (by omega) hx.2 (by omega) l.length (Nat.le_refl _)
 have a4 := cu_up (fun r => le_ok) hl hk (x := x) (y := ox.hi) (by omega) hx.2 (by omega) l.length (Nat.le_refl _)
 rw [anX_cu, anY_cu]
 unfold inR
 simp only
 omega
def subR (a b : Rng) : Prop := b.lo ≤ a.lo ∧ a.hi ≤ b.hi
theorem ox_less {l : List Hst} (hl : OkAll l) {k : Nat} (hk : k < 5) {ox : Rng} (ho : spanB ox 0 1000000 = true) {x : Int} (hx : ox.lo ≤ x ∧ x ≤ ox.hi) :
 subR (anX l ⟨x, x⟩ k) (anX l ox k) ∧ subR (anY l ⟨x, x⟩ k) (anY l ox k) ∧ (anX l ⟨x, x⟩ k).lo + (anY l ⟨x, x⟩ k).hi = x ∧ (anX l ⟨x, x⟩ k).hi + (anY l ⟨x, x⟩ k).lo = x := by
 have ho := spanB_iff.1 ho
 have a1 := cu_up (fun r => mo_ok) hl hk (x := ox.lo) (y := x) ho.1 hx.1 (by omega) l.length (Nat.le_refl _)
 have a2 := cu_up (fun r => le_ok) hl hk (x := ox.lo) (y := x) ho.1 hx.1 (by omega) l.length (Nat.le_refl _)
 have a3 := cu_up (fun r => mo_ok) hl hk (x := x) (y := ox.hi) (by omega) hx.2 (by omega) l.length (Nat.le_refl _)
 have a4 := cu_up (fun r => le_ok) hl hk (x := x) (y := ox.hi) (by omega) hx.2 (by omega) l.length (Nat.le_refl _)
 rw [anX_cu, anY_cu, anX_cu, anY_cu]
 unfold subR
 simp only
 omega
theorem cu_take (pf : Int → Rng → Int) (l : List Hst) (ox : Int) (k m : Nat) : ∀ n, n ≤ m → n ≤ l.length → cuK pf (l.take m) ox k n = cuK pf l ox k n
 | 0, _, _ => rfl
 | n + 1, h1, h2 => by
   unfold cuK
   rw [cu_take pf l ox k m n (by omega) (by omega)]
   have : at0 (l.take m) n = at0 l n := by
     rw [at0_get (by rw [List.length_take]; omega), at0_get (by omega), List.getElem_take]
   rw [this]
theorem ox_before {l : List Hst} (hl : OkAll l) {k : Nat} (hk : k < 5) {ox : Rng} (ho : spanB ox 0 1000000 = true) (h0 : 0 < l.length) : (anX l ox k).lo ≤ (anX (l.take (l.length - 1)) ox k).lo ∧ (anX l ox k).hi ≤ (anX (l.take (l.length - 1)) ox k).hi := by
 have ho := spanB_iff.1 ho
 obtain ⟨n, hn⟩ : ∃ n, l.length = n + 1 := ⟨l.length - 1, by omega⟩
 rw [anX_cu, anX_cu]
 simp only
 rw [List.length_take, hn, Nat.add_sub_cancel, Nat.min_eq_left (by omega), cu_take _ _ _ _ _ _ (Nat.le_refl _) (by omega), cu_take _ _ _ _ _ _ (Nat.le_refl _) (by omega)]
 have hs := hl.sp (i := n) (by omega) hk
 have b1 := cu_bd (fun r => mo_ok) hl hk (x := ox.lo) (by omega) n (by omega)
 have b2 := cu_bd (fun r => le_ok) hl hk (x := ox.hi) (by omega) n (by omega)
 have s1 := st_bd (h := at0 l n) (k := k) (mo_ok hs.1) hs.2 (x := cuK moP l ox.lo k n) (by omega)
 have s2 := st_bd (h := at0 l n) (k := k) (le_ok hs.1) hs.2 (x := cuK leP l ox.hi k n) (by omega)
 exact ⟨s1.2, s2.2⟩
end Go.Proofs.YtnkaoplgmglijaaDoor.Un
namespace Go.Proofs.YtnkaoplgmglijaaDoor.Un
open Go.RowKit
theorem foK_app (J : Rng → Rng → Rng) (xs ys : List Rng) : ∀ k, k < xs.length → foK J (xs ++ ys) k = foK J xs k
 | 0, h => by unfold foK; exact at0_app xs ys h
 | k + 1, h => by
   unfold foK
   rw [foK_app J xs ys k (by omega), at0_app xs ys h]
theorem foK_snoc (J : Rng → Rng → Rng) (xs : List Rng) (x : Rng) (h : 0 < xs.length) : foK J (xs ++ [x]) xs.length = J (foK J xs (xs.length - 1)) x := by
 obtain ⟨n, hn⟩ : ∃ n, xs.length = n + 1 := ⟨xs.length - 1, by omega⟩
 rw [hn, Nat.add_sub_cancel]
 show J (foK J (xs ++ [x]) n) (at0 (xs ++ [x]) (n + 1)) = _
 rw [foK_app J xs [x] n (by omega), ← hn, at0_last]
theorem hu_self (x : Rng) : huF x x = x := by unfold huF; simp
theorem foK_has (xs : List Rng) : ∀ k, k < xs.length → ∀ j, j ≤ k → subR (at0 xs j) (foK huF xs k)
 | 0, _, j, hj => by
   obtain rfl : j = 0 := by omega
   exact ⟨Int.le_refl _, Int.le_refl _⟩
 | k + 1, hk, j, hj => by
   have e1 : (foK huF xs (k + 1)).lo = min (foK huF xs k).lo (at0 xs (k + 1)).lo := rfl
   have e2 : (foK huF xs (k + 1)).hi = max (foK huF xs k).hi (at0 xs (k + 1)).hi := rfl
   unfold subR
   rw [e1, e2]
   by_cases h : j = k + 1
   · subst h; omega
   · have := foK_has xs k (by omega) j (by omega)
     unfold subR at this
     omega
theorem foK_hull' {xs : List Rng} (h : ∀ j, j < xs.length → rngOk (at0 xs j) = true) : ∀ k, k < xs.length → (foK huF xs k).lo ≤ (foK huF xs k).hi
 | 0, hk => (rngOk_iff.1 (h 0 hk)).2.2
 | k + 1, hk => by
   have h1 := foK_hull' h k (by omega)
   have h2 := (rngOk_iff.1 (h (k + 1) hk)).2.2
   simp only [foK, huF]
   omega
theorem foF_hull' {xs : List Rng} (h0 : chk xs = 0) (h1 : xs.length ≠ 0) : foF huF xs = (foK huF xs (xs.length - 1), 0) := by
 have hl := chk_ok h0
 have := foK_hull' (fun j => rngs_at hl.2) (xs.length - 1) (by omega)
 unfold foF
 rw [if_pos h0, if_neg h1, if_neg (by omega)]
theorem rngsOk_yes' {xs : List Rng} (h : ∀ j, j < xs.length → rngOk (at0 xs j) = true) : rngsOk xs = true := by
 unfold rngsOk
 rw [Bool.not_eq_true', List.any_eq_false]
 intro x hx
 obtain ⟨j, hj, rfl⟩ := at0_mem hx
 unfold badR
 rw [h j hj]; decide
def hrK (v : Int) (X : Nat → Rng) : Nat → Bool × Rng
 | 0 => (false, ⟨0, 0⟩)
 | k + 1 => if unw v k then hrK v X k else (true, huF (if (hrK v X k).1 then (hrK v X k).2 else X k) (X k))
theorem hrK_eq (v : Int) (X : Nat → Rng) : ∀ k, (hrK v X k).1 = decide (0 < (anL v X k).length) ∧ (0 < (anL v X k).length → (hrK v X k).2 = foK huF (anL v X k) ((anL v X k).length - 1)) ∧ ((anL v X k).length = 0 → (hrK v X k).2 = ⟨0, 0⟩)
 | 0 => ⟨rfl, fun h => absurd h (Nat.lt_irrefl _), fun _ => rfl⟩
 | k + 1 => by
   have ih := hrK_eq v X k
   unfold hrK anL
   split
   · exact ih
   · simp only
     refine ⟨by simp, fun _ => ?_, fun h => by simp at h⟩
     rw [List.length_append, List.length_singleton, Nat.add_sub_cancel]
     by_cases h0 : 0 < (anL v X k).length
     · rw [ih.1, decide_eq_true h0, if_pos rfl, ih.2.1 h0, foK_snoc _ _ _ h0]
     · rw [ih.1, decide_eq_false h0, if_neg (by decide), hu_self]
       have e : anL v X k = [] := List.eq_nil_of_length_eq_zero (by omega)
       rw [e]
       rfl
theorem anL_mem {v : Int} {X : Nat → Rng} {x : Rng} : ∀ {k : Nat}, x ∈ anL v X k → ∃ j, j < k ∧ x = X j
 | 0, h => by cases h
 | k + 1, h => by
   unfold anL at h
   split at h
   · obtain ⟨j, hj, e⟩ := anL_mem h
     exact ⟨j, by omega, e⟩
   · rcases List.mem_append.1 h with h | h
     · obtain ⟨j, hj, e⟩ := anL_mem h
       exact ⟨j, by omega, e⟩
     · exact ⟨k, by omega, List.mem_singleton.1 h⟩
theorem anL_has {v : Int} {X : Nat → Rng} : ∀ {k j : Nat}, j < k → unw v j = false → X j ∈ anL v X k
 | k + 1, j, h, hu => by
   unfold anL
   by_cases hk : j = k
   · subst hk
     rw [if_neg (by rw [hu]; decide)]
     exact List.mem_append_right _ (List.mem_singleton.2 rfl)
   · have := anL_has (v := v) (X := X) (k := k) (j := j) (by omega) hu
     split
     · exact this
     · exact List.mem_append_left _ this
theorem chk_anL {v : Int} {X : Nat → Rng} (hX : ∀ k, k < 5 → rngOk (X k) = true) : chk (anL v X 5) = 0 := by
 have h1 := anL_len v X 5
 have h2 : rngsOk (anL v X 5) = true := rngsOk_yes' fun j hj => by
  obtain ⟨i, hi, e⟩ := anL_mem (x := at0 (anL v X 5) j) (k := 5) (v := v) (X := X) (by rw [at0_get hj]; exact List.getElem_mem hj)
  rw [e]
  exact hX i hi
 unfold chk
 rw [if_neg (by omega), if_pos h2]
theorem unw_some : ∀ w : Fin 32, (w : Nat) ≠ 0 → unw ((w : Nat) : Int) 0 = false ∨ unw ((w : Nat) : Int) 1 = false ∨ unw ((w : Nat) : Int) 2 = false ∨ unw ((w : Nat) : Int) 3 = false ∨ unw ((w : Nat) : Int) 4 = false := by decide +kernel
theorem unw_all : ∀ k : Fin 5, unw 31 (k : Nat) = false := by decide +kernel
theorem unw_one : ∀ k : Fin 5, ∀ j : Fin 5, unw (2 ^ (k : Nat)) (j : Nat) = decide ((j : Nat) ≠ k) := by decide +kernel
theorem anL_pos {v : Int} {X : Nat → Rng} (hv : 0 < v ∧ v ≤ 31) : 0 < (anL v X 5).length := by
 obtain ⟨n, rfl⟩ : ∃ n : Nat, v = n := ⟨v.toNat, by omega⟩
 have key : ∀ j, j < 5 → unw (n : Int) j = false → 0 < (anL (n : Int) X 5).length := fun j hj h => List.length_pos_of_mem (anL_has (X := X) hj h)
 rcases unw_some ⟨n, by omega⟩ (by simp only; omega) with h | h | h | h | h
 · exact key 0 (by decide) h
 · exact key 1 (by decide) h
 · exact key 2 (by decide) h
 · exact key 3 (by decide) h
 · exact key 4 (by decide) h
theorem fo_an {v : Int} {X : Nat → Rng} (hv : 0 < v ∧ v ≤ 31) (hX : ∀ k, k < 5 → rngOk (X k) = true) : (foF huF (anL v X 5)).1 = (hrK v X 5).2 ∧ (∀ k, k < 5 → unw v k = false → subR (X k) (foF huF (anL v X 5)).1) := by
 have h0 := anL_pos (X := X) hv
 rw [foF_hull' (chk_anL hX) (by omega)]
 refine ⟨((hrK_eq v X 5).2.1 h0).symm, fun k hk hu => ?_⟩
 obtain ⟨j, hj, e⟩ := List.getElem_of_mem (anL_has (X := X) hk hu)
 have := foK_has (anL v X 5) ((anL v X 5).length - 1) (by omega) j (by omega)
 rw [at0_get hj, e] at this
 exact this
theorem fo_one {X : Nat → Rng} (hX : ∀ k, k < 5 → rngOk (X k) = true) {k : Nat} (hk : k < 5) : (foF huF (anL (2 ^ k) X 5)).1 = X k := by
 have hu : ∀ j, j < 5 → unw (2 ^ k) j = decide (j ≠ k) := fun j hj => unw_one ⟨k, hk⟩ ⟨j, hj⟩
 have he : anL (2 ^ k) X 5 = [X k] := by
  simp only [anL, hu 0 (by decide), hu 1 (by decide), hu 2 (by decide), hu 3 (by decide), hu 4 (by decide)]
  rcases k with _ | _ | _ | _ | _ | k
  · rfl
  · rfl
  · rfl
  · rfl
  · rfl
  · omega
 rw [foF_hull' (chk_anL hX) (by rw [he]; simp), he]
 rfl
theorem an_ok {l : List Hst} (hl : OkAll l) {ox : Rng} (ho : spanB ox 0 1000000 = true) {k : Nat} (hk : k < 5) : rngOk (anX l ox k) = true ∧ rngOk (anY l ox k) = true := by
 have ho := spanB_iff.1 ho
 have h1 := tr_in hl (by' := fun _ => 0) (fun _ => Int.le_refl _) hk (x := ox.lo) (by omega) l.length (Nat.le_refl _)
 have h2 := tr_in hl (by' := fun _ => 0) (fun _ => Int.le_refl _) hk (x := ox.hi) (by omega) l.length (Nat.le_refl _)
 have a1 := cu_bd (fun r => mo_ok) hl hk (x := ox.lo) (by omega) l.length (Nat.le_refl _)
 have a2 := cu_bd (fun r => le_ok) hl hk (x := ox.lo) (by omega) l.length (Nat.le_refl _)
 have a3 := cu_bd (fun r => mo_ok) hl hk (x := ox.hi) (by omega) l.length (Nat.le_refl _)
 have a4 := cu_bd (fun r => le_ok) hl hk (x := ox.hi) (by omega) l.length (Nat.le_refl _)
 have u1 := cu_up (fun r => le_ok) hl hk (x := ox.lo) (y := ox.hi) ho.1 ho.2.1 ho.2.2 l.length (Nat.le_refl _)
 rw [anX_cu, anY_cu, rngOk_iff, rngOk_iff]
 simp only
 omega
end Go.Proofs.YtnkaoplgmglijaaDoor.Un
namespace Go.Proofs.YtnkaoplgmglijaaDoor.Un
open Go.RowKit
theorem hst_info' : (Tryd.prog.info? 106).map (fun i => (i.zero, i.size, i.bytes)) = some (some (.agg #[I 0, I 0, I 0, I 0, I 0, I 0, I 0, I 0, I 0, I 0, I 0]), 11, 88) := by kernel_rfl
theorem ae_no {l : List Hst} {ox : Rng} {v : Int} (hl : OkAll l) (ho : spanB ox 0 1000000 = true) (h3 : l.length ≤ 30) (hv : 0 < v ∧ v ≤ 31) : anE l ox v = 0 := by
 have h1 : l.any notSt = false := by
  rw [List.any_eq_false]
  intro x hx
  obtain ⟨j, hj, rfl⟩ := at0_mem hx
  unfold notSt
  rw [hl j hj]
  decide
 unfold anE
 rw [if_neg (by omega), h1, ho, decide_eq_false (by omega : ¬ 31 < v), if_neg (by decide), if_neg (by omega)]
theorem ae_ok {l : List Hst} {ox : Rng} {v : Int} (h3 : l.length ≤ 30) (h : anE l ox v = 0) : OkAll l ∧ spanB ox 0 1000000 = true ∧ v ≠ 0 := by
 unfold anE at h
 rw [if_neg (by omega)] at h
 split at h
 · cases h
 · rename_i h1
   simp only [Bool.or_eq_true, not_or, List.any_eq_true, not_exists, not_and, Bool.not_eq_true', Bool.not_eq_false] at h1
   refine ⟨fun i hi => ?_, ?_, ?_⟩
   · have h5 := h1.1 (at0 l i) (by rw [at0_get hi]; exact List.getElem_mem hi)
     unfold notSt at h5
     simpa using h5
   · simpa using h1.2.1
   · rintro rfl
     rw [if_pos rfl] at h
     cases h
theorem an_err {l : List Hst} {ox : Rng} {v : Int} (h : anE l ox v ≠ 0) : anF l ox v = (⟨0, 0⟩, ⟨0, 0⟩, anE l ox v) := by
 unfold anF
 rw [if_neg h]
def Inr (a b : Rng) : Prop := b.lo ≤ a.lo ∧ a.hi ≤ b.hi
theorem an_in {l : List Hst} (hl : OkAll l) {k : Nat} (hk : k < 5) {ox ox' : Rng} (ho : spanB ox 0 1000000 = true) (hs : ox.lo ≤ ox'.lo ∧ ox'.lo ≤ ox'.hi ∧ ox'.hi ≤ ox.hi) :
 Inr (anX l ox' k) (anX l ox k) ∧ Inr (anY l ox' k) (anY l ox k) := by
 obtain ⟨h1, h2, h3⟩ := spanB_iff.1 ho
 obtain ⟨a, b, c⟩ := hs
 have m1 := cu_up (fun r hr => mo_ok hr) hl hk (x := ox.lo) (y := ox'.lo) h1 a (by omega) l.length (Nat.le_refl _)
 have m2 := cu_up (fun r hr => le_ok hr) hl hk (x := ox'.hi) (y := ox.hi) (by omega) c h3 l.length (Nat.le_refl _)
 have m3 := cu_up (fun r hr => le_ok hr) hl hk (x := ox.lo) (y := ox'.lo) h1 a (by omega) l.length (Nat.le_refl _)
 have m4 := cu_up (fun r hr => mo_ok hr) hl hk (x := ox'.hi) (y := ox.hi) (by omega) c h3 l.length (Nat.le_refl _)
 unfold Inr
 rw [anX_cu, anX_cu, anY_cu, anY_cu]
 simp only
 omega
theorem hr_in {v : Int} {X X' : Nat → Rng} : ∀ k, (∀ j, j < k → Inr (X' j) (X j)) → (hrK v X k).1 = (hrK v X' k).1 ∧ Inr (hrK v X' k).2 (hrK v X k).2
 | 0, _ => ⟨rfl, Int.le_refl _, Int.le_refl _⟩
 | k + 1, h => by
   obtain ⟨e, i⟩ := hr_in (v := v) (X := X) (X' := X') k fun j hj => h j (by omega)
   have hx := h k (by omega)
   rw [hrK, hrK]
   split
   · exact ⟨e, i⟩
   · refine ⟨rfl, ?_⟩
     rw [e]
     unfold Inr huF at *
     split
     all_goals
       simp only
       omega
theorem hr_hi {v : Int} {X X' : Nat → Rng} : ∀ k, (∀ j, j < k → (X' j).hi = (X j).hi) → (hrK v X k).1 = (hrK v X' k).1 ∧ (hrK v X' k).2.hi = (hrK v X k).2.hi
 | 0, _ => ⟨rfl, rfl⟩
 | k + 1, h => by
   obtain ⟨e, i⟩ := hr_hi (v := v) (X := X) (X' := X') k fun j hj => h j (by omega)
   have hx := h k (by omega)
   rw [hrK, hrK]
   split
   · exact ⟨e, i⟩
   · refine ⟨rfl, ?_⟩
     rw [e]
     unfold huF
     split
     all_goals
       simp only
       omega
theorem hr_lo {v : Int} {X X' : Nat → Rng} : ∀ k, (∀ j, j < k → (X' j).lo = (X j).lo) → (hrK v X k).1 = (hrK v X' k).1 ∧ (hrK v X' k).2.lo = (hrK v X k).2.lo
 | 0, _ => ⟨rfl, rfl⟩
 | k + 1, h => by
   obtain ⟨e, i⟩ := hr_lo (v := v) (X := X) (X' := X') k fun j hj => h j (by omega)
   have hx := h k (by omega)
   rw [hrK, hrK]
   split
   · exact ⟨e, i⟩
   · refine ⟨rfl, ?_⟩
     rw [e]
     unfold huF
     split
     all_goals
       simp only
       omega
theorem an_hull {l : List Hst} {ox : Rng} {v : Int} (h3 : l.length ≤ 30) (hv : 0 ≤ v ∧ v ≤ 31) (h : anE l ox v = 0) : anF l ox v = ((hrK v (anX l ox) 5).2, (hrK v (anY l ox) 5).2, 0) := by
 obtain ⟨hl, ho, h0⟩ := ae_ok h3 h
 unfold anF
 rw [if_pos h, (fo_an (by omega) fun j hj => (an_ok hl ho hj).1).1, (fo_an (by omega) fun j hj => (an_ok hl ho hj).2).1]
theorem bk_all {l : List Hst} {lo hi v n : Int} {mo : Bool} (h3 : l.length ≤ 30) (hv : 0 ≤ v ∧ v ≤ 31) (hn : n = if mo then hi else lo) (h : anE l ⟨lo, hi⟩ v = 0) :
 ∃ a b a' b' : Rng, anF l ⟨lo, hi⟩ v = (a, b, 0) ∧ anF l ⟨n, n⟩ v = (a', b', 0) ∧ Inr a' a ∧ Inr b' b ∧ (mo = true → a'.hi = a.hi ∧ b'.hi = b.hi) ∧ (mo = false → a'.lo = a.lo ∧ b'.lo = b.lo) := by
 obtain ⟨hl, ho, h0⟩ := ae_ok h3 h
 obtain ⟨h1, h2, h4⟩ := spanB_iff.1 ho
 simp only at h1 h2 h4
 have hb : lo ≤ n ∧ n ≤ hi := by
  subst hn
  split <;> omega
 have ho' : spanB ⟨n, n⟩ 0 1000000 = true := spanB_iff.2 ⟨by simp only; omega, by simp only; omega, by simp only; omega⟩
 have he' := ae_no (v := v) hl ho' h3 (by omega)
 refine ⟨_, _, _, _, an_hull h3 hv h, an_hull h3 hv he', (hr_in 5 fun j hj => (an_in hl hj ho ⟨hb.1, Int.le_refl _, hb.2⟩).1).2, (hr_in 5 fun j hj => (an_in hl hj ho ⟨hb.1, Int.le_refl _, hb.2⟩).2).2, fun hm => ?_, fun hm => ?_⟩
 · subst hm
   rw [if_pos rfl] at hn
   subst hn
   exact ⟨(hr_hi (v := v) (X := anX l ⟨lo, n⟩) (X' := anX l ⟨n, n⟩) 5 fun j _ => rfl).2, (hr_hi (v := v) (X := anY l ⟨lo, n⟩) (X' := anY l ⟨n, n⟩) 5 fun j _ => rfl).2⟩
 · subst hm
   rw [if_neg (by decide)] at hn
   subst hn
   exact ⟨(hr_lo (v := v) (X := anX l ⟨n, hi⟩) (X' := anX l ⟨n, n⟩) 5 fun j _ => rfl).2, (hr_lo (v := v) (X := anY l ⟨n, hi⟩) (X' := anY l ⟨n, n⟩) 5 fun j _ => rfl).2⟩
end Go.Proofs.YtnkaoplgmglijaaDoor.Un
