/- Plain law of chapter 9: the corners of a grid, the farthest point, and how the list of the best plane grows (no program in sight). Plain law of chapter 9: how flatnesses compare (no program in sight). Plain law of chapter 9: the flatness of windows (no program in sight). -/
import Derived.Test.YtliolnfcgaflcaaGreatKad
namespace Go.Proofs.YtliolnfcgaflcaaGreat.Un
open Go.RowKit
def gPt (W i : Nat) : Pt := ⟨i, ((i % W : Nat) : Int), ((i / W : Nat) : Int)⟩
theorem gPt_mem {W n i : Nat} (h : i < n) : gPt W i ∈ gridL W n := grid_mem h
theorem mem_gPt {W n : Nat} {q : Pt} (h : q ∈ gridL W n) : ∃ i, i < n ∧ q = gPt W i := by
 unfold gridL at h
 obtain ⟨i, hi, rfl⟩ := List.mem_map.1 h
 exact ⟨i, List.mem_range.1 hi, rfl⟩
theorem gridL_len (W n : Nat) : (gridL W n).length = n := by simp [gridL]
theorem gridL_get {W n i : Nat} (h : i < n) : pt9 (gridL W n) i = gPt W i := by
 unfold pt9 gridL
 rw [List.getD_eq_getElem?_getD, List.getElem?_map, List.getElem?_range h]
 rfl
def crn (W H : Nat) : List Pt := [gPt W 0, gPt W (W - 1), gPt W (W * H - W), gPt W (W * H - 1)]
theorem crn_at {W H : Nat} (hW : 2 ≤ W) (hH : 2 ≤ H) : gPt W 0 = ⟨0, 0, 0⟩ ∧ gPt W (W - 1) = ⟨W - 1, ((W - 1 : Nat) : Int), 0⟩ ∧ gPt W (W * H - W) = ⟨W * H - W, 0, ((H - 1 : Nat) : Int)⟩ ∧ gPt W (W * H - 1) = ⟨W * H - 1, ((W - 1 : Nat) : Int), ((H - 1 : Nat) : Int)⟩ := by
 obtain ⟨k, rfl⟩ : ∃ k, H = k + 1 := ⟨H - 1, by omega⟩
 have e1 : W * (k + 1) - W = W * k := by rw [Nat.mul_succ]; omega
 have e2 : W * (k + 1) - 1 = W * k + (W - 1) := by rw [Nat.mul_succ]; omega
 have m1 : (W - 1) % W = W - 1 := Nat.mod_eq_of_lt (by omega)
 have d1 : (W - 1) / W = 0 := Nat.div_eq_of_lt (by omega)
 refine ⟨?_, ?_, ?_, ?_⟩
 · unfold gPt; simp
 · unfold gPt; rw [m1, d1]; rfl
 · unfold gPt
   rw [e1, Nat.mul_mod_right, Nat.mul_div_cancel_left _ (by omega)]
   rfl
 · unfold gPt
   rw [e2, Nat.mul_add_mod, m1, Nat.mul_add_div (by omega), d1]
   rfl
theorem crn_lt {W H : Nat} (hW : 2 ≤ W) (hH : 2 ≤ H) : 0 < W * H ∧ W - 1 < W * H ∧ W * H - W < W * H ∧ W * H - 1 < W * H := by
 have h1 : W * 2 ≤ W * H := Nat.mul_le_mul_left W hH
 omega
theorem crn_sub {W H : Nat} (hW : 2 ≤ W) (hH : 2 ≤ H) : ∀ q ∈ crn W H, q ∈ gridL W (W * H) := fun q hq => by
 obtain ⟨h0, h1, h2, h3⟩ := crn_lt hW hH
 unfold crn at hq
 simp only [List.mem_cons, List.not_mem_nil, or_false] at hq
 rcases hq with rfl | rfl | rfl | rfl
 · exact gPt_mem h0
 · exact gPt_mem h1
 · exact gPt_mem h2
 · exact gPt_mem h3
theorem crn_grd {W H : Nat} (hW : 2 ≤ W) (hH : 2 ≤ H) : Grd (crn W H) := by
 obtain ⟨e0, e1, e2, e3⟩ := crn_at hW hH
 unfold crn
 rw [e0, e1, e2, e3]
 have i1 : ((W - 1 : Nat) : Int) = (W : Int) - 1 := by omega
 have i2 : ((H - 1 : Nat) : Int) = (H : Int) - 1 := by omega
 rw [i1, i2]
 refine ⟨by simp, ?_, ?_⟩
 · simp only [List.pairwise_cons, List.mem_cons, List.not_mem_nil, or_false, forall_eq_or_imp, forall_eq, Dis, false_imp_iff, implies_true, List.Pairwise.nil, and_true]
   omega
 · refine ⟨_, List.mem_cons_self .., _, List.mem_cons_of_mem _ (List.mem_cons_self ..), _, List.mem_cons_of_mem _ (List.mem_cons_of_mem _ (List.mem_cons_self ..)), ?_⟩
   show ((W : Int) - 1 - 0) * ((H : Int) - 1 - 0) - (0 - 0) * (0 - 0) ≠ 0
   rw [Int.sub_self, Int.zero_mul, Int.sub_zero, Int.sub_zero, Int.sub_zero]
   exact Int.mul_ne_zero (by omega) (by omega)
def ofa (p : Pln) (z : Nat → Int) (q : Pt) : Int := max (p.off q (z q.at_)) (-(p.off q (z q.at_)))
theorem ofa_nonneg (p : Pln) (z : Nat → Int) (q : Pt) : 0 ≤ ofa p z q := by unfold ofa; omega
def farS (p : Pln) (z : Nat → Int) (s : Pt × Int) (q : Pt) : Pt × Int := if s.2 < ofa p z q then (q, ofa p z q) else s
def farK (p : Pln) (z : Nat → Int) (l : List Pt) : Nat → Pt × Int
 | 0 => (⟨0, 0, 0⟩, -1) | k + 1 => farS p z (farK p z l k) (pt9 l k)
theorem farK_spec {p : Pln} {z : Nat → Int} {l : List Pt} : ∀ k, k ≤ l.length → (∀ j, j < k → ofa p z (pt9 l j) ≤ (farK p z l k).2) ∧ (0 < k → ∃ j, j < k ∧ (farK p z l k).1 = pt9 l j ∧ (farK p z l k).2 = ofa p z (pt9 l j))
 | 0, _ => ⟨fun j hj => absurd hj (by omega), fun h => absurd h (by omega)⟩
 | k + 1, hk => by
   obtain ⟨h1, h2⟩ := farK_spec (p := p) (z := z) (l := l) k (by omega)
   show (∀ j, j < k + 1 → ofa p z (pt9 l j) ≤ (farS p z (farK p z l k) (pt9 l k)).2) ∧ (0 < k + 1 → ∃ j, j < k + 1 ∧ (farS p z (farK p z l k) (pt9 l k)).1 = pt9 l j ∧ (farS p z (farK p z l k) (pt9 l k)).2 = ofa p z (pt9 l j))
   unfold farS
   split
   · rename_i hlt
     refine ⟨fun j hj => ?_, fun _ => ⟨k, by omega, rfl, rfl⟩⟩
     rcases Nat.lt_or_ge j k with h3 | h3
     · have := h1 j h3
       show _ ≤ ofa p z (pt9 l k)
       omega
     · obtain rfl : j = k := by omega
       exact Int.le_refl _
   · rename_i hlt
     refine ⟨fun j hj => ?_, fun _ => ?_⟩
     · rcases Nat.lt_or_ge j k with h3 | h3
       · exact h1 j h3
       · obtain rfl : j = k := by omega
         omega
     · rcases Nat.eq_zero_or_pos k with h0 | h0
       · subst h0
         have := ofa_nonneg p z (pt9 l 0)
         have e : (farK p z l 0).2 = -1 := rfl
         omega
       · obtain ⟨j, hj, h4, h5⟩ := h2 h0
         exact ⟨j, by omega, h4, h5⟩
def farF (p : Pln) (z : Nat → Int) (l : List Pt) : Pt := (farK p z l l.length).1
theorem pt9_mem {l : List Pt} {k : Nat} (h : k < l.length) : pt9 l k ∈ l := by
 unfold pt9
 rw [List.getD_eq_getElem?_getD, List.getElem?_eq_getElem h]
 exact List.getElem_mem h
theorem far_mem {p : Pln} {z : Nat → Int} {l : List Pt} (h : 0 < l.length) : farF p z l ∈ l := by
 obtain ⟨j, hj, h1, _⟩ := (farK_spec (p := p) (z := z) (l := l) l.length (Nat.le_refl _)).2 h
 unfold farF
 rw [h1]
 exact pt9_mem hj
theorem far_new {p : Pln} {z : Nat → Int} {d : Frc} {l m : List Pt} (hd : 1 ≤ d.d) (hn : near9 p l z d = true) (hf : near9 p m z d = false) : farF p z m ∉ l := fun hin => by
 have hall := List.all_eq_true.1 hn _ hin
 rw [decide_eq_true_eq] at hall
 have h0 : 0 < m.length := by
  cases m with
  | nil => simp [near9] at hf
  | cons a t => simp
 obtain ⟨hmax, hex⟩ := farK_spec (p := p) (z := z) (l := m) m.length (Nat.le_refl _)
 obtain ⟨j, hj, h1, h2⟩ := hex h0
 have : near9 p m z d = true := by
  refine List.all_eq_true.2 fun q hq => decide_eq_true ?_
  obtain ⟨i, hi, rfl⟩ := pt9_get hq
  have h3 := hmax i hi
  rw [h2] at h3
  unfold farF at hall
  rw [h1] at hall
  exact Int.le_trans (Int.mul_le_mul_of_nonneg_right h3 (by omega)) hall
 rw [this] at hf
 cases hf
theorem nodup_len : ∀ (n : Nat) (l : List Nat), l.Nodup → (∀ x ∈ l, x < n) → l.length ≤ n
 | 0, l, _, h => by
   cases l with
   | nil => simp
   | cons a t => exact absurd (h a (by simp)) (by omega)
 | n + 1, l, hd, h => by
   by_cases hm : n ∈ l
   · have := nodup_len n (l.erase n) (hd.erase n) fun x hx => by
       obtain ⟨h1, h2⟩ := (hd.mem_erase_iff).1 hx
       have := h x h2
       omega
     rw [List.length_erase_of_mem hm] at this
     omega
   · have := nodup_len n l hd fun x hx => by
       have h1 := h x hx
       have h2 : x ≠ n := fun e => hm (e ▸ hx)
       omega
     omega
structure Bst (W H : Nat) (l : List Pt) : Prop where
 grd : Grd l
 sub : ∀ q ∈ l, q ∈ gridL W (W * H)
 nod : (l.map fun q => q.at_).Nodup
theorem Bst.len {W H : Nat} {l : List Pt} (h : Bst W H l) : l.length ≤ W * H := by
 have := nodup_len (W * H) (l.map fun q => q.at_) h.nod fun x hx => by
  obtain ⟨q, hq, rfl⟩ := List.mem_map.1 hx
  obtain ⟨i, hi, rfl⟩ := mem_gPt (h.sub q hq)
  exact hi
 simpa using this
theorem gPt_dis {W i j : Nat} (h : i ≠ j) : Dis (gPt W i) (gPt W j) := by
 unfold Dis gPt
 simp only
 by_cases hm : i % W = j % W
 · right
   intro hd
   have hd : i / W = j / W := by exact_mod_cast hd
   have h1 := Nat.div_add_mod i W
   have h2 := Nat.div_add_mod j W
   rw [hm, hd] at h1
   omega
 · left
   intro hx
   exact hm (by exact_mod_cast hx)
theorem Bst.base {W H : Nat} (hW : 2 ≤ W) (hH : 2 ≤ H) : Bst W H (crn W H) := by
 refine ⟨crn_grd hW hH, crn_sub hW hH, ?_⟩
 have h1 : W * 2 ≤ W * H := Nat.mul_le_mul_left W hH
 unfold crn gPt
 simp only [List.map_cons, List.map_nil, List.nodup_cons, List.mem_cons, List.not_mem_nil, or_false, List.nodup_nil, and_true, not_false_eq_true]
 omega
theorem Bst.next {W H : Nat} {l : List Pt} {q : Pt} (h : Bst W H l) (hq : q ∈ gridL W (W * H)) (hn : q ∉ l) : Bst W H (l ++ [q]) := by
 obtain ⟨i, hi, rfl⟩ := mem_gPt hq
 have hne : ∀ r ∈ l, ∃ j, r = gPt W j ∧ j ≠ i := fun r hr => by
  obtain ⟨j, _, rfl⟩ := mem_gPt (h.sub r hr)
  exact ⟨j, rfl, fun e => hn (e ▸ hr)⟩
 refine ⟨⟨by simp only [List.length_append]; have := h.grd.four; omega, ?_, ?_⟩, ?_, ?_⟩
 · refine List.pairwise_append.2 ⟨h.grd.dis, by simp, fun r hr x hx => ?_⟩
   obtain rfl := List.mem_singleton.1 hx
   obtain ⟨j, rfl, hj⟩ := hne r hr
   exact gPt_dis hj
 · obtain ⟨a, ha, b, hb, c, hc, hx⟩ := h.grd.tri
   exact ⟨a, by simp [ha], b, by simp [hb], c, by simp [hc], hx⟩
 · intro r hr
   rcases List.mem_append.1 hr with h1 | h1
   · exact h.sub r h1
   · obtain rfl := List.mem_singleton.1 h1
     exact gPt_mem hi
 · rw [List.map_append]
   refine List.nodup_append.2 ⟨h.nod, by simp, fun x hx y hy e => ?_⟩
   obtain ⟨r, hr, rfl⟩ := List.mem_map.1 hx
   obtain ⟨j, rfl, hj⟩ := hne r hr
   obtain rfl : y = i := by simpa [gPt] using hy
   exact hj e
theorem best_all {z : Nat → Int} {d : Frc} {l m : List Pt} {p : Pln} (hl : Grd l) (hm : Grd m) (hs : ∀ q ∈ l, q ∈ m) (hd : d = ds9 (fl9 l (ex9 z) true)) (hp : 0 < p.d) (hn : near9 p m z d = true) : d = ds9 (fl9 m (ex9 z) true) := by
 subst hd
 have L1 := fl_lub l (ex9 z) true
 have L2 := fl_lub m (ex9 z) true
 refine lub_all hl hm hs L1 L2 ⟨p, hp, ?_⟩
 exact (near9_nr L1.1).1 hn
theorem ds_in {p : Prf} {n : Nat} (h : InF p n) (hp : p.s = true → 0 < p.b.sz ∧ 0 < p.v) : InD (ds9 p) := by
 unfold ds9
 split
 · rename_i hs
   obtain ⟨h1, h2⟩ := hp hs
   obtain ⟨a1, a2, _, a4, a5⟩ := low9_ok (n := p.v) (d := p.b.sz) (by omega)
   have hv := h.v
   have hz := h.b.sz
   have a4 := a4 (by omega)
   refine ⟨⟨a4, ?_⟩, a1, by omega⟩
   have h3 := Int.mul_le_mul_of_nonneg_left a5 (show 0 ≤ p.v by omega)
   rw [a2] at h3
   have := Int.le_of_mul_le_mul_right h3 h1
   omega
 · exact ⟨⟨by decide, by decide⟩, by decide, by decide⟩
end Go.Proofs.YtliolnfcgaflcaaGreat.Un
namespace Go.Proofs.YtliolnfcgaflcaaGreat.Un
open Go.RowKit
end Go.Proofs.YtliolnfcgaflcaaGreat.Un
namespace Go.Proofs.YtliolnfcgaflcaaGreat.Un
open Go.RowKit
def rePt (f : Nat → Nat) (dx dy : Int) (q : Pt) : Pt := ⟨f q.at_, q.x + dx, q.y + dy⟩
def wAt (W w x y k : Nat) : Nat := (y + k / w) * W + x + k % w
def winL (W w h x y : Nat) : List Pt := (gridL w (w * h)).map (rePt (wAt W w x y) 0 0)
theorem win_at {W w h x y : Nat} {H : Nat} (hx : x + w ≤ W) (hy : y + h ≤ H) (hw : 0 < w) : ∀ q ∈ winL W w h x y, q.at_ < W * H := fun q hq => by
 obtain ⟨r, hr, rfl⟩ := List.mem_map.1 hq
 obtain ⟨i, hi, rfl⟩ := mem_gPt hr
 show wAt W w x y i < W * H
 have h1 : i / w < h := by
  rw [Nat.div_lt_iff_lt_mul hw, Nat.mul_comm]
  exact hi
 have h2 := Nat.mod_lt i hw
 unfold wAt
 have := Nat.mul_le_mul_right W (show y + i / w + 1 ≤ H by omega)
 rw [Nat.add_mul _ 1 W, Nat.mul_comm H W] at this
 omega
end Go.Proofs.YtliolnfcgaflcaaGreat.Un
