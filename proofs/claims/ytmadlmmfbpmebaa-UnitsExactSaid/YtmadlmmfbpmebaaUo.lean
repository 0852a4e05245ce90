/- The contracts of simplest and Simplest of package units. -/
import Derived.Test.YtmadlmmfbpmebaaUn
namespace Go.Proofs.Ytmadlmmfbpmebaa
open Go.RowKit
theorem ovr_next {W u w' : World} (h : Below (ovr W u).heap.size (ovr W u) w') : ∃ u', w' = ovr W u' := ⟨w', ovr_of ((ovr_below W u).trans (h.mono (ovr_below W u).size))⟩
theorem ovr_self (W : World) : ∃ u, W = ovr W u := ⟨W, ovr_of (Below.refl _ _)⟩
theorem ovr_re1 {W W' u v : World} {o : Obj} (h : W' = (ovr W u).alloc o) : ∃ x, ovr W' v = ovr W x := by
  subst h
  exact ⟨_, ovr_of ((ovr_below W u).trans ((under2 (ovr_below _ v)).mono (ovr_below W u).size))⟩
theorem ovr_re2 {W W' u v : World} {o p : Obj} (h : W' = ((ovr W u).alloc o).alloc p) : ∃ x, ovr W' v = ovr W x := by
  subst h
  exact ⟨_, ovr_of ((ovr_below W u).trans ((under2 (under2 (ovr_below _ v))).mono (ovr_below W u).size))⟩
theorem ovr_reB {W V : World} (h : Below W.heap.size W V) (v : World) : ∃ x, ovr V v = ovr W x := ⟨_, ovr_of (h.trans ((ovr_below V v).mono h.size))⟩
theorem ovr_row {W : World} {b : Nat} {o : Obj} (h : W.heap[b]? = some o) (u : World) : (ovr W u).heap[b]? = some o := ((ovr_below W u).block _ (Array.getElem?_eq_some_iff.1 h).1).trans h
theorem tr_cell {W X : World} (h : ∀ v, ∃ x, ovr X v = ovr W x) {p : Addr} {v : Option Value} (H : ∀ u, (ovr W u).cell? p = v) : ∀ u, (ovr X u).cell? p = v := fun u => by obtain ⟨x, hx⟩ := h u; rw [hx]; exact H x
theorem tr_froz {W X : World} (h : ∀ v, ∃ x, ovr X v = ovr W x) {p : Addr} {v : Bool} (H : ∀ u, (ovr W u).frozen? p = v) : ∀ u, (ovr X u).frozen? p = v := fun u => by obtain ⟨x, hx⟩ := h u; rw [hx]; exact H x
theorem tr_row {W X : World} (h : ∀ v, ∃ x, ovr X v = ovr W x) {b : Nat} {v : Option Obj} (H : ∀ u, (ovr W u).heap[b]? = v) : ∀ u, (ovr X u).heap[b]? = v := fun u => by obtain ⟨x, hx⟩ := h u; rw [hx]; exact H x
theorem one1 {a : Value} (h : a.oneCell' = true) : ∀ v ∈ (#[a] : Array Value).toList, v.oneCell' = true := by intro v hv; simp at hv; rcases hv with rfl; exact h
theorem one2 {a b : Value} (h : a.oneCell' = true) (h2 : b.oneCell' = true) : ∀ v ∈ (#[a, b] : Array Value).toList, v.oneCell' = true := by intro v hv; simp at hv; rcases hv with rfl | rfl <;> assumption
theorem U1 {w W : World} {a : Obj} (h : W = w.alloc a) (u : World) : Below w.heap.size w (ovr W u) := by subst h; exact under2 (ovr_below _ _)
theorem U2 {w W : World} {a b : Obj} (h : W = (w.alloc a).alloc b) (u : World) : Below w.heap.size w (ovr W u) := by subst h; exact under2 (under2 (ovr_below _ _))
theorem U3 {w W : World} {a b c : Obj} (h : W = ((w.alloc a).alloc b).alloc c) (u : World) : Below w.heap.size w (ovr W u) := by subst h; exact under2 (under2 (under2 (ovr_below _ _)))
theorem U4 {w W : World} {a b c d : Obj} (h : W = (((w.alloc a).alloc b).alloc c).alloc d) (u : World) : Below w.heap.size w (ovr W u) := by subst h; exact under2 (under2 (under2 (under2 (ovr_below _ _))))
theorem quo_bd {n d K : Int} (h : -K ≤ n ∧ n ≤ K) (hd : 1 ≤ d) (hK : 0 ≤ K) : -K ≤ n / d ∧ n / d ≤ K := by
  have h1 : -(K * d) ≤ n := by have := Int.mul_le_mul_of_nonneg_left hd hK; omega
  have h2 : n ≤ K * d := by have := Int.mul_le_mul_of_nonneg_left hd hK; omega
  refine ⟨?_, ?_⟩
  · rw [Int.le_ediv_iff_mul_le (by omega), Int.neg_mul]; exact h1
  · exact Int.ediv_le_of_le_mul (by omega) h2
theorem simp_bd {an ad : Int} (h : fBd ⟨an, ad⟩) (hd : 1 ≤ ad) : -2000000000000000 ≤ an / ad ∧ an / ad ≤ 2000000000000000 := quo_bd h.1 hd (by omega)
/-- What is asked of the fractions that are gone on with, and that nothing overflows. -/
theorem simp_rec {m : Nat} {an ad bn bd : Int} (h : fBd ⟨an, ad⟩ ∧ fBd ⟨bn, bd⟩ ∧ 1 ≤ ad ∧ 1 ≤ bd ∧ fle ⟨an, ad⟩ ⟨bn, bd⟩ ∧ bd + ad ≤ ((m + 1 : Nat) : Int)) (h0 : ¬ an % ad = 0) (h1 : ¬ an / ad < bn / bd) :
    (fBd ⟨bd, bn % bd⟩ ∧ fBd ⟨ad, an % ad⟩ ∧ 1 ≤ bn % bd ∧ 1 ≤ an % ad ∧ fle ⟨bd, bn % bd⟩ ⟨ad, an % ad⟩ ∧ an % ad + bn % bd ≤ (m : Int)) ∧
    (-2000000000000000 ≤ an / ad * (simF m ⟨bd, bn % bd⟩ ⟨ad, an % ad⟩).n + (simF m ⟨bd, bn % bd⟩ ⟨ad, an % ad⟩).d ∧ an / ad * (simF m ⟨bd, bn % bd⟩ ⟨ad, an % ad⟩).n + (simF m ⟨bd, bn % bd⟩ ⟨ad, an % ad⟩).d ≤ 2000000000000000) ∧
    0 ≤ (simF m ⟨bd, bn % bd⟩ ⟨ad, an % ad⟩).d ∧ (simF m ⟨bd, bn % bd⟩ ⟨ad, an % ad⟩).d ≤ 2000000000000000 := by
  obtain ⟨fa, fb, ha, hb, hab, hm⟩ := h
  obtain ⟨i1, i2, i3, i4⟩ := fle_inv (a := ⟨an, ad⟩) (b := ⟨bn, bd⟩) ha hb hab h0 h1
  simp only at i1 i2 i3 i4
  have l1 := Int.emod_lt_of_pos an (show 0 < ad by omega)
  have l2 := Int.emod_lt_of_pos bn (show 0 < bd by omega)
  have hn := simF_num (m := m + 1) (K := 2000000000000000) (a := ⟨an, ad⟩) (b := ⟨bn, bd⟩) ha hb hab (by simp only; omega) (by omega) fa.1.1 fb.1.2
  have hd := simF_den m ⟨bd, bn % bd⟩ ⟨ad, an % ad⟩ i3 i2 i4 (by simp only; omega)
  simp only [simF] at hn
  rw [if_neg h0, if_neg h1] at hn
  obtain ⟨⟨_, _⟩, f3, f4⟩ := fa
  obtain ⟨⟨_, _⟩, f5, f6⟩ := fb
  simp only at f3 f4 f5 f6 hd
  refine ⟨⟨⟨⟨by simp only; omega, by simp only; omega⟩, by simp only; omega, by simp only; omega⟩, ⟨⟨by simp only; omega, by simp only; omega⟩, by simp only; omega, by simp only; omega⟩, i3, i2, i4, by omega⟩, hn, by omega, by omega⟩
set_option maxRecDepth 100000 in
set_option maxHeartbeats 2000000 in
theorem simplest_any : ∀ (m : Nat) (a b : Frc) (w : World), fBd a → fBd b → 1 ≤ a.d → 1 ≤ b.d → fle a b → b.d + a.d ≤ m →
    Calls Try.prog 93 #[a.val, b.val] w fun e w' => e = .returned ((simF m a b).val) ∧ Below w.heap.size w w'
  | 0, a, b, w, _, _, ha, hb, _, hm => by omega
  | m + 1, a, b, w, fa, fb, ha, hb, hab, hm => by
    have ih := simplest_any m
    have hf : Hid (simF (m + 1) a b = simF (m + 1) a b) := rfl
    have ca := fun w => split_any a w fa ha
    have cb := fun w => split_any b w fb hb
    obtain ⟨an, ad⟩ := a
    obtain ⟨bn, bd⟩ := b
    have Ca := Lib.hid ca
    have Cb := Lib.hid cb
    have Ih := Lib.hid ih
    have P := Lib.hid (And.intro fa (And.intro fb (And.intro ha (And.intro hb (And.intro hab hm)))))
    clear ca cb ih fa fb ha hb hab hm
    obtain ⟨W, hW⟩ : ∃ W, W = (((w.alloc (.cells #[I an, I ad] 128)).alloc (.cells #[I bn, I bd] 128)).alloc (.cells #[I 0, I 0] 128)) := ⟨_, rfl⟩
    have rowW0 : W.heap[w.heap.size]? = some (.cells #[I an, I ad] 128 (0, 0)) := by rw [hW]; exact heap_before (heap_before (heap_last _ _ _ rfl))
    have yW00 := ovr_cell (W := W) (b := w.heap.size) (o := 0) (v := I an) (by rw [cell_of_row _ _ _ _ _ _ rowW0]; rfl)
    have yW01 := ovr_cell (W := W) (b := w.heap.size) (o := 1) (v := I ad) (by rw [cell_of_row _ _ _ _ _ _ rowW0]; rfl)
    have RrowW0 := Lib.hid (ovr_row rowW0)
    clear rowW0
    have rowW1 : W.heap[w.heap.size + 1]? = some (.cells #[I bn, I bd] 128 (0, 0)) := by rw [hW]; exact heap_before (heap_last _ _ _ (by simp))
    have yW10 := ovr_cell (W := W) (b := w.heap.size + 1) (o := 0) (v := I bn) (by rw [cell_of_row _ _ _ _ _ _ rowW1]; rfl)
    have yW11 := ovr_cell (W := W) (b := w.heap.size + 1) (o := 1) (v := I bd) (by rw [cell_of_row _ _ _ _ _ _ rowW1]; rfl)
    have RrowW1 := Lib.hid (ovr_row rowW1)
    clear rowW1
    have rowW2 : W.heap[w.heap.size + 1 + 1]? = some (.cells #[I 0, I 0] 128 (0, 0)) := by rw [hW]; exact heap_last _ _ _ (by simp)
    have yW20 := ovr_cell (W := W) (b := w.heap.size + 1 + 1) (o := 0) (v := I 0) (by rw [cell_of_row _ _ _ _ _ _ rowW2]; rfl)
    have yW21 := ovr_cell (W := W) (b := w.heap.size + 1 + 1) (o := 1) (v := I 0) (by rw [cell_of_row _ _ _ _ _ _ rowW2]; rfl)
    have RrowW2 := Lib.hid (ovr_row rowW2)
    clear rowW2
    have HUW : Hid (∀ u, Below w.heap.size w (ovr W u)) := U3 hW
    have HW := Lib.hid hW
    clear hW
    go_enter Try.func93, Try.ntmps93
    go_wp2_with fail
    rw [← HW.out]
    obtain ⟨u0, hu0⟩ := ovr_self W
    rw [hu0]
    clear hu0
    refine (Ca.out _).mono ?_
    rintro e w1 ⟨rfl, hb1⟩
    obtain ⟨u1, rfl⟩ := ovr_next hb1
    clear hb1
    go_upto_region 2 with (fail)
    obtain ⟨V, hV⟩ : ∃ V, V = ((ovr W u1).alloc (.cells #[I (an % ad), I ad] 128)) := ⟨_, rfl⟩
    have reV : ∀ v, ∃ x, ovr V v = ovr W x := fun v => ovr_re1 hV
    replace yW00 := tr_cell reV yW00
    replace yW01 := tr_cell reV yW01
    replace RrowW0 := Lib.hid (tr_row reV RrowW0.out)
    replace yW10 := tr_cell reV yW10
    replace yW11 := tr_cell reV yW11
    replace RrowW1 := Lib.hid (tr_row reV RrowW1.out)
    replace yW20 := tr_cell reV yW20
    replace yW21 := tr_cell reV yW21
    replace RrowW2 := Lib.hid (tr_row reV RrowW2.out)
    have rowV0 : V.heap[(ovr W u1).heap.size]? = some (.cells #[I (an % ad), I ad] 128 (0, 0)) := by rw [hV]; exact heap_last _ _ _ rfl
    have yV00 := ovr_cell (W := V) (b := (ovr W u1).heap.size) (o := 0) (v := I (an % ad)) (by rw [cell_of_row _ _ _ _ _ _ rowV0]; rfl)
    have yV01 := ovr_cell (W := V) (b := (ovr W u1).heap.size) (o := 1) (v := I ad) (by rw [cell_of_row _ _ _ _ _ _ rowV0]; rfl)
    have RrowV0 := Lib.hid (ovr_row rowV0)
    clear rowV0
    have HUV : Hid (∀ u, Below w.heap.size w (ovr V u)) := fun u => by obtain ⟨x, hx⟩ := reV u; rw [hx]; exact HUW.out x
    clear reV
    have HV := Lib.hid hV
    clear hV
    rw [← HV.out]
    obtain ⟨u2, hu2⟩ := ovr_self V
    rw [hu2]
    clear hu2
    by_cases h0 : an % ad = 0
    · have b0 : (an % ad == 0) = true := by rw [h0]; rfl
      have hs : Hid (simF (m + 1) ⟨an, ad⟩ ⟨bn, bd⟩ = ⟨an / ad, 1⟩) := by show simF _ _ _ = _; simp only [simF]; rw [if_pos h0]
      clear h0
      go_wp2_with (refine wpList_store_row rfl 128 _ _ rfl (w.heap.size + 1 + 1) rfl _ _ (RrowW2.out _) _ rfl (one2 rfl rfl) rfl (by kernel_rfl) ?_)
      refine bodyPost_ret (results_cell_only rfl _ _ (w.heap.size + 1 + 1) 128 _ (0, 0) _ rfl (setRow_same (RrowW2.out _)) Try.underlying128 rfl (by kernel_rfl)) rfl ?_
      exact ⟨by rw [hs.out], below_setRow (HUV.out _) (by omega) _⟩
    have b0 : (an % ad == 0) = false := by simpa using h0
    have H0 := Lib.hid h0
    clear h0
    go_wp2_with fail
    refine (Cb.out _).mono ?_
    rintro e w1 ⟨rfl, hb1⟩
    obtain ⟨u3, rfl⟩ := ovr_next hb1
    clear hb1
    go_upto_region 5 with (fail)
    obtain ⟨X, hX⟩ : ∃ X, X = ((ovr V u3).alloc (.cells #[I (bn % bd), I bd] 128)) := ⟨_, rfl⟩
    have reX : ∀ v, ∃ x, ovr X v = ovr V x := fun v => ovr_re1 hX
    replace yW00 := tr_cell reX yW00
    replace yW01 := tr_cell reX yW01
    replace RrowW0 := Lib.hid (tr_row reX RrowW0.out)
    replace yW10 := tr_cell reX yW10
    replace yW11 := tr_cell reX yW11
    replace RrowW1 := Lib.hid (tr_row reX RrowW1.out)
    replace yW20 := tr_cell reX yW20
    replace yW21 := tr_cell reX yW21
    replace RrowW2 := Lib.hid (tr_row reX RrowW2.out)
    replace yV00 := tr_cell reX yV00
    replace yV01 := tr_cell reX yV01
    replace RrowV0 := Lib.hid (tr_row reX RrowV0.out)
    have rowX0 : X.heap[(ovr V u3).heap.size]? = some (.cells #[I (bn % bd), I bd] 128 (0, 0)) := by rw [hX]; exact heap_last _ _ _ rfl
    have yX00 := ovr_cell (W := X) (b := (ovr V u3).heap.size) (o := 0) (v := I (bn % bd)) (by rw [cell_of_row _ _ _ _ _ _ rowX0]; rfl)
    have yX01 := ovr_cell (W := X) (b := (ovr V u3).heap.size) (o := 1) (v := I bd) (by rw [cell_of_row _ _ _ _ _ _ rowX0]; rfl)
    have RrowX0 := Lib.hid (ovr_row rowX0)
    clear rowX0
    have HUX : Hid (∀ u, Below w.heap.size w (ovr X u)) := fun u => by obtain ⟨x, hx⟩ := reX u; rw [hx]; exact HUV.out x
    clear reX
    have HX := Lib.hid hX
    clear hX
    rw [← HX.out]
    obtain ⟨u4, hu4⟩ := ovr_self X
    rw [hu4]
    clear hu4
    by_cases h1 : an / ad < bn / bd
    · have hs : Hid (simF (m + 1) ⟨an, ad⟩ ⟨bn, bd⟩ = ⟨an / ad + 1, 1⟩) := by show simF _ _ _ = _; simp only [simF]; rw [if_neg H0.out, if_pos h1]
      have h1b : decide (an / ad < bn / bd) = true := decide_eq_true h1
      obtain ⟨lo, hi⟩ := simp_bd P.out.1 P.out.2.2.1
      clear h1
      go_wp2_with (refine wpList_store_row rfl 128 _ _ rfl (w.heap.size + 1 + 1) rfl _ _ (RrowW2.out _) _ rfl (one2 rfl rfl) rfl (by kernel_rfl) ?_)
      refine bodyPost_ret (results_cell_only rfl _ _ (w.heap.size + 1 + 1) 128 _ (0, 0) _ rfl (setRow_same (RrowW2.out _)) Try.underlying128 rfl (by kernel_rfl)) rfl ?_
      exact ⟨by rw [hs.out], below_setRow (HUX.out _) (by omega) _⟩
    · have h1b : decide (an / ad < bn / bd) = false := decide_eq_false h1
      have H1 := Lib.hid h1
      clear h1
      have hs : Hid (simF (m + 1) ⟨an, ad⟩ ⟨bn, bd⟩ = ⟨an / ad * (simF m ⟨bd, bn % bd⟩ ⟨ad, an % ad⟩).n + (simF m ⟨bd, bn % bd⟩ ⟨ad, an % ad⟩).d, (simF m ⟨bd, bn % bd⟩ ⟨ad, an % ad⟩).n⟩) := by show simF _ _ _ = _; simp only [simF]; rw [if_neg H0.out, if_neg H1.out]
      go_wp2_with fail
      refine (Cb.out _).mono ?_
      rintro e w1 ⟨rfl, hb1⟩
      obtain ⟨u5, rfl⟩ := ovr_next hb1
      clear hb1
      go_upto_region 8 with (fail)
      obtain ⟨Y, hY⟩ : ∃ Y, Y = ((ovr X u5).alloc (.cells #[I (bn % bd), I bd] 128)) := ⟨_, rfl⟩
      have reY : ∀ v, ∃ x, ovr Y v = ovr X x := fun v => ovr_re1 hY
      replace yW00 := tr_cell reY yW00
      replace yW01 := tr_cell reY yW01
      replace RrowW0 := Lib.hid (tr_row reY RrowW0.out)
      replace yW10 := tr_cell reY yW10
      replace yW11 := tr_cell reY yW11
      replace RrowW1 := Lib.hid (tr_row reY RrowW1.out)
      replace yW20 := tr_cell reY yW20
      replace yW21 := tr_cell reY yW21
      replace RrowW2 := Lib.hid (tr_row reY RrowW2.out)
      replace yV00 := tr_cell reY yV00
      replace yV01 := tr_cell reY yV01
      replace RrowV0 := Lib.hid (tr_row reY RrowV0.out)
      replace yX00 := tr_cell reY yX00
      replace yX01 := tr_cell reY yX01
      replace RrowX0 := Lib.hid (tr_row reY RrowX0.out)
      have rowY0 : Y.heap[(ovr X u5).heap.size]? = some (.cells #[I (bn % bd), I bd] 128 (0, 0)) := by rw [hY]; exact heap_last _ _ _ rfl
      have yY00 := ovr_cell (W := Y) (b := (ovr X u5).heap.size) (o := 0) (v := I (bn % bd)) (by rw [cell_of_row _ _ _ _ _ _ rowY0]; rfl)
      have yY01 := ovr_cell (W := Y) (b := (ovr X u5).heap.size) (o := 1) (v := I bd) (by rw [cell_of_row _ _ _ _ _ _ rowY0]; rfl)
      have RrowY0 := Lib.hid (ovr_row rowY0)
      clear rowY0
      have HUY : Hid (∀ u, Below w.heap.size w (ovr Y u)) := fun u => by obtain ⟨x, hx⟩ := reY u; rw [hx]; exact HUX.out x
      clear reY
      have HY := Lib.hid hY
      clear hY
      rw [← HY.out]
      obtain ⟨u6, hu6⟩ := ovr_self Y
      rw [hu6]
      clear hu6
      have K := simp_rec P.out H0.out (Int.not_lt.2 H1.out)
      have Kr := Lib.hid (Ih.out ⟨bd, bn % bd⟩ ⟨ad, an % ad⟩ (ovr Y u6) K.1.1 K.1.2.1 K.1.2.2.1 K.1.2.2.2.1 K.1.2.2.2.2.1 K.1.2.2.2.2.2)
      have Kb := Lib.hid K.2
      clear K
      go_wp2_with fail
      refine Kr.out.mono ?_
      rintro e w1 ⟨rfl, hb1⟩
      obtain ⟨u7, rfl⟩ := ovr_next hb1
      clear hb1
      obtain ⟨s, hs1⟩ : ∃ s, simF m ⟨bd, bn % bd⟩ ⟨ad, an % ad⟩ = s := ⟨_, rfl⟩
      rw [hs1] at hs
      rw [hs1]
      have HS := Lib.hid hs1
      clear hs1 Kr
      obtain ⟨sn, sd⟩ := s
      go_upto_region 9 with (fail)
      obtain ⟨Z, hZ⟩ : ∃ Z, Z = ((ovr Y u7).alloc (.cells #[I sn, I sd] 128)) := ⟨_, rfl⟩
      have reZ : ∀ v, ∃ x, ovr Z v = ovr Y x := fun v => ovr_re1 hZ
      replace yW00 := tr_cell reZ yW00
      replace yW01 := tr_cell reZ yW01
      replace RrowW0 := Lib.hid (tr_row reZ RrowW0.out)
      replace yW10 := tr_cell reZ yW10
      replace yW11 := tr_cell reZ yW11
      replace RrowW1 := Lib.hid (tr_row reZ RrowW1.out)
      replace yW20 := tr_cell reZ yW20
      replace yW21 := tr_cell reZ yW21
      replace RrowW2 := Lib.hid (tr_row reZ RrowW2.out)
      replace yV00 := tr_cell reZ yV00
      replace yV01 := tr_cell reZ yV01
      replace RrowV0 := Lib.hid (tr_row reZ RrowV0.out)
      replace yX00 := tr_cell reZ yX00
      replace yX01 := tr_cell reZ yX01
      replace RrowX0 := Lib.hid (tr_row reZ RrowX0.out)
      replace yY00 := tr_cell reZ yY00
      replace yY01 := tr_cell reZ yY01
      replace RrowY0 := Lib.hid (tr_row reZ RrowY0.out)
      have rowZ0 : Z.heap[(ovr Y u7).heap.size]? = some (.cells #[I sn, I sd] 128 (0, 0)) := by rw [hZ]; exact heap_last _ _ _ rfl
      have yZ00 := ovr_cell (W := Z) (b := (ovr Y u7).heap.size) (o := 0) (v := I sn) (by rw [cell_of_row _ _ _ _ _ _ rowZ0]; rfl)
      have yZ01 := ovr_cell (W := Z) (b := (ovr Y u7).heap.size) (o := 1) (v := I sd) (by rw [cell_of_row _ _ _ _ _ _ rowZ0]; rfl)
      have RrowZ0 := Lib.hid (ovr_row rowZ0)
      clear rowZ0
      have HUZ : Hid (∀ u, Below w.heap.size w (ovr Z u)) := fun u => by obtain ⟨x, hx⟩ := reZ u; rw [hx]; exact HUY.out x
      clear reZ
      have HZ := Lib.hid hZ
      clear hZ
      rw [← HZ.out]
      obtain ⟨u8, hu8⟩ := ovr_self Z
      rw [hu8]
      clear hu8
      obtain ⟨q, hq⟩ : ∃ q, an / ad = q := ⟨_, rfl⟩
      rw [hq] at hs
      rw [hq]
      have Kc := Kb.out
      rw [HS.out, hq] at Kc
      have b1 : IntKind.i64.wrap (q * sn) = q * sn := IntWalk.i64_in _ (by simp only at Kc; omega)
      have b2 : IntKind.i64.wrap (q * sn + sd) = q * sn + sd := IntWalk.i64_in _ (by simp only at Kc; omega)
      clear hq Kc
      go_wp2_with (refine wpList_store_row rfl 128 _ _ rfl (w.heap.size + 1 + 1) rfl _ _ (RrowW2.out _) _ rfl (one2 rfl rfl) rfl (by kernel_rfl) ?_)
      refine bodyPost_ret (results_cell_only rfl _ _ (w.heap.size + 1 + 1) 128 _ (0, 0) _ rfl (setRow_same (RrowW2.out _)) Try.underlying128 rfl (by kernel_rfl)) rfl ?_
      exact ⟨by rw [hs.out], below_setRow (HUZ.out _) (by omega) _⟩
end Go.Proofs.Ytmadlmmfbpmebaa
