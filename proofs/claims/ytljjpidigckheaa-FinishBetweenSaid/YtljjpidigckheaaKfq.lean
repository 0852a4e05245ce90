/- Plain laws of the rows (Bests, NoBetter, Between, Common, Windows). -/
import Derived.Test.YtljjpidigckheaaKfa
namespace Go.Proofs.Ytljjpidigckheaa.Un
open Go.RowKit
theorem gPt_inj {W i j : Nat} (h : gPt W i = gPt W j) : i = j := congrArg (fun q => q.at_) h
theorem mul_up {w x y : Int} (hw : 0 ≤ w) (h : x ≤ y) : w * x ≤ w * y := Int.mul_le_mul_of_nonneg_left h hw
theorem mul_dn {w x y : Int} (hw : w ≤ 0) (h : x ≤ y) : w * y ≤ w * x := Int.mul_le_mul_of_nonpos_left hw h
theorem tm9_t {w : Int} {r : Rng} : tm9 w r true = if 0 < w then w * r.hi else w * r.lo := by
 unfold tm9
 by_cases h : 0 < w <;> simp [h]
theorem tm9_f {w : Int} {r : Rng} : tm9 w r false = if 0 < w then w * r.lo else w * r.hi := by
 unfold tm9
 by_cases h : 0 < w <;> simp [h]
theorem tm9_in {w x : Int} {r : Rng} (h : r.lo ≤ x ∧ x ≤ r.hi) : tm9 w r false ≤ w * x ∧ w * x ≤ tm9 w r true := by
 rw [tm9_t, tm9_f]
 by_cases hw : 0 < w
 · rw [if_pos hw, if_pos hw]
   exact ⟨mul_up (by omega) h.1, mul_up (by omega) h.2⟩
 · rw [if_neg hw, if_neg hw]
   exact ⟨mul_dn (by omega) h.2, mul_dn (by omega) h.1⟩
theorem tm9_mono {w : Int} {r s : Rng} (h : s.lo ≤ r.lo ∧ r.hi ≤ s.hi) : tm9 w s false ≤ tm9 w r false ∧ tm9 w r true ≤ tm9 w s true := by
 rw [tm9_t, tm9_f, tm9_t, tm9_f]
 by_cases hw : 0 < w
 · rw [if_pos hw, if_pos hw, if_pos hw, if_pos hw]
   exact ⟨mul_up (by omega) h.1, mul_up (by omega) h.2⟩
 · rw [if_neg hw, if_neg hw, if_neg hw, if_neg hw]
   exact ⟨mul_dn (by omega) h.2, mul_dn (by omega) h.1⟩
theorem val_in {zs : Nat → Rng} {z : Nat → Int} {b : Bal} {n : Nat} (hb : InN b n) (h : ∀ k, k < n → (zs k).lo ≤ z k ∧ z k ≤ (zs k).hi) (g : Bool) : val9 zs false b ≤ val9 (ex9 z) g b ∧ val9 (ex9 z) g b ≤ val9 zs true b := by
 have h1 := tm9_in (w := b.w0) (h _ hb.a)
 have h2 := tm9_in (w := b.w1) (h _ hb.b)
 have h3 := tm9_in (w := b.w2) (h _ hb.c)
 have h4 := tm9_in (w := b.w3) (h _ hb.d)
 unfold val9
 rw [tm9_ex, tm9_ex, tm9_ex, tm9_ex]
 omega
theorem val_mono {zs zs' : Nat → Rng} {b : Bal} {n : Nat} (hb : InN b n) (h : ∀ k, k < n → (zs' k).lo ≤ (zs k).lo ∧ (zs k).hi ≤ (zs' k).hi) : val9 zs' false b ≤ val9 zs false b ∧ val9 zs true b ≤ val9 zs' true b := by
 have h1 := tm9_mono (w := b.w0) (h _ hb.a)
 have h2 := tm9_mono (w := b.w1) (h _ hb.b)
 have h3 := tm9_mono (w := b.w2) (h _ hb.c)
 have h4 := tm9_mono (w := b.w3) (h _ hb.d)
 unfold val9
 omega
theorem both_in {l : List Pt} {n : Nat} (hn : ∀ q ∈ l, q.at_ < n) {b : Bal} (hb : b ∈ both (bals l)) : InN b n := by
 obtain ⟨a, c, d, e, hs, _, hx⟩ := mem_both.1 hb
 have ha := hn a (hs.subset (by simp))
 have hc := hn c (hs.subset (by simp))
 have hd := hn d (hs.subset (by simp))
 have he := hn e (hs.subset (by simp))
 rcases hx with rfl | rfl
 · exact ⟨ha, hc, hd, he⟩
 · exact ⟨ha, hc, hd, he⟩
def Lef (f g : Frc) : Prop := f.n * g.d ≤ g.n * f.d
theorem ds_le {l : List Pt} {z z' : Nat → Rng} {g g' : Bool} (h : ∀ b ∈ both (bals l), val9 z g b ≤ val9 z' g' b) : Lef (ds9 (fl9 l z g)) (ds9 (fl9 l z' g')) :=
 Lub.le (fl_lub l z g) (fl_lub l z' g') fun N D hD _ h' b hb => Int.le_trans (Int.mul_le_mul_of_nonneg_right (h b hb) (by omega)) (h' b hb)
theorem ds_pos (p : Prf) : 1 ≤ (ds9 p).d ∨ p.s = true ∧ p.b.sz ≤ 0 := by
 unfold ds9
 split
 · rename_i hs
   rcases Int.lt_or_le 0 p.b.sz with h | h
   · exact .inl (low9_ok (by omega)).1
   · exact .inr ⟨hs, h⟩
 · exact .inl (by decide)
theorem ds_eq_of {l m : List Pt} {z z' : Nat → Rng} {g g' : Bool} (h1 : Lef (ds9 (fl9 l z g)) (ds9 (fl9 m z' g'))) (h2 : Lef (ds9 (fl9 m z' g')) (ds9 (fl9 l z g))) : ds9 (fl9 l z g) = ds9 (fl9 m z' g') := by
 have L1 := fl_lub l z g
 have L2 := fl_lub m z' g'
 exact frc_eq L1.1 L2.1 L1.2.2.1 L2.2.2.1 (Int.le_antisymm h1 h2)
theorem flat_between {l : List Pt} {zs : Nat → Rng} {z : Nat → Int} {n : Nat} (hn : ∀ q ∈ l, q.at_ < n) (h : ∀ k, k < n → (zs k).lo ≤ z k ∧ z k ≤ (zs k).hi) (g : Bool) : Lef (ds9 (fl9 l zs false)) (ds9 (fl9 l (ex9 z) g)) ∧ Lef (ds9 (fl9 l (ex9 z) g)) (ds9 (fl9 l zs true)) :=
 ⟨ds_le fun _ hb => (val_in (both_in hn hb) h g).1, ds_le fun _ hb => (val_in (both_in hn hb) h g).2⟩
theorem flat_wider {l : List Pt} {zs zs' : Nat → Rng} {n : Nat} (hn : ∀ q ∈ l, q.at_ < n) (h : ∀ k, k < n → (zs' k).lo ≤ (zs k).lo ∧ (zs k).hi ≤ (zs' k).hi) : Lef (ds9 (fl9 l zs' false)) (ds9 (fl9 l zs false)) ∧ Lef (ds9 (fl9 l zs true)) (ds9 (fl9 l zs' true)) :=
 ⟨ds_le fun _ hb => (val_mono (both_in hn hb) h).1, ds_le fun _ hb => (val_mono (both_in hn hb) h).2⟩
theorem val_same {zs zs' : Nat → Rng} {b : Bal} {n : Nat} (hb : InN b n) (h : ∀ k, k < n → zs k = zs' k) (g : Bool) : val9 zs g b = val9 zs' g b := by
 unfold val9
 rw [h _ hb.a, h _ hb.b, h _ hb.c, h _ hb.d]
theorem flat_same {l : List Pt} {zs zs' : Nat → Rng} {n : Nat} (hn : ∀ q ∈ l, q.at_ < n) (h : ∀ k, k < n → zs k = zs' k) (g : Bool) : ds9 (fl9 l zs g) = ds9 (fl9 l zs' g) :=
 ds_eq_of (ds_le fun _ hb => by rw [val_same (both_in hn hb) h]; exact Int.le_refl _) (ds_le fun _ hb => by rw [val_same (both_in hn hb) h]; exact Int.le_refl _)
theorem ex_same {l : List Pt} (z : Nat → Int) (g g' : Bool) : ds9 (fl9 l (ex9 z) g) = ds9 (fl9 l (ex9 z) g') := by
 have h : ∀ b, val9 (ex9 z) g b = val9 (ex9 z) g' b := fun b => by
  unfold val9
  simp only [tm9_ex]
 exact ds_eq_of (ds_le fun b _ => by rw [h]; exact Int.le_refl _) (ds_le fun b _ => by rw [h]; exact Int.le_refl _)
theorem fs_same {l m : List Pt} {z z' : Nat → Int} {g g' : Bool} (hl : Grd l) (hm : Grd m) (h : ∀ N D, 0 < D → (Fs z N D l ↔ Fs z' N D m)) : ds9 (fl9 l (ex9 z) g) = ds9 (fl9 m (ex9 z') g') := by
 have L1 := fl_lub l (ex9 z) g
 have L2 := fl_lub m (ex9 z') g'
 refine ds_eq_of ?_ ?_
 · have := (min_max hm L2 (N := (ds9 (fl9 m (ex9 z') g')).n) (D := (ds9 (fl9 m (ex9 z') g')).d) (by have := L2.1; omega)).1 (Int.le_refl _)
   exact (min_max hl L1 (by have := L2.1; omega)).2 ((h _ _ (by have := L2.1; omega)).2 this)
 · have := (min_max hl L1 (N := (ds9 (fl9 l (ex9 z) g)).n) (D := (ds9 (fl9 l (ex9 z) g)).d) (by have := L1.1; omega)).1 (Int.le_refl _)
   exact (min_max hm L2 (by have := L1.1; omega)).2 ((h _ _ (by have := L1.1; omega)).1 this)
theorem nr_neg {z : Nat → Int} {N D : Int} {p : Pln} {q : Pt} (h : Nr z N D p q) : Nr (fun k => -z k) N D ⟨-p.a, -p.b, -p.c, p.d⟩ q := by
 have e : (⟨-p.a, -p.b, -p.c, p.d⟩ : Pln).off q (-z q.at_) = -p.off q (z q.at_) := by simp only [Pln.off, Pln.on]; grind
 unfold Nr at h ⊢
 rw [e, Int.mul_neg]
 simp only
 omega
theorem fs_neg {z : Nat → Int} {N D : Int} {l : List Pt} (h : Fs z N D l) : Fs (fun k => -z k) N D l := by
 obtain ⟨p, hp, hk⟩ := h
 exact ⟨⟨-p.a, -p.b, -p.c, p.d⟩, hp, fun q hq => nr_neg (hk q hq)⟩
theorem fs_cong {z z' : Nat → Int} {N D : Int} {l : List Pt} (h : Fs z N D l) (e : ∀ q ∈ l, z q.at_ = z' q.at_) : Fs z' N D l := by
 obtain ⟨p, hp, hk⟩ := h
 refine ⟨p, hp, fun q hq => ?_⟩
 have := hk q hq
 unfold Nr at this ⊢
 rw [← e q hq]
 exact this
theorem flat_down {l : List Pt} {z z' : Nat → Int} {g g' : Bool} (hl : Grd l) (e : ∀ q ∈ l, z' q.at_ = -z q.at_) : ds9 (fl9 l (ex9 z') g) = ds9 (fl9 l (ex9 z) g') := by
 refine fs_same hl hl fun N D _ => ⟨fun h => ?_, fun h => ?_⟩
 · exact fs_cong (fs_neg h) fun q hq => by rw [e q hq]; exact Int.neg_neg _
 · exact fs_cong (fs_neg h) fun q hq => (e q hq).symm
theorem nr_add9 {z z' : Nat → Int} {N D A B C : Int} {p : Pln} {q : Pt} (e : z' q.at_ = z q.at_ + A * q.x + B * q.y + C) (h : Nr z N D p q) : Nr z' N D ⟨p.a + A * p.d, p.b + B * p.d, p.c + C * p.d, p.d⟩ q := by
 have e : (⟨p.a + A * p.d, p.b + B * p.d, p.c + C * p.d, p.d⟩ : Pln).off q (z' q.at_) = p.off q (z q.at_) := by rw [e]; simp only [Pln.off, Pln.on]; grind
 unfold Nr at h ⊢
 rw [e]
 exact h
theorem flat_added {l : List Pt} {z z' : Nat → Int} {A B C : Int} {g g' : Bool} (hl : Grd l) (e : ∀ q ∈ l, z' q.at_ = z q.at_ + A * q.x + B * q.y + C) : ds9 (fl9 l (ex9 z') g) = ds9 (fl9 l (ex9 z) g') := by
 refine fs_same hl hl fun N D _ => ⟨fun h => ?_, fun h => ?_⟩
 · obtain ⟨p, hp, hk⟩ := h
   exact ⟨⟨p.a + -A * p.d, p.b + -B * p.d, p.c + -C * p.d, p.d⟩, hp, fun q hq => nr_add9 (z := z') (z' := z) (A := -A) (B := -B) (C := -C) (by rw [e q hq]; grind) (hk q hq)⟩
 · obtain ⟨p, hp, hk⟩ := h
   exact ⟨⟨p.a + A * p.d, p.b + B * p.d, p.c + C * p.d, p.d⟩, hp, fun q hq => nr_add9 (z := z) (z' := z') (e q hq) (hk q hq)⟩
theorem no_better {l : List Pt} {z : Nat → Int} {g : Bool} (hl : Grd l) {p : Pln} {far : Int} (hp : 0 < p.d) (h : ∀ q ∈ l, ofa p z q ≤ far) : (ds9 (fl9 l (ex9 z) g)).n * p.d ≤ far * (ds9 (fl9 l (ex9 z) g)).d := by
 refine (min_max hl (fl_lub l (ex9 z) g) hp).2 ⟨p, hp, fun q hq => ?_⟩
 have h1 := h q hq
 unfold ofa at h1
 have h2 := Int.mul_le_mul_of_nonneg_left (show p.off q (z q.at_) ≤ far by omega) (show 0 ≤ p.d by omega)
 have h3 := Int.mul_le_mul_of_nonneg_left (show -far ≤ p.off q (z q.at_) by omega) (show 0 ≤ p.d by omega)
 unfold Nr
 rw [Int.mul_neg] at h3
 rw [Int.mul_comm far p.d]
 omega
theorem crs_re (f : Nat → Nat) (dx dy : Int) (a b c : Pt) : crs (rePt f dx dy a) (rePt f dx dy b) (rePt f dx dy c) = crs a b c := by
 unfold crs rePt
 simp only
 grind
theorem sz_re (f : Nat → Nat) (dx dy : Int) (a b c d : Pt) : Sz (rePt f dx dy a) (rePt f dx dy b) (rePt f dx dy c) (rePt f dx dy d) = Sz a b c d := by
 unfold Sz
 simp only [crs_re]
theorem val_re (f : Nat → Nat) (dx dy : Int) (z : Nat → Rng) (g : Bool) (a b c d : Pt) : val9 z g (mkB (rePt f dx dy a) (rePt f dx dy b) (rePt f dx dy c) (rePt f dx dy d)) = val9 (fun k => z (f k)) g (mkB a b c d) ∧ val9 z g (mkB (rePt f dx dy a) (rePt f dx dy b) (rePt f dx dy c) (rePt f dx dy d)).turn = val9 (fun k => z (f k)) g (mkB a b c d).turn := by
 unfold val9 mkB Bal.turn
 simp only [crs_re]
 exact ⟨rfl, rfl⟩
theorem flat_re {f : Nat → Nat} {dx dy : Int} {l : List Pt} {z : Nat → Rng} {g : Bool} : ds9 (fl9 (l.map (rePt f dx dy)) z g) = ds9 (fl9 l (fun k => z (f k)) g) := by
 refine Lub.eq (fl_lub _ z g) (fl_lub l (fun k => z (f k)) g) fun N D _ _ => ⟨fun h b hb => ?_, fun h b hb => ?_⟩
 · obtain ⟨a, c, d, e, hs, hp, hx⟩ := mem_both.1 hb
   obtain ⟨t, ht, e1⟩ := sub_map hs
   obtain ⟨a', c', d', e', rfl, rfl, rfl, rfl, rfl⟩ := four_of e1
   rw [sz_re] at hp
   rcases hx with rfl | rfl
   · have := h _ (mem_both.2 ⟨a', c', d', e', ht, hp, .inl rfl⟩)
     rw [(val_re f dx dy z g a' c' d' e').1]
     show _ ≤ N * Sz _ _ _ _
     rw [sz_re]
     exact this
   · have := h _ (mem_both.2 ⟨a', c', d', e', ht, hp, .inr rfl⟩)
     rw [(val_re f dx dy z g a' c' d' e').2]
     show _ ≤ N * Sz _ _ _ _
     rw [sz_re]
     exact this
 · obtain ⟨a, c, d, e, hs, hp, hx⟩ := mem_both.1 hb
   have hm : [rePt f dx dy a, rePt f dx dy c, rePt f dx dy d, rePt f dx dy e].Sublist (l.map (rePt f dx dy)) := hs.map _
   rcases hx with rfl | rfl
   · have := h _ (mem_both.2 ⟨_, _, _, _, hm, by rw [sz_re]; exact hp, .inl rfl⟩)
     rw [(val_re f dx dy z g a c d e).1] at this
     change _ ≤ N * Sz _ _ _ _ at this
     rw [sz_re] at this
     exact this
   · have := h _ (mem_both.2 ⟨_, _, _, _, hm, by rw [sz_re]; exact hp, .inr rfl⟩)
     rw [(val_re f dx dy z g a c d e).2] at this
     change _ ≤ N * Sz _ _ _ _ at this
     rw [sz_re] at this
     exact this
theorem flat_sub {l m : List Pt} {z : Nat → Rng} {g : Bool} (h : l.Sublist m) : Lef (ds9 (fl9 l z g)) (ds9 (fl9 m z g)) :=
 Lub.le (fl_lub l z g) (fl_lub m z g) fun N D _ _ h' b hb => h' b (by
  obtain ⟨a, c, d, e, hs, hp, hx⟩ := mem_both.1 hb
  exact mem_both.2 ⟨a, c, d, e, hs.trans h, hp, hx⟩)
theorem wAt_mono {W w x y k m : Nat} (hx : x + w ≤ W) (hw : 0 < w) (h : k < m) : wAt W w x y k < wAt W w x y m := by
 unfold wAt
 have e1 := Nat.div_add_mod k w
 have e2 := Nat.div_add_mod m w
 have m1 := Nat.mod_lt k hw
 have m2 := Nat.mod_lt m hw
 obtain ⟨a, ha⟩ : ∃ a, k / w = a := ⟨_, rfl⟩
 obtain ⟨b, hb⟩ : ∃ b, m / w = b := ⟨_, rfl⟩
 obtain ⟨c, hc⟩ : ∃ c, k % w = c := ⟨_, rfl⟩
 obtain ⟨d, hd⟩ : ∃ d, m % w = d := ⟨_, rfl⟩
 rw [ha, hc] at e1
 rw [hb, hd] at e2
 rw [hc] at m1
 rw [hd] at m2
 rw [ha, hb, hc, hd]
 rcases Nat.lt_trichotomy a b with h1 | h1 | h1
 · have := Nat.mul_le_mul_right W (show y + a + 1 ≤ y + b by omega)
   rw [Nat.add_mul (y + a) 1 W] at this
   omega
 · subst h1
   omega
 · have := Nat.mul_le_mul_left w (show b + 1 ≤ a by omega)
   rw [Nat.mul_succ] at this
   omega
theorem wAt_place {W w x y k : Nat} (hx : x + w ≤ W) (hw : 0 < w) : wAt W w x y k % W = x + k % w ∧ wAt W w x y k / W = y + k / w := by
 have m1 := Nat.mod_lt k hw
 unfold wAt
 rw [show (y + k / w) * W + x + k % w = W * (y + k / w) + (x + k % w) by rw [Nat.mul_comm W]; omega]
 constructor
 · rw [Nat.mul_add_mod, Nat.mod_eq_of_lt (show x + k % w < W by omega)]
 · rw [Nat.mul_add_div (by omega), Nat.div_eq_of_lt (show x + k % w < W by omega)]
   rfl
theorem win_flat {W w h x y : Nat} {z : Nat → Rng} {g : Bool} : ds9 (fl9 (winL W w h x y) z g) = ds9 (fl9 (gridL w (w * h)) (fun k => z (wAt W w x y k)) g) := flat_re
theorem win_le {W H w h x y : Nat} {z : Nat → Rng} {g : Bool} (hx : x + w ≤ W) (hy : y + h ≤ H) (hw : 0 < w) : Lef (ds9 (fl9 (winL W w h x y) z g)) (ds9 (fl9 (gridL W (W * H)) z g)) := by
 have e : winL W w h x y = ((gridL w (w * h)).map (rePt (wAt W w x y) x y)).map (rePt id (-(x : Int)) (-(y : Int))) := by
  unfold winL
  rw [List.map_map]
  refine List.map_congr_left fun q _ => ?_
  unfold rePt
  simp only [Function.comp, id, Int.add_neg_cancel_right, Int.add_zero]
 rw [e, flat_re]
 refine flat_sub ?_
 have e2 : (gridL w (w * h)).map (rePt (wAt W w x y) x y) = ((List.range (w * h)).map (wAt W w x y)).map (gPt W) := by
  unfold gridL
  rw [List.map_map, List.map_map]
  refine List.map_congr_left fun i _ => ?_
  obtain ⟨h1, h2⟩ := wAt_place (W := W) (w := w) (x := x) (y := y) (k := i) hx hw
  unfold rePt gPt
  simp only [Function.comp, h1, h2, Int.natCast_add]
  rw [Int.add_comm ((i % w : Nat) : Int), Int.add_comm ((i / w : Nat) : Int)]
 rw [e2]
 show List.Sublist _ ((List.range (W * H)).map (gPt W))
 refine (sub_range (W * H) _ ?_ fun k hk => ?_).map _
 · rw [List.pairwise_map]
   exact List.Pairwise.imp (fun hab => wAt_mono hx hw hab) List.pairwise_lt_range
 · obtain ⟨i, hi, rfl⟩ := List.mem_map.1 hk
   exact win_at hx hy hw _ (List.mem_map.2 ⟨gPt w i, gPt_mem (List.mem_range.1 hi), rfl⟩)
theorem win_all {W H : Nat} {z : Nat → Rng} {g : Bool} : ds9 (fl9 (winL W W H 0 0) z g) = ds9 (fl9 (gridL W (W * H)) z g) := by
 rw [win_flat]
 have e : (fun k => z (wAt W W 0 0 k)) = z := funext fun k => by
  unfold wAt
  rw [Nat.zero_add, Nat.add_zero, Nat.mul_comm, Nat.div_add_mod]
 rw [e]
end Go.Proofs.Ytljjpidigckheaa.Un
