/- The flatness of the reference, plainly: all sets of four sites, one after another. bouleref09: turn, Lowest. bouleref09.Flatness: the plain facts of its sums and its rows. Regions that store two rows of results at drawn times. bouleref09.Flatness. -/
import Derived.Test.YtljjpidigckheaaKg
import Derived.Test.YtljjpidigckheaaKfa
import Derived.Test.YtljjpidigckheaaFf
import Derived.Test.YtljjpidigckheaaKfp
import Derived.Test.YtljjpidigckheaaRg
namespace Go.Proofs.Ytljjpidigckheaa.Un
open Go.RowKit
theorem grid_map (W n : Nat) : gridL W n = (List.range n).map (gPt W) := rfl
theorem bal_idx {W n : Nat} {x : Bal} : x ∈ both (bals (gridL W n)) ↔ ∃ a b c d, (a < b ∧ b < c ∧ c < d ∧ d < n) ∧ 0 < Sz (gPt W a) (gPt W b) (gPt W c) (gPt W d) ∧ (x = mkB (gPt W a) (gPt W b) (gPt W c) (gPt W d) ∨ x = (mkB (gPt W a) (gPt W b) (gPt W c) (gPt W d)).turn) := by
 constructor
 · intro h
   unfold both at h
   obtain ⟨y, hy, hx⟩ := List.mem_flatMap.1 h
   obtain ⟨p, q, r, s, hs, hz, rfl⟩ := mem_bals.1 hy
   rw [grid_map] at hs
   obtain ⟨t, ht, he⟩ := sub_map hs
   obtain ⟨a, b, c, d, rfl, rfl, rfl, rfl, rfl⟩ := four_of he
   have hp := (List.pairwise_lt_range (n := n)).sublist ht
   have hm : ∀ k ∈ [a, b, c, d], k < n := fun k hk => List.mem_range.1 (ht.subset hk)
   simp only [List.pairwise_cons, List.mem_cons, List.not_mem_nil, or_false] at hp
   refine ⟨a, b, c, d, ⟨hp.1 b (by simp), hp.2.1 c (by simp), hp.2.2.1 d rfl, hm d (by simp)⟩, hz, ?_⟩
   simpa using hx
 · rintro ⟨a, b, c, d, ⟨h1, h2, h3, h4⟩, hz, hx⟩
   have hs : [a, b, c, d].Sublist (List.range n) := sub_range n [a, b, c, d] (by simp; omega) (by simp; omega)
   unfold both
   refine List.mem_flatMap.2 ⟨_, mem_bals.2 ⟨_, _, _, _, ?_, hz, rfl⟩, by simpa using hx⟩
   rw [grid_map]
   exact hs.map (gPt W)
def stF (f : Frc) (v sz : Int) : Frc := if f.n * sz < v * f.d then low9 v sz else f
theorem ds_take {p : Prf} {b : Bal} {v : Int} (hb : 0 < b.sz) (hp : p.s = true → 0 < p.b.sz ∧ 0 < p.v) : ds9 (take9 p b v) = stF (ds9 p) v b.sz := by
 unfold stF
 rcases hs : p.s with _ | _
 · have e : ds9 p = ⟨0, 1⟩ := by unfold ds9; rw [hs]; rfl
   rw [e]
   simp only [Int.zero_mul, Int.mul_one]
   unfold take9
   by_cases hv : 0 < v
   · rw [if_pos ⟨hv, .inl hs⟩, if_pos hv]
     rfl
   · rw [if_neg (fun h => hv h.1), if_neg hv, e]
 · obtain ⟨h1, h2⟩ := hp hs
   have e : ds9 p = low9 p.v p.b.sz := by unfold ds9; rw [hs]; rfl
   obtain ⟨l1, l2, _, l4, _⟩ := low9_ok (n := p.v) (d := p.b.sz) (by omega)
   rw [e]
   obtain ⟨f, hf⟩ : ∃ f, low9 p.v p.b.sz = f := ⟨_, rfl⟩
   rw [hf] at l1 l2 l4 ⊢
   have key : f.n * b.sz < v * f.d ↔ p.v * b.sz < v * p.b.sz := by
    constructor
    · intro h
      refine Int.lt_of_mul_lt_mul_right (a := f.d) ?_ (by omega)
      have h3 : f.n * b.sz * p.b.sz < v * f.d * p.b.sz := Int.mul_lt_mul_of_pos_right h h1
      rw [show p.v * b.sz * f.d = f.n * b.sz * p.b.sz by rw [show p.v * b.sz * f.d = p.v * f.d * b.sz by grind, l2]; grind, show v * p.b.sz * f.d = v * f.d * p.b.sz by grind]
      exact h3
    · intro h
      refine Int.lt_of_mul_lt_mul_right (a := p.b.sz) ?_ (by omega)
      have h3 : p.v * b.sz * f.d < v * p.b.sz * f.d := Int.mul_lt_mul_of_pos_right h (by omega)
      rw [show f.n * b.sz * p.b.sz = p.v * b.sz * f.d by rw [show p.v * b.sz * f.d = p.v * f.d * b.sz by grind, l2]; grind, show v * f.d * p.b.sz = v * p.b.sz * f.d by grind]
      exact h3
   unfold take9
   by_cases hc : p.v * b.sz < v * p.b.sz
   · have hv : 0 < v := by
        rcases Int.lt_or_le 0 v with h | h
        · exact h
        · have h3 := Int.mul_le_mul_of_nonneg_right h (Int.le_of_lt h1)
          have h4 := Int.mul_pos h2 hb
          omega
     rw [if_pos ⟨hv, .inr hc⟩, if_pos (key.2 hc)]
     rfl
   · rw [if_neg (fun h => by rcases h.2 with h3 | h3; · rw [hs] at h3; cases h3
                             · exact hc h3), if_neg (fun h => hc (key.1 h)), e, hf]
def QQ (n i j k l s a b c d : Nat) (t : Bool) : Prop := (a < b ∧ b < c ∧ c < d ∧ d < n) ∧ (a < i ∨ (a = i ∧ (b < j ∨ (b = j ∧ (c < k ∨ (c = k ∧ (d < l ∨ (d = l ∧ (if t then 1 else 0) < s))))))))
def bl9 (W a b c d : Nat) (t : Bool) : Bal := if t then mkB (gPt W a) (gPt W b) (gPt W c) (gPt W d) else (mkB (gPt W a) (gPt W b) (gPt W c) (gPt W d)).turn
theorem bl9_sz (W a b c d : Nat) (t : Bool) : (bl9 W a b c d t).sz = Sz (gPt W a) (gPt W b) (gPt W c) (gPt W d) := by cases t <;> rfl
structure FInv (W : Nat) (z : Nat → Rng) (Q : Nat → Nat → Nat → Nat → Bool → Prop) (f g : Frc) : Prop where
 ex : ∃ (Y : List Bal) (p q : Prf), (∀ x, x ∈ Y ↔ ∃ a b c d t, Q a b c d t ∧ 0 < Sz (gPt W a) (gPt W b) (gPt W c) (gPt W d) ∧ x = bl9 W a b c d t) ∧ PfOk (val9 z false) Y p ∧ PfOk (val9 z true) Y q ∧ f = ds9 p ∧ g = ds9 q
theorem FInv.cong {W : Nat} {z : Nat → Rng} {Q Q' : Nat → Nat → Nat → Nat → Bool → Prop} {f g : Frc} (h : FInv W z Q f g) (hQ : ∀ a b c d t, Q' a b c d t ↔ Q a b c d t) : FInv W z Q' f g := by
 have e : Q' = Q := by funext a b c d t; exact propext (hQ a b c d t)
 rw [e]
 exact h
theorem FInv.start {W : Nat} {z : Nat → Rng} {Q : Nat → Nat → Nat → Nat → Bool → Prop} (hQ : ∀ a b c d t, ¬ Q a b c d t) : FInv W z Q ⟨0, 1⟩ ⟨0, 1⟩ :=
 ⟨[], pf0, pf0, fun x => ⟨fun h => by simp at h, fun ⟨a, b, c, d, t, h, _⟩ => absurd h (hQ a b c d t)⟩, ⟨fun _ b h => by simp at h, fun h => by cases h⟩, ⟨fun _ b h => by simp at h, fun h => by cases h⟩, rfl, rfl⟩
theorem FInv.skip {W : Nat} {z : Nat → Rng} {Q Q' : Nat → Nat → Nat → Nat → Bool → Prop} {f g : Frc} {i j k l : Nat} {s : Bool} (h : FInv W z Q f g) (hz : ¬ 0 < Sz (gPt W i) (gPt W j) (gPt W k) (gPt W l)) (hQ : ∀ a b c d t, Q' a b c d t ↔ Q a b c d t ∨ (a = i ∧ b = j ∧ c = k ∧ d = l ∧ t = s)) : FInv W z Q' f g := by
 obtain ⟨Y, p, q, hY, h1, h2, h3, h4⟩ := h.ex
 refine ⟨Y, p, q, fun x => (hY x).trans ?_, h1, h2, h3, h4⟩
 constructor
 · rintro ⟨a, b, c, d, t, h5, h6⟩
   exact ⟨a, b, c, d, t, (hQ a b c d t).2 (.inl h5), h6⟩
 · rintro ⟨a, b, c, d, t, h5, h6, h7⟩
   rcases (hQ a b c d t).1 h5 with h8 | ⟨rfl, rfl, rfl, rfl, _⟩
   · exact ⟨a, b, c, d, t, h8, h6, h7⟩
   · exact absurd h6 hz
theorem FInv.take {W : Nat} {z : Nat → Rng} {Q Q' : Nat → Nat → Nat → Nat → Bool → Prop} {f g : Frc} {i j k l : Nat} {s : Bool} (h : FInv W z Q f g) (hz : 0 < Sz (gPt W i) (gPt W j) (gPt W k) (gPt W l)) (hQ : ∀ a b c d t, Q' a b c d t ↔ Q a b c d t ∨ (a = i ∧ b = j ∧ c = k ∧ d = l ∧ t = s)) :
 FInv W z Q' (stF f (val9 z false (bl9 W i j k l s)) (Sz (gPt W i) (gPt W j) (gPt W k) (gPt W l))) (stF g (val9 z true (bl9 W i j k l s)) (Sz (gPt W i) (gPt W j) (gPt W k) (gPt W l))) := by
 obtain ⟨Y, p, q, hY, h1, h2, rfl, rfl⟩ := h.ex
 have hsz : ∀ b ∈ Y, 0 < b.sz := fun x hx => by
  obtain ⟨a, b, c, d, t, _, h6, rfl⟩ := (hY x).1 hx
  rw [bl9_sz]
  exact h6
 have hb : 0 < (bl9 W i j k l s).sz := by rw [bl9_sz]; exact hz
 have t1 := take_ok hsz hb h1
 have t2 := take_ok hsz hb h2
 refine ⟨Y ++ [bl9 W i j k l s], _, _, fun x => ?_, t1, t2, ?_, ?_⟩
 · rw [List.mem_append, List.mem_singleton, hY x]
   constructor
   · rintro (⟨a, b, c, d, t, h5, h6⟩ | rfl)
     · exact ⟨a, b, c, d, t, (hQ a b c d t).2 (.inl h5), h6⟩
     · exact ⟨i, j, k, l, s, (hQ i j k l s).2 (.inr ⟨rfl, rfl, rfl, rfl, rfl⟩), hz, rfl⟩
   · rintro ⟨a, b, c, d, t, h5, h6, h7⟩
     rcases (hQ a b c d t).1 h5 with h8 | ⟨rfl, rfl, rfl, rfl, rfl⟩
     · exact .inl ⟨a, b, c, d, t, h8, h6, h7⟩
     · exact .inr h7
 · rw [ds_take hb (fun h => ⟨hsz _ (h1.2 h).1, (h1.2 h).2.2.1⟩), bl9_sz]
 · rw [ds_take hb (fun h => ⟨hsz _ (h2.2 h).1, (h2.2 h).2.2.1⟩), bl9_sz]
theorem FInv.end {W n : Nat} {z : Nat → Rng} {Q : Nat → Nat → Nat → Nat → Bool → Prop} {f g : Frc} (h : FInv W z Q f g) (hQ : ∀ a b c d t, Q a b c d t ↔ a < b ∧ b < c ∧ c < d ∧ d < n) : f = ds9 (fl9 (gridL W n) z false) ∧ g = ds9 (fl9 (gridL W n) z true) := by
 obtain ⟨Y, p, q, hY, h1, h2, rfl, rfl⟩ := h.ex
 have hsz : ∀ b ∈ Y, 0 < b.sz := fun x hx => by
  obtain ⟨a, b, c, d, t, _, h6, rfl⟩ := (hY x).1 hx
  rw [bl9_sz]
  exact h6
 have hsz2 : ∀ b ∈ both (bals (gridL W n)), 0 < b.sz := both_sz fun _ h => bals_sz h
 have hm : ∀ x, x ∈ Y ↔ x ∈ both (bals (gridL W n)) := fun x => by
  rw [hY x, bal_idx]
  constructor
  · rintro ⟨a, b, c, d, t, h5, h6, rfl⟩
    refine ⟨a, b, c, d, (hQ a b c d t).1 h5, h6, ?_⟩
    cases t
    · exact .inr rfl
    · exact .inl rfl
  · rintro ⟨a, b, c, d, h5, h6, h7 | h7⟩
    · exact ⟨a, b, c, d, true, (hQ a b c d true).2 h5, h6, h7⟩
    · exact ⟨a, b, c, d, false, (hQ a b c d false).2 h5, h6, h7⟩
 exact ⟨(ds_lub hsz h1).eq (ds_lub hsz2 (fl9_ok _ z false)) fun N D _ _ => ⟨fun h b hb => h b ((hm b).1 hb), fun h b hb => h b ((hm b).2 hb)⟩,
  (ds_lub hsz h2).eq (ds_lub hsz2 (fl9_ok _ z true)) fun N D _ _ => ⟨fun h b hb => h b ((hm b).1 hb), fun h b hb => h b ((hm b).2 hb)⟩⟩
def FBd (f : Frc) : Prop := (0 ≤ f.n ∧ f.n ≤ 200000000) ∧ 1 ≤ f.d ∧ f.d ≤ 200
theorem stF_bd {f : Frc} {v sz : Int} (hf : FBd f) (hv : v ≤ 200000000) (hs : 1 ≤ sz ∧ sz ≤ 200) : FBd (stF f v sz) := by
 unfold stF
 split
 · rename_i h
   obtain ⟨⟨f1, f2⟩, f3, f4⟩ := hf
   have hv0 : 0 < v := by
    rcases Int.lt_or_le 0 v with h1 | h1
    · exact h1
    · have h2 := Int.mul_le_mul_of_nonneg_right h1 (show 0 ≤ f.d by omega)
      have h3 := Int.mul_nonneg f1 (show 0 ≤ sz by omega)
      omega
   obtain ⟨l1, l2, _, l4, l5⟩ := low9_ok (n := v) (d := sz) hs.1
   refine ⟨⟨l4 (by omega), ?_⟩, l1, by omega⟩
   have h5 : (low9 v sz).n ≤ v := by
    refine Int.le_of_mul_le_mul_right (a := sz) ?_ (by omega)
    rw [← l2]
    exact Int.mul_le_mul_of_nonneg_left l5 (by omega)
   omega
 · exact hf
end Go.Proofs.Ytljjpidigckheaa.Un
namespace Go.Proofs.Ytljjpidigckheaa.Un
open Go.RowKit
theorem mul_bd9 {a b A B : Int} (ha : -A ≤ a ∧ a ≤ A) (hb : -B ≤ b ∧ b ≤ B) (hA : 0 ≤ A) (hB : 0 ≤ B) : -(A * B) ≤ a * b ∧ a * b ≤ A * B := by
 have h1 : (a * b).natAbs ≤ A.toNat * B.toNat := by
  rw [Int.natAbs_mul]
  exact Nat.mul_le_mul (by omega) (by omega)
 have h2 : ((A.toNat * B.toNat : Nat) : Int) = A * B := by rw [Int.natCast_mul, Int.toNat_of_nonneg hA, Int.toNat_of_nonneg hB]
 omega
set_option maxRecDepth 100000 in
set_option maxHeartbeats 4000000 in
theorem refTurn_any (W i j k : Nat) (hW : 2 ≤ W ∧ W ≤ 6) (h : i ≤ 36 ∧ j ≤ 36 ∧ k ≤ 36) (w : World) :
 Calls Try.prog 69 #[I (W : Int), I (i : Int), I (j : Int), I (k : Int)] w fun e w' => e = .returned (I (crs (gPt W i) (gPt W j) (gPt W k))) ∧ Below w.heap.size w w' := by
 have m0 : ((W : Int) = 0) = False := eq_false (by omega)
 have m1 : (W = 0) = False := eq_false (by omega)
 have hx : ∀ q : Nat, q ≤ 36 → (0 ≤ ((q % W : Nat) : Int) ∧ ((q % W : Nat) : Int) ≤ 5) ∧ 0 ≤ ((q / W : Nat) : Int) ∧ ((q / W : Nat) : Int) ≤ 18 := fun q hq => by
  have h1 := Nat.mod_lt q (show 0 < W by omega)
  have h2 : q / W ≤ 18 := Nat.le_trans (Nat.div_le_div_left hW.1 (by omega)) (by omega)
  exact ⟨⟨Int.natCast_nonneg _, Int.ofNat_le.2 (show q % W ≤ 5 by omega)⟩, Int.natCast_nonneg _, Int.ofNat_le.2 h2⟩
 obtain ⟨⟨a1, a2⟩, a3, a4⟩ := hx i h.1
 obtain ⟨⟨b1, b2⟩, b3, b4⟩ := hx j h.2.1
 obtain ⟨⟨c1, c2⟩, c3, c4⟩ := hx k h.2.2
 have hf : Hid (crs (gPt W i) (gPt W j) (gPt W k) = (((j % W : Nat) : Int) - ((i % W : Nat) : Int)) * (((k / W : Nat) : Int) - ((i / W : Nat) : Int)) - (((k % W : Nat) : Int) - ((i % W : Nat) : Int)) * (((j / W : Nat) : Int) - ((i / W : Nat) : Int))) := rfl
 have t1 : (i : Int).tmod (W : Int) = ((i % W : Nat) : Int) := rfl
 have t2 : (i : Int).tdiv (W : Int) = ((i / W : Nat) : Int) := rfl
 have t3 : (j : Int).tmod (W : Int) = ((j % W : Nat) : Int) := rfl
 have t4 : (j : Int).tdiv (W : Int) = ((j / W : Nat) : Int) := rfl
 have t5 : (k : Int).tmod (W : Int) = ((k % W : Nat) : Int) := rfl
 have t6 : (k : Int).tdiv (W : Int) = ((k / W : Nat) : Int) := rfl
 have s1 : (i : Int) % (W : Int) = ((i % W : Nat) : Int) := rfl
 have s2 : (i : Int) / (W : Int) = ((i / W : Nat) : Int) := rfl
 have s3 : (j : Int) % (W : Int) = ((j % W : Nat) : Int) := rfl
 have s4 : (j : Int) / (W : Int) = ((j / W : Nat) : Int) := rfl
 have s5 : (k : Int) % (W : Int) = ((k % W : Nat) : Int) := rfl
 have s6 : (k : Int) / (W : Int) = ((k / W : Nat) : Int) := rfl
 obtain ⟨xi, hxi⟩ : ∃ x : Int, ((i % W : Nat) : Int) = x := ⟨_, rfl⟩
 obtain ⟨yi, hyi⟩ : ∃ x : Int, ((i / W : Nat) : Int) = x := ⟨_, rfl⟩
 obtain ⟨xj, hxj⟩ : ∃ x : Int, ((j % W : Nat) : Int) = x := ⟨_, rfl⟩
 obtain ⟨yj, hyj⟩ : ∃ x : Int, ((j / W : Nat) : Int) = x := ⟨_, rfl⟩
 obtain ⟨xk, hxk⟩ : ∃ x : Int, ((k % W : Nat) : Int) = x := ⟨_, rfl⟩
 obtain ⟨yk, hyk⟩ : ∃ x : Int, ((k / W : Nat) : Int) = x := ⟨_, rfl⟩
 rw [hxi] at a1 a2 t1 s1 hf
 rw [hyi] at a3 a4 t2 s2 hf
 rw [hxj] at b1 b2 t3 s3 hf
 rw [hyj] at b3 b4 t4 s4 hf
 rw [hxk] at c1 c2 t5 s5 hf
 rw [hyk] at c3 c4 t6 s6 hf
 have p1 := mul_bd9 (a := xj - xi) (b := yk - yi) (A := 5) (B := 18) (by omega) (by omega) (by omega) (by omega)
 have p2 := mul_bd9 (a := xk - xi) (b := yj - yi) (A := 5) (B := 18) (by omega) (by omega) (by omega) (by omega)
 obtain ⟨e1, he1⟩ : ∃ e, (xj - xi) * (yk - yi) = e := ⟨_, rfl⟩
 obtain ⟨e2, he2⟩ : ∃ e, (xk - xi) * (yj - yi) = e := ⟨_, rfl⟩
 rw [he1] at p1 hf
 rw [he2] at p2 hf
 have q1 : IntKind.i64.wrap (xj - xi) = xj - xi := IntWalk.i64_in _ (by omega)
 have q2 : IntKind.i64.wrap (yk - yi) = yk - yi := IntWalk.i64_in _ (by omega)
 have q3 : IntKind.i64.wrap (xk - xi) = xk - xi := IntWalk.i64_in _ (by omega)
 have q4 : IntKind.i64.wrap (yj - yi) = yj - yi := IntWalk.i64_in _ (by omega)
 have q5 : IntKind.i64.wrap ((xj - xi) * (yk - yi)) = e1 := by rw [he1]; exact IntWalk.i64_in _ (by omega)
 have q6 : IntKind.i64.wrap ((xk - xi) * (yj - yi)) = e2 := by rw [he2]; exact IntWalk.i64_in _ (by omega)
 have q8 : IntKind.i64.wrap yi = yi := IntWalk.i64_in _ (by omega)
 have q9 : IntKind.i64.wrap yj = yj := IntWalk.i64_in _ (by omega)
 have q10 : IntKind.i64.wrap yk = yk := IntWalk.i64_in _ (by omega)
 have q7 : IntKind.i64.wrap (e1 - e2) = e1 - e2 := IntWalk.i64_in _ (by omega)
 clear hxi hyi hxj hyj hxk hyk he1 he2 hx a1 a2 a3 a4 b1 b2 b3 b4 c1 c2 c3 c4 p1 p2 h hW
 go_enter Try.func69, Try.ntmps69
 go_upto_region 1 with (fail)
 refine Gg.wp_region_make (fun _ => none) (by kernel_rfl) (by kernel_rfl) (by kernel_rfl) ?_
 repeat (first | (refine Gg.wpG_one rfl rfl rfl ?_; intro K hK; go_big_quiet_op; go_big_quiet_on) | (refine Gg.wpG_skip rfl ?_; simp only [Act.put, List.setIfInBounds_toArray, List.set_cons_zero, List.set_cons_succ]))
 refine Gg.wpG_nil (fun w5 hw5 hG => ?_)
 obtain ⟨x5, rfl⟩ : ∃ z, w5 = ovr w z := ⟨w5, ovr_of hw5.le⟩
 clear hG hw5
 go_upto_region 2 with fail
 refine Gg.wp_region_make (fun _ => none) (by kernel_rfl) (by kernel_rfl) (by kernel_rfl) ?_
 repeat (first | (refine Gg.wpG_one rfl rfl rfl ?_; intro K hK; go_big_quiet_op; go_big_quiet_on) | (refine Gg.wpG_skip rfl ?_; simp only [Act.put, List.setIfInBounds_toArray, List.set_cons_zero, List.set_cons_succ]))
 refine Gg.wpG_nil (fun w5 hw5 hG => ?_)
 have hb := (ovr_below w x5).trans (hw5.le.mono (ovr_below w x5).size)
 clear hG hw5
 go_wp2_with fail
 go_ret
 exact ⟨by rw [hf.out]; rfl, hb⟩
theorem gcd_low {N D g : Nat} (h : Nat.gcd N D = g) : low9 (N : Int) (D : Int) = ⟨((N / g : Nat) : Int), ((D / g : Nat) : Int)⟩ := by
 unfold low9
 have e : Int.gcd (N : Int) (D : Int) = g := h
 rw [e]
 rfl
set_option maxRecDepth 100000 in
set_option maxHeartbeats 4000000 in
theorem refLowest_any (N D : Nat) (hD : 1 ≤ D) (hN : N ≤ 1000000000000000000 ∧ D ≤ 1000000000000000000) (w : World) :
 Calls Try.prog 31 #[I (N : Int), I (D : Int)] w fun e w' => e = .returned (.agg #[I (low9 N D).n, I (low9 N D).d]) ∧ Below w.heap.size w w' := by
 obtain ⟨W, hW⟩ : ∃ W, W = (w.alloc (.cells #[I 0, I 0] 49)) := ⟨_, rfl⟩
 have rowW0 : W.heap[w.heap.size]? = some (.cells #[I 0, I 0] 49 (0, 0)) := by rw [hW]; exact heap_last _ _ _ rfl
 have yW00 := ovr_cell (W := W) (b := w.heap.size) (o := 0) (v := I 0) (by rw [cell_of_row _ _ _ _ _ _ rowW0]; rfl)
 have yW01 := ovr_cell (W := W) (b := w.heap.size) (o := 1) (v := I 0) (by rw [cell_of_row _ _ _ _ _ _ rowW0]; rfl)
 have RrowW0 := Lib.hid (ovr_row rowW0)
 clear rowW0
 have HUW : Hid (∀ u, Below w.heap.size w (ovr W u)) := U1 hW
 have HW := Lib.hid hW
 clear hW
 go_enter Try.func31, Try.ntmps31
 go_upto_region 1 with (fail)
 rw [← HW.out]
 obtain ⟨u0, hu0⟩ := ovr_self W
 rw [hu0]
 clear hu0
 go_wp2_with fail
 go_loopw [5, 6] (fun av bv wr => ∃ (a b : Nat) (u : World), av = I (a : Int) ∧ bv = I (b : Int) ∧ 1 ≤ a ∧ a ≤ 1000000000000000000 ∧ b ≤ 1000000000000000000 ∧ Nat.gcd a b = Nat.gcd N D ∧ wr = ovr W u) (fun _ bv _ => (intOf bv).toNat)
 case atStart => exact ⟨D, N, u0, rfl, rfl, hD, hN.2, hN.1, Nat.gcd_comm _ _, rfl⟩
 case round =>
  obtain ⟨a, b, u, rfl, rfl, ha, ha2, hb2, hg, rfl⟩ := hrel
  have HG := Lib.hid hg
  clear hg
  by_cases hb0 : b = 0
  · have HE : Hid (low9 (N : Int) (D : Int) = ⟨((N / a : Nat) : Int), ((D / a : Nat) : Int)⟩) := by
        refine gcd_low ?_
        rw [← HG.out, hb0, Nat.gcd_zero_right]
    subst hb0
    have m0 : ((a : Int) = 0) = False := eq_false (by omega)
    have m1 : (a = 0) = False := eq_false (by omega)
    have s1 : (N : Int).tdiv (a : Int) = ((N / a : Nat) : Int) := rfl
    have s2 : (N : Int) / (a : Int) = ((N / a : Nat) : Int) := rfl
    have s3 : (D : Int).tdiv (a : Int) = ((D / a : Nat) : Int) := rfl
    have s4 : (D : Int) / (a : Int) = ((D / a : Nat) : Int) := rfl
    have n1 : N / a ≤ N := Nat.div_le_self _ _
    have n2 : D / a ≤ D := Nat.div_le_self _ _
    obtain ⟨n9, hn9⟩ : ∃ n9 : Nat, N / a = n9 := ⟨_, rfl⟩
    obtain ⟨d9, hd9⟩ : ∃ d9 : Nat, D / a = d9 := ⟨_, rfl⟩
    rw [hn9] at s1 s2 n1 HE
    rw [hd9] at s3 s4 n2 HE
    have q1 : IntKind.i64.wrap (n9 : Int) = n9 := IntWalk.i64_in _ (by omega)
    have q2 : IntKind.i64.wrap (d9 : Int) = d9 := IntWalk.i64_in _ (by omega)
    clear hn9 hd9 n1 n2 ha ha2 hb2
    go_upto_region 4 with fail
    have hbX := ovr_below W u
    obtain ⟨X, hX⟩ : ∃ X, X = ovr W u := ⟨_, rfl⟩
    rw [← hX] at hbX
    rw [← hX]
    have hX' := Lib.hid hX
    clear hX
    have hbX' := Lib.hid hbX
    have reX : ∀ v, ∃ x, ovr X v = ovr W x := fun v => ovr_reB hbX v
    replace yW00 := tr_cell reX yW00
    replace yW01 := tr_cell reX yW01
    replace RrowW0 := Lib.hid (tr_row reX RrowW0.out)
    have HUX : Hid (∀ u, Below w.heap.size w (ovr X u)) := fun u => by obtain ⟨x, hx⟩ := reX u; rw [hx]; exact HUW.out x
    clear reX hbX
    refine wp_region_seq2 7 (fun _ => none) (by kernel_rfl) (by kernel_rfl) (by kernel_rfl) (by kernel_rfl) (by kernel_rfl) ?_
    simp only [List.take_succ_cons, List.take_zero, List.drop_succ_cons, List.drop_zero]
    repeat (first | (refine wpG_one rfl rfl rfl ?_; intro K hK; go_big_quiet_op; go_big_quiet_on) | (refine wpG_skip rfl ?_; simp only [Act.put, List.setIfInBounds_toArray, List.set_cons_zero, List.set_cons_succ]))
    refine wpG_nil (fun w5 hw5 hG => ?_)
    obtain ⟨x5, rfl⟩ : ∃ z, w5 = ovr X z := ⟨w5, ovr_of hw5.le⟩
    have hrow := RrowW0.out x5
    have hbw := HUX.out x5
    clear hG hw5
    refine wpTailIn_cons Wd.wide (by intro c h; cases h) ?_
    refine wp_store_row 49 _ _ rfl w.heap.size rfl _ _ hrow #[I (n9 : Int), I (d9 : Int)] rfl (one2 rfl rfl) rfl (by kernel_rfl) ?_
    refine wpTailIn_nil ?_
    simp only [Act.put]
    have hb9 := below_setRow hbw (Nat.le_refl w.heap.size) #[I (n9 : Int), I (d9 : Int)]
    go_wp2_with fail
    refine bodyPost_ret (results_cell_only rfl _ _ (w.heap.size) 49 _ (0, 0) _ rfl (setRow_same (hrow)) Try.underlying49 rfl (by kernel_rfl)) rfl ?_
    exact ⟨by rw [HE.out], hb9⟩
  have m0 : ((b : Int) = 0) = False := eq_false (by omega)
  have m1 : (b = 0) = False := eq_false (by omega)
  have d1 : decide (0 < (b : Int)) = true := decide_eq_true (by omega)
  have d2 : decide (0 < b) = true := decide_eq_true (by omega)
  have s1 : (a : Int).tmod (b : Int) = ((a % b : Nat) : Int) := rfl
  have s2 : (a : Int) % (b : Int) = ((a % b : Nat) : Int) := rfl
  have hl := Nat.mod_lt a (show 0 < b by omega)
  have HG2 : Hid (Nat.gcd b (a % b) = Nat.gcd N D) := by
   show _ = _
   rw [← HG.out, Nat.gcd_comm a b, Nat.gcd_rec b a, Nat.gcd_comm]
  obtain ⟨r, hr⟩ : ∃ r : Nat, a % b = r := ⟨_, rfl⟩
  rw [hr] at s1 s2 hl HG2
  have q1 : IntKind.i64.wrap (r : Int) = r := IntWalk.i64_in _ (by omega)
  have HB : Hid (1 ≤ b ∧ b ≤ 1000000000000000000 ∧ r ≤ 1000000000000000000 ∧ r < b) := by show _ ∧ _; omega
  clear hr hl ha ha2 hb2 hb0
  go_upto_region 3 with fail
  have HBX : Hid (∀ v, Below (ovr W u).heap.size (ovr W u) v → ∃ z, v = ovr W z) := fun v hv => ovr_next hv
  refine name_w fun X hX => ?_
  rw [← hX] at HBX
  clear hX
  refine Gg.wp_region_make (fun _ => none) (by kernel_rfl) (by kernel_rfl) (by kernel_rfl) ?_
  repeat (first | (refine Gg.wpG_one rfl rfl rfl ?_; intro K hK; go_big_quiet_op; go_big_quiet_on) | (refine Gg.wpG_skip rfl ?_; simp only [Act.put, List.setIfInBounds_toArray, List.set_cons_zero, List.set_cons_succ]))
  refine Gg.wpG_nil (fun w5 hw5 hG => ?_)
  obtain ⟨u2, rfl⟩ := HBX.out w5 hw5.le
  clear hG hw5 HBX
  go_wp2_with fail
  go_roundw
  case rel => exact ⟨b, r, u2, rfl, rfl, HB.out.1, HB.out.2.1, HB.out.2.2.1, HG2.out, rfl⟩
  case measure => have := HB.out; simp [intOf]; omega
end Go.Proofs.Ytljjpidigckheaa.Un
namespace Go.Proofs.Ytljjpidigckheaa.Un
open Go.RowKit
def wt9 (b : Bal) : Nat → Int
 | 0 => b.w0 | 1 => b.w1 | 2 => b.w2 | _ => b.w3
def ix9 (i j k l : Nat) : Nat → Nat
 | 0 => i | 1 => j | 2 => k | _ => l
def smF (z : Nat → Rng) (g : Bool) (b : Bal) (ix : Nat → Nat) : Nat → Int
 | 0 => 0 | m + 1 => smF z g b ix m + tm9 (wt9 b m) (z (ix m)) g
def szF (b : Bal) : Nat → Int
 | 0 => 0 | m + 1 => szF b m + max (wt9 b m) (-(wt9 b m))
theorem smF_end (W : Nat) (z : Nat → Rng) (g : Bool) (i j k l : Nat) (s : Bool) : smF z g (bl9 W i j k l s) (ix9 i j k l) 4 = val9 z g (bl9 W i j k l s) := by
 cases s <;> (show 0 + _ + _ + _ + _ = _) <;> rw [Int.zero_add] <;> rfl
theorem szF_end (W : Nat) (i j k l : Nat) (s : Bool) : szF (bl9 W i j k l s) 4 = Sz (gPt W i) (gPt W j) (gPt W k) (gPt W l) := by
 unfold Sz mxa
 cases s
 · show 0 + max (-_) (- -_) + max (-_) (- -_) + max (-_) (- -_) + max (-_) (- -_) = _
   show 0 + max (-(crs _ _ _)) (- -(crs _ _ _)) + max (-(-crs _ _ _)) (- -(-crs _ _ _)) + max (-(crs _ _ _)) (- -(crs _ _ _)) + max (-(-crs _ _ _)) (- -(-crs _ _ _)) = _
   omega
 · show 0 + max (crs _ _ _) (-(crs _ _ _)) + max (-crs _ _ _) (-(-crs _ _ _)) + max (crs _ _ _) (-(crs _ _ _)) + max (-crs _ _ _) (-(-crs _ _ _)) = _
   omega
theorem wt9_bd {W H i j k l : Nat} (hW : 1 ≤ W ∧ W ≤ 6) (hH : H ≤ 6) (h : i < W * H ∧ j < W * H ∧ k < W * H ∧ l < W * H) (s : Bool) (m : Nat) : -50 ≤ wt9 (bl9 W i j k l s) m ∧ wt9 (bl9 W i j k l s) m ≤ 50 := by
 have a := gPt_in hW hH h.1
 have b := gPt_in hW hH h.2.1
 have c := gPt_in hW hH h.2.2.1
 have d := gPt_in hW hH h.2.2.2
 have h1 := crs_bd b c d
 have h2 := crs_bd a c d
 have h3 := crs_bd a b d
 have h4 := crs_bd a b c
 have hc : ∀ m, wt9 (bl9 W i j k l s) m = crs (gPt W j) (gPt W k) (gPt W l) ∨ wt9 (bl9 W i j k l s) m = -crs (gPt W j) (gPt W k) (gPt W l) ∨ wt9 (bl9 W i j k l s) m = -crs (gPt W i) (gPt W k) (gPt W l) ∨ wt9 (bl9 W i j k l s) m = -(-crs (gPt W i) (gPt W k) (gPt W l)) ∨ wt9 (bl9 W i j k l s) m = crs (gPt W i) (gPt W j) (gPt W l) ∨ wt9 (bl9 W i j k l s) m = -crs (gPt W i) (gPt W j) (gPt W l) ∨ wt9 (bl9 W i j k l s) m = -crs (gPt W i) (gPt W j) (gPt W k) ∨ wt9 (bl9 W i j k l s) m = -(-crs (gPt W i) (gPt W j) (gPt W k)) := fun m => by
  match m, s with
  | 0, true => exact .inl rfl
  | 0, false => exact .inr (.inl rfl)
  | 1, true => exact .inr (.inr (.inl rfl))
  | 1, false => exact .inr (.inr (.inr (.inl rfl)))
  | 2, true => exact .inr (.inr (.inr (.inr (.inl rfl))))
  | 2, false => exact .inr (.inr (.inr (.inr (.inr (.inl rfl)))))
  | _ + 3, true => exact .inr (.inr (.inr (.inr (.inr (.inr (.inl rfl))))))
  | _ + 3, false => exact .inr (.inr (.inr (.inr (.inr (.inr (.inr rfl))))))
 have := hc m
 omega
theorem szF_bd {b : Bal} (hb : ∀ m, -50 ≤ wt9 b m ∧ wt9 b m ≤ 50) : ∀ m : Nat, 0 ≤ szF b m ∧ szF b m ≤ 50 * (m : Int)
 | 0 => ⟨Int.le_refl _, Int.le_refl _⟩
 | m + 1 => by
   have h1 := szF_bd hb m
   have h2 := hb m
   show 0 ≤ szF b m + max (wt9 b m) (-(wt9 b m)) ∧ szF b m + max (wt9 b m) (-(wt9 b m)) ≤ _
   omega
theorem smF_bd {b : Bal} {z : Nat → Rng} {ix : Nat → Nat} {N : Nat} (g : Bool) (hb : ∀ m, -50 ≤ wt9 b m ∧ wt9 b m ≤ 50) (hi : ∀ m, ix m < N) (hz : ∀ j, j < N → (-1000000 ≤ (z j).lo ∧ (z j).lo ≤ 1000000) ∧ -1000000 ≤ (z j).hi ∧ (z j).hi ≤ 1000000) : ∀ m : Nat, -(50000000 * (m : Int)) ≤ smF z g b ix m ∧ smF z g b ix m ≤ 50000000 * (m : Int)
 | 0 => ⟨Int.le_refl _, Int.le_refl _⟩
 | m + 1 => by
   have h1 := smF_bd g hb hi hz m
   have h2 := tm9_bd (g := g) (hb m) (hz _ (hi m)).1 (hz _ (hi m)).2
   show _ ≤ smF z g b ix m + tm9 (wt9 b m) (z (ix m)) g ∧ smF z g b ix m + tm9 (wt9 b m) (z (ix m)) g ≤ _
   omega
theorem tm9_min {w lo hi : Int} (h : lo ≤ hi) : tm9 w ⟨lo, hi⟩ false = min (w * lo) (w * hi) := by
 unfold tm9
 by_cases hw : 0 < w
 · have := Int.mul_le_mul_of_nonneg_left h (show 0 ≤ w by omega)
   rw [decide_eq_true hw]
   show w * lo = _
   omega
 · have := Int.mul_le_mul_of_nonpos_left (show w ≤ 0 by omega) h
   rw [decide_eq_false hw]
   show w * hi = _
   omega
theorem tm9_max {w lo hi : Int} (h : lo ≤ hi) : tm9 w ⟨lo, hi⟩ true = max (w * lo) (w * hi) := by
 unfold tm9
 by_cases hw : 0 < w
 · have := Int.mul_le_mul_of_nonneg_left h (show 0 ≤ w by omega)
   rw [decide_eq_true hw]
   show w * hi = _
   omega
 · have := Int.mul_le_mul_of_nonpos_left (show w ≤ 0 by omega) h
   rw [decide_eq_false hw]
   show w * lo = _
   omega
structure FRow (w : World) (x : Sht) (A : Option Addr) (n P4 P5 : Nat) (f g : Frc) (V : World) : Prop where
 bl : Below w.heap.size w V
 sh : V.heap[w.heap.size]? = some (.cells (shA x A n) 37 (0, 0))
 r1 : V.heap[w.heap.size + 1]? = some (.cells #[I 0, I 0] 49 (0, 0))
 r2 : V.heap[w.heap.size + 1 + 1]? = some (.cells #[I 0, I 0] 49 (0, 0))
 lo : V.heap[P4]? = some (.cells #[I f.n, I f.d] 49 (0, 0))
 hi : V.heap[P5]? = some (.cells #[I g.n, I g.d] 49 (0, 0))
 ne : P4 ≠ P5 ∧ w.heap.size + 1 + 1 < P4 ∧ w.heap.size + 1 + 1 < P5
theorem FRow.below {w : World} {x : Sht} {A : Option Addr} {n P4 P5 : Nat} {f g : Frc} {V U : World} (h : FRow w x A n P4 P5 f g V) (hb : Below V.heap.size V U) : FRow w x A n P4 P5 f g U :=
 ⟨h.bl.trans (hb.mono h.bl.size), (hb.block _ (lt_of_row h.sh)).trans h.sh, (hb.block _ (lt_of_row h.r1)).trans h.r1, (hb.block _ (lt_of_row h.r2)).trans h.r2, (hb.block _ (lt_of_row h.lo)).trans h.lo, (hb.block _ (lt_of_row h.hi)).trans h.hi, h.ne⟩
theorem FRow.set4 {w : World} {x : Sht} {A : Option Addr} {n P4 P5 : Nat} {f g : Frc} {V : World} (h : FRow w x A n P4 P5 f g V) (f' : Frc) : FRow w x A n P4 P5 f' g (V.setRow P4 #[I f'.n, I f'.d]) := by
 obtain ⟨n1, n2, n3⟩ := h.ne
 exact ⟨below_setRow h.bl (by omega) _, (Go.Proofs.Ytljjpidigckheaa.setRow_other (by omega)).trans h.sh, (Go.Proofs.Ytljjpidigckheaa.setRow_other (by omega)).trans h.r1, (Go.Proofs.Ytljjpidigckheaa.setRow_other (by omega)).trans h.r2, setRow_same h.lo, (Go.Proofs.Ytljjpidigckheaa.setRow_other (by omega)).trans h.hi, h.ne⟩
theorem FRow.set5 {w : World} {x : Sht} {A : Option Addr} {n P4 P5 : Nat} {f g : Frc} {V : World} (h : FRow w x A n P4 P5 f g V) (g' : Frc) : FRow w x A n P4 P5 f g' (V.setRow P5 #[I g'.n, I g'.d]) := by
 obtain ⟨n1, n2, n3⟩ := h.ne
 exact ⟨below_setRow h.bl (by omega) _, (Go.Proofs.Ytljjpidigckheaa.setRow_other (by omega)).trans h.sh, (Go.Proofs.Ytljjpidigckheaa.setRow_other (by omega)).trans h.r1, (Go.Proofs.Ytljjpidigckheaa.setRow_other (by omega)).trans h.r2, (Go.Proofs.Ytljjpidigckheaa.setRow_other (by omega)).trans h.lo, setRow_same h.hi, h.ne⟩
def FSt (w : World) (x : Sht) (A : Option Addr) (n W N P4 P5 i j k l s : Nat) (V : World) : Prop := ∃ f g, FInv W (at0 x.s) (QQ N i j k l s) f g ∧ FBd f ∧ FBd g ∧ FRow w x A n P4 P5 f g V
theorem FSt.below {w : World} {x : Sht} {A : Option Addr} {n W N P4 P5 i j k l s : Nat} {V U : World} (h : FSt w x A n W N P4 P5 i j k l s V) (hb : Below V.heap.size V U) : FSt w x A n W N P4 P5 i j k l s U := by
 obtain ⟨f, g, h1, h2, h3, h4⟩ := h
 exact ⟨f, g, h1, h2, h3, h4.below hb⟩
theorem FSt.cong {w : World} {x : Sht} {A : Option Addr} {n W N P4 P5 i j k l s i' j' k' l' s' : Nat} {V : World} (h : FSt w x A n W N P4 P5 i j k l s V) (hq : ∀ a b c d t, QQ N i' j' k' l' s' a b c d t ↔ QQ N i j k l s a b c d t) : FSt w x A n W N P4 P5 i' j' k' l' s' V := by
 obtain ⟨f, g, h1, h2, h3, h4⟩ := h
 exact ⟨f, g, h1.cong hq, h2, h3, h4⟩
theorem qq_s (N i j k l : Nat) (a b c d : Nat) (t : Bool) : QQ N i j k (l + 1) 0 a b c d t ↔ QQ N i j k l 2 a b c d t := by
 unfold QQ; cases t <;> simp only [Bool.false_eq_true, if_false, if_true] <;> omega
theorem qq_l (N i j k : Nat) (a b c d : Nat) (t : Bool) : QQ N i j (k + 1) (k + 1 + 1) 0 a b c d t ↔ QQ N i j k N 0 a b c d t := by
 unfold QQ; cases t <;> simp only [Bool.false_eq_true, if_false, if_true] <;> omega
theorem qq_k (N i j : Nat) (a b c d : Nat) (t : Bool) : QQ N i (j + 1) (j + 1 + 1) (j + 1 + 1 + 1) 0 a b c d t ↔ QQ N i j N (N + 1) 0 a b c d t := by
 unfold QQ; cases t <;> simp only [Bool.false_eq_true, if_false, if_true] <;> omega
theorem qq_j (N i : Nat) (a b c d : Nat) (t : Bool) : QQ N (i + 1) (i + 1 + 1) (i + 1 + 1 + 1) (i + 1 + 1 + 1 + 1) 0 a b c d t ↔ QQ N i N (N + 1) (N + 1 + 1) 0 a b c d t := by
 unfold QQ; cases t <;> simp only [Bool.false_eq_true, if_false, if_true] <;> omega
theorem qq_0 (N : Nat) (a b c d : Nat) (t : Bool) : ¬ QQ N 0 (0 + 1) (0 + 1 + 1) (0 + 1 + 1 + 1) 0 a b c d t := by
 unfold QQ; cases t <;> simp only [Bool.false_eq_true, if_false, if_true] <;> omega
theorem qq_i (N : Nat) (a b c d : Nat) (t : Bool) : QQ N N (N + 1) (N + 1 + 1) (N + 1 + 1 + 1) 0 a b c d t ↔ a < b ∧ b < c ∧ c < d ∧ d < N := by
 unfold QQ; cases t <;> simp only [Bool.false_eq_true, if_false, if_true] <;> omega
theorem qq_t {N i j k l : Nat} (h : i < j ∧ j < k ∧ k < l ∧ l < N) (s : Bool) (a b c d : Nat) (t : Bool) : QQ N i j k l ((if s then 1 else 0) + 1) a b c d t ↔ QQ N i j k l (if s then 1 else 0) a b c d t ∨ (a = i ∧ b = j ∧ c = k ∧ d = l ∧ t = s) := by
 unfold QQ; cases t <;> cases s <;> simp only [Bool.false_eq_true, if_false, if_true, reduceCtorEq, and_false, and_true, or_false] <;> omega
end Go.Proofs.Ytljjpidigckheaa.Un
namespace Go.Proofs.Ytljjpidigckheaa.Pr
open Go.RowKit Go.Proofs.Ytljjpidigckheaa.Un
theorem wp_region_pre (L : Pre) {P : Program} {id : Nat} {Q : Exit → Act → World → Prop} {a : Act} {w : World} {l : List Oper} (F : Nat → Option (Value → World → Prop)) (hd : L.le w w.drew) (hm : P.follows .mixedOrders = true) (hB : Region.lexB .any l.toArray = true) (hu : uniqB l.toArray = true)
 (h : wpG L P .any l.toArray w F (fun a' w' => Q .normal a' w') l 0 (fun _ => True) a) : (Code.region id l.toArray true).wp P Q a w := by
 simp only [Region.lexB, Bool.and_eq_true] at hB
 refine wp_region_any hm ?_
 have hw : Cl L w w.drew := Cl.of hd
 have := wpAnyG_lex hu hB.1 l 0 (Array.replicate l.toArray.size false) a w.drew (fun _ => True) (by simp) (by simpa using hB.2) hw (told_none _) trivial (fun _ _ _ h => h) h
 exact wpAny_of_G hu (fun _ _ h => h) _ _ _ _ hw (told_none _) this
theorem Chg.ovl_cell {X : Nat → Option (Array Value)} {w : World} {k o : Nat} {v : Value} (hx : X k = none) (hc : w.cell? ⟨k, o, none⟩ = some v) (u : World) : (ovl (Chg X) w u).cell? ⟨k, o, none⟩ = some v := Chg.cell (ovl_le _ w u) hx hc
theorem store_grow {X : Nat → Option (Array Value)} {P : Program} {o : Oper} {a : Act} {w : World} (ty : TypeId) (x y : Operand) (ho : o.op = .store ty x y) (g : Nat) (hx : a.eval x = .pointer (some ⟨g, 0, none⟩)) (cs : Array Value) (t : TypeId)
 (hg : w.heap[g]? = some (.cells cs t (0, 0))) (row : Array Value) (hy : a.eval y = .agg row) (h1 : ∀ v ∈ row.toList, v.oneCell' = true) (hs : row.size = cs.size) (hi : (P.info? ty).map (·.size) = some row.size) (hX : X g = some row) :
 grows (Chg X) P o a w (RowAt g row t) := by
 have hle := Chg.set hX hg hs
 have hbx : ∀ u, Box (Chg X) (RowAt g row t) u (w.setRow g row) := fun u => RowAt.box hX (setRow_same hg)
 have hst := run_storeCells_from (P := P) g t row.toList 0 cs w hg (by simpa using hs) h1
 simp only [List.take_zero, List.nil_append, Array.toArray_toList] at hst
 have hrun : (storeVar ty ⟨g, 0, none⟩ (.agg row)).run P w = .ok () (w.setRow g row) := by
  cases hq : P.info? ty with
  | none => simp [hq] at hi
  | some q =>
    have hs' : q.size = row.size := by simpa [hq] using hi
    simp [storeVar, Sem.run_bind, sizeOf, typeInfo, hq, hs', Value.cells, hst]
 unfold grows execOp
 simp only [ho, hx, hy, Instr.storeAt, Instr.sureAddr, Sem.run_bind, Sem.run_pure, Result.andThen_ok, hrun]
 exact ⟨hle, hbx _⟩
def out2 (g g' : Nat) (row row' : Array Value) : Nat → Option (Array Value) := fun k => if k = g then some row else if k = g' then some row' else none
theorem out2_ne {g g' k : Nat} {row row' : Array Value} (h : k ≠ g) (h' : k ≠ g') : out2 g g' row row' k = none := (if_neg h).trans (if_neg h')
theorem out2_l {g g' : Nat} {row row' : Array Value} : out2 g g' row row' g = some row := if_pos rfl
theorem out2_r {g g' : Nat} {row row' : Array Value} (h : g' ≠ g) : out2 g g' row row' g' = some row' := (if_neg h).trans (if_pos rfl)
theorem results_rows2 {P : Program} {fn : Func} {p q : Tmp} {ty ty' : TypeId} (h : fn.results = #[.cell p ty, .cell q ty']) (tmps : Array Value) (w : World) (g g' : Nat) (t t' : TypeId) (cs cs' : Array Value) (fr fr' : Nat × Nat) (d d' : TypeDesc)
 (hp : tmps.getD p undef = .pointer (some ⟨g, 0, none⟩)) (hg : w.heap[g]? = some (.cells cs t fr)) (hq : tmps.getD q undef = .pointer (some ⟨g', 0, none⟩)) (hg' : w.heap[g']? = some (.cells cs' t' fr'))
 (hu : P.underlying ty = some d) (hd : (match d with | .struct _ | .array _ _ => true | _ => false) = true) (hi : (P.info? ty).map (·.size) = some cs.size)
 (hu' : P.underlying ty' = some d') (hd' : (match d' with | .struct _ | .array _ _ => true | _ => false) = true) (hi' : (P.info? ty').map (·.size) = some cs'.size) :
 (results fn tmps).run P w = .ok (.tuple #[.agg cs, .agg cs']) w := by
 have hp' : tmps[p]?.getD undef = .pointer (some ⟨g, 0, none⟩) := by simpa using hp
 have hq' : tmps[q]?.getD undef = .pointer (some ⟨g', 0, none⟩) := by simpa using hq
 simp [results, h, hp', hq', asAddr, run_loadVar_row w g t ty cs fr d hg hu hd hi, run_loadVar_row w g' t' ty' cs' fr' d' hg' hu' hd' hi']
end Go.Proofs.Ytljjpidigckheaa.Pr
namespace Go.Proofs.Ytljjpidigckheaa.Un
open Go.RowKit
def Tw4 (q1 q2 : Nat) (a1 a2 : Array Value) (V : World) : Prop := V.heap[q1]? = some (.cells a1 3 (0, 0)) ∧ V.heap[q2]? = some (.cells a2 3 (0, 0))
theorem Tw4.below {q1 q2 : Nat} {a1 a2 : Array Value} {V U : World} (h : Tw4 q1 q2 a1 a2 V) (hb : Below V.heap.size V U) : Tw4 q1 q2 a1 a2 U := ⟨(hb.block _ (lt_of_row h.1)).trans h.1, (hb.block _ (lt_of_row h.2)).trans h.2⟩
theorem Tw4.set {q1 q2 q : Nat} {a1 a2 : Array Value} {V : World} (h : Tw4 q1 q2 a1 a2 V) (hq : q < q1 ∧ q1 < q2) (cs : Array Value) : Tw4 q1 q2 a1 a2 (V.setRow q cs) := ⟨(Go.Proofs.Ytljjpidigckheaa.setRow_other (by omega)).trans h.1, (Go.Proofs.Ytljjpidigckheaa.setRow_other (by omega)).trans h.2⟩
theorem stF_pos {f : Frc} {v sz : Int} (hf : 0 ≤ f.n) (hs : 1 ≤ sz) (hd : 1 ≤ f.d) (h : f.n * sz < v * f.d) : 0 < v := by
 rcases Int.lt_or_le 0 v with h1 | h1
 · exact h1
 · have h2 := Int.mul_le_mul_of_nonneg_right h1 (show 0 ≤ f.d by omega)
   have h3 := Int.mul_nonneg hf (show 0 ≤ sz by omega)
   omega
def RetF9 (w : World) (f g : Frc) (e : Ending) (w' : World) : Prop := e = .returned (.tuple #[.agg #[I f.n, I f.d], .agg #[I g.n, I g.d]]) ∧ Below w.heap.size w w'
set_option maxRecDepth 100000 in
set_option maxHeartbeats 8000000 in
theorem refFlatness_any (x : Sht) (A : Option Addr) (n : Nat) (w : World) (B : Nat) (ho : okSh x = true) (hB : B ≤ w.heap.size) (hx : Rd w B 2 A x.s.length (rR x.s)) :
 Calls Try.prog 29 #[.agg (shA x A n)] w (RetF9 w (ff9 x false).1 (ff9 x true).1) := by
 have HRD : Hid (∀ V, Below w.heap.size w V → Rd V B 2 A x.s.length (rR x.s)) := fun V hV => hx.below (hV.mono hB)
 obtain ⟨WW, HH, eW, eH, bW, bH, eL⟩ := sh_nat ho
 obtain ⟨N, hN⟩ : ∃ N, x.s.length = N := ⟨_, rfl⟩
 have HL := Lib.hid hN
 have HZ := Lib.hid (sh_z ho)
 have HSP : Hid (∀ j, j < N → (at0 x.s j).lo ≤ (at0 x.s j).hi) := fun j hj => by
  obtain ⟨_, _, _, h4, _⟩ := okSh_iff.1 ho
  have := all9_at h4 (by omega : j < x.s.length)
  omega
 have HEN : Hid (∀ f g, FInv WW (at0 x.s) (QQ N N (N + 1) (N + 1 + 1) (N + 1 + 1 + 1) 0) f g → f = (ff9 x false).1 ∧ g = (ff9 x true).1) := fun f g h => by
  have := h.end (n := N) (qq_i N)
  unfold ff9 shG
  rw [eW, HL.out]
  exact this
 have HWH : Hid ((2 ≤ WW ∧ WW ≤ 6) ∧ (2 ≤ HH ∧ HH ≤ 6) ∧ N = WW * HH ∧ N ≤ 36) := by
  have h3 : WW * HH ≤ 6 * 6 := Nat.mul_le_mul bW.2 bH.2
  exact ⟨bW, bH, hN.symm.trans eL, by omega⟩
 have HEW := Lib.hid eW
 clear hx hB ho eW eH bW bH eL hN
 obtain ⟨W, hW⟩ : ∃ W, W = (((w.alloc (.cells #[I x.w, I x.h, I x.c.lo, I x.c.hi, .slice A x.s.length n] 37)).alloc (.cells #[I 0, I 0] 49)).alloc (.cells #[I 0, I 0] 49)) := ⟨_, rfl⟩
 have rowW0 : W.heap[w.heap.size]? = some (.cells #[I x.w, I x.h, I x.c.lo, I x.c.hi, .slice A x.s.length n] 37 (0, 0)) := by rw [hW]; exact heap_before (heap_before (heap_last _ _ _ rfl))
 have yW00 := ovr_cell (W := W) (b := w.heap.size) (o := 0) (v := I x.w) (by rw [cell_of_row _ _ _ _ _ _ rowW0]; rfl)
 have yW01 := ovr_cell (W := W) (b := w.heap.size) (o := 1) (v := I x.h) (by rw [cell_of_row _ _ _ _ _ _ rowW0]; rfl)
 have yW02 := ovr_cell (W := W) (b := w.heap.size) (o := 2) (v := I x.c.lo) (by rw [cell_of_row _ _ _ _ _ _ rowW0]; rfl)
 have yW03 := ovr_cell (W := W) (b := w.heap.size) (o := 3) (v := I x.c.hi) (by rw [cell_of_row _ _ _ _ _ _ rowW0]; rfl)
 have yW04 := ovr_cell (W := W) (b := w.heap.size) (o := 4) (v := .slice A x.s.length n) (by rw [cell_of_row _ _ _ _ _ _ rowW0]; rfl)
 have RrowW0 := Lib.hid (ovr_row rowW0)
 clear rowW0
 have rowW1 : W.heap[w.heap.size + 1]? = some (.cells #[I 0, I 0] 49 (0, 0)) := by rw [hW]; exact heap_before (heap_last _ _ _ (by simp))
 have yW10 := ovr_cell (W := W) (b := w.heap.size + 1) (o := 0) (v := I 0) (by rw [cell_of_row _ _ _ _ _ _ rowW1]; rfl)
 have yW11 := ovr_cell (W := W) (b := w.heap.size + 1) (o := 1) (v := I 0) (by rw [cell_of_row _ _ _ _ _ _ rowW1]; rfl)
 have RrowW1 := Lib.hid (ovr_row rowW1)
 clear rowW1
 have rowW2 : W.heap[w.heap.size + 1 + 1]? = some (.cells #[I 0, I 0] 49 (0, 0)) := by rw [hW]; exact heap_last _ _ _ (by simp)
 have yW20 := ovr_cell (W := W) (b := w.heap.size + 1 + 1) (o := 0) (v := I 0) (by rw [cell_of_row _ _ _ _ _ _ rowW2]; rfl)
 have yW21 := ovr_cell (W := W) (b := w.heap.size + 1 + 1) (o := 1) (v := I 0) (by rw [cell_of_row _ _ _ _ _ _ rowW2]; rfl)
 have RrowW2 := Lib.hid (ovr_row rowW2)
 clear rowW2
 have HUW : Hid (∀ u, Below w.heap.size w (ovr W u)) := U3 hW
 have HW := Lib.hid hW
 clear hW
 go_enter Try.func29, Try.ntmps29
 go_upto_region 1 with (fail)
 rw [← HW.out]
 obtain ⟨u0, hu0⟩ := ovr_self W
 rw [hu0]
 clear hu0
 go_upto_region 2 with fail
 obtain ⟨P4, hP4⟩ : ∃ q, q = (ovr W u0).heap.size := ⟨_, rfl⟩
 obtain ⟨P5, hP5⟩ : ∃ q, q = (ovr W u0).heap.size + 1 := ⟨_, rfl⟩
 obtain ⟨T0, hT0⟩ : ∃ X, X = ((ovr W u0).alloc (.cells #[I 0, I 1] 49)).alloc (.cells #[I 0, I 1] 49) := ⟨_, rfl⟩
 have S0 : Hid (FSt w x A n WW N P4 P5 0 (0 + 1) (0 + 1 + 1) (0 + 1 + 1 + 1) 0 T0) := by
  have hlt := lt_of_row (RrowW2.out u0)
  have hb : Below (ovr W u0).heap.size (ovr W u0) T0 := by rw [hT0]; exact ((Below.refl _ _).alloc (Nat.le_refl _) _).alloc (by simp) _
  refine ⟨⟨0, 1⟩, ⟨0, 1⟩, FInv.start (qq_0 N), ⟨by decide, by decide⟩, ⟨by decide, by decide⟩, ⟨(HUW.out u0).trans (hb.mono (HUW.out u0).size), (hb.block _ (lt_of_row (RrowW0.out u0))).trans (RrowW0.out u0), (hb.block _ (lt_of_row (RrowW1.out u0))).trans (RrowW1.out u0), (hb.block _ (lt_of_row (RrowW2.out u0))).trans (RrowW2.out u0), ?_, ?_, by omega, by omega, by omega⟩⟩
  · rw [hT0, hP4]
    exact heap_before (heap_last _ _ _ rfl)
  · rw [hT0, hP5]
    exact heap_last _ _ _ (by simp)
 rw [← hP5, ← hP4]
 change Code.wp _ _ _ _ (((ovr W u0).alloc (.cells #[I 0, I 1] 49)).alloc (.cells #[I 0, I 1] 49))
 rw [← hT0]
 clear hT0 hP4 hP5 yW00 yW01 yW02 yW03 yW04 yW10 yW11 yW20 yW21 RrowW0 RrowW1 RrowW2 HUW
 have x4 : T0.cell? ⟨w.heap.size, 4, none⟩ = some (.slice A N n) := by
  obtain ⟨f, g, _, _, _, hr0⟩ := S0.out
  rw [← HL.out]
  exact (cell_of_row _ _ 4 _ _ _ hr0.sh).trans rfl
 have n36 := HWH.out.2.2.2
 go_wp2_with fail
 clear x4
 go_loopw [7] (fun iv wr => ∃ i : Nat, i ≤ N ∧ iv = .int .i64 i ∧ FSt w x A n WW N P4 P5 i (i + 1) (i + 1 + 1) (i + 1 + 1 + 1) 0 wr) (fun iv _ => N - (intOf iv).toNat)
 case atStart => exact ⟨0, Nat.zero_le _, rfl, S0.out⟩
 case round =>
  obtain ⟨i, hi, rfl, hst⟩ := hrel
  rename World => V1
  have S1 := Lib.hid hst
  clear hst S0
  by_cases hlt : i < N
  case neg =>
   obtain rfl : i = N := by omega
   have ki : decide ((i : Int) < (i : Int)) = false := decide_eq_false (by omega)
   clear hlt hi
   obtain ⟨f, g, hfi, _, _, hrow⟩ := S1.out
   obtain ⟨e1, e2⟩ := HEN.out f g hfi
   have HE := Lib.hid (And.intro e1 e2)
   clear hfi e1 e2 S1
   have HR := Lib.hid hrow
   have z0 : V1.cell? ⟨P4, 0, none⟩ = some (I f.n) := (cell_of_row _ _ 0 _ _ _ hrow.lo).trans rfl
   have z1 : V1.cell? ⟨P4, 1, none⟩ = some (I f.d) := (cell_of_row _ _ 1 _ _ _ hrow.lo).trans rfl
   have z2 : V1.cell? ⟨P5, 0, none⟩ = some (I g.n) := (cell_of_row _ _ 0 _ _ _ hrow.hi).trans rfl
   have z3 : V1.cell? ⟨P5, 1, none⟩ = some (I g.d) := (cell_of_row _ _ 1 _ _ _ hrow.hi).trans rfl
   have n1 : P4 ≠ w.heap.size + 1 := by have := hrow.ne; omega
   have n2 : P5 ≠ w.heap.size + 1 := by have := hrow.ne; omega
   have n3 : P4 ≠ w.heap.size + 1 + 1 := by have := hrow.ne; omega
   have n4 : P5 ≠ w.heap.size + 1 + 1 := by have := hrow.ne; omega
   have f1 : V1.frozen? ⟨w.heap.size + 1, 0, none⟩ = false := frozen_of_row _ _ _ _ _ hrow.r1
   have f2 : V1.frozen? ⟨w.heap.size + 1, 1, none⟩ = false := frozen_of_row _ _ _ _ _ hrow.r1
   have f3 : V1.frozen? ⟨w.heap.size + 1 + 1, 0, none⟩ = false := frozen_of_row _ _ _ _ _ hrow.r2
   have f4 : V1.frozen? ⟨w.heap.size + 1 + 1, 1, none⟩ = false := frozen_of_row _ _ _ _ _ hrow.r2
   clear hrow
   go_upto_region 32 with fail
   have v0 := Pr.Chg.ovl_cell (Pr.out2_ne (row := #[I f.n, I f.d]) (row' := #[I g.n, I g.d]) n1 n3) z0
   have v1 := Pr.Chg.ovl_cell (Pr.out2_ne (row := #[I f.n, I f.d]) (row' := #[I g.n, I g.d]) n1 n3) z1
   have v2 := Pr.Chg.ovl_cell (Pr.out2_ne (row := #[I f.n, I f.d]) (row' := #[I g.n, I g.d]) n2 n4) z2
   have v3 := Pr.Chg.ovl_cell (Pr.out2_ne (row := #[I f.n, I f.d]) (row' := #[I g.n, I g.d]) n2 n4) z3
   clear z0 z1 z2 z3 n1 n2 n3 n4 f1 f2 f3 f4
   refine Pr.wp_region_pre (Pr.Chg (Pr.out2 (w.heap.size + 1) (w.heap.size + 1 + 1) #[I f.n, I f.d] #[I g.n, I g.d])) (fun j => if j = 2 then some (Pr.RowAt (w.heap.size + 1) #[I f.n, I f.d] 49) else if j = 3 then some (Pr.RowAt (w.heap.size + 1 + 1) #[I g.n, I g.d] 49) else none) (Pr.Chg.of (Below.refl _ _).drew) (by kernel_rfl) (by kernel_rfl) (by kernel_rfl) ?_
   refine Pr.wpG_one rfl rfl rfl ?_; intro K hK; go_big_quiet_op; go_big_quiet_on
   refine Pr.wpG_one rfl rfl rfl ?_; intro K hK; go_big_quiet_op; go_big_quiet_on
   refine Pr.wpG_make (Pr.RowAt (w.heap.size + 1) #[I f.n, I f.d] 49) rfl rfl (fun w' hw' _ => ?_) (fun u hu => ?_)
   · obtain ⟨cs', hs', hcs⟩ := hw'.le.shape _ _ _ _ HR.out.r1
     exact Pr.store_grow 49 _ _ rfl (w.heap.size + 1) rfl cs' 49 hcs #[I f.n, I f.d] rfl (by simp [Value.oneCell']) hs'.symm (by kernel_rfl) Pr.out2_l
   clear hu
   simp only [Act.put]
   refine Pr.wpG_make (Pr.RowAt (w.heap.size + 1 + 1) #[I g.n, I g.d] 49) rfl rfl (fun w' hw' _ => ?_) (fun u hu => ?_)
   · obtain ⟨cs', hs', hcs⟩ := hw'.le.shape _ _ _ _ HR.out.r2
     exact Pr.store_grow 49 _ _ rfl (w.heap.size + 1 + 1) rfl cs' 49 hcs #[I g.n, I g.d] rfl (by simp [Value.oneCell']) hs'.symm (by kernel_rfl) (Pr.out2_r (by omega))
   clear hu
   simp only [Act.put]
   refine Pr.wpG_nil (fun w5 hw5 hG => ?_)
   have r1 := hG.1.2.now
   have r2 := hG.2.now
   have hbe := Lib.hid (hw5.le.below HR.out.bl HR.out.bl.size (fun k hk => Pr.out2_ne (by omega) (by omega)))
   clear hG hw5 v0 v1 v2 v3
   go_wp2_with fail
   refine bodyPost_ret (Pr.results_rows2 rfl _ _ (w.heap.size + 1) (w.heap.size + 1 + 1) 49 49 _ _ (0, 0) (0, 0) _ _ rfl r1 rfl r2 Try.underlying49 rfl (by kernel_rfl) Try.underlying49 rfl (by kernel_rfl)) rfl ?_
   exact ⟨by rw [← HE.out.1, ← HE.out.2], hbe.out⟩
  have ki : decide ((i : Int) < (N : Int)) = true := decide_eq_true (by omega)
  have mi : IntKind.i64.wrap ((i : Int) + 1) = ((i + 1 : Nat) : Int) := (IntWalk.i64_in _ (by omega)).trans (by omega)
  have hiN := Lib.hid hlt
  clear hlt hi
  go_wp2_with fail
  clear ki
  (try (rename i < N => h9; clear h9))
  go_loopw [8] (fun iv wr => ∃ j : Nat, (i < j ∧ j ≤ N) ∧ iv = .int .i64 j ∧ FSt w x A n WW N P4 P5 i j (j + 1) (j + 1 + 1) 0 wr) (fun iv _ => N - (intOf iv).toNat)
  case atStart => exact ⟨i + 1, ⟨by omega, hiN.out⟩, by go_num, S1.out⟩
  case round =>
   obtain ⟨j, hj, rfl, hst⟩ := hrel
   rename World => V2
   have S2 := Lib.hid hst
   clear hst S1
   by_cases hlt : j < N
   case neg =>
        obtain rfl : j = N := by omega
        have kj : decide ((j : Int) < (j : Int)) = false := decide_eq_false (by omega)
        have S3 := Lib.hid (S2.out.cong (qq_j j i))
        clear hlt hj
        go_wp2_with fail
        go_roundw
        case rel => exact ⟨i + 1, hiN.out, by go_num, S3.out⟩
        case measure => have := hiN.out; simp [intOf]; omega
   have kj : decide ((j : Int) < (N : Int)) = true := decide_eq_true (by omega)
   have mj : IntKind.i64.wrap ((j : Int) + 1) = ((j + 1 : Nat) : Int) := (IntWalk.i64_in _ (by omega)).trans (by omega)
   have hij := Lib.hid hj.1
   have hjN := Lib.hid hlt
   clear hlt hj
   go_wp2_with fail
   clear kj
   (try (rename j < N => h9; clear h9))
   go_loopw [9] (fun iv wr => ∃ k : Nat, (j < k ∧ k ≤ N) ∧ iv = .int .i64 k ∧ FSt w x A n WW N P4 P5 i j k (k + 1) 0 wr) (fun iv _ => N - (intOf iv).toNat)
   case atStart => exact ⟨j + 1, ⟨by omega, hjN.out⟩, by go_num, S2.out⟩
   case round =>
        obtain ⟨k, hk, rfl, hst⟩ := hrel
        rename World => V3
        have S3 := Lib.hid hst
        clear hst S2
        by_cases hlt : k < N
        case neg =>
         obtain rfl : k = N := by omega
         have kk : decide ((k : Int) < (k : Int)) = false := decide_eq_false (by omega)
         have S4 := Lib.hid (S3.out.cong (qq_k k i j))
         clear hlt hk
         go_wp2_with fail
         go_roundw
         case rel => exact ⟨j + 1, ⟨by have := hij.out; omega, hjN.out⟩, by go_num, S4.out⟩
         case measure => have := hjN.out; simp [intOf]; omega
        have kk : decide ((k : Int) < (N : Int)) = true := decide_eq_true (by omega)
        have mk : IntKind.i64.wrap ((k : Int) + 1) = ((k + 1 : Nat) : Int) := (IntWalk.i64_in _ (by omega)).trans (by omega)
        have hjk := Lib.hid hk.1
        have hkN := Lib.hid hlt
        clear hlt hk
        go_wp2_with fail
        clear kk
        (try (rename k < N => h9; clear h9))
        go_loopw [10] (fun iv wr => ∃ l : Nat, (k < l ∧ l ≤ N) ∧ iv = .int .i64 l ∧ FSt w x A n WW N P4 P5 i j k l 0 wr) (fun iv _ => N - (intOf iv).toNat)
        case atStart => exact ⟨k + 1, ⟨by omega, hkN.out⟩, by go_num, S3.out⟩
        case round =>
         obtain ⟨l, hl, rfl, hst⟩ := hrel
         rename World => V4
         have S4 := Lib.hid hst
         clear hst S3
         by_cases hlt : l < N
         case neg =>
          obtain rfl : l = N := by omega
          have kl : decide ((l : Int) < (l : Int)) = false := decide_eq_false (by omega)
          have S5 := Lib.hid (S4.out.cong (qq_l l i j k))
          clear hlt hl
          go_wp2_with fail
          go_roundw
          case rel => exact ⟨k + 1, ⟨by have := hjk.out; omega, hkN.out⟩, by go_num, S5.out⟩
          case measure => have := hkN.out; simp [intOf]; omega
         have kl : decide ((l : Int) < (N : Int)) = true := decide_eq_true (by omega)
         have ml : IntKind.i64.wrap ((l : Int) + 1) = ((l + 1 : Nat) : Int) := (IntWalk.i64_in _ (by omega)).trans (by omega)
         have hkl := Lib.hid hl.1
         have hlN := Lib.hid hlt
         clear hlt hl
         go_upto_region 16 with fail
         clear kl
         (try (rename l < N => h9; clear h9))
         obtain ⟨q1, hq1⟩ : ∃ q, q = V4.heap.size := ⟨_, rfl⟩
         obtain ⟨T, hT⟩ : ∃ X, X = V4.alloc (.cells #[I (i : Int), I (j : Int), I (k : Int), I (l : Int)] 3) := ⟨_, rfl⟩
         change Code.wp _ _ _ _ (V4.alloc (.cells #[I (i : Int), I (j : Int), I (k : Int), I (l : Int)] 3))
         have S5 : Hid (FSt w x A n WW N P4 P5 i j k l 0 T) := S4.out.below (by rw [hT]; exact (Below.refl _ _).alloc (Nat.le_refl _) _)
         have R1 : Hid (T.heap[q1]? = some (.cells #[I (i : Int), I (j : Int), I (k : Int), I (l : Int)] 3 (0, 0))) := by show _ = _; rw [hT]; exact heap_last _ _ _ hq1
         have HQ1 : Hid (P4 < q1 ∧ P5 < q1 ∧ w.heap.size < q1) := by
          obtain ⟨_, _, _, _, _, hr⟩ := S4.out
          show _ ∧ _ ∧ _
          rw [hq1]
          exact ⟨lt_of_row hr.lo, lt_of_row hr.hi, lt_of_row hr.sh⟩
         have x0 : T.cell? ⟨w.heap.size, 0, none⟩ = some (I (WW : Int)) := by
          obtain ⟨_, _, _, _, _, hr⟩ := S5.out
          rw [← HEW.out]
          exact (cell_of_row _ _ 0 _ _ _ hr.sh).trans rfl
         rw [← hq1, ← hT]
         have CT : Hid (∀ V a b c, a < N → b < N → c < N → Calls Try.prog 69 #[I (WW : Int), I (a : Int), I (b : Int), I (c : Int)] V fun e w' => e = .returned (I (crs (gPt WW a) (gPt WW b) (gPt WW c))) ∧ Below V.heap.size V w') := fun V a b c h1 h2 h3 => refTurn_any WW a b c HWH.out.1 (by omega) V
         have CA := Lib.hid fun V => CT.out V j k l hjN.out hkN.out hlN.out
         have CB := Lib.hid fun V => CT.out V i k l hiN.out hkN.out hlN.out
         have CC := Lib.hid fun V => CT.out V i j l hiN.out hjN.out hlN.out
         have CD := Lib.hid fun V => CT.out V i j k hiN.out hjN.out hkN.out
         have HBD : Hid (∀ s m, -50 ≤ wt9 (bl9 WW i j k l s) m ∧ wt9 (bl9 WW i j k l s) m ≤ 50) := fun s m => by
          have h1 := hiN.out; have h2 := hjN.out; have h3 := hkN.out; have h4 := hlN.out
          have h5 := HWH.out
          exact wt9_bd ⟨by omega, h5.1.2⟩ h5.2.1.2 (by rw [← h5.2.2.1]; omega) s m
         have hb0 := HBD.out true 0
         have hb1 := HBD.out true 1
         have hb2 := HBD.out true 2
         have hb3 := HBD.out true 3
         have HWT : Hid (∀ m, m < 4 → (#[I (wt9 (bl9 WW i j k l true) 0), I (wt9 (bl9 WW i j k l true) 1), I (wt9 (bl9 WW i j k l true) 2), I (wt9 (bl9 WW i j k l true) 3)] : Array Value)[m]? = some (I (wt9 (bl9 WW i j k l true) m))) := fun m hm => by
          match m, hm with
          | 0, _ => rfl
          | 1, _ => rfl
          | 2, _ => rfl
          | 3, _ => rfl
         have e0 : wt9 (bl9 WW i j k l true) 0 = crs (gPt WW j) (gPt WW k) (gPt WW l) := rfl
         have e1 : wt9 (bl9 WW i j k l true) 1 = -crs (gPt WW i) (gPt WW k) (gPt WW l) := rfl
         have e2 : wt9 (bl9 WW i j k l true) 2 = crs (gPt WW i) (gPt WW j) (gPt WW l) := rfl
         have e3 : wt9 (bl9 WW i j k l true) 3 = -crs (gPt WW i) (gPt WW j) (gPt WW k) := rfl
         obtain ⟨c0, hc0⟩ : ∃ c, crs (gPt WW j) (gPt WW k) (gPt WW l) = c := ⟨_, rfl⟩
         obtain ⟨c1, hc1⟩ : ∃ c, crs (gPt WW i) (gPt WW k) (gPt WW l) = c := ⟨_, rfl⟩
         obtain ⟨c2, hc2⟩ : ∃ c, crs (gPt WW i) (gPt WW j) (gPt WW l) = c := ⟨_, rfl⟩
         obtain ⟨c3, hc3⟩ : ∃ c, crs (gPt WW i) (gPt WW j) (gPt WW k) = c := ⟨_, rfl⟩
         rw [hc0] at CA e0
         rw [hc1] at CB e1
         rw [hc2] at CC e2
         rw [hc3] at CD e3
         rw [e0] at HWT hb0
         rw [e1] at HWT hb1
         rw [e2] at HWT hb2
         rw [e3] at HWT hb3
         have m1 : wrap64 (-c1) = -c1 := by unfold wrap64; omega
         have m3 : wrap64 (-c3) = -c3 := by unfold wrap64; omega
         clear hT hq1 hc0 hc1 hc2 hc3 e0 e1 e2 e3 CT S4 hb0 hb1 hb2 hb3
         have y0 := ovr_cell x0
         refine Gg.wp_region_make (fun j => if j = 5 then some (fun u _ => u = I c0) else if j = 11 then some (fun u _ => u = I c1) else if j = 18 then some (fun u _ => u = I c2) else if j = 24 then some (fun u _ => u = I c3) else if j = 26 then some (SlN T #[I c0, I (-c1), I c2, I (-c3)] 3 4) else none) (by kernel_rfl) (by kernel_rfl) (by kernel_rfl) ?_
         repeat (first | (refine Gg.wpG_one rfl rfl rfl ?_; intro K hK; go_big_quiet_op; go_big_quiet_on) | (refine Gg.wpG_skip rfl ?_; simp only [Act.put, List.setIfInBounds_toArray, List.set_cons_zero, List.set_cons_succ]))
         refine Gg.wpG_make (fun u _ => u = I c0) rfl rfl (fun w' hw' hk => ?_) (fun u hu => ?_)
         · go_simp
           exact call_grow (CA.out w')
         obtain ⟨_, _, rfl⟩ := hu
         simp only [Act.put, List.setIfInBounds_toArray, List.set_cons_zero, List.set_cons_succ]
         repeat (first | (refine Gg.wpG_one rfl rfl rfl ?_; intro K hK; go_big_quiet_op; go_big_quiet_on) | (refine Gg.wpG_skip rfl ?_; simp only [Act.put, List.setIfInBounds_toArray, List.set_cons_zero, List.set_cons_succ]))
         refine Gg.wpG_make (fun u _ => u = I c1) rfl rfl (fun w' hw' hk => ?_) (fun u hu => ?_)
         · go_simp
           exact call_grow (CB.out w')
         obtain ⟨_, _, rfl⟩ := hu
         simp only [Act.put, List.setIfInBounds_toArray, List.set_cons_zero, List.set_cons_succ]
         repeat (first | (refine Gg.wpG_one rfl rfl rfl ?_; intro K hK; go_big_quiet_op; go_big_quiet_on) | (refine Gg.wpG_skip rfl ?_; simp only [Act.put, List.setIfInBounds_toArray, List.set_cons_zero, List.set_cons_succ]))
         refine Gg.wpG_make (fun u _ => u = I c2) rfl rfl (fun w' hw' hk => ?_) (fun u hu => ?_)
         · go_simp
           exact call_grow (CC.out w')
         obtain ⟨_, _, rfl⟩ := hu
         simp only [Act.put, List.setIfInBounds_toArray, List.set_cons_zero, List.set_cons_succ]
         repeat (first | (refine Gg.wpG_one rfl rfl rfl ?_; intro K hK; go_big_quiet_op; go_big_quiet_on) | (refine Gg.wpG_skip rfl ?_; simp only [Act.put, List.setIfInBounds_toArray, List.set_cons_zero, List.set_cons_succ]))
         refine Gg.wpG_make (fun u _ => u = I c3) rfl rfl (fun w' hw' hk => ?_) (fun u hu => ?_)
         · go_simp
           exact call_grow (CD.out w')
         obtain ⟨_, _, rfl⟩ := hu
         simp only [Act.put, List.setIfInBounds_toArray, List.set_cons_zero, List.set_cons_succ]
         repeat (first | (refine Gg.wpG_one rfl rfl rfl ?_; intro K hK; go_big_quiet_op; go_big_quiet_on) | (refine Gg.wpG_skip rfl ?_; simp only [Act.put, List.setIfInBounds_toArray, List.set_cons_zero, List.set_cons_succ]))
         refine Gg.wpG_make (SlN T #[I c0, I (-c1), I c2, I (-c3)] 3 4) rfl rfl (fun w' hw' hk => ?_) (fun u hu => ?_)
         · go_simp
           exact sln_grow hw'
         obtain ⟨_, _, q2, rfl, _, _⟩ := hu
         simp only [Act.put, List.setIfInBounds_toArray, List.set_cons_zero, List.set_cons_succ]
         repeat (first | (refine Gg.wpG_one rfl rfl rfl ?_; intro K hK; go_big_quiet_op; go_big_quiet_on) | (refine Gg.wpG_skip rfl ?_; simp only [Act.put, List.setIfInBounds_toArray, List.set_cons_zero, List.set_cons_succ]))
         refine Gg.wpG_nil (fun w5 hw5 hG => ?_)
         have hB := hG.2.now.at
         obtain ⟨a1, ha1⟩ : ∃ a : Array Value, #[I (i : Int), I (j : Int), I (k : Int), I (l : Int)] = a := ⟨_, rfl⟩
         obtain ⟨a2, ha2⟩ : ∃ a : Array Value, #[I c0, I (-c1), I c2, I (-c3)] = a := ⟨_, rfl⟩
         have HIX : Hid (∀ m, m < 4 → a1[m]? = some (I (ix9 i j k l m : Int))) := fun m hm => by
          rw [← ha1]
          match m, hm with
          | 0, _ => rfl
          | 1, _ => rfl
          | 2, _ => rfl
          | 3, _ => rfl
         have HXN : Hid (∀ m, ix9 i j k l m < N) := fun m => by
          match m with
          | 0 => exact hiN.out
          | 1 => exact hjN.out
          | 2 => exact hkN.out
          | _ + 3 => exact hlN.out
         have S6 := Lib.hid (S5.out.below hw5.le)
         have D6 : Hid (Tw4 q1 q2 a1 a2 w5) := by
          rw [← ha1, ← ha2]
          exact ⟨(hw5.le.block _ (lt_of_row R1.out)).trans R1.out, hB.1⟩
         have HQ2 : Hid (q1 < q2) := Nat.lt_of_lt_of_le (lt_of_row R1.out) hB.2
         rw [ha2] at HWT
         clear hG hw5 hB y0 x0 CA CB CC CD S5 R1 m1 m3 ha1 ha2
         go_wp2_with fail
         go_loopw [13] (fun sv wr => ∃ t : Nat, t ≤ 2 ∧ sv = I (2 * (t : Int) - 1) ∧ FSt w x A n WW N P4 P5 i j k l t wr ∧ Tw4 q1 q2 a1 a2 wr) (fun sv _ => (3 - intOf sv).toNat)
         case atStart => exact ⟨0, by omega, rfl, S6.out, D6.out⟩
         case round =>
          obtain ⟨t, ht, rfl, hst, htw⟩ := hrel
          rename World => V5
          have S7 := Lib.hid hst
          have D7 := Lib.hid htw
          clear hst htw S6 D6
          by_cases hlt : t < 2
          case neg =>
           obtain rfl : t = 2 := by omega
           have S8 := Lib.hid (S7.out.cong (qq_s N i j k l))
           clear hlt ht
           rw [show (2 * ((2 : Nat) : Int) - 1) = 3 from rfl]
           go_wp2_with fail
           go_roundw
           case rel => exact ⟨l + 1, ⟨by have := hkl.out; omega, hlN.out⟩, by go_num, S8.out⟩
           case measure => have := hlN.out; simp [intOf]; omega
          obtain ⟨s, hs⟩ : ∃ s : Bool, t = if s then 1 else 0 := by
           rcases Nat.lt_or_ge t 1 with h | h
           · exact ⟨false, by simp only [Bool.false_eq_true, if_false]; omega⟩
           · exact ⟨true, by simp only [if_true]; omega⟩
          obtain ⟨sg, hsg⟩ : ∃ c : Int, 2 * (t : Int) - 1 = c := ⟨_, rfl⟩
          have HSG : Hid (∀ m, sg * wt9 (bl9 WW i j k l true) m = wt9 (bl9 WW i j k l s) m) := fun m => by
           have e : sg = if s then 1 else -1 := by
            rw [← hsg, hs]
            cases s <;> rfl
           rw [e]
           cases s
           · match m with
             | 0 => exact Int.neg_one_mul _
             | 1 => exact Int.neg_one_mul _
             | 2 => exact Int.neg_one_mul _
             | _ + 3 => exact Int.neg_one_mul _
           · show 1 * _ = _
             omega
          have HQT : Hid (∀ a b c d t', QQ N i j k l (t + 1) a b c d t' ↔ QQ N i j k l t a b c d t' ∨ (a = i ∧ b = j ∧ c = k ∧ d = l ∧ t' = s)) := by
           show ∀ a b c d t', _
           rw [hs]
           exact qq_t ⟨hij.out, hjk.out, hkl.out, hlN.out⟩ s
          have HS3 : Hid (sg + 2 = 2 * ((t + 1 : Nat) : Int) - 1 ∧ t < 2 ∧ sg ≤ 1 ∧ -1 ≤ sg) := by show _ ∧ _; omega
          have ks : decide (sg ≤ 1) = true := decide_eq_true (by omega)
          have ms : IntKind.i64.wrap (sg + 2) = sg + 2 := IntWalk.i64_in _ (by omega)
          rw [hsg]
          clear hs hsg hlt ht
          go_wp2_with fail
          go_loopw [17, 14, 15, 16] (fun mv lv hv zv wr => ∃ m : Nat, m ≤ 4 ∧ mv = .int .i64 m ∧ lv = I (smF (at0 x.s) false (bl9 WW i j k l s) (ix9 i j k l) m) ∧ hv = I (smF (at0 x.s) true (bl9 WW i j k l s) (ix9 i j k l) m) ∧ zv = I (szF (bl9 WW i j k l s) m) ∧ FSt w x A n WW N P4 P5 i j k l t wr ∧ Tw4 q1 q2 a1 a2 wr) (fun mv _ _ _ _ => 4 - (intOf mv).toNat)
          case atStart => exact ⟨0, by omega, rfl, rfl, rfl, rfl, S7.out, D7.out⟩
          case round =>
           obtain ⟨m, hm, rfl, rfl, rfl, rfl, hst, htw⟩ := hrel
           rename World => V6
           have S8 := Lib.hid hst
           have D8 := Lib.hid htw
           clear hst htw S7 D7
           by_cases hlt : m < 4
           case neg =>
            obtain rfl : m = 4 := by omega
            clear hlt hm
            rw [show ((4 : Nat) : Int) = 4 from rfl]
            rw [smF_end, smF_end, szF_end]
            obtain ⟨f, g, hfi, hfb, hgb, hrow⟩ := S8.out
            have hsb := szF_bd (HBD.out s) 4
            have hlb := smF_bd false (HBD.out s) HXN.out (fun j hj => HZ.out j (by rw [HL.out]; exact hj)) 4
            have hhb := smF_bd true (HBD.out s) HXN.out (fun j hj => HZ.out j (by rw [HL.out]; exact hj)) 4
            rw [szF_end] at hsb
            rw [smF_end] at hlb hhb
            obtain ⟨sz, hsz⟩ : ∃ c, Sz (gPt WW i) (gPt WW j) (gPt WW k) (gPt WW l) = c := ⟨_, rfl⟩
            by_cases h0 : sz = 0
            · have S9 : Hid (FSt w x A n WW N P4 P5 i j k l (t + 1) V6) := ⟨f, g, hfi.skip (by rw [hsz]; omega) HQT.out, hfb, hgb, hrow⟩
              have d0 : (sz == 0) = true := beq_iff_eq.2 h0
              rw [hsz]
              clear hfi hfb hgb hrow hsb hlb hhb hsz h0 S8
              go_wp2_with fail
              go_roundw
              case rel => exact ⟨t + 1, by have := HS3.out.2.1; omega, by rw [HS3.out.1], S9.out, D8.out⟩
              case measure => have := HS3.out; simp [intOf]; omega
            have d0 : (sz == 0) = false := by rw [beq_eq_false_iff_ne]; exact h0
            have hft := hfi.take (by rw [hsz]; rw [hsz] at hsb; omega) HQT.out
            obtain ⟨vl, hvl⟩ : ∃ c, val9 (at0 x.s) false (bl9 WW i j k l s) = c := ⟨_, rfl⟩
            obtain ⟨vh, hvh⟩ : ∃ c, val9 (at0 x.s) true (bl9 WW i j k l s) = c := ⟨_, rfl⟩
            rw [hsz, hvl, hvh] at hft
            rw [hsz] at hsb
            rw [hvl] at hlb
            rw [hvh] at hhb
            rw [hsz, hvl, hvh]
            have HSZ : Hid (1 ≤ sz ∧ sz ≤ 200) := by show _ ∧ _; omega
            have HVB : Hid (vl ≤ 200000000 ∧ vh ≤ 200000000) := by show _ ∧ _; omega
            have HFI := Lib.hid hft
            have HFB := Lib.hid (stF_bd hfb HVB.out.1 HSZ.out)
            have HGN := Lib.hid (stF_bd hgb HVB.out.2 HSZ.out)
            have HF0 := Lib.hid hfb
            have HGB := Lib.hid hgb
            have R0 := Lib.hid hrow
            obtain ⟨⟨f1, f2⟩, f3, f4⟩ := hfb
            obtain ⟨⟨g1, g2⟩, g3, g4⟩ := hgb
            have b1 := mul_bd9 (a := vl) (b := f.d) (A := 200000000) (B := 200) (by omega) (by omega) (by omega) (by omega)
            have b2 := mul_bd9 (a := f.n) (b := sz) (A := 200000000) (B := 200) (by omega) (by omega) (by omega) (by omega)
            have b3 := mul_bd9 (a := vh) (b := g.d) (A := 200000000) (B := 200) (by omega) (by omega) (by omega) (by omega)
            have b4 := mul_bd9 (a := g.n) (b := sz) (A := 200000000) (B := 200) (by omega) (by omega) (by omega) (by omega)
            have k1 : IntKind.i64.wrap (vl * f.d) = vl * f.d := IntWalk.i64_in _ (by omega)
            have k2 : IntKind.i64.wrap (f.n * sz) = f.n * sz := IntWalk.i64_in _ (by omega)
            have k3 : IntKind.i64.wrap (vh * g.d) = vh * g.d := IntWalk.i64_in _ (by omega)
            have k4 : IntKind.i64.wrap (g.n * sz) = g.n * sz := IntWalk.i64_in _ (by omega)
            have x0 : V6.cell? ⟨P4, 0, none⟩ = some (I f.n) := (cell_of_row _ _ 0 _ _ _ hrow.lo).trans rfl
            have x1 : V6.cell? ⟨P4, 1, none⟩ = some (I f.d) := (cell_of_row _ _ 1 _ _ _ hrow.lo).trans rfl
            clear hfi hft hrow hsb hlb hhb hsz hvl hvh h0 S8 f1 f2 f3 f4 g1 g2 g3 g4 b1 b2 b3 b4
            by_cases h1 : f.n * sz < vl * f.d
            · have d1 : decide (f.n * sz < vl * f.d) = true := decide_eq_true h1
              have hp := stF_pos HF0.out.1.1 HSZ.out.1 HF0.out.2.1 h1
              obtain ⟨ln, rfl⟩ : ∃ z : Nat, vl = (z : Int) := ⟨vl.toNat, by omega⟩
              obtain ⟨sn, hsn⟩ : ∃ z : Nat, sz = (z : Int) := ⟨sz.toNat, by have := HSZ.out.1; omega⟩
              have CL := Lib.hid (refLowest_any ln sn (by have := HSZ.out; omega) (by have := HVB.out; have := HSZ.out; omega))
              have HT : Hid (stF f (ln : Int) sz = low9 ln sz) := by show (if _ then _ else _) = _; rw [if_pos h1]
              rw [← hsn] at CL
              clear h1 hp hsn
              go_upto_region 29 with fail
              go_wp2_with fail
              refine (CL.out _).mono ?_
              rintro e VW ⟨rfl, hb⟩
              have R1 := Lib.hid (R0.out.below hb)
              have D1 := Lib.hid (D8.out.below hb)
              clear hb x0 x1 d1
              go_upto_region 30 with (with_reducible show wpList _ _ _ _ _ _; refine wpList_store_row rfl 49 _ _ rfl P4 rfl _ _ R1.out.lo #[I (low9 ln sz).n, I (low9 ln sz).d] rfl (by simp [Value.oneCell']) rfl (by kernel_rfl) ?_)
              obtain ⟨VX, hVX⟩ : ∃ V, V = VW.setRow P4 #[I (low9 ln sz).n, I (low9 ln sz).d] := ⟨_, rfl⟩
              have RX : Hid (FRow w x A n P4 P5 (stF f (ln : Int) sz) g VX) := by rw [HT.out, hVX]; exact R1.out.set4 _
              have DX : Hid (Tw4 q1 q2 a1 a2 VX) := by rw [hVX]; exact D1.out.set ⟨HQ1.out.1, HQ2.out⟩ _
              rw [← hVX]
              clear hVX R1 D1 R0 D8 HT
              have y0 : VX.cell? ⟨P5, 0, none⟩ = some (I g.n) := (cell_of_row _ _ 0 _ _ _ RX.out.hi).trans rfl
              have y1 : VX.cell? ⟨P5, 1, none⟩ = some (I g.d) := (cell_of_row _ _ 1 _ _ _ RX.out.hi).trans rfl
              by_cases h2 : g.n * sz < vh * g.d
              · have d2 : decide (g.n * sz < vh * g.d) = true := decide_eq_true h2
                have hp := stF_pos HGB.out.1.1 HSZ.out.1 HGB.out.2.1 h2
                obtain ⟨vn, rfl⟩ : ∃ z : Nat, vh = (z : Int) := ⟨vh.toNat, by omega⟩
                obtain ⟨sn, hsn⟩ : ∃ z : Nat, sz = (z : Int) := ⟨sz.toNat, by have := HSZ.out.1; omega⟩
                have CL := Lib.hid (refLowest_any vn sn (by have := HSZ.out; omega) (by have := HVB.out; have := HSZ.out; omega))
                have HT : Hid (stF g (vn : Int) sz = low9 vn sz) := by show (if _ then _ else _) = _; rw [if_pos h2]
                rw [← hsn] at CL
                clear h2 hp hsn
                go_wp2_with fail
                refine (CL.out _).mono ?_
                rintro e VY ⟨rfl, hb⟩
                have RY := Lib.hid (RX.out.below hb)
                have DY := Lib.hid (DX.out.below hb)
                clear hb y0 y1 d2
                go_wp2_with (with_reducible show wpList _ _ _ _ _ _; refine wpList_store_row rfl 49 _ _ rfl P5 rfl _ _ RY.out.hi #[I (low9 vn sz).n, I (low9 vn sz).d] rfl (by simp [Value.oneCell']) rfl (by kernel_rfl) ?_)
                have SX : Hid (FSt w x A n WW N P4 P5 i j k l (t + 1) (VY.setRow P5 #[I (low9 vn sz).n, I (low9 vn sz).d])) := ⟨_, _, HFI.out, HFB.out, HGN.out, by rw [HT.out]; exact RY.out.set5 _⟩
                have DX := Lib.hid (DY.out.set (q := P5) ⟨HQ1.out.2.1, HQ2.out⟩ #[I (low9 vn sz).n, I (low9 vn sz).d])
                go_roundw
                case rel => exact ⟨t + 1, by have := HS3.out.2.1; omega, by rw [HS3.out.1], SX.out, DX.out⟩
                case measure => have := HS3.out; simp [intOf]; omega
              · have d2 : decide (g.n * sz < vh * g.d) = false := decide_eq_false h2
                have HT : Hid (stF g vh sz = g) := if_neg h2
                clear h2
                have SX : Hid (FSt w x A n WW N P4 P5 i j k l (t + 1) VX) := ⟨_, _, HFI.out, HFB.out, HGN.out, by rw [HT.out]; exact RX.out⟩
                go_wp2_with fail
                go_roundw
                case rel => exact ⟨t + 1, by have := HS3.out.2.1; omega, by rw [HS3.out.1], SX.out, DX.out⟩
                case measure => have := HS3.out; simp [intOf]; omega
            · have d1 : decide (f.n * sz < vl * f.d) = false := decide_eq_false h1
              have HT : Hid (stF f vl sz = f) := if_neg h1
              clear h1
              go_upto_region 30 with fail
              obtain ⟨VX, hVX⟩ : ∃ V, V = V6 := ⟨_, rfl⟩
              have RX : Hid (FRow w x A n P4 P5 (stF f vl sz) g VX) := by rw [HT.out, hVX]; exact R0.out
              have DX : Hid (Tw4 q1 q2 a1 a2 VX) := by rw [hVX]; exact D8.out
              rw [← hVX]
              clear hVX x0 x1 R0 D8 HT
              have y0 : VX.cell? ⟨P5, 0, none⟩ = some (I g.n) := (cell_of_row _ _ 0 _ _ _ RX.out.hi).trans rfl
              have y1 : VX.cell? ⟨P5, 1, none⟩ = some (I g.d) := (cell_of_row _ _ 1 _ _ _ RX.out.hi).trans rfl
              by_cases h2 : g.n * sz < vh * g.d
              · have d2 : decide (g.n * sz < vh * g.d) = true := decide_eq_true h2
                have hp := stF_pos HGB.out.1.1 HSZ.out.1 HGB.out.2.1 h2
                obtain ⟨vn, rfl⟩ : ∃ z : Nat, vh = (z : Int) := ⟨vh.toNat, by omega⟩
                obtain ⟨sn, hsn⟩ : ∃ z : Nat, sz = (z : Int) := ⟨sz.toNat, by have := HSZ.out.1; omega⟩
                have CL := Lib.hid (refLowest_any vn sn (by have := HSZ.out; omega) (by have := HVB.out; have := HSZ.out; omega))
                have HT : Hid (stF g (vn : Int) sz = low9 vn sz) := by show (if _ then _ else _) = _; rw [if_pos h2]
                rw [← hsn] at CL
                clear h2 hp hsn
                go_wp2_with fail
                refine (CL.out _).mono ?_
                rintro e VY ⟨rfl, hb⟩
                have RY := Lib.hid (RX.out.below hb)
                have DY := Lib.hid (DX.out.below hb)
                clear hb y0 y1 d2
                go_wp2_with (with_reducible show wpList _ _ _ _ _ _; refine wpList_store_row rfl 49 _ _ rfl P5 rfl _ _ RY.out.hi #[I (low9 vn sz).n, I (low9 vn sz).d] rfl (by simp [Value.oneCell']) rfl (by kernel_rfl) ?_)
                have SX : Hid (FSt w x A n WW N P4 P5 i j k l (t + 1) (VY.setRow P5 #[I (low9 vn sz).n, I (low9 vn sz).d])) := ⟨_, _, HFI.out, HFB.out, HGN.out, by rw [HT.out]; exact RY.out.set5 _⟩
                have DX := Lib.hid (DY.out.set (q := P5) ⟨HQ1.out.2.1, HQ2.out⟩ #[I (low9 vn sz).n, I (low9 vn sz).d])
                go_roundw
                case rel => exact ⟨t + 1, by have := HS3.out.2.1; omega, by rw [HS3.out.1], SX.out, DX.out⟩
                case measure => have := HS3.out; simp [intOf]; omega
              · have d2 : decide (g.n * sz < vh * g.d) = false := decide_eq_false h2
                have HT : Hid (stF g vh sz = g) := if_neg h2
                clear h2
                have SX : Hid (FSt w x A n WW N P4 P5 i j k l (t + 1) VX) := ⟨_, _, HFI.out, HFB.out, HGN.out, by rw [HT.out]; exact RX.out⟩
                go_wp2_with fail
                go_roundw
                case rel => exact ⟨t + 1, by have := HS3.out.2.1; omega, by rw [HS3.out.1], SX.out, DX.out⟩
                case measure => have := HS3.out; simp [intOf]; omega
           have HM := Lib.hid hlt
           obtain ⟨ix, hix⟩ : ∃ c : Nat, ix9 i j k l m = c := ⟨_, rfl⟩
           have hxn : ix < N := by rw [← hix]; exact HXN.out m
           obtain ⟨wt, hwt⟩ : ∃ c, wt9 (bl9 WW i j k l true) m = c := ⟨_, rfl⟩
           obtain ⟨bw, hbw⟩ : ∃ c, wt9 (bl9 WW i j k l s) m = c := ⟨_, rfl⟩
           have hbd := HBD.out s m
           have hsb := szF_bd (HBD.out s) m
           have hlb := smF_bd false (HBD.out s) HXN.out (fun j hj => HZ.out j (by rw [HL.out]; exact hj)) m
           have hhb := smF_bd true (HBD.out s) HXN.out (fun j hj => HZ.out j (by rw [HL.out]; exact hj)) m
           have x1 : V6.cell? ⟨q1, m, none⟩ = some (I (ix : Int)) := by rw [← hix]; exact (cell_of_row _ _ _ _ _ _ D8.out.1).trans (HIX.out m hlt)
           have x2 : V6.cell? ⟨q2, m, none⟩ = some (I wt) := by rw [← hwt]; exact (cell_of_row _ _ _ _ _ _ D8.out.2).trans (HWT.out m hlt)
           have k1 : IntKind.i64.wrap (sg * wt) = bw := by
            have h := HSG.out m
            rw [hwt, hbw] at h
            rw [h]
            exact IntWalk.i64_in _ (by omega)
           obtain ⟨xb, xo, rfl, _, e0, e1⟩ := (HRD.out V6 (by obtain ⟨_, _, _, _, _, hr⟩ := S8.out; exact hr.bl)).rng (show ix < x.s.length by rw [HL.out]; exact hxn)
           have x4 : V6.cell? ⟨w.heap.size, 4, none⟩ = some (.slice (some ⟨xb, xo, none⟩) N n) := by
            obtain ⟨_, _, _, _, _, hr⟩ := S8.out
            rw [← HL.out]
            exact (cell_of_row _ _ 4 _ _ _ hr.sh).trans rfl
           obtain ⟨rl, hrl⟩ : ∃ c, (at0 x.s ix).lo = c := ⟨_, rfl⟩
           obtain ⟨rh, hrh⟩ : ∃ c, (at0 x.s ix).hi = c := ⟨_, rfl⟩
           have hzz := HZ.out ix (by rw [HL.out]; exact hxn)
           have hsp := HSP.out ix hxn
           obtain ⟨sl, hsl⟩ : ∃ c, smF (at0 x.s) false (bl9 WW i j k l s) (ix9 i j k l) m = c := ⟨_, rfl⟩
           obtain ⟨sh, hsh⟩ : ∃ c, smF (at0 x.s) true (bl9 WW i j k l s) (ix9 i j k l) m = c := ⟨_, rfl⟩
           obtain ⟨sz, hsz⟩ : ∃ c, szF (bl9 WW i j k l s) m = c := ⟨_, rfl⟩
           have hrr : at0 x.s ix = ⟨rl, rh⟩ := by rw [← hrl, ← hrh]
           rw [hrl] at e0 hzz hsp
           rw [hrh] at e1 hzz hsp
           have HNX : Hid (smF (at0 x.s) false (bl9 WW i j k l s) (ix9 i j k l) (m + 1) = sl + min (bw * rl) (bw * rh) ∧ smF (at0 x.s) true (bl9 WW i j k l s) (ix9 i j k l) (m + 1) = sh + max (bw * rl) (bw * rh) ∧ szF (bl9 WW i j k l s) (m + 1) = sz + max bw (-bw)) := by
            refine ⟨?_, ?_, ?_⟩
            · show smF (at0 x.s) false (bl9 WW i j k l s) (ix9 i j k l) m + tm9 (wt9 (bl9 WW i j k l s) m) (at0 x.s (ix9 i j k l m)) false = _
              rw [hix, hbw, hsl, hrr, tm9_min hsp]
            · show smF (at0 x.s) true (bl9 WW i j k l s) (ix9 i j k l) m + tm9 (wt9 (bl9 WW i j k l s) m) (at0 x.s (ix9 i j k l m)) true = _
              rw [hix, hbw, hsh, hrr, tm9_max hsp]
            · show szF (bl9 WW i j k l s) m + max (wt9 (bl9 WW i j k l s) m) (-(wt9 (bl9 WW i j k l s) m)) = _
              rw [hbw, hsz]
           rw [hsl] at hlb ⊢
           rw [hsh] at hhb ⊢
           rw [hsz] at hsb ⊢
           rw [hbw] at hbd
           have b1 := mul_bd9 (a := bw) (b := rl) (A := 50) (B := 1000000) hbd hzz.1 (by omega) (by omega)
           have b2 := mul_bd9 (a := bw) (b := rh) (A := 50) (B := 1000000) hbd hzz.2 (by omega) (by omega)
           have k2 : IntKind.i64.wrap (bw * rl) = bw * rl := IntWalk.i64_in _ (by omega)
           have k3 : IntKind.i64.wrap (bw * rh) = bw * rh := IntWalk.i64_in _ (by omega)
           have k4 : IntKind.i64.wrap (sl + min (bw * rl) (bw * rh)) = sl + min (bw * rl) (bw * rh) := IntWalk.i64_in _ (by omega)
           have k5 : IntKind.i64.wrap (sh + max (bw * rl) (bw * rh)) = sh + max (bw * rl) (bw * rh) := IntWalk.i64_in _ (by omega)
           have k6 : wrap64 (-bw) = -bw := by unfold wrap64; omega
           have k7 : IntKind.i64.wrap (sz + max bw (-bw)) = sz + max bw (-bw) := IntWalk.i64_in _ (by omega)
           have d1 : decide ((m : Int) < 4) = true := decide_eq_true (by omega)
           have d2 : decide (m < 4) = true := decide_eq_true hlt
           have d3 : decide (ix < N) = true := decide_eq_true hxn
           have d4 : decide ((ix : Int) < (N : Int)) = true := decide_eq_true (by omega)
           have h1 : (m : Int) < 4 := by omega
           have h2 : (ix : Int) < (N : Int) := by omega
           have h3 : (0 : Int) ≤ (m : Int) := by omega
           have h4 : (0 : Int) ≤ (ix : Int) := by omega
           have mm : IntKind.i64.wrap ((m : Int) + 1) = ((m + 1 : Nat) : Int) := (IntWalk.i64_in _ (by omega)).trans (by omega)
           have v1 := ovr_cell x1
           have v2 := ovr_cell x2
           have v4 := ovr_cell x4
           have v5 := ovr_cell e0
           have v6 := ovr_cell e1
           clear hix hwt hbw hbd hsb hlb hhb hrl hrh hzz hsp hsl hsh hsz hrr b1 b2 hm x1 x2 x4 e0 e1
           go_upto_region 24 with fail
           refine Dl.wp_region_late 15 [8, 9, 10, 11, 12, 13] (fun t => if t = 14 then some (NewAt V6 #[I 0, I 0] 24) else none) (by kernel_rfl) (by kernel_rfl) (by kernel_rfl) (by kernel_rfl) [14] (E := 24)
            ⟨by kernel_rfl, alloc_rng9, fun t ht => by simp only [List.mem_cons, List.not_mem_nil, or_false] at ht; rcases ht with rfl; exact ⟨_, _, _, rfl⟩⟩ (by kernel_rfl) (fun t ht => by simp only [List.mem_cons, List.not_mem_nil, or_false] at ht; rcases ht with rfl | rfl | rfl | rfl | rfl | rfl <;> rfl) (fun c a d v w h => by cases d <;> exact h) ?_
           simp only [List.take_succ_cons, List.take_zero, List.drop_succ_cons, List.drop_zero]
           repeat (refine Dk.wpG_one rfl rfl rfl ?_; intro K hK; go_big_quiet_op; go_big_quiet_on)
           refine Dk.wpG_make (NewAt V6 #[I 0, I 0] 24) rfl rfl (fun w' hw' _ => ?_) (fun u hu => ?_)
           · go_simp
             exact new_grow hw'
           obtain ⟨_, _, PR, rfl, _, _⟩ := hu
           simp only [Act.put, List.setIfInBounds_toArray, List.set_cons_zero, List.set_cons_succ]
           refine Dk.wpG_nil (fun w5 hw5 hG => ?_)
           have hn1 := (Box.now hG.2).at
           clear hG
           refine Dl.wpTailH_cons ?_
           refine wp_store_row 24 _ _ rfl PR rfl _ _ hn1.1 #[I rl, I rh] rfl (by simp [Value.oneCell']) rfl (by kernel_rfl) ?_
           have hc1 := below_setRow hw5.le hn1.2 #[I rl, I rh]
           refine ⟨Cl.of hc1, ?_⟩
           refine Dl.wpTailH_cons ?_
           refine wp_assign _ (I bw) rfl rfl ?_
           refine ⟨Cl.of hc1, ?_⟩
           refine Dl.wpTailH_nil ?_
           simp only [Act.put, List.setIfInBounds_toArray, List.set_cons_zero, List.set_cons_succ]
           obtain ⟨V7, hV7⟩ : ∃ V, V = w5.setRow PR #[I rl, I rh] := ⟨_, rfl⟩
           have rP : V7.heap[PR]? = some (.cells #[I rl, I rh] 24 (0, 0)) := by rw [hV7]; exact setRow_same hn1.1
           have S9 : Hid (FSt w x (some ⟨xb, xo, none⟩) n WW N P4 P5 i j k l t V7) := by rw [hV7]; exact S8.out.below hc1
           have D9 : Hid (Tw4 q1 q2 a1 a2 V7) := by rw [hV7]; exact D8.out.below hc1
           rw [← hV7]
           have p0 : V7.cell? ⟨PR, 0, none⟩ = some (I rl) := (cell_of_row _ _ _ _ _ _ rP).trans rfl
           have p1 : V7.cell? ⟨PR, 1, none⟩ = some (I rh) := (cell_of_row _ _ _ _ _ _ rP).trans rfl
           have v7 := ovr_cell p0
           have v8 := ovr_cell p1
           clear hV7 hn1 hc1 hw5 v1 v2 v4 v5 v6 rP S8 D8 p0 p1
           go_upto_region 25 with fail
           refine Dl.wp_region_late 22 [11, 12, 13, 14, 15, 16, 17, 18, 19, 20, 21] (fun _ => none) (by kernel_rfl) (by kernel_rfl) (by kernel_rfl) (by kernel_rfl) [] (E := 24) ⟨by kernel_rfl, alloc_rng9, fun j hj => by cases hj⟩ (by kernel_rfl) (fun i hi => by simp only [List.mem_cons, List.not_mem_nil, or_false] at hi; rcases hi with rfl | rfl | rfl | rfl | rfl | rfl | rfl | rfl | rfl | rfl | rfl <;> rfl) (fun c a d v w h => by cases d <;> exact h) ?_
           simp only [List.take_succ_cons, List.take_zero, List.drop_succ_cons, List.drop_zero]
           repeat (refine Dk.wpG_one rfl rfl rfl ?_; intro K hK; go_big_quiet_op; go_big_quiet_on)
           refine Dk.wpG_nil (fun w5 hw5 hG => ?_)
           clear hG v7 v8
           refine Dl.wpTailH_cons ?_
           refine wp_assign _ (I (sl + min (bw * rl) (bw * rh))) rfl rfl ?_
           refine ⟨hw5, ?_⟩
           refine Dl.wpTailH_cons ?_
           refine wp_assign _ (I (sh + max (bw * rl) (bw * rh))) rfl rfl ?_
           refine ⟨hw5, ?_⟩
           refine Dl.wpTailH_nil ?_
           simp only [Act.put, List.setIfInBounds_toArray, List.set_cons_zero, List.set_cons_succ]
           have S10 := Lib.hid (S9.out.below hw5.le)
           have D10 := Lib.hid (D9.out.below hw5.le)
           clear hw5 S9 D9
           go_wp2_with fail
           go_roundw
           case rel => exact ⟨m + 1, HM.out, by go_num, by rw [HNX.out.1], by rw [HNX.out.2.1], by rw [HNX.out.2.2], S10.out, D10.out⟩
           case measure => have := HM.out; simp [intOf]; omega
end Go.Proofs.Ytljjpidigckheaa.Un
