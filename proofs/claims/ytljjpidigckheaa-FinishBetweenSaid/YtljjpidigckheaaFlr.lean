/- The told proof of a flatness proves it, plainly. Two told proofs as facts that last; lists that lie apart from a row of zeros. -/
import Derived.Test.YtljjpidigckheaaBix
import Derived.Test.YtljjpidigckheaaKg
import Derived.Test.YtljjpidigckheaaKp
import Derived.Test.YtljjpidigckheaaOsh
namespace Go.Proofs.Ytljjpidigckheaa.Un
open Go.RowKit
theorem at0_apF (l r : List Int) {k : Nat} (hk : k < l.length) : at0 (l ++ r) k = at0 l k := by
 rw [at0_get (by rw [List.length_append]; omega), at0_get hk, List.getElem_append_left]
theorem at0_laF (l : List Int) (x : Int) {k : Nat} (hk : k = l.length) : at0 (l ++ [x]) k = x := by
 subst hk
 rw [at0_get (by rw [List.length_append]; simp)]; simp
theorem prS_app {W : Int} {z : Nat → Rng} {g : Bool} {S T U V : List Int} (hl : T.length = S.length) : ∀ k, k ≤ S.length → prS W z g (S ++ U) (T ++ V) k = prS W z g S T k
 | 0, _ => rfl
 | k + 1, h => by
   show prT W z g (prS W z g (S ++ U) (T ++ V) k) (at0 (S ++ U) k) (at0 (T ++ V) k) = prT W z g (prS W z g S T k) (at0 S k) (at0 T k)
   rw [prS_app hl k (by omega), at0_apF S U (by omega), at0_apF T V (by omega)]
theorem prK_app {n : Nat} {W : Int} {z : Nat → Rng} {g : Bool} {S T U V : List Int} (hl : T.length = S.length) : ∀ k, k ≤ S.length → prK n W z g (S ++ U) (T ++ V) k = prK n W z g S T k
 | 0, _ => rfl
 | k + 1, h => by
   show (prK n W z g (S ++ U) (T ++ V) k && prB n (prS W z g (S ++ U) (T ++ V) k) (at0 (S ++ U) k) (at0 (T ++ V) k)) = (prK n W z g S T k && prB n (prS W z g S T k) (at0 S k) (at0 T k))
   rw [prK_app hl k (by omega), prS_app hl k (by omega), at0_apF S U (by omega), at0_apF T V (by omega)]
def prW (W : Int) (z : Nat → Rng) (g : Bool) (p : Prf) : Nat → PrS
 | 0 => ⟨0, 0, 0, 0, 0, -1⟩ | k + 1 => if wtF p k = 0 then prW W z g p k else prT W z g (prW W z g p k) (atF p k) (wtF p k)
theorem prW_step {W : Int} {z : Nat → Rng} {g : Bool} {p : Prf} {n : Nat} {k : Nat} (hk : prS W z g (flK p k).1 (flK p k).2 (flK p k).1.length = prW W z g p k ∧ prK n W z g (flK p k).1 (flK p k).2 (flK p k).1.length = true)
 (hb : wtF p k ≠ 0 → prB n (prW W z g p k) (atF p k) (wtF p k) = true) : prS W z g (flK p (k + 1)).1 (flK p (k + 1)).2 (flK p (k + 1)).1.length = prW W z g p (k + 1) ∧ prK n W z g (flK p (k + 1)).1 (flK p (k + 1)).2 (flK p (k + 1)).1.length = true := by
 obtain ⟨h1, h2⟩ := hk
 obtain ⟨_, hl⟩ := flK_len p k
 unfold flK prW
 by_cases h0 : wtF p k = 0
 · rw [if_pos h0, if_pos h0]
   exact ⟨h1, h2⟩
 rw [if_neg h0, if_neg h0]
 simp only
 rw [show ((flK p k).1 ++ [atF p k]).length = (flK p k).1.length + 1 by simp]
 constructor
 · show prT W z g (prS W z g ((flK p k).1 ++ [atF p k]) ((flK p k).2 ++ [wtF p k]) (flK p k).1.length) (at0 ((flK p k).1 ++ [atF p k]) (flK p k).1.length) (at0 ((flK p k).2 ++ [wtF p k]) (flK p k).1.length) = _
   rw [prS_app hl _ (Nat.le_refl _), at0_laF _ _ rfl, at0_laF _ _ hl.symm, h1]
 · show (prK n W z g ((flK p k).1 ++ [atF p k]) ((flK p k).2 ++ [wtF p k]) (flK p k).1.length && prB n (prS W z g ((flK p k).1 ++ [atF p k]) ((flK p k).2 ++ [wtF p k]) (flK p k).1.length) (at0 ((flK p k).1 ++ [atF p k]) (flK p k).1.length) (at0 ((flK p k).2 ++ [wtF p k]) (flK p k).1.length)) = true
   rw [prS_app hl _ (Nat.le_refl _), prK_app hl _ (Nat.le_refl _), at0_laF _ _ rfl, at0_laF _ _ hl.symm, h1, h2, hb h0]
   rfl
theorem tm9_zero (r : Rng) (g : Bool) : tm9 0 r g = 0 := by
 unfold tm9
 split <;> exact Int.zero_mul _
theorem prW_m0 {W : Int} {z : Nat → Rng} {g : Bool} {p : Prf} (k : Nat) : (prW W z g p (k + 1)).m0 = (prW W z g p k).m0 + wtF p k := by
 show (if wtF p k = 0 then _ else _ : PrS).m0 = _
 split
 · omega
 · rfl
theorem prW_m1 {W : Int} {z : Nat → Rng} {g : Bool} {p : Prf} (k : Nat) : (prW W z g p (k + 1)).m1 = (prW W z g p k).m1 + wtF p k * (atF p k % W) := by
 show (if wtF p k = 0 then _ else _ : PrS).m1 = _
 split
 · rename_i h
   rw [h, Int.zero_mul, Int.add_zero]
 · rfl
theorem prW_m2 {W : Int} {z : Nat → Rng} {g : Bool} {p : Prf} (k : Nat) : (prW W z g p (k + 1)).m2 = (prW W z g p k).m2 + wtF p k * (atF p k / W) := by
 show (if wtF p k = 0 then _ else _ : PrS).m2 = _
 split
 · rename_i h
   rw [h, Int.zero_mul, Int.add_zero]
 · rfl
theorem prW_z {W : Int} {z : Nat → Rng} {g : Bool} {p : Prf} (k : Nat) : (prW W z g p (k + 1)).z = (prW W z g p k).z + tm9 (wtF p k) (z (atF p k).toNat) g := by
 show (if wtF p k = 0 then _ else _ : PrS).z = _
 split
 · rename_i h
   rw [h, tm9_zero, Int.add_zero]
 · rfl
theorem prW_sz {W : Int} {z : Nat → Rng} {g : Bool} {p : Prf} (k : Nat) : (prW W z g p (k + 1)).sz = (prW W z g p k).sz + max (wtF p k) (-(wtF p k)) := by
 show (if wtF p k = 0 then _ else _ : PrS).sz = _
 split
 · rename_i h
   rw [h]
   simp
 · rfl
theorem prW_last {W : Int} {z : Nat → Rng} {g : Bool} {p : Prf} (k : Nat) (h : (prW W z g p k).last < atF p k) : (prW W z g p (k + 1)).last ≤ atF p k := by
 show (if wtF p k = 0 then _ else _ : PrS).last ≤ _
 split
 · omega
 · exact Int.le_refl _
set_option maxHeartbeats 2000000 in
theorem flat_proves {x : Sht} (ho : okSh x = true) (g : Bool) : prR x (ff9 x g).1 (ff9 x g).2.1 (ff9 x g).2.2 g = true := by
 obtain ⟨WW, HH, eW, eH, bW, bH, eL⟩ := sh_nat ho
 have hZ := sh_z ho
 have hG : shG x = gridL WW (WW * HH) := by unfold shG; rw [eW, eL]; rfl
 have hin : ∀ q ∈ shG x, InG q := by rw [hG]; exact grid_in ⟨by omega, bW.2⟩ bH.2
 have hat : ∀ q ∈ shG x, q.at_ < x.s.length := by rw [hG, eL]; exact grid_at
 show prR x (ds9 (fl9 (shG x) (at0 x.s) g)) (flS (fl9 (shG x) (at0 x.s) g)).1 (flS (fl9 (shG x) (at0 x.s) g)).2 g = true
 have hok := (fl9_ok (shG x) (at0 x.s) g).2
 have hfk := fl9_fok (g := g) hin hat hZ
 have hfin := fl9_in (g := g) hin hat hZ
 obtain ⟨p, hp⟩ : ∃ p, fl9 (shG x) (at0 x.s) g = p := ⟨_, rfl⟩
 rw [hp] at hok hfk hfin ⊢
 rcases hs : p.s with _ | _
 · have e1 : ds9 p = ⟨0, 1⟩ := by unfold ds9; rw [hs]; rfl
   have e2 : flS p = ([], []) := by unfold flS; rw [hs]; rfl
   rw [e1, e2]
   unfold prR
   rw [if_pos ⟨by decide, rfl, Nat.zero_le _⟩]
   rfl
 obtain ⟨h1, h2, h3, _⟩ := hok hs
 obtain ⟨hsz, hfo⟩ := hfk hs
 have e1 : ds9 p = low9 p.v p.b.sz := by unfold ds9; rw [hs]; rfl
 have e2 : flS p = flK p 4 := by unfold flS; rw [hs]; rfl
 rw [e1, e2]
 rw [hG] at h1
 obtain ⟨a, b, c, d, ⟨o1, o2, o3, o4⟩, hzz, hpb⟩ := bal_idx.1 h1
 rw [← eL] at o4
 obtain ⟨l1, l2, _, l4, l5⟩ := low9_ok (n := p.v) (d := p.b.sz) (by omega)
 have ht : atF p 0 = (a : Int) ∧ atF p 1 = (b : Int) ∧ atF p 2 = (c : Int) ∧ atF p 3 = (d : Int) := by
  rcases hpb with h | h <;> (unfold atF; rw [h]; exact ⟨rfl, rfl, rfl, rfl⟩)
 obtain ⟨t0, t1, t2, t3⟩ := ht
 have hq0 := mo0 (gPt WW a) (gPt WW b) (gPt WW c) (gPt WW d)
 have hq1 := mo1 (gPt WW a) (gPt WW b) (gPt WW c) (gPt WW d)
 have hq2 := mo2 (gPt WW a) (gPt WW b) (gPt WW c) (gPt WW d)
 have hx : ∀ q : Nat, (q : Int) % (WW : Int) = (gPt WW q).x ∧ (q : Int) / (WW : Int) = (gPt WW q).y := fun q => ⟨rfl, rfl⟩
 have hw : (wtF p 0 = crs (gPt WW b) (gPt WW c) (gPt WW d) ∧ wtF p 1 = -crs (gPt WW a) (gPt WW c) (gPt WW d) ∧ wtF p 2 = crs (gPt WW a) (gPt WW b) (gPt WW d) ∧ wtF p 3 = -crs (gPt WW a) (gPt WW b) (gPt WW c)) ∨ (wtF p 0 = -crs (gPt WW b) (gPt WW c) (gPt WW d) ∧ wtF p 1 = - -crs (gPt WW a) (gPt WW c) (gPt WW d) ∧ wtF p 2 = -crs (gPt WW a) (gPt WW b) (gPt WW d) ∧ wtF p 3 = - -crs (gPt WW a) (gPt WW b) (gPt WW c)) := by
  rcases hpb with h | h
  · left; unfold wtF; rw [h]; exact ⟨rfl, rfl, rfl, rfl⟩
  · right; unfold wtF; rw [h]; exact ⟨rfl, rfl, rfl, rfl⟩
 have hbs : p.b.sz = Sz (gPt WW a) (gPt WW b) (gPt WW c) (gPt WW d) := by rcases hpb with h | h <;> (rw [h]; rfl)
 have hbv : p.v = 0 + tm9 (wtF p 0) (at0 x.s a) g + tm9 (wtF p 1) (at0 x.s b) g + tm9 (wtF p 2) (at0 x.s c) g + tm9 (wtF p 3) (at0 x.s d) g := by
  rw [h2, Int.zero_add]
  rcases hpb with h | h <;> (unfold wtF; rw [h]; rfl)
 have hwb : ∀ k, -50 ≤ wtF p k ∧ wtF p k ≤ 50 := fun k => by
  have := hfin.b
  match k with
  | 0 => exact this.w0
  | 1 => exact this.w1
  | 2 => exact this.w2
  | _ + 3 => exact this.w3
 have hB : ∀ (s : PrS) k, k < 4 → wtF p k ≠ 0 → s.last < atF p k → prB x.s.length s (atF p k) (wtF p k) = true := fun s k hk h0 hl => prB_iff.2 ⟨hl, by
  match k, hk with
  | 0, _ => rw [t0]; omega
  | 1, _ => rw [t1]; omega
  | 2, _ => rw [t2]; omega
  | 3, _ => rw [t3]; omega, by have := hwb k; omega, by have := hwb k; omega, h0⟩
 have r0 : (prW (WW : Int) (at0 x.s) g p 0).last < atF p 0 := by rw [t0]; show (-1 : Int) < _; omega
 have r1 : (prW (WW : Int) (at0 x.s) g p 1).last < atF p 1 := by
  have h : (prW (WW : Int) (at0 x.s) g p 1).last ≤ atF p 0 := prW_last 0 r0
  rw [t0] at h
  rw [t1]
  omega
 have r2 : (prW (WW : Int) (at0 x.s) g p 2).last < atF p 2 := by
  have h : (prW (WW : Int) (at0 x.s) g p 2).last ≤ atF p 1 := prW_last 1 r1
  rw [t1] at h
  rw [t2]
  omega
 have r3 : (prW (WW : Int) (at0 x.s) g p 3).last < atF p 3 := by
  have h : (prW (WW : Int) (at0 x.s) g p 3).last ≤ atF p 2 := prW_last 2 r2
  rw [t2] at h
  rw [t3]
  omega
 have k4 := prW_step (prW_step (prW_step (prW_step (k := 0) (W := (WW : Int)) (z := at0 x.s) (g := g) (p := p) (n := x.s.length) ⟨rfl, rfl⟩ fun h => hB _ 0 (by omega) h r0) fun h => hB _ 1 (by omega) h r1) fun h => hB _ 2 (by omega) h r2) fun h => hB _ 3 (by omega) h r3
 change prS (WW : Int) (at0 x.s) g (flK p 4).1 (flK p 4).2 (flK p 4).1.length = prW (WW : Int) (at0 x.s) g p 4 ∧ prK x.s.length (WW : Int) (at0 x.s) g (flK p 4).1 (flK p 4).2 (flK p 4).1.length = true at k4
 obtain ⟨k4, k5⟩ := k4
 have s0 : (prW (WW : Int) (at0 x.s) g p 4).m0 = 0 := by
  rw [prW_m0 3, prW_m0 2, prW_m0 1, prW_m0 0]
  show 0 + wtF p 0 + wtF p 1 + wtF p 2 + wtF p 3 = 0
  rcases hw with ⟨w0, w1, w2, w3⟩ | ⟨w0, w1, w2, w3⟩ <;> (rw [w0, w1, w2, w3]; omega)
 have s1 : (prW (WW : Int) (at0 x.s) g p 4).m1 = 0 := by
  rw [prW_m1 3, prW_m1 2, prW_m1 1, prW_m1 0, t0, t1, t2, t3, (hx a).1, (hx b).1, (hx c).1, (hx d).1]
  show 0 + _ + _ + _ + _ = (0 : Int)
  rcases hw with ⟨w0, w1, w2, w3⟩ | ⟨w0, w1, w2, w3⟩ <;> (rw [w0, w1, w2, w3]; grind)
 have s2 : (prW (WW : Int) (at0 x.s) g p 4).m2 = 0 := by
  rw [prW_m2 3, prW_m2 2, prW_m2 1, prW_m2 0, t0, t1, t2, t3, (hx a).2, (hx b).2, (hx c).2, (hx d).2]
  show 0 + _ + _ + _ + _ = (0 : Int)
  rcases hw with ⟨w0, w1, w2, w3⟩ | ⟨w0, w1, w2, w3⟩ <;> (rw [w0, w1, w2, w3]; grind)
 have s3 : (prW (WW : Int) (at0 x.s) g p 4).z = p.v := by
  rw [prW_z 3, prW_z 2, prW_z 1, prW_z 0, t0, t1, t2, t3, hbv]
  rfl
 have s4 : (prW (WW : Int) (at0 x.s) g p 4).sz = p.b.sz := by
  rw [prW_sz 3, prW_sz 2, prW_sz 1, prW_sz 0, hbs]
  show 0 + _ + _ + _ + _ = _
  unfold Sz mxa
  rcases hw with ⟨w0, w1, w2, w3⟩ | ⟨w0, w1, w2, w3⟩ <;> (rw [w0, w1, w2, w3]; omega)
 have hlen := flK_len p 4
 have hsm : 4 ≤ x.s.length := by omega
 have hne : (flK p 4).1.length ≠ 0 := fun h => by
  rw [h] at k4
  have : (prW (WW : Int) (at0 x.s) g p 4).sz = 0 := by rw [← k4]; rfl
  omega
 have hfo2 : fok (low9 p.v p.b.sz) = true := by
  have hv := hfin.v
  have hn : (low9 p.v p.b.sz).n ≤ p.v := by
   refine Int.le_of_mul_le_mul_right (a := p.b.sz) ?_ (by omega)
   rw [← l2]
   exact Int.mul_le_mul_of_nonneg_left l5 (by omega)
  have := l4 (by omega)
  have hs2 := hfin.b.sz
  exact fok_iff.2 ⟨by omega, l1, by omega⟩
 have he : prEnd (prW (WW : Int) (at0 x.s) g p 4) (low9 p.v p.b.sz) = true := by
  unfold prEnd
  rw [s0, s1, s2, s3, s4]
  have : fcm ⟨p.v, p.b.sz⟩ (low9 p.v p.b.sz) = 0 := cmpI_eq l2
  rw [this]
  rfl
 unfold prR
 rw [if_pos ⟨hfo2, hlen.2.symm, by omega⟩, if_neg hne, eW, k5, Bool.true_and, k4]
 exact he
end Go.Proofs.Ytljjpidigckheaa.Un
namespace Go.Proofs.Ytljjpidigckheaa.Un
open Go.RowKit
def NzL (S : List Int) : Prop := S.length = 0 ∨ ∃ k, k < S.length ∧ at0 S k ≠ 0
theorem proves_nz {x : Sht} {f : Frc} {S T : List Int} {g : Bool} (ho : okSh x = true) (h : prR x f S T g = true) : NzL S ∧ NzL T := by
 unfold prR at h
 split at h
 · rename_i hc
   obtain ⟨_, hl, _⟩ := hc
   split at h
   · rename_i h0
     exact ⟨.inl h0, .inl (by omega)⟩
   · rename_i h0
     rw [Bool.and_eq_true] at h
     obtain ⟨hk, he⟩ := h
     have hb : ∀ k, k < S.length → prB x.s.length (prS x.w (at0 x.s) g S T k) (at0 S k) (at0 T k) = true := fun k hks => by
        have := prK_le (show k + 1 ≤ S.length by omega) hk
        unfold prK at this
        rw [Bool.and_eq_true] at this
        exact this.2
     have hT : at0 T 0 ≠ 0 := (prB_iff.1 (hb 0 (by omega))).2.2.2.2
     refine ⟨.inr ?_, .inr ⟨0, by omega, hT⟩⟩
     rcases Nat.lt_or_ge 1 S.length with h1 | h1
     · refine ⟨1, h1, ?_⟩
       have h2 := (prS_at ho (prK_le (show 1 ≤ S.length by omega) hk)).last.1
       have h3 := (prB_iff.1 (hb 1 h1)).1
       omega
     · exfalso
       have e1 : S.length = 1 := by omega
       rw [e1] at he
       unfold prEnd at he
       rw [Bool.and_eq_true, decide_eq_true_eq] at he
       have : (0 : Int) + at0 T 0 = 0 := he.1
       omega
 · cases h
theorem rd_apart {w : World} {B P : Nat} {A : Option Addr} {S : List Int} {t : TypeId} {fr : Nat × Nat} (h : Rd w B 1 A S.length (rI S)) (hp : w.heap[P]? = some (.cells #[I 0, I 0, .slice none 0 0, .slice none 0 0] t fr)) (hS : NzL S) (cs : Array Value) : Rd (w.setRow P cs) B 1 A S.length (rI S) := fun h0 => by
 obtain ⟨b, o, hA, hlt, hc⟩ := h h0
 have hne : b ≠ P := by
  rintro rfl
  rcases hS with h1 | ⟨k, hk, hv⟩
  · omega
  have := hc k hk 0 (by omega)
  rw [cell_of_row _ _ _ _ _ _ hp] at this
  obtain ⟨j, hj⟩ : ∃ j, o + k * 1 + 0 = j := ⟨_, rfl⟩
  rw [hj] at this
  match j with
  | 0 => injection this with e; injection e with _ e; exact hv e.symm
  | 1 => injection this with e; injection e with _ e; exact hv e.symm
  | 2 => injection this with e; cases e
  | 3 => injection this with e; cases e
  | _ + 4 => cases this
 refine ⟨b, o, hA, hlt, fun k hk j hj => ?_⟩
 rw [← hc k hk j hj]
 unfold World.cell?
 rw [Go.Proofs.Ytljjpidigckheaa.setRow_other hne]
abbrev flB (f : Frc) (S T : List Int) (SA TA : Option Addr) (sn tn : Nat) : Array Value := #[I f.n, I f.d, .slice SA S.length sn, .slice TA T.length tn]
structure FfR (S1 T1 S2 T2 : List Int) (A1 C1 A2 C2 : Option Addr) (w : World) : Prop where
 s1 : Rd w w.heap.size 1 A1 S1.length (rI S1)
 t1 : Rd w w.heap.size 1 C1 T1.length (rI T1)
 s2 : Rd w w.heap.size 1 A2 S2.length (rI S2)
 t2 : Rd w w.heap.size 1 C2 T2.length (rI T2)
theorem FfR.below {S1 T1 S2 T2 : List Int} {A1 C1 A2 C2 : Option Addr} {w V : World} (h : FfR S1 T1 S2 T2 A1 C1 A2 C2 w) (hb : Below w.heap.size w V) : FfR S1 T1 S2 T2 A1 C1 A2 C2 V :=
 ⟨(h.s1.below hb).more hb.size, (h.t1.below hb).more hb.size, (h.s2.below hb).more hb.size, (h.t2.below hb).more hb.size⟩
theorem FfR.set {S1 T1 S2 T2 : List Int} {A1 C1 A2 C2 : Option Addr} {w : World} {P : Nat} {t : TypeId} {fr : Nat × Nat} (h : FfR S1 T1 S2 T2 A1 C1 A2 C2 w) (hp : w.heap[P]? = some (.cells #[I 0, I 0, .slice none 0 0, .slice none 0 0] t fr)) (hz : (NzL S1 ∧ NzL T1) ∧ NzL S2 ∧ NzL T2) (cs : Array Value) : FfR S1 T1 S2 T2 A1 C1 A2 C2 (w.setRow P cs) := by
 have e : (w.setRow P cs).heap.size = w.heap.size := setRow_size ..
 refine ⟨?_, ?_, ?_, ?_⟩ <;> rw [e]
 · exact rd_apart h.s1 hp hz.1.1 cs
 · exact rd_apart h.t1 hp hz.1.2 cs
 · exact rd_apart h.s2 hp hz.2.1 cs
 · exact rd_apart h.t2 hp hz.2.2 cs
def FfAt (f1 : Frc) (S1 T1 : List Int) (f2 : Frc) (S2 T2 : List Int) (pe : Int) (u : Value) (w : World) : Prop := ∃ A1 m1 C1 n1 A2 m2 C2 n2, u = .tuple #[.agg (flB f1 S1 T1 A1 C1 m1 n1), .agg (flB f2 S2 T2 A2 C2 m2 n2), I pe] ∧ FfR S1 T1 S2 T2 A1 C1 A2 C2 w
theorem ff_grow {P : Program} {f : FuncId} {args : Array Value} {w : World} {f1 : Frc} {S1 T1 : List Int} {f2 : Frc} {S2 T2 : List Int} {pe : Int} (h : Calls P f args w (RetFF w ((f1, (S1, T1)), (f2, (S2, T2)), pe))) : Calls P f args w fun e w' => ∃ u, e = .returned u ∧ Le w w' ∧ Box (FfAt f1 S1 T1 f2 S2 T2 pe) u w' :=
 h.mono fun _ _ ⟨_, _, he, ⟨A1, m1, C1, n1, e1, _, _, ⟨q1, q2⟩, _, _⟩, ⟨A2, m2, C2, n2, e2, _, _, ⟨q3, q4⟩, _, _⟩, hb⟩ => ⟨_, he, hb, fun _ hl => ⟨A1, m1, C1, n1, A2, m2, C2, n2, by rw [e1, e2], (FfR.mk q1 q2 q3 q4).below hl⟩⟩
theorem FfAt.at {f1 : Frc} {S1 T1 : List Int} {f2 : Frc} {S2 T2 : List Int} {pe : Int} {A1 C1 A2 C2 : Option Addr} {m1 n1 m2 n2 : Nat} {w : World} (h : FfAt f1 S1 T1 f2 S2 T2 pe (.tuple #[.agg (flB f1 S1 T1 A1 C1 m1 n1), .agg (flB f2 S2 T2 A2 C2 m2 n2), I pe]) w) : FfR S1 T1 S2 T2 A1 C1 A2 C2 w := by
 obtain ⟨A1', m1', C1', n1', A2', m2', C2', n2', hu, hr⟩ := h
 obtain ⟨⟨⟨e1, _⟩, e2, _⟩, ⟨e3, _⟩, e4, _⟩ : ((A1 = A1' ∧ m1 = m1') ∧ C1 = C1' ∧ n1 = n1') ∧ (A2 = A2' ∧ m2 = m2') ∧ C2 = C2' ∧ n2 = n2' := by simpa using hu
 subst e1 e2 e3 e4
 exact hr
theorem alloc_flB (w : World) : ∃ w', (Instr.alloc 60 true (.tuple #[])).run Try.prog w = .ok (.pointer (some ⟨w.heap.size, 0, none⟩)) w' := ⟨w.alloc (.cells #[I 0, I 0, .slice none 0 0, .slice none 0 0] 60), by kernel_rfl⟩
theorem flF_parts (x : Sht) : ∃ f1 S1 T1 f2 S2 T2 pe, flF x = ((f1, (S1, T1)), (f2, (S2, T2)), pe) ∧ ((NzL S1 ∧ NzL T1) ∧ NzL S2 ∧ NzL T2) ∧ (okSh x = false → f1 = ⟨0, 0⟩ ∧ S1 = [] ∧ f2 = ⟨0, 0⟩ ∧ S2 = [] ∧ pe = 2) ∧ (okSh x = true → pe = 0 ∧ f1 = (ff9 x false).1 ∧ f2 = (ff9 x true).1 ∧ prR x f1 S1 T1 false = true ∧ prR x f2 S2 T2 true = true ∧ (S1.length ≤ 4 ∧ T1.length ≤ 4) ∧ S2.length ≤ 4 ∧ T2.length ≤ 4) := by
 unfold flF
 rcases ho : okSh x with _ | _
 · exact ⟨_, _, _, _, _, _, _, rfl, ⟨⟨.inl rfl, .inl rfl⟩, .inl rfl, .inl rfl⟩, fun _ => ⟨rfl, rfl, rfl, rfl, rfl⟩, fun h => by cases h⟩
 · have h1 := flat_proves ho false
   have h2 := flat_proves ho true
   have hl : ∀ g, (ff9 x g).2.1.length ≤ 4 ∧ (ff9 x g).2.2.length ≤ 4 := fun g => by
    show (flS (fl9 (shG x) (at0 x.s) g)).1.length ≤ 4 ∧ (flS (fl9 (shG x) (at0 x.s) g)).2.length ≤ 4
    have := flK_len (fl9 (shG x) (at0 x.s) g) 4
    unfold flS
    split
    · omega
    · exact ⟨Nat.zero_le _, Nat.zero_le _⟩
   exact ⟨(ff9 x false).1, (ff9 x false).2.1, (ff9 x false).2.2, (ff9 x true).1, (ff9 x true).2.1, (ff9 x true).2.2, 0, rfl, ⟨proves_nz ho h1, proves_nz ho h2⟩, fun h => absurd h (by decide), fun _ => ⟨rfl, rfl, rfl, h1, h2, hl false, hl true⟩⟩
end Go.Proofs.Ytljjpidigckheaa.Un
