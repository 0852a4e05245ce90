/- The iterator over the levels of a lane, of package melt. -/
import Derived.Test.YtnkaoplgmglijaaDoorMe
import Derived.Test.YtnkaoplgmglijaaDoorSqf
import Derived.RangeFuncNested
import Derived.RangeFuncBound
import Derived.RangeFuncCalls
import Derived.RangeFuncLeaves
import Derived.Shelf.Abstract
import Derived.Shelf.RegionOpen
import Derived.OwnWalkIn
import Derived.TacticsInMore
import Derived.LoopNIn
import Derived.LoopIn
import Derived.Sort.CutIn
import Derived.Laws.OwnMore
namespace Go.Proofs.YtnkaoplgmglijaaDoor
open Go.RowKit
attribute [local go_sem] Oper.semAt_some
theorem rnd_nonneg {v c how : Int} (hv : 0 ≤ v) (hc : 1 ≤ c) : 0 ≤ (rnd v c how).1 := by
 have h0 : 0 ≤ v / c := Int.ediv_nonneg hv (by omega)
 by_cases h : (0 < v % c ∧ (how = 2 ∨ (how = 3 ∧ (c - v % c < v % c ∨ (v % c = c - v % c ∧ (v / c) % 2 = 1)))))
 · rw [rnd_up h]; show 0 ≤ v / c + 1; omega
 · rw [rnd_no h]; exact h0
theorem md_nonneg {a b c how : Int} (ha : 0 ≤ a) (hb : 0 ≤ b) : 0 ≤ (mdF a b c how).1 := by
 unfold mdF
 split
 · decide
 · split
   · decide
   · rename_i h
     split
     · exact rnd_nonneg (Int.mul_nonneg ha hb) (by
        rcases Int.lt_or_le c 1 with hc | hc
        · exact absurd (.inr (.inl hc)) h
        · exact hc)
     · decide
theorem pt_bd {share u m mass how : Int} (hu : 0 ≤ u) (hs : 0 ≤ share) (hm : 0 ≤ m) : 0 ≤ ptF share u m mass how ∧ ptF share u m mass how ≤ u := by
 have := md_nonneg (c := 10000 * mass) (how := how) hu (Int.mul_nonneg hs hm)
 unfold ptF
 omega
theorem isS_kd {x : Stp} (h : isS x = true) : x.kd = 1 ∨ x.kd = 2 ∨ x.kd = 3 ∨ x.kd = 4 := by
 unfold isS at h
 split at h
 · exact .inl (by assumption)
 · split at h
   · exact .inr (.inl (by assumption))
   · split at h
     · exact .inr (.inr (.inl (by assumption)))
     · split at h
       · exact .inr (.inr (.inr (by assumption)))
       · cases h
theorem ch_bd {x : Stp} {s : Nat} {d mass : Int} (hx : isS x = true) (hs : s < 3) (hd : 0 ≤ d) :
 (0 ≤ (chF x s d mass).1 ∧ 0 ≤ (chF x s d mass).2) ∧ (¬ (x.kd = 2 ∨ x.kd = 3) → (chF x s d mass).1 ≤ d ∧ (chF x s d mass).2 ≤ d) ∧ (x.kd = 2 ∨ x.kd = 3 → (chF x s d mass).1 ≤ 1000000000000 ∧ (chF x s d mass).2 ≤ 1000000000000) := by
 have hb := isS_by hx hs
 have hk := isS_kd hx
 have hm := isS_ms hx
 unfold chF
 split
 · rename_i h
   exact ⟨⟨hd, hd⟩, fun _ => ⟨Int.le_refl _, Int.le_refl _⟩, fun h' => by omega⟩
 · split
   · rename_i h
     have p1 := pt_bd (share := x.b (s * 2)) (m := x.ms) (mass := mass) (how := 1) hd hb.1 (by omega)
     have p2 := pt_bd (share := x.b (s * 2 + 1)) (m := x.ms) (mass := mass) (how := 2) hd (by omega) (by omega)
     exact ⟨⟨p1.1, p2.1⟩, fun _ => ⟨p1.2, p2.2⟩, fun h' => by omega⟩
   · split
     · have p1 := pt_bd (share := x.b (s * 2)) (m := 1) (mass := 1) (how := 1) hd hb.1 (by omega)
       have p2 := pt_bd (share := x.b (s * 2 + 1)) (m := 1) (mass := 1) (how := 2) hd (by omega) (by omega)
       exact ⟨⟨p1.1, p2.1⟩, fun _ => ⟨p1.2, p2.2⟩, fun h' => by omega⟩
     · exact ⟨⟨hb.1, by omega⟩, fun h' => by omega, fun _ => ⟨by omega, by omega⟩⟩
def wkD (m : Mlt) (c : Crs) (s : Nat) (st : Int) (l : List Stp) : Nat → Int
 | 0 => st
 | k + 1 => if (at0 l k).kd = 2 ∨ (at0 l k).kd = 3 then wkD m c s st l k + pkF c (at0 l k).kd (chF (at0 l k) s (wkD m c s st l k) (msK m l k)).1 (chF (at0 l k) s (wkD m c s st l k) (msK m l k)).2
   else wkD m c s st l k - pkF c (at0 l k).kd (chF (at0 l k) s (wkD m c s st l k) (msK m l k)).1 (chF (at0 l k) s (wkD m c s st l k) (msK m l k)).2
theorem pk_or (c : Crs) (kd lo hi : Int) : pkF c kd lo hi = lo ∨ pkF c kd lo hi = hi := by
 unfold pkF
 generalize (if kd = 1 then c.frozen else if kd = 4 then c.gone else c.added) = b
 rcases b with _ | _
 · exact .inl rfl
 · exact .inr rfl
theorem stE_isS {m : Mlt} {l : List Stp} {k : Nat} (h : stE m l k = 0) : isS (at0 l k) = true := by
 unfold stE at h
 split at h
 · exact absurd h (by decide)
 · rename_i h'; simpa using h'
theorem wk_bd {m : Mlt} {c : Crs} {s : Nat} {st : Int} {l : List Stp} (hs : s < 3) (hst : 0 ≤ st ∧ st ≤ 1000000000000) : ∀ k, (∀ j, j < k → stE m l j = 0) → 0 ≤ wkD m c s st l k ∧ wkD m c s st l k ≤ 1000000000000 + k * 1000000000000
 | 0, _ => ⟨hst.1, by show st ≤ _; omega⟩
 | k + 1, h => by
   have ih := wk_bd (m := m) (c := c) (l := l) hs hst k fun j hj => h j (by omega)
   have hb := ch_bd (mass := msK m l k) (stE_isS (h k (by omega))) hs ih.1
   have ho := pk_or c (at0 l k).kd (chF (at0 l k) s (wkD m c s st l k) (msK m l k)).1 (chF (at0 l k) s (wkD m c s st l k) (msK m l k)).2
   rw [wkD]
   generalize pkF c (at0 l k).kd (chF (at0 l k) s (wkD m c s st l k) (msK m l k)).1 (chF (at0 l k) s (wkD m c s st l k) (msK m l k)).2 = g at *
   split
   · rename_i h'
     have := hb.2.2 h'
     rcases ho with rfl | rfl <;> omega
   · rename_i h'
     have := hb.2.1 h'
     rcases ho with rfl | rfl <;> omega
abbrev lvA (m : Mlt) (c : Crs) (s : Nat) (st : Int) (l : List Stp) (k : Nat) : Array Value := #[I (chF (at0 l k) s (wkD m c s st l k) (msK m l k)).1, I (chF (at0 l k) s (wkD m c s st l k) (msK m l k)).2, I (wkD m c s st l (k + 1))]
abbrev Pl (n : Nat) : Type := { k : Nat // k < n }
def fwd (n : Nat) : Nat → List (Pl n)
 | 0 => [] | k + 1 => if h : k < n then fwd n k ++ [⟨k, h⟩] else fwd n k
theorem fwd_succ {n k : Nat} (h : k < n) : fwd n (k + 1) = fwd n k ++ [⟨k, h⟩] := by rw [fwd, dif_pos h]
theorem fwd_len {n : Nat} : ∀ {k : Nat}, k ≤ n → (fwd n k).length = k
 | 0, _ => rfl
 | k + 1, h => by rw [fwd_succ (by omega), List.length_append, fwd_len (by omega)]; rfl
def KpS (n : Nat) (X : Nat → Prop) (W W' : World) : Prop := (∀ k, k < n → ¬ X k → W'.heap[k]? = W.heap[k]?) ∧ W.heap.size ≤ W'.heap.size
theorem KpS.refl {n : Nat} {X : Nat → Prop} (W : World) : KpS n X W W := ⟨fun _ _ _ => rfl, Nat.le_refl _⟩
theorem KpS.trans {n : Nat} {X : Nat → Prop} {A B C : World} (h : KpS n X A B) (h' : KpS n X B C) : KpS n X A C := ⟨fun k hk hq => (h'.1 k hk hq).trans (h.1 k hk hq), Nat.le_trans h.2 h'.2⟩
theorem KpS.of_below {n m : Nat} {X : Nat → Prop} {A B : World} (h : Below m A B) (hm : n ≤ m) : KpS n X A B := ⟨fun k hk _ => h.block k (by omega), h.size⟩
theorem KpS.cell {n b o : Nat} {X : Nat → Prop} {A B : World} (h : KpS n X A B) (hb : b < n) (hq : ¬ X b) : B.cell? ⟨b, o, none⟩ = A.cell? ⟨b, o, none⟩ := by
 unfold World.cell?
 rw [h.1 b hb hq]
structure WkIn (W : World) (m : Mlt) (c : Crs) (s : Nat) (st : Int) (l : List Stp) (A : Option Addr) (d e B Bs Bl Bf qc qs : Nat) : Prop where
 l0 : W.cell? ⟨Bl, 0, none⟩ = some (I m.ms)
 l7 : W.cell? ⟨Bl, 7, none⟩ = some (.slice A l.length d)
 l8 : W.cell? ⟨Bl, 8, none⟩ = some (I s)
 s0 : W.cell? ⟨Bs, 0, none⟩ = some (I st)
 f0 : W.cell? ⟨Bf, 0, none⟩ = some (.func (.func 57) #[] #[.pointer (some ⟨qc, 0, none⟩), .pointer (some ⟨qs, 0, none⟩)])
 pk : PkIn W c A e l B qc qs
structure WkAt (n : Nat) (X : Nat → Prop) (B Bs Bl Bf qc qs : Nat) : Prop where
 bB : B ≤ n
 xB : ∀ k, k < B → ¬ X k
 bs : Bs < n ∧ ¬ X Bs
 bl : Bl < n ∧ ¬ X Bl
 bf : Bf < n ∧ ¬ X Bf
 bc : qc < n ∧ ¬ X qc
 bq : qs < n ∧ ¬ X qs
theorem WkIn.keep {W W' : World} {m : Mlt} {c : Crs} {s : Nat} {st : Int} {l : List Stp} {A : Option Addr} {d e B Bs Bl Bf qc qs n : Nat} {X : Nat → Prop} (h : WkIn W m c s st l A d e B Bs Bl Bf qc qs) (ha : WkAt n X B Bs Bl Bf qc qs) (hk : KpS n X W W') : WkIn W' m c s st l A d e B Bs Bl Bf qc qs :=
 ⟨(hk.cell ha.bl.1 ha.bl.2).trans h.l0, (hk.cell ha.bl.1 ha.bl.2).trans h.l7, (hk.cell ha.bl.1 ha.bl.2).trans h.l8, (hk.cell ha.bs.1 ha.bs.2).trans h.s0, (hk.cell ha.bf.1 ha.bf.2).trans h.f0,
   ⟨(hk.cell ha.bc.1 ha.bc.2).trans h.pk.c0, (hk.cell ha.bc.1 ha.bc.2).trans h.pk.c1, (hk.cell ha.bc.1 ha.bc.2).trans h.pk.c2, (hk.cell ha.bq.1 ha.bq.2).trans h.pk.s, h.pk.r.keep fun b _ hb => hk.cell (Nat.lt_of_lt_of_le hb ha.bB) (ha.xB b hb), Nat.le_trans h.pk.lt hk.2⟩⟩
set_option maxRecDepth 100000 in
set_option maxHeartbeats 4000000 in
theorem walk1_in (m : Mlt) (c : Crs) (s : Nat) (st : Int) (ls : List Stp) (A : Option Addr) (d e B Bs Bl Bf qc qs l n₀ N : Nat) (X : Nat → Prop) (hN : 2 ≤ N) (hs : s < 3) (hst : 0 ≤ st ∧ st ≤ 1000000000000) (hl : ls.length ≤ 200) (hM : isM m = true) (hE : ∀ j, j < ls.length → stE m ls j = 0)
 (ha : WkAt n₀ X B Bs Bl Bf qc qs) (J Jx : List (Pl ls.length) → World → Prop) (W : World) (hJ : AbidesFrom W.heap.size J) (hn₀ : n₀ ≤ W.heap.size)
 (hY : ∀ (k : Nat) (h : k < ls.length) W1, J (fwd ls.length k) W1 → YieldAt Fence.wide (N - 1) Tryd.prog l #[I (k : Int), .agg (lvA m c s st ls k)] W1 fun e W' =>
  (e = .returned (.bool true) ∧ J (fwd ls.length k ++ [⟨k, h⟩]) W' ∧ KpS n₀ X W1 W') ∨ (e = .returned (.bool false) ∧ Jx (fwd ls.length k ++ [⟨k, h⟩]) W'))
 (hw : WkIn W m c s st ls A d e B Bs Bl Bf qc qs) (h0 : J [] W) :
 CallsIn Fence.wide N Tryd.prog 58 #[.func (.yield l) #[] #[], .pointer (some ⟨Bs, 0, none⟩), .pointer (some ⟨Bl, 0, none⟩), .pointer (some ⟨Bf, 0, none⟩)] W fun e W' => (∃ v, e = .returned v) ∧
  ((∃ ys, ys = fwd ls.length ls.length ∧ J ys W') ∨ (∃ pre, True ∧ Jx pre W')) := by
 have HX : Hid (∀ W', KpS n₀ X W W' → WkIn W' m c s st ls A d e B Bs Bl Bf qc qs) := fun W' h => hw.keep ha h
 have HJ := Lib.hid hJ
 have HY := Lib.hid hY
 have H0 := Lib.hid h0
 have HE := Lib.hid hE
 have HM := Lib.hid hM
 have HA := Lib.hid ha
 have HS := Lib.hid hst
 have y0 := ovr_cell hw.l0
 have y3 := ovr_cell hw.s0
 clear hw hJ hY h0 hE hM ha hst
 refine callsIn_of_wp Tryd.func58 rfl trivial ?_ rfl
 simp only [Tryd.ntmps58, List.size_toArray, List.length_cons, List.length_nil, Nat.reduceAdd, Nat.reduceSub, Array.replicate_succ, Array.replicate_zero, List.push_toArray, List.append_toArray, List.nil_append, List.cons_append]
 have hF := Wd.wide
 gi_wp2
 refine wpIn_wide.2 ?_
 refine wp_region_below_lit (by kernel_rfl) (by kernel_rfl) ?_
 repeat (go_big_quiet_step (fail))
 refine wpQuiet_nil ?_
 intro w5 hb5
 have K5 : Hid (KpS n₀ X W w5) := KpS.of_below hb5 hn₀
 have H5 : Hid (J [] w5) := HJ.out _ W w5 none H0.out ⟨hb5.os, hb5.tape, hb5.output, hb5.size, fun j hj _ => hb5.block j hj⟩ (fun r e => by cases e)
 have y1 := (HX.out w5 K5.out).l7
 clear hb5 y0 y3
 gi_wp2
 clear y1
 gi_loopw [19, 5, 6] (fun i d5 ms wr => ∃ k : Nat, k ≤ ls.length ∧ i = .int .i64 k ∧ d5 = I (wkD m c s st ls k) ∧ ms = I (msK m ls k) ∧ J (fwd ls.length k) wr ∧ KpS n₀ X W wr)
  (fun i _ _ _ => ls.length - (intOf i).toNat)
 case atStart => exact ⟨0, Nat.zero_le _, rfl, rfl, rfl, H5.out, K5.out⟩
 case round =>
  obtain ⟨k, hk, rfl, rfl, rfl, hJs, hnx⟩ := hrel
  rename World => Y
  by_cases hlt : k < ls.length
  · have hw := HX.out Y hnx
    have ki : decide ((k : Int) < (ls.length : Int)) = true := decide_eq_true (by omega)
    have kn : decide (k < ls.length) = true := decide_eq_true hlt
    have kb : k < ls.length + 1 := by omega
    obtain ⟨b, o, rfl, _, x0, x1, x2, x3, x4, x5, x6, x7⟩ := hw.pk.r.stp hlt
    have HWk : Hid (WkIn Y m c s st ls (some ⟨b, o, none⟩) d e B Bs Bl Bf qc qs) := hw
    have y0 := hw.l7
    have y1 := hw.l8
    have y2 := hw.f0
    have hn₀Y : n₀ ≤ Y.heap.size := Nat.le_trans hn₀ hnx.2
    have HAt := HA.out
    have hEk := HE.out k hlt
    have hxS := stE_isS hEk
    have hD := wk_bd (m := m) (c := c) (l := ls) hs HS.out k fun j hj => HE.out j (by omega)
    have hD1 : -9223372036854775808 ≤ wkD m c s st ls (k + 1) ∧ wkD m c s st ls (k + 1) ≤ 9223372036854775807 := by
        have := wk_bd (m := m) (c := c) (l := ls) hs HS.out (k + 1) fun j hj => HE.out j (by omega)
        omega
    have hMs := msK_bd HM.out k fun j hj => HE.out j (by omega)
    have hMs1 := msK_bd HM.out (k + 1) fun j hj => HE.out j (by omega)
    have hlv : Hid (lvA m c s st ls k = #[I (chF (at0 ls k) s (wkD m c s st ls k) (msK m ls k)).1, I (chF (at0 ls k) s (wkD m c s st ls k) (msK m ls k)).2, I (wkD m c s st ls (k + 1))]) := rfl
    have hDs : Hid (wkD m c s st ls (k + 1) = if (at0 ls k).kd = 2 ∨ (at0 ls k).kd = 3 then wkD m c s st ls k + pkF c (at0 ls k).kd (chF (at0 ls k) s (wkD m c s st ls k) (msK m ls k)).1 (chF (at0 ls k) s (wkD m c s st ls k) (msK m ls k)).2
        else wkD m c s st ls k - pkF c (at0 ls k).kd (chF (at0 ls k) s (wkD m c s st ls k) (msK m ls k)).1 (chF (at0 ls k) s (wkD m c s st ls k) (msK m ls k)).2) := rfl
    have hMsS : Hid (msK m ls (k + 1) = grF (msK m ls k) (at0 ls k)) := rfl
    have cpk : Hid (∀ lo hi W', WkIn W' m c s st ls (some ⟨b, o, none⟩) d e B Bs Bl Bf qc qs → Calls Tryd.prog 57 #[I k, I lo, I hi, .pointer (some ⟨qc, 0, none⟩), .pointer (some ⟨qs, 0, none⟩)] W' fun e w' => e = .returned (I (pkF c (at0 ls k).kd lo hi)) ∧ Below W'.heap.size W' w') := fun lo hi W' h => pick1_any c (some ⟨b, o, none⟩) e ls B qc qs k lo hi W' h.pk hlt
    have cch : Hid (∀ W', Calls Tryd.prog 59 #[.agg (stpArr (at0 ls k)), I s, I (wkD m c s st ls k), I (msK m ls k)] W' fun e w' => e = .returned (.tuple #[I (chF (at0 ls k) s (wkD m c s st ls k) (msK m ls k)).1, I (chF (at0 ls k) s (wkD m c s st ls k) (msK m ls k)).2]) ∧ Below W'.heap.size W' w') := fun W' => choices_any (at0 ls k) s _ _ W' hxS hs (by omega) hMs
    have hxm := isS_ms hxS
    have cgr : Hid (∀ W', Calls Tryd.prog 18 #[I (msK m ls k), .agg (stpArr (at0 ls k))] W' fun e w' => e = .returned (I (grF (msK m ls k) (at0 ls k))) ∧ Below W'.heap.size W' w') := fun W' => grown_any (msK m ls k) (at0 ls k) W' (by omega) (fun h => by have := hxm h; omega)
    have hkd := isS_kd hxS
    have HJs := Lib.hid hJs
    have Hnx := Lib.hid hnx
    clear hw hJs hnx hEk hxS hMs hMs1 hxm
    obtain ⟨x, hx⟩ : ∃ x, at0 ls k = x := ⟨_, rfl⟩
    obtain ⟨dk, hdk⟩ : ∃ q, wkD m c s st ls k = q := ⟨_, rfl⟩
    obtain ⟨mk, hmk⟩ : ∃ q, msK m ls k = q := ⟨_, rfl⟩
    obtain ⟨dn, hdn⟩ : ∃ q, wkD m c s st ls (k + 1) = q := ⟨_, rfl⟩
    rw [hx] at x0 x1 x2 x3 x4 x5 x6 x7 hkd
    rw [hdn] at hD1
    rw [hdk] at hD ⊢
    rw [hmk] at ⊢
    simp only [hx, hdk, hmk, hdn] at hlv hDs hMsS cpk cch cgr
    obtain ⟨lo, hlo⟩ : ∃ q, (chF x s dk mk).1 = q := ⟨_, rfl⟩
    obtain ⟨hi, hhi⟩ : ∃ q, (chF x s dk mk).2 = q := ⟨_, rfl⟩
    simp only [hlo, hhi] at hlv hDs cch
    obtain ⟨g, hg⟩ : ∃ q, pkF c x.kd lo hi = q := ⟨_, rfl⟩
    have cpk : Hid (∀ W', WkIn W' m c s st ls (some ⟨b, o, none⟩) d e B Bs Bl Bf qc qs → Calls Tryd.prog 57 #[I k, I lo, I hi, .pointer (some ⟨qc, 0, none⟩), .pointer (some ⟨qs, 0, none⟩)] W' fun e w' => e = .returned (I g) ∧ Below W'.heap.size W' w') := by
        intro W' h; rw [← hg]; exact cpk.out lo hi W' h
    rw [hg] at hDs
    have HDN := Lib.hid hdn
    clear hx hdk hmk hdn hlo hhi hg
    gi_upto_region 4 with (fail)
    obtain ⟨V, hV⟩ : ∃ V, V = Y.alloc (.cells (stpArr x) 33) := ⟨_, rfl⟩
    have hYV : Below Y.heap.size Y V := by rw [hV]; exact (Below.refl _ _).alloc (Nat.le_refl _) _
    have rV : V.heap[Y.heap.size]? = some (.cells (stpArr x) 33 (0, 0)) := by rw [hV]; exact heap_last _ _ _ rfl
    have HRV : Hid (∀ W', Below V.heap.size V W' → W'.heap[Y.heap.size]? = some (.cells (stpArr x) 33 (0, 0))) := fun W' h => (h.block _ (Array.getElem?_eq_some_iff.1 rV).1).trans rV
    have HVW : Hid (∀ W', Below V.heap.size V W' → WkIn W' m c s st ls (some ⟨b, o, none⟩) d e B Bs Bl Bf qc qs ∧ Below Y.heap.size Y W') := fun W' h => ⟨HWk.out.keep HAt (KpS.of_below (hYV.trans (h.mono hYV.size)) hn₀Y), hYV.trans (h.mono hYV.size)⟩
    rw [← hV]
    obtain ⟨z0, z1, z2, z3, z4, z5, z6, z7⟩ := stp_cells rV
    have y1 := (HVW.out V (Below.refl _ _)).1.l8
    have HbV : Hid (Below V.heap.size V V) := Below.refl _ _
    clear hV hYV rV x0 x1 x2 x3 x4 x5 x6 x7 y0 y2
    gi_wp2
    refine ⟨trivial, fun _ => by omega, (hF.calls (cch.out V)).mono ?_⟩
    rintro e w3 ⟨rfl, hb3⟩
    have HB3 := Lib.hid hb3
    have HWK3 : Hid (WkIn w3 m c s st ls (some ⟨b, o, none⟩) d _ B Bs Bl Bf qc qs) := (HVW.out w3 hb3).1
    have y2 := HWK3.out.f0
    clear hb3 y1 z0 z1 z2 z3 z4 z5 z6 z7
    gi_wp2
    refine ⟨trivial, fun _ => by omega, (hF.calls (cpk.out w3 HWK3.out)).mono ?_⟩
    rintro e w4 ⟨rfl, hb4⟩
    have HB4 : Hid (Below V.heap.size V w4) := HB3.out.trans (hb4.mono HB3.out.size)
    obtain ⟨z0, z1, z2, z3, z4, z5, z6, z7⟩ := stp_cells (HRV.out w4 HB4.out)
    clear hb4 y2 hlt
    have hdn := hDs.out
    have HF : Hid (∀ w5, Below V.heap.size V w5 → J (fwd ls.length k) w5 ∧ KpS n₀ X W w5) := fun w5 h => by
        have h' := (HVW.out w5 h).2
        exact ⟨HJ.out _ Y w5 none HJs.out ⟨h'.os, h'.tape, h'.output, h'.size, fun j hj _ => h'.block j hj⟩ (fun r e => by cases e), Hnx.out.trans (KpS.of_below h' hn₀Y)⟩
    have HKN : Hid (k < ls.length) := by show _ < _; simpa using kn
    have key : ∃ b2 b3 : Bool, (x.kd == 2) = b2 ∧ (x.kd == 3) = b3 ∧ dn = (if (b2 || b3) = true then dk + g else dk - g) ∧ (b2 && b3) = false := by
        refine ⟨_, _, rfl, rfl, ?_, ?_⟩
        · rw [hdn]
          by_cases h2 : x.kd = 2 ∨ x.kd = 3
          · rw [if_pos h2, if_pos (by simpa using h2)]
          · rw [if_neg h2, if_neg (by simpa using h2)]
        · by_cases h2 : x.kd = 2
          · rw [h2]; rfl
          · have : (x.kd == 2) = false := by simpa using h2
            rw [this]; rfl
    clear hdn hkd hDs
    obtain ⟨b2, b3, e2, e3, hdn, hbb⟩ := key
    have wr : IntKind.i64.wrap dn = dn := IntWalk.i64_in _ hD1
    clear hD hD1
    rcases b2 with _ | _ <;> rcases b3 with _ | _
    case true.true => exact absurd hbb (by decide)
    all_goals
        simp only [Bool.or_true, Bool.or_false, if_true, Bool.false_eq_true, if_false] at hdn
        rw [hdn] at wr
        gi_wp2
        refine ⟨trivial, fun _ => by omega, (hF.calls (cgr.out w4)).mono ?_⟩
        rintro e w5 ⟨rfl, hb5⟩
        have HB5 : Hid (Below V.heap.size V w5) := HB4.out.trans (hb5.mono HB4.out.size)
        obtain ⟨fn, tmps, assign, body, hy, hR⟩ := HY.out k HKN.out w5 (HF.out w5 HB5.out).1
        rw [hlv.out, hdn] at hy
        clear hb5 z0 z1 z2 z3 z4 z5 z6 z7 e2 e3
        gi_wp2
        refine ⟨fun _ => by omega, hR.mono ?_⟩
        have HD : Hid (dn = wkD m c s st ls (k + 1)) := HDN.out.symm
        have HFx : Hid (KpS n₀ X W w5) := (HF.out w5 HB5.out).2
        clear hR wr hy hlv
        rintro e W3 (⟨rfl, hJ3, hk3⟩ | ⟨rfl, hJx3⟩)
        · have HJ3 : Hid (J (fwd ls.length (k + 1)) W3) := by show J _ _; rw [fwd_succ HKN.out]; exact hJ3
          have HK3 := Lib.hid (HFx.out.trans hk3)
          clear hJ3 hk3
          gi_wp2
          go_roundw
          case rel => exact ⟨k + 1, HKN.out, by go_num, by rw [← HD.out, hdn], by rw [hMsS.out], HJ3.out, HK3.out⟩
          case measure => simp [intOf]; have := HKN.out; omega
        · gi_wp2
          (try simp only [Exit.inBlock, Exit.then])
          refine bodyPost_ret (results_none rfl _ _ _) rfl ?_
          exact ⟨⟨_, rfl⟩, .inr ⟨_, trivial, hJx3⟩⟩
  · obtain rfl : k = ls.length := by omega
    have ki : decide ((ls.length : Int) < (ls.length : Int)) = false := decide_eq_false (by omega)
    have HJs := Lib.hid hJs
    clear hJs hnx
    gi_wp2
    go_end0
    exact ⟨⟨_, rfl⟩, .inl ⟨_, rfl, HJs.out⟩⟩
theorem walk_stops (m : Mlt) (c : Crs) (s : Nat) (st : Int) (ls : List Stp) (A : Option Addr) (d e B Bs Bl Bf qc qs n₀ N : Nat) (X : Nat → Prop) (w : World) (hN : 2 ≤ N) (hs : s < 3) (hst : 0 ≤ st ∧ st ≤ 1000000000000) (hl : ls.length ≤ 200) (hM : isM m = true) (hE : ∀ j, j < ls.length → stE m ls j = 0)
 (ha : WkAt n₀ X B Bs Bl Bf qc qs) (hn₀ : n₀ ≤ w.heap.size) (hw : WkIn w m c s st ls A d e B Bs Bl Bf qc qs) :
 SeqStopsK Fence.wide N Tryd.prog 58 #[.pointer (some ⟨Bs, 0, none⟩), .pointer (some ⟨Bl, 0, none⟩), .pointer (some ⟨Bf, 0, none⟩)] (fun x : Pl ls.length => #[I (x.1 : Int), .agg (lvA m c s st ls x.1)]) (KpS n₀ X) (fun ys => ys = fwd ls.length ls.length) (fun _ => True) ls.length w := fun l J Jx W hW hJ hJx hY h0 =>
 walk1_in m c s st ls A d e B Bs Bl Bf qc qs l n₀ N X hN hs hst hl hM hE ha J Jx W hJ (Nat.le_trans hn₀ hW.size) (fun k h W1 hj => hY (fwd ls.length k) ⟨k, h⟩ W1 hj (by rw [fwd_len (Nat.le_of_lt h)]; exact h)) (by
  have hle : ∀ b o, b < n₀ → W.cell? ⟨b, o, none⟩ = w.cell? ⟨b, o, none⟩ := fun b o hb => hW.cell (p := ⟨b, o, none⟩) (Nat.lt_of_lt_of_le hb hn₀)
  exact ⟨(hle _ _ ha.bl.1).trans hw.l0, (hle _ _ ha.bl.1).trans hw.l7, (hle _ _ ha.bl.1).trans hw.l8, (hle _ _ ha.bs.1).trans hw.s0, (hle _ _ ha.bf.1).trans hw.f0,
   ⟨(hle _ _ ha.bc.1).trans hw.pk.c0, (hle _ _ ha.bc.1).trans hw.pk.c1, (hle _ _ ha.bc.1).trans hw.pk.c2, (hle _ _ ha.bq.1).trans hw.pk.s, hw.pk.r.keep fun b o hb => hle b o (Nat.lt_of_lt_of_le hb ha.bB), Nat.le_trans hw.pk.lt hW.size⟩⟩) h0
end Go.Proofs.YtnkaoplgmglijaaDoor
