/- Plain law of FinishNoBetter; two lists of integers under way. -/
import Derived.Test.YtljjpidigckheaaAw
import Derived.Test.YtljjpidigckheaaSap
import Derived.Test.YtljjpidigckheaaCmn
namespace Go.Proofs.Ytljjpidigckheaa.Pr
open Go.RowKit
theorem wp_region_seqP (L : Pre) (n : Nat) {P : Program} {id : Nat} {Q : Exit → Act → World → Prop} {a : Act} {w : World} {l : List Oper} (F : Nat → Option (Value → World → Prop)) (hdr : L.le w w.drew) (hm : P.follows .mixedOrders = true) (hB : Region.lexB .any (l.take n).toArray = true) (hu : uniqB (l.take n).toArray = true) (ht : seqB2 .any l n = true) (hd : noDefer l = true)
 (h : wpG L P .any (l.take n).toArray w F (fun a' w' => wpTailIn Fence.wide 0 P Q (l.drop n) a' w') (l.take n) 0 (fun _ => True) a) : (Code.region id l.toArray true).wp P Q a w :=
 wpIn_wide.1 (wpIn_region_seq L n Wd.wide F hdr hm hB hu ht hd h)
end Go.Proofs.Ytljjpidigckheaa.Pr
namespace Go.Proofs.Ytljjpidigckheaa.Un
open Go.RowKit
theorem bs_ok {W H : Int} {z z' : List Int} (h : okSh (bsX W H z) = true) (hl : z'.length = z.length) (hz : InH z') : okSh (bsX W H z') = true := by
 obtain ⟨h1, h2, h3, _, h5⟩ := okSh_iff.1 h
 refine okSh_iff.2 ⟨h1, h2, ?_, all9_iff.2 fun r hr => ?_, h5⟩
 · change ((exR z).length : Int) = W * H at h3
   show ((exR z').length : Int) = W * H
   rw [exR_len] at h3 ⊢
   rw [hl]
   exact h3
 · change r ∈ exR z' at hr
   obtain ⟨i, hi, rfl⟩ := List.mem_iff_getElem.1 hr
   have hi' : i < z'.length := by rw [exR_len] at hi; exact hi
   have e := exR_at hi'
   unfold at0 at e
   rw [List.getD_eq_getElem?_getD, List.getElem?_eq_getElem hi] at e
   change (exR z')[i] = _ at e
   rw [e]
   have := hz i hi'
   exact spn9_iff.2 ⟨this.1, Int.le_refl _, this.2⟩
theorem bs_h {W H : Int} {z : List Int} (ho : okSh (bsX W H z) = true) : InH z := fun j hj => by
 have := sh_z ho j (by show j < (exR z).length; rw [exR_len]; exact hj)
 change (_ ≤ (at0 (exR z) j).lo ∧ (at0 (exR z) j).lo ≤ _) ∧ _ at this
 rw [exR_at hj] at this
 exact this.1
def bsD (W : Int) (z : List Int) : Frc := ds9 (fl9 (gridL W.toNat z.length) (ex9 (at0 z)) true)
theorem bsD_fok {W H : Int} {z : List Int} (ho : okSh (bsX W H z) = true) : fok (bsD W z) = true := by
 have h := ff_fok ho true
 rw [best_ff ho rfl true] at h
 exact h
theorem bsD_nn (W : Int) (z : List Int) : 0 ≤ (bsD W z).n := (fl_lub _ _ _).2.1
def dnL (z : List Int) : List Int := (List.range z.length).map fun i => -(at0 z i)
def adL (W : Nat) (a b c : Int) (z : List Int) : List Int := (List.range z.length).map fun i => at0 z i + a * ((i : Int) % (W : Int)) + b * ((i : Int) / (W : Int)) + c
theorem mapr_at {f : Nat → Int} {n i : Nat} (h : i < n) : at0 ((List.range n).map f) i = f i := by
 unfold at0
 rw [List.getD_eq_getElem?_getD, List.getElem?_map, List.getElem?_range h]
 rfl
theorem bs_grd {W H : Int} {z : List Int} (ho : okSh (bsX W H z) = true) : Grd (gridL W.toNat z.length) := by
 obtain ⟨WW, HH, eW, eH, bW, bH, eL⟩ := sh_nat ho
 change W = _ at eW
 change (exR z).length = _ at eL
 rw [exR_len] at eL
 rw [eW, eL]
 exact grid_grd bW.1 bH.1
theorem bs_down {W H : Int} {z : List Int} (ho : okSh (bsX W H z) = true) : bsD W (dnL z) = bsD W z := by
 unfold bsD
 rw [show (dnL z).length = z.length from by simp [dnL]]
 refine flat_down (bs_grd ho) fun q hq => ?_
 obtain ⟨i, hi, rfl⟩ := mem_gPt hq
 exact mapr_at hi
theorem bs_added {W : Nat} {H : Int} {z : List Int} {a b c : Int} (ho : okSh (bsX (W : Int) H z) = true) : bsD (W : Int) (adL W a b c z) = bsD (W : Int) z := by
 unfold bsD
 rw [show (adL W a b c z).length = z.length from by simp [adL]]
 refine flat_added (A := a) (B := b) (C := c) (bs_grd ho) fun q hq => ?_
 obtain ⟨i, hi, rfl⟩ := mem_gPt hq
 refine (mapr_at hi).trans ?_
 show _ = at0 z i + a * ((i % W : Nat) : Int) + b * ((i / W : Nat) : Int) + c
 rw [Int.natCast_emod, Int.natCast_ediv]
theorem bs_better {W H : Nat} {z : List Int} {p : Pln} (ho : okSh (bsX (W : Int) (H : Int) z) = true) (hp : 0 < p.d) : Lef (bsD (W : Int) z) ⟨awK W z p z.length, p.d⟩ := by
 have := no_better (g := true) (bs_grd ho) (z := at0 z) hp (far := awK W z p z.length) (fun q hq => by
  obtain ⟨i, hi, rfl⟩ := mem_gPt hq
  exact awK_ge hi)
 exact this
structure Tw2 (w : World) (B : Nat) (va vb : Value) (f g : Nat → Int) (k : Nat) (L : List (Nat × Array Value × TypeId)) (V : World) : Prop where
 st : StL w L V
 lt : ∀ x ∈ L, x.1 < B
 hb : w.heap.size ≤ B ∧ B ≤ V.heap.size
 oa : V.ownsRow B 3 1 va k ((List.range k).map fun i => I (f i))
 ob : V.ownsRow B 3 1 vb k ((List.range k).map fun i => I (g i))
 ap : Apart va vb
theorem Tw2.below {w V U : World} {B : Nat} {va vb : Value} {f g : Nat → Int} {k : Nat} {L : List (Nat × Array Value × TypeId)} (h : Tw2 w B va vb f g k L V) (hb : Below V.heap.size V U) : Tw2 w B va vb f g k L U :=
 ⟨h.st.below hb, h.lt, ⟨h.hb.1, Nat.le_trans h.hb.2 hb.size⟩, own_below h.oa hb, own_below h.ob hb, h.ap⟩
theorem StL.grown {w X Y : World} {B : Nat} {L : List (Nat × Array Value × TypeId)} {row : Option Nat} (h : StL w L X) (hl : ∀ x ∈ L, x.1 < B) (hB : w.heap.size ≤ B) (hg : X.grownBy Y row) (hr : ∀ b, row = some b → B ≤ b) : StL w L Y :=
 ⟨h.1.grown hg h.1.size (fun k e => Nat.le_trans hB (hr k e)), fun x hx => row_grown hg (h.2 x hx) (fun e => by have := hr _ e; have := hl x hx; omega)⟩
theorem Tw2.done {w X w5 w6 : World} {B : Nat} {va vb va2 vb2 : Value} {f g : Nat → Int} {k : Nat} {L : List (Nat × Array Value × TypeId)} (h : Tw2 w B va vb f g k L X) (hg5 : X.grownBy w5 va.ownBlock)
 (ho1 : w5.ownsRow B 3 1 va2 (k + 1) (((List.range k).map fun i => I (f i)) ++ [I (f k)])) (hob1 : va2.ownBlock = va.ownBlock ∨ ∃ k, va2.ownBlock = some k ∧ X.heap.size ≤ k)
 (ho2 : w6.ownsRow B 3 1 vb2 (k + 1) (((List.range k).map fun i => I (g i)) ++ [I (g k)])) (hg6 : w5.grownBy w6 vb.ownBlock) (hob2 : vb2.ownBlock = vb.ownBlock ∨ vb2.ownBlock = some w5.heap.size) : Tw2 w B va2 vb2 f g (k + 1) L w6 := by
 have ha := h.oa.lt
 have hb := h.ob.lt
 refine ⟨(h.st.grown h.lt h.hb.1 hg5 (fun b e => (ha b e).1)).grown h.lt h.hb.1 hg6 (fun b e => (hb b e).1), h.lt, ⟨h.hb.1, Nat.le_trans h.hb.2 (Nat.le_trans hg5.size hg6.size)⟩, ?_, ?_, ?_⟩
 · rw [List.range_succ, List.map_append]
   refine own_other ho1 hg6 (fun b hvb e => ?_)
   rcases hob1 with h9 | ⟨c, h9, hc⟩
   · exact h.ap b e (h9.symm.trans hvb)
   · rw [h9] at hvb
     injection hvb with hvb
     have := (hb b e).2
     omega
 · rw [List.range_succ, List.map_append]
   exact ho2
 · intro b hv2 hva
   have hv1 := (ho1.lt b hva).2
   rcases hob2 with h9 | h9
   · rw [h9] at hv2
     rcases hob1 with h7 | ⟨c, h7, hc⟩
     · exact h.ap b hv2 (h7.symm.trans hva)
     · rw [h7] at hva
       injection hva with hva
       have := (hb b hv2).2
       omega
   · rw [h9] at hv2
     injection hv2 with hv2
     omega
theorem mapr_flat (f : Nat → Int) (n : Nat) : ((List.range n).map fun i => I (f i)) = flat 1 (rI ((List.range n).map f)) ((List.range n).map f).length := by
 rw [← ints_flat, List.map_map]
 rfl
theorem own_lit0 {w : World} {base b : Nat} {e : TypeId} {sz : Nat} (h : w.heap[b]? = some (.cells #[] e (0, 0))) (hb : base ≤ b) : w.ownsRow base e sz (.slice (some ⟨b, 0, none⟩) 0 0) 0 [] :=
 ⟨by simp, .inr ⟨b, 0, #[], rfl, hb, h, Nat.le_refl _, Nat.zero_le _, by simp, by simp⟩⟩
theorem own_map {V : World} {B n : Nat} {va : Value} {f : Nat → Int} (h : V.ownsRow B 3 1 va n ((List.range n).map fun i => I (f i))) : ∃ A c, va = .slice A n c ∧ Rd V V.heap.size 1 A n (rI ((List.range n).map f)) := by
 rw [mapr_flat] at h
 have e : ((List.range n).map f).length = n := by simp
 rw [e] at h
 obtain ⟨A, c, h1, _, _, h2⟩ := Rd.of_own_max h
 exact ⟨A, c, h1, h2⟩
theorem dnL_len (z : List Int) : (dnL z).length = z.length := by simp [dnL]
theorem adL_len (W : Nat) (a b c : Int) (z : List Int) : (adL W a b c z).length = z.length := by simp [adL]
theorem dnL_h {z : List Int} (h : InH z) : InH (dnL z) := fun j hj => by
 rw [dnL_len] at hj
 have e : at0 (dnL z) j = -(at0 z j) := mapr_at hj
 have := h j hj
 rw [e]
 omega
theorem adL_h {W H : Nat} {a b c : Int} {z : List Int} (hW : 1 ≤ W ∧ W ≤ 6) (hH : H ≤ 6) (hl : z.length = W * H) (ha : (-128 ≤ a ∧ a ≤ 127) ∧ (-128 ≤ b ∧ b ≤ 127) ∧ -128 ≤ c ∧ c ≤ 127) (hz : ∀ j, j < z.length → -100000 ≤ at0 z j ∧ at0 z j ≤ 100000) : InH (adL W a b c z) := fun j hj => by
 rw [adL_len] at hj
 have e : at0 (adL W a b c z) j = at0 z j + a * ((j : Int) % (W : Int)) + b * ((j : Int) / (W : Int)) + c := mapr_at hj
 have hg := gPt_in hW hH (show j < W * H by omega)
 unfold InG at hg
 change (0 ≤ ((j % W : Nat) : Int) ∧ ((j % W : Nat) : Int) ≤ 5) ∧ (0 ≤ ((j / W : Nat) : Int) ∧ ((j / W : Nat) : Int) ≤ 5) ∧ _ at hg
 rw [Int.natCast_emod, Int.natCast_ediv] at hg
 have h1 := mul_bd (a := a) (b := (j : Int) % (W : Int)) (A := 128) (B := 5) (by omega) (by omega)
 have h2 := mul_bd (a := b) (b := (j : Int) / (W : Int)) (A := 128) (B := 5) (by omega) (by omega)
 have := hz j hj
 rw [e]
 omega
end Go.Proofs.Ytljjpidigckheaa.Un
