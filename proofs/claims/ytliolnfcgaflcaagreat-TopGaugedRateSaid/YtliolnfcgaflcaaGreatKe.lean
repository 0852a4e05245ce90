/- Contract of touching of package finish. -/
import Derived.Test.YtliolnfcgaflcaaGreatKad
namespace Go.Proofs.YtliolnfcgaflcaaGreat.Un
open Go.RowKit
def StL (w : World) (L : List (Nat × Array Value × TypeId)) (V : World) : Prop := Below w.heap.size w V ∧ ∀ x ∈ L, V.heap[x.1]? = some (.cells x.2.1 x.2.2 (0, 0))
theorem StL.below {w V U : World} {L : List (Nat × Array Value × TypeId)} (h : StL w L V) (hb : Below V.heap.size V U) : StL w L U := ⟨h.1.trans (hb.mono h.1.size), fun x hx => (hb.block _ (lt_of_row (h.2 x hx))).trans (h.2 x hx)⟩
theorem StL.cons {w V : World} {L : List (Nat × Array Value × TypeId)} {b : Nat} {cs : Array Value} {t : TypeId} (h : StL w L V) (hr : V.heap[b]? = some (.cells cs t (0, 0))) : StL w ((b, cs, t) :: L) V := ⟨h.1, fun x hx => by
 rcases List.mem_cons.1 hx with rfl | hx
 · exact hr
 · exact h.2 x hx⟩
theorem StL.tail {w V : World} {L : List (Nat × Array Value × TypeId)} {x : Nat × Array Value × TypeId} (h : StL w (x :: L) V) : StL w L V := ⟨h.1, fun y hy => h.2 y (List.mem_cons_of_mem _ hy)⟩
theorem StL.setCell {w V : World} {L : List (Nat × Array Value × TypeId)} {b o : Nat} {v : Value} (h : StL w L V) (hb : w.heap.size ≤ b) (hn : ∀ x ∈ L, x.1 ≠ b) : StL w L (V.setCell ⟨b, o, none⟩ v) := ⟨sc_below h.1 hb _ _, fun x hx => sc_other (h.2 x hx) (hn x hx)⟩
/-! What has been looked at. -/
def Bad (l : List Pt) (z : Nat → Int) (d : Frc) (i j k s : Nat) : Prop := crs (pt9 l i) (pt9 l j) (pt9 l k) ≠ 0 → near9 (thS l z d i j k s) l z d = false
def N4 (l : List Pt) (z : Nat → Int) (d : Frc) (i j k s : Nat) : Prop := ∀ s', s' < s → Bad l z d i j k s'
def N3 (l : List Pt) (z : Nat → Int) (d : Frc) (i j k : Nat) : Prop := ∀ k', k' < k → N4 l z d i j k' 8
def N2 (l : List Pt) (z : Nat → Int) (d : Frc) (i j : Nat) : Prop := ∀ j', j' < j → N3 l z d i j' j'
def N1 (l : List Pt) (z : Nat → Int) (d : Frc) (i : Nat) : Prop := ∀ i', i' < i → N2 l z d i' i'
def TchR (l : List Pt) (z : Nat → Int) (d : Frc) (p : Pln) : Prop :=
 (∃ i j k s, k < j ∧ j < i ∧ i < l.length ∧ s < 8 ∧ crs (pt9 l i) (pt9 l j) (pt9 l k) ≠ 0 ∧ near9 (thS l z d i j k s) l z d = true ∧ p = thS l z d i j k s) ∨ (p = ⟨0, 0, 0, 1⟩ ∧ N1 l z d l.length)
theorem tch_found {z : Nat → Int} {d : Frc} {l : List Pt} {p : Pln} (hl : Grd l) (hd : 1 ≤ d.d) (hf : Fs z d.n d.d l) (h : TchR l z d p) : 0 < p.d ∧ near9 p l z d = true ∧ ∃ i j k s, k < j ∧ j < i ∧ i < l.length ∧ s < 8 ∧ crs (pt9 l i) (pt9 l j) (pt9 l k) ≠ 0 ∧ p = thS l z d i j k s := by
 rcases h with ⟨i, j, k, s, h1, h2, h3, h4, h5, h6, rfl⟩ | ⟨_, hN⟩
 · refine ⟨?_, h6, i, j, k, s, h1, h2, h3, h4, h5, rfl⟩
   unfold thS thrR
   rw [if_neg h5]
   exact thr_d h5 (by omega)
 · obtain ⟨i, j, k, s, h1, h2, h3, h4, h5, h6⟩ := tch_ex hl hd hf
   have := hN i h3 j h2 k h1 s h4 h5
   rw [h6] at this
   cases this
theorem atH_in {z : Nat → Int} {d : Frc} {q : Pt} {s : Int} (hd : InD d) (hz : -1000000 ≤ z q.at_ ∧ z q.at_ ≤ 1000000) (hs : s = 1 ∨ s = -1) : InM (atH z d.n d.d q s) := by
 obtain ⟨h1, h2, h3⟩ := hd
 have b1 := mul_bdF (a := z q.at_) (b := d.d) (A := 1000000) (B := 200) hz (by omega)
 unfold atH InM
 rcases hs with rfl | rfl <;> omega
theorem sg9_pm (s m : Nat) : sg9 s m = 1 ∨ sg9 s m = -1 := by unfold sg9; split <;> simp
theorem ixt (a0 a1 a2 b0 b1 b2 c0 c1 c2 : Value) (w : World) : (Instr.index 145 (.agg #[a0, a1, a2, b0, b1, b2, c0, c1, c2]) (.int .i64 0)).run Tryz.prog w = .ok (.agg #[a0, a1, a2]) w ∧ (Instr.index 145 (.agg #[a0, a1, a2, b0, b1, b2, c0, c1, c2]) (.int .i64 1)).run Tryz.prog w = .ok (.agg #[b0, b1, b2]) w ∧ (Instr.index 145 (.agg #[a0, a1, a2, b0, b1, b2, c0, c1, c2]) (.int .i64 2)).run Tryz.prog w = .ok (.agg #[c0, c1, c2]) w :=
 ⟨by kernel_rfl, by kernel_rfl, by kernel_rfl⟩
theorem sg_bits0 {s : Nat} (h : s < 8) : wrap64 (wrap64 (bits BinOp.and IntKind.i64 (s : Int) 1 * 2) - 1) = sg9 s 0 := by
 have hc : s = 0 ∨ s = 1 ∨ s = 2 ∨ s = 3 ∨ s = 4 ∨ s = 5 ∨ s = 6 ∨ s = 7 := by omega
 rcases hc with rfl | rfl | rfl | rfl | rfl | rfl | rfl | rfl <;> decide +kernel
theorem sg_bits1 {s : Nat} (h : s < 8) : wrap64 (wrap64 (bits BinOp.and IntKind.i64 ((s : Int) / 2) 1 * 2) - 1) = sg9 s 1 := by
 have hc : s = 0 ∨ s = 1 ∨ s = 2 ∨ s = 3 ∨ s = 4 ∨ s = 5 ∨ s = 6 ∨ s = 7 := by omega
 rcases hc with rfl | rfl | rfl | rfl | rfl | rfl | rfl | rfl <;> decide +kernel
theorem sg_bits2 {s : Nat} (h : s < 8) : wrap64 (wrap64 (bits BinOp.and IntKind.i64 ((s : Int) / 4) 1 * 2) - 1) = sg9 s 2 := by
 have hc : s = 0 ∨ s = 1 ∨ s = 2 ∨ s = 3 ∨ s = 4 ∨ s = 5 ∨ s = 6 ∨ s = 7 := by omega
 rcases hc with rfl | rfl | rfl | rfl | rfl | rfl | rfl | rfl <;> decide +kernel
set_option maxRecDepth 100000 in
set_option maxHeartbeats 8000000 in
theorem touching_any (l : List Pt) (zs : List Int) (d : Frc) (C : Option Addr) (dc : Nat) (A : Option Addr) (c B : Nat) (w : World) (hl : ∀ q ∈ l, InG q) (hn : ∀ q ∈ l, q.at_ < zs.length) (hz : InH zs) (hd : InD d) (hlen : l.length ≤ 36) (hdc : l.length ≤ dc ∧ dc ≤ maxLen) (hB : B ≤ w.heap.size) (hx : Rd w B 3 C l.length (rP l)) (hy : Rd w B 1 A zs.length (rI zs)) :
 Calls Tryz.prog 38 #[.slice C l.length dc, .slice A zs.length c, d.val] w fun e w' => (∃ p, e = .returned (.agg (plA p)) ∧ TchR l (at0 zs) d p) ∧ Below w.heap.size w w' := by
 have HRD : Hid (∀ V, Below w.heap.size w V → Rd V B 3 C l.length (rP l) ∧ Rd V B 1 A zs.length (rI zs) ∧ B ≤ V.heap.size) := fun V hV => ⟨hx.below (hV.mono hB), hy.below (hV.mono hB), Nat.le_trans hB hV.size⟩
 have HPT : Hid (∀ k, k < l.length → InG (pt9 l k) ∧ (pt9 l k).at_ < zs.length) := fun k hk => ⟨pt9_in hl hk, by
  have := hn _ (List.getElem_mem hk)
  unfold pt9
  rw [List.getD_eq_getElem?_getD, List.getElem?_eq_getElem hk]
  exact this⟩
 have HLN := Lib.hid (And.intro hl hn)
 have HIZ := Lib.hid hz
 have HID := Lib.hid hd
 have HLE := Lib.hid (And.intro hlen hdc)
 clear hx hy hB hl hn hz hd hlen hdc
 obtain ⟨W, hW⟩ : ∃ W, W = (w.alloc (.cells #[I d.n, I d.d] 47)).alloc (.cells #[I 0, I 0, I 0, I 0] 109) := ⟨_, rfl⟩
 have HST : Hid (StL w [(w.heap.size + 1, #[I 0, I 0, I 0, I 0], 109), (w.heap.size, #[I d.n, I d.d], 47)] W) := by
  refine ⟨by rw [hW]; exact ((Below.refl _ _).alloc (Nat.le_refl _) _).alloc (by simp) _, fun x hx => ?_⟩
  simp only [List.mem_cons, List.not_mem_nil, or_false] at hx
  rw [hW]
  rcases hx with rfl | rfl
  · exact heap_last _ _ _ (by simp)
  · exact heap_before (heap_last _ _ _ rfl)
 have HW := Lib.hid hW
 clear hW
 go_enter Tryz.func38, Tryz.ntmps38
 go_upto_region 1 with (fail)
 rw [← HW.out]
 go_wp2_with fail
 go_loopw [21] (fun iv wr => ∃ i : Nat, i ≤ l.length ∧ iv = .int .i64 i ∧ StL w [(w.heap.size + 1, #[I 0, I 0, I 0, I 0], 109), (w.heap.size, #[I d.n, I d.d], 47)] wr ∧ N1 l (at0 zs) d i) (fun iv _ => l.length - (intOf iv).toNat)
 case atStart => exact ⟨0, Nat.zero_le _, rfl, HST.out, fun i hi => absurd hi (by omega)⟩
 case round =>
  obtain ⟨i, hi, rfl, hst, hno⟩ := hrel
  rename World => V
  have HS1 := Lib.hid hst
  have HR6 : Hid (V.heap[w.heap.size + 1]? = some (.cells #[I 0, I 0, I 0, I 0] 109 (0, 0))) := hst.2 (w.heap.size + 1, #[I 0, I 0, I 0, I 0], 109) (by simp)
  have HN1 := Lib.hid hno
  clear hst hno HST
  by_cases hlt : i < l.length
  case neg =>
   obtain rfl : i = l.length := by omega
   have ki : decide ((l.length : Int) < (l.length : Int)) = false := decide_eq_false (by omega)
   clear hlt hi
   go_wp2_with (with_reducible show wpList _ _ _ _ _ _; refine wpList_store_row rfl 109 _ _ rfl (w.heap.size + 1) rfl _ _ HR6.out #[I 0, I 0, I 0, I 1] rfl (by simp [Value.oneCell']) rfl (by kernel_rfl) ?_)
   refine bodyPost_ret (results_cell_only rfl _ _ (w.heap.size + 1) 109 _ (0, 0) _ rfl (setRow_same (HR6.out)) Tryz.underlying109 rfl (by kernel_rfl)) rfl ?_
   exact ⟨⟨⟨0, 0, 0, 1⟩, rfl, .inr ⟨rfl, HN1.out⟩⟩, below_setRow HS1.out.1 (by omega) _⟩
  have HLT := Lib.hid hlt
  have hi36 : i ≤ 36 := by have := HLE.out.1; omega
  have ki : decide ((i : Int) < (l.length : Int)) = true := decide_eq_true (by omega)
  have ki2 : decide (i < l.length) = true := decide_eq_true hlt
  obtain ⟨b, o, rfl, _, e0, e1, e2⟩ := rd_pt (HRD.out V HS1.out.1).1 hlt
  change V.cell? ⟨b, o + i * 3, none⟩ = some (I ((pt9 l i).at_ : Int)) at e0
  change V.cell? ⟨b, o + i * 3 + 1, none⟩ = some (I (pt9 l i).x) at e1
  change V.cell? ⟨b, o + i * 3 + 2, none⟩ = some (I (pt9 l i).y) at e2
  have hic : l.length ≤ dc := HLE.out.2.1
  have n1 : (0 : Int) ≤ (i : Int) := by omega
  have n2 : ((i : Int)).toNat = i := by omega
  have n3 : (i : Int) ≤ (dc : Int) := by omega
  have hil : Hid (i < l.length) := hlt
  clear hlt hi HR6
  go_upto_region 4 with (fail)
  obtain ⟨qa, hqa⟩ : ∃ q, q = V.heap.size := ⟨_, rfl⟩
  obtain ⟨X, hX⟩ : ∃ X, X = V.alloc (.cells (ptA (pt9 l i)) 96) := ⟨_, rfl⟩
  have HS2 : Hid (StL w [(qa, ptA (pt9 l i), 96), (w.heap.size + 1, #[I 0, I 0, I 0, I 0], 109), (w.heap.size, #[I d.n, I d.d], 47)] X) :=
   (HS1.out.below (by rw [hX]; exact (Below.refl _ _).alloc (Nat.le_refl _) _)).cons (by rw [hX]; exact heap_last _ _ _ hqa)
  rw [← hqa, ← hX]
  clear hX hqa e0 e1 e2 HS1
  go_wp2_with fail
  clear n1 n2 n3
  go_loopw [30] (fun jv wr => ∃ j : Nat, j ≤ i ∧ jv = .int .i64 j ∧ StL w [(qa, ptA (pt9 l i), 96), (w.heap.size + 1, #[I 0, I 0, I 0, I 0], 109), (w.heap.size, #[I d.n, I d.d], 47)] wr ∧ N2 l (at0 zs) d i j) (fun jv _ => i - (intOf jv).toNat)
  case atStart => exact ⟨0, Nat.zero_le _, rfl, HS2.out, fun j hj => absurd hj (by omega)⟩
  case round =>
   obtain ⟨j, hj, rfl, hst, hno⟩ := hrel
   rename World => V2
   have HS3 := Lib.hid hst
   have HN2 := Lib.hid hno
   clear hst hno HS2
   by_cases hlt : j < i
   case neg =>
        obtain rfl : j = i := by omega
        have kj : decide ((j : Int) < (j : Int)) = false := decide_eq_false (by omega)
        have HN1' : Hid (N1 l (at0 zs) d (j + 1)) := fun i' hi' => by
         rcases Nat.lt_or_ge i' j with h9 | h9
         · exact HN1.out i' h9
         · obtain rfl : i' = j := by omega
           exact HN2.out
        clear hlt hj
        go_wp2_with fail
        go_roundw
        case rel => exact ⟨j + 1, hil.out, by go_num, HS3.out.tail, HN1'.out⟩
        case measure => have := hil.out; simp [intOf]; omega
   have hjl : Hid (j < i) := hlt
   have kj : decide ((j : Int) < (i : Int)) = true := decide_eq_true (by omega)
   have kj2 : decide (j < i) = true := decide_eq_true hlt
   obtain ⟨b', o', hbo, _, e0, e1, e2⟩ := rd_pt (HRD.out V2 HS3.out.1).1 (show j < l.length by have := hil.out; omega)
   obtain ⟨rfl, rfl⟩ : b' = b ∧ o' = o := by
        injection hbo with hbo
        injection hbo with h1 h2
        exact ⟨h1.symm, h2.symm⟩
   change V2.cell? ⟨b', o' + j * 3, none⟩ = some (I ((pt9 l j).at_ : Int)) at e0
   change V2.cell? ⟨b', o' + j * 3 + 1, none⟩ = some (I (pt9 l j).x) at e1
   change V2.cell? ⟨b', o' + j * 3 + 2, none⟩ = some (I (pt9 l j).y) at e2
   have n1 : (0 : Int) ≤ (j : Int) := by omega
   have n2 : ((j : Int)).toNat = j := by omega
   have n3 : (j : Int) ≤ (dc : Int) := by omega
   have hj36 : j ≤ 36 := by omega
   clear hlt hj hbo
   go_upto_region 7 with (fail)
   obtain ⟨qb, hqb⟩ : ∃ q, q = V2.heap.size := ⟨_, rfl⟩
   obtain ⟨X2, hX2⟩ : ∃ X, X = V2.alloc (.cells (ptA (pt9 l j)) 96) := ⟨_, rfl⟩
   have HS4 : Hid (StL w [(qb, ptA (pt9 l j), 96), (qa, ptA (pt9 l i), 96), (w.heap.size + 1, #[I 0, I 0, I 0, I 0], 109), (w.heap.size, #[I d.n, I d.d], 47)] X2) :=
        (HS3.out.below (by rw [hX2]; exact (Below.refl _ _).alloc (Nat.le_refl _) _)).cons (by rw [hX2]; exact heap_last _ _ _ hqb)
   rw [← hqb, ← hX2]
   clear hX2 hqb e0 e1 e2 HS3
   go_wp2_with fail
   clear n1 n2 n3
   go_loopw [39] (fun kv wr => ∃ k : Nat, k ≤ j ∧ kv = .int .i64 k ∧ StL w [(qb, ptA (pt9 l j), 96), (qa, ptA (pt9 l i), 96), (w.heap.size + 1, #[I 0, I 0, I 0, I 0], 109), (w.heap.size, #[I d.n, I d.d], 47)] wr ∧ N3 l (at0 zs) d i j k) (fun kv _ => j - (intOf kv).toNat)
   case atStart => exact ⟨0, Nat.zero_le _, rfl, HS4.out, fun k hk => absurd hk (by omega)⟩
   case round =>
        obtain ⟨k, hk, rfl, hst, hno⟩ := hrel
        rename World => V3
        have HS5 := Lib.hid hst
        have HN3 := Lib.hid hno
        clear hst hno HS4
        by_cases hlt : k < j
        case neg =>
         have hkj : k = j := by omega
         rw [hkj] at HN3 ⊢
         have kk : decide ((j : Int) < (j : Int)) = false := decide_eq_false (by omega)
         have HN2' : Hid (N2 l (at0 zs) d i (j + 1)) := fun i' hi' => by
          rcases Nat.lt_or_ge i' j with h9 | h9
          · exact HN2.out i' h9
          · obtain rfl : i' = j := by omega
            exact HN3.out
         clear hlt hk hkj
         go_wp2_with fail
         go_roundw
         case rel => exact ⟨j + 1, hjl.out, by go_num, HS5.out.tail, HN2'.out⟩
         case measure => have := hjl.out; simp [intOf]; omega
        have hkl : Hid (k < j) := hlt
        have kk : decide ((k : Int) < (j : Int)) = true := decide_eq_true (by omega)
        have kk2 : decide (k < j) = true := decide_eq_true hlt
        obtain ⟨b2, o2, hbo, _, e0, e1, e2⟩ := rd_pt (HRD.out V3 HS5.out.1).1 (show k < l.length by have := hil.out; have := hjl.out; omega)
        obtain ⟨rfl, rfl⟩ : b2 = b' ∧ o2 = o' := by
         injection hbo with hbo
         injection hbo with h1 h2
         exact ⟨h1.symm, h2.symm⟩
        change V3.cell? ⟨b2, o2 + k * 3, none⟩ = some (I ((pt9 l k).at_ : Int)) at e0
        change V3.cell? ⟨b2, o2 + k * 3 + 1, none⟩ = some (I (pt9 l k).x) at e1
        change V3.cell? ⟨b2, o2 + k * 3 + 2, none⟩ = some (I (pt9 l k).y) at e2
        have hk36 : k ≤ 36 := by omega
        clear hlt hk hbo
        go_upto_region 10 with (fail)
        obtain ⟨qc, hqc⟩ : ∃ q, q = V3.heap.size := ⟨_, rfl⟩
        obtain ⟨X3, hX3⟩ : ∃ X, X = V3.alloc (.cells (ptA (pt9 l k)) 96) := ⟨_, rfl⟩
        have HS6 : Hid (StL w [(qc, ptA (pt9 l k), 96), (qb, ptA (pt9 l j), 96), (qa, ptA (pt9 l i), 96), (w.heap.size + 1, #[I 0, I 0, I 0, I 0], 109), (w.heap.size, #[I d.n, I d.d], 47)] X3) :=
         (HS5.out.below (by rw [hX3]; exact (Below.refl _ _).alloc (Nat.le_refl _) _)).cons (by rw [hX3]; exact heap_last _ _ _ hqc)
        rw [← hqc, ← hX3]
        clear hX3 hqc e0 e1 e2 HS5
        go_wp2_with fail
        go_loopw [43] (fun sv wr => ∃ s : Nat, s ≤ 8 ∧ sv = .int .i64 s ∧ StL w [(qc, ptA (pt9 l k), 96), (qb, ptA (pt9 l j), 96), (qa, ptA (pt9 l i), 96), (w.heap.size + 1, #[I 0, I 0, I 0, I 0], 109), (w.heap.size, #[I d.n, I d.d], 47)] wr ∧ N4 l (at0 zs) d i j k s) (fun sv _ => 8 - (intOf sv).toNat)
        case atStart => exact ⟨0, Nat.zero_le _, rfl, HS6.out, fun s hs => absurd hs (by omega)⟩
        case round =>
         obtain ⟨s, hs, rfl, hst, hno⟩ := hrel
         rename World => V4
         have HS7 := Lib.hid hst
         have HN4 := Lib.hid hno
         clear hst hno HS6
         by_cases hlt : s < 8
         case neg =>
          obtain rfl : s = 8 := by omega
          have HN3' : Hid (N3 l (at0 zs) d i j (k + 1)) := fun i' hi' => by
           rcases Nat.lt_or_ge i' k with h9 | h9
           · exact HN3.out i' h9
           · obtain rfl : i' = k := by omega
             exact HN4.out
          clear hlt hs
          rw [show ((8 : Nat) : Int) = 8 from rfl]
          go_wp2_with fail
          go_roundw
          case rel => exact ⟨k + 1, hkl.out, by go_num, HS7.out.tail, HN3'.out⟩
          case measure => have := hkl.out; simp [intOf]; omega
         have HIL := Lib.hid (And.intro (And.intro hil.out (show j < l.length by have := hil.out; have := hjl.out; omega)) (show k < l.length by have := hil.out; have := hjl.out; have := hkl.out; omega))
         have HPI := Lib.hid (HPT.out i HIL.out.1.1)
         have HPJ := Lib.hid (HPT.out j HIL.out.1.2)
         have HPK := Lib.hid (HPT.out k HIL.out.2)
         have hs8 : s < 8 := hlt
         have HS8 := Lib.hid hs8
         clear hlt hs
         go_upto_region 14 with fail
         obtain ⟨qt, hqt⟩ : ∃ q, q = V4.heap.size := ⟨_, rfl⟩
         obtain ⟨T, hT⟩ : ∃ X, X = V4.alloc (.cells #[I 0, I 0, I 0] 144) := ⟨_, rfl⟩
         have rT : T.heap[qt]? = some (.cells #[I 0, I 0, I 0] 144 (0, 0)) := by rw [hT]; exact heap_last _ _ _ hqt
         have HT := Lib.hid (And.intro (HS7.out.below (U := T) (by rw [hT]; exact (Below.refl _ _).alloc (Nat.le_refl _) _)) (And.intro rT (show V4.heap.size ≤ qt by omega)))
         rw [← hqt, ← hT]
         clear hT hqt rT
         obtain ⟨pi, hpi⟩ : ∃ p, pt9 l i = p := ⟨_, rfl⟩
         obtain ⟨pj, hpj⟩ : ∃ p, pt9 l j = p := ⟨_, rfl⟩
         obtain ⟨pk, hpk⟩ : ∃ p, pt9 l k = p := ⟨_, rfl⟩
         have ra : T.heap[qa]? = some (.cells (ptA pi) 96 (0, 0)) := by rw [← hpi]; exact HT.out.1.2 (qa, ptA (pt9 l i), 96) (by simp)
         have rb : T.heap[qb]? = some (.cells (ptA pj) 96 (0, 0)) := by rw [← hpj]; exact HT.out.1.2 (qb, ptA (pt9 l j), 96) (by simp)
         have rc : T.heap[qc]? = some (.cells (ptA pk) 96 (0, 0)) := by rw [← hpk]; exact HT.out.1.2 (qc, ptA (pt9 l k), 96) (by simp)
         have a0 : T.cell? ⟨qa, 0, none⟩ = some (I (pi.at_ : Int)) := by rw [cell_of_row _ _ _ _ _ _ ra]; rfl
         have a1 : T.cell? ⟨qa, 1, none⟩ = some (I pi.x) := by rw [cell_of_row _ _ _ _ _ _ ra]; rfl
         have a2 : T.cell? ⟨qa, 2, none⟩ = some (I pi.y) := by rw [cell_of_row _ _ _ _ _ _ ra]; rfl
         have b0 : T.cell? ⟨qb, 0, none⟩ = some (I (pj.at_ : Int)) := by rw [cell_of_row _ _ _ _ _ _ rb]; rfl
         have b1 : T.cell? ⟨qb, 1, none⟩ = some (I pj.x) := by rw [cell_of_row _ _ _ _ _ _ rb]; rfl
         have b2 : T.cell? ⟨qb, 2, none⟩ = some (I pj.y) := by rw [cell_of_row _ _ _ _ _ _ rb]; rfl
         have c0 : T.cell? ⟨qc, 0, none⟩ = some (I (pk.at_ : Int)) := by rw [cell_of_row _ _ _ _ _ _ rc]; rfl
         have c1 : T.cell? ⟨qc, 1, none⟩ = some (I pk.x) := by rw [cell_of_row _ _ _ _ _ _ rc]; rfl
         have c2 : T.cell? ⟨qc, 2, none⟩ = some (I pk.y) := by rw [cell_of_row _ _ _ _ _ _ rc]; rfl
         clear ra rb rc
         have i0 := fun w => (ixt (I (pi.at_ : Int)) (I pi.x) (I pi.y) (I (pj.at_ : Int)) (I pj.x) (I pj.y) (I (pk.at_ : Int)) (I pk.x) (I pk.y) w).1
         have i1 := fun w => (ixt (I (pi.at_ : Int)) (I pi.x) (I pi.y) (I (pj.at_ : Int)) (I pj.x) (I pj.y) (I (pk.at_ : Int)) (I pk.x) (I pk.y) w).2.1
         have i2 := fun w => (ixt (I (pi.at_ : Int)) (I pi.x) (I pi.y) (I (pj.at_ : Int)) (I pj.x) (I pj.y) (I (pk.at_ : Int)) (I pk.x) (I pk.y) w).2.2
         go_wp2_with fail
         clear a0 a1 a2 b0 b1 b2 c0 c1 c2
         refine wp_loop_rounds 4 ?_
         rw [rounds_succ]
         go_upto_region 17 with fail
         obtain ⟨qm, hqm⟩ : ∃ q, q = T.heap.size := ⟨_, rfl⟩
         obtain ⟨Y1, hY⟩ : ∃ X, X = T.alloc (.cells (ptA pi) 96) := ⟨_, rfl⟩
         have bY : Below T.heap.size T Y1 := by rw [hY]; exact (Below.refl _ _).alloc (Nat.le_refl _) _
         have rM : Y1.heap[qm]? = some (.cells (ptA pi) 96 (0, 0)) := by rw [hY]; exact heap_last _ _ _ hqm
         have HY1 := Lib.hid (And.intro (HT.out.1.below bY) (And.intro ((bY.block _ (lt_of_row HT.out.2.1)).trans HT.out.2.1) HT.out.2.2))
         rw [← hqm, ← hY]
         obtain ⟨bz, oz, hbz, _, f0⟩ := rd_int9 (HRD.out Y1 HY1.out.1.1).2.1 HPI.out.2
         rw [hpi] at f0
         have rF := HY1.out.1.2 (w.heap.size, #[I d.n, I d.d], 47) (by simp)
         have y0 := cell_row9 rM (j := 0) rfl
         have y1 := cell_row9 rF (j := 0) rfl
         have y2 := cell_row9 rF (j := 1) rfl
         clear hqm hY bY rM rF
         obtain ⟨z, hz⟩ : ∃ z, at0 zs pi.at_ = z := ⟨_, rfl⟩
         rw [hz] at f0
         have y3 := ovr_cell f0
         (first | (injection hbz with hbz; injection hbz with hb1 hb2 _; subst hb1 hb2) | subst hbz)
         have m3 : decide ((pi.at_ : Int) < (zs.length : Int)) = true := decide_eq_true (by have := HPI.out.2; rw [hpi] at this; omega)
         have m4 : pi.at_ < zs.length := by have := HPI.out.2; rw [hpi] at this; exact this
         refine wp_region_seq2 19 (fun _ => none) (by kernel_rfl) (by kernel_rfl) (by kernel_rfl) (by kernel_rfl) (by kernel_rfl) ?_
         simp only [List.take_succ_cons, List.take_zero, List.drop_succ_cons, List.drop_zero]
         repeat (first | (refine wpG_one rfl rfl rfl ?_; intro K hK; go_big_quiet_op; go_big_quiet_on) | (refine wpG_skip rfl ?_; simp only [Act.put, List.setIfInBounds_toArray, List.set_cons_zero, List.set_cons_succ]))
         refine wpG_nil (fun w5 hw5 hG => ?_)
         have rQ := (hw5.le.block _ (lt_of_row HY1.out.2.1)).trans HY1.out.2.1
         have hSL := HY1.out.1.below hw5.le
         have g0 : w5.cell? ⟨qt, 0, none⟩ = some (I 0) := by rw [cell_of_row _ _ _ _ _ _ rQ]; rfl
         have g1 := frozen_of_row _ _ 0 _ _ rQ
         clear hG hw5 y0 y1 y2 y3 f0
         refine wpTailIn_cons Wd.wide (by intro c h; cases h) ?_
         unfold Oper.wp
         go_simp
         refine wpTailIn_cons Wd.wide (by intro c h; cases h) ?_
         unfold Oper.wp
         go_simp
         refine wpTailIn_nil ?_
         (try simp only [Act.put])
         go_wp2_with fail
         refine name_rounds fun T1 hT1 => ?_
         have hval : wrap64 (wrap64 (z * d.d) + wrap64 (d.n * wrap64 (wrap64 (bits BinOp.and IntKind.i64 ((s : Int)) 1 * 2) - 1))) = atH (at0 zs) d.n d.d pi (sg9 s 0) := by
          have h1 := mul_bdF (a := z) (b := d.d) (A := 1000000) (B := 200) (by have := HIZ.out _ m4; rw [hz] at this; exact this) (by have := HID.out; unfold InD at this; omega)
          have h2 := HID.out
          unfold InD at h2
          have e1 : wrap64 (z * d.d) = z * d.d := by unfold wrap64; omega
          rw [e1]
          unfold atH
          rw [hz]
          obtain ⟨m, hm⟩ : ∃ m, z * d.d = m := ⟨_, rfl⟩
          rw [hm] at h1 ⊢
          have e3 : wrap64 (wrap64 (bits BinOp.and IntKind.i64 ((s : Int)) 1 * 2) - 1) = sg9 s 0 := sg_bits0 HS8.out
          rw [e3]
          have e4 := sg9_pm s 0
          generalize sg9 s 0 = g at e4 ⊢
          have e5 : -200000000 ≤ d.n * g ∧ d.n * g ≤ 200000000 := by rcases e4 with rfl | rfl <;> omega
          unfold wrap64
          omega
         rw [hval] at hT1
         have HT1 : Hid (StL w [(qc, ptA (pt9 l k), 96), (qb, ptA (pt9 l j), 96), (qa, ptA (pt9 l i), 96), (w.heap.size + 1, #[I 0, I 0, I 0, I 0], 109), (w.heap.size, #[I d.n, I d.d], 47)] T1 ∧ T1.heap[qt]? = some (.cells #[I (atH (at0 zs) d.n d.d pi (sg9 s 0)), I 0, I 0] 144 (0, 0)) ∧ V4.heap.size ≤ qt) := by
          rw [hT1]
          refine ⟨hSL.setCell (Nat.le_trans HS7.out.1.size HT.out.2.2) (fun x hx e => ?_), rs rQ 0 _, HT.out.2.2⟩
          have := lt_of_row (HS7.out.2 x hx)
          have := HT.out.2.2
          omega
         clear hT1 hval hSL rQ g0 g1 m3 m4 hz
         rw [rounds_succ]
         go_upto_region 17 with fail
         obtain ⟨qm, hqm⟩ : ∃ q, q = T1.heap.size := ⟨_, rfl⟩
         obtain ⟨Y2, hY⟩ : ∃ X, X = T1.alloc (.cells (ptA pj) 96) := ⟨_, rfl⟩
         have bY : Below T1.heap.size T1 Y2 := by rw [hY]; exact (Below.refl _ _).alloc (Nat.le_refl _) _
         have rM : Y2.heap[qm]? = some (.cells (ptA pj) 96 (0, 0)) := by rw [hY]; exact heap_last _ _ _ hqm
         have HY2 := Lib.hid (And.intro (HT1.out.1.below bY) (And.intro ((bY.block _ (lt_of_row HT1.out.2.1)).trans HT1.out.2.1) HT1.out.2.2))
         rw [← hqm, ← hY]
         obtain ⟨bz, oz, hbz, _, f0⟩ := rd_int9 (HRD.out Y2 HY2.out.1.1).2.1 HPJ.out.2
         rw [hpj] at f0
         have rF := HY2.out.1.2 (w.heap.size, #[I d.n, I d.d], 47) (by simp)
         have y0 := cell_row9 rM (j := 0) rfl
         have y1 := cell_row9 rF (j := 0) rfl
         have y2 := cell_row9 rF (j := 1) rfl
         clear hqm hY bY rM rF
         obtain ⟨z, hz⟩ : ∃ z, at0 zs pj.at_ = z := ⟨_, rfl⟩
         rw [hz] at f0
         have y3 := ovr_cell f0
         (first | (injection hbz with hbz; injection hbz with hb1 hb2 _; subst hb1 hb2) | subst hbz)
         have m3 : decide ((pj.at_ : Int) < (zs.length : Int)) = true := decide_eq_true (by have := HPJ.out.2; rw [hpj] at this; omega)
         have m4 : pj.at_ < zs.length := by have := HPJ.out.2; rw [hpj] at this; exact this
         refine wp_region_seq2 19 (fun _ => none) (by kernel_rfl) (by kernel_rfl) (by kernel_rfl) (by kernel_rfl) (by kernel_rfl) ?_
         simp only [List.take_succ_cons, List.take_zero, List.drop_succ_cons, List.drop_zero]
         repeat (first | (refine wpG_one rfl rfl rfl ?_; intro K hK; go_big_quiet_op; go_big_quiet_on) | (refine wpG_skip rfl ?_; simp only [Act.put, List.setIfInBounds_toArray, List.set_cons_zero, List.set_cons_succ]))
         refine wpG_nil (fun w5 hw5 hG => ?_)
         have rQ := (hw5.le.block _ (lt_of_row HY2.out.2.1)).trans HY2.out.2.1
         have hSL := HY2.out.1.below hw5.le
         have g0 : w5.cell? ⟨qt, 1, none⟩ = some (I 0) := by rw [cell_of_row _ _ _ _ _ _ rQ]; rfl
         have g1 := frozen_of_row _ _ 1 _ _ rQ
         clear hG hw5 y0 y1 y2 y3 f0
         refine wpTailIn_cons Wd.wide (by intro c h; cases h) ?_
         unfold Oper.wp
         go_simp
         refine wpTailIn_cons Wd.wide (by intro c h; cases h) ?_
         unfold Oper.wp
         go_simp
         refine wpTailIn_nil ?_
         (try simp only [Act.put])
         go_wp2_with fail
         refine name_rounds fun T2 hT2 => ?_
         have hval : wrap64 (wrap64 (z * d.d) + wrap64 (d.n * wrap64 (wrap64 (bits BinOp.and IntKind.i64 ((s : Int) / 2) 1 * 2) - 1))) = atH (at0 zs) d.n d.d pj (sg9 s 1) := by
          have h1 := mul_bdF (a := z) (b := d.d) (A := 1000000) (B := 200) (by have := HIZ.out _ m4; rw [hz] at this; exact this) (by have := HID.out; unfold InD at this; omega)
          have h2 := HID.out
          unfold InD at h2
          have e1 : wrap64 (z * d.d) = z * d.d := by unfold wrap64; omega
          rw [e1]
          unfold atH
          rw [hz]
          obtain ⟨m, hm⟩ : ∃ m, z * d.d = m := ⟨_, rfl⟩
          rw [hm] at h1 ⊢
          have e3 : wrap64 (wrap64 (bits BinOp.and IntKind.i64 ((s : Int) / 2) 1 * 2) - 1) = sg9 s 1 := sg_bits1 HS8.out
          rw [e3]
          have e4 := sg9_pm s 1
          generalize sg9 s 1 = g at e4 ⊢
          have e5 : -200000000 ≤ d.n * g ∧ d.n * g ≤ 200000000 := by rcases e4 with rfl | rfl <;> omega
          unfold wrap64
          omega
         rw [hval] at hT2
         have HT2 : Hid (StL w [(qc, ptA (pt9 l k), 96), (qb, ptA (pt9 l j), 96), (qa, ptA (pt9 l i), 96), (w.heap.size + 1, #[I 0, I 0, I 0, I 0], 109), (w.heap.size, #[I d.n, I d.d], 47)] T2 ∧ T2.heap[qt]? = some (.cells #[I (atH (at0 zs) d.n d.d pi (sg9 s 0)), I (atH (at0 zs) d.n d.d pj (sg9 s 1)), I 0] 144 (0, 0)) ∧ V4.heap.size ≤ qt) := by
          rw [hT2]
          refine ⟨hSL.setCell (Nat.le_trans HS7.out.1.size HT1.out.2.2) (fun x hx e => ?_), rs rQ 1 _, HT1.out.2.2⟩
          have := lt_of_row (HS7.out.2 x hx)
          have := HT1.out.2.2
          omega
         clear hT2 hval hSL rQ g0 g1 m3 m4 hz
         rw [rounds_succ]
         go_upto_region 17 with fail
         obtain ⟨qm, hqm⟩ : ∃ q, q = T2.heap.size := ⟨_, rfl⟩
         obtain ⟨Y3, hY⟩ : ∃ X, X = T2.alloc (.cells (ptA pk) 96) := ⟨_, rfl⟩
         have bY : Below T2.heap.size T2 Y3 := by rw [hY]; exact (Below.refl _ _).alloc (Nat.le_refl _) _
         have rM : Y3.heap[qm]? = some (.cells (ptA pk) 96 (0, 0)) := by rw [hY]; exact heap_last _ _ _ hqm
         have HY3 := Lib.hid (And.intro (HT2.out.1.below bY) (And.intro ((bY.block _ (lt_of_row HT2.out.2.1)).trans HT2.out.2.1) HT2.out.2.2))
         rw [← hqm, ← hY]
         obtain ⟨bz, oz, hbz, _, f0⟩ := rd_int9 (HRD.out Y3 HY3.out.1.1).2.1 HPK.out.2
         rw [hpk] at f0
         have rF := HY3.out.1.2 (w.heap.size, #[I d.n, I d.d], 47) (by simp)
         have y0 := cell_row9 rM (j := 0) rfl
         have y1 := cell_row9 rF (j := 0) rfl
         have y2 := cell_row9 rF (j := 1) rfl
         clear hqm hY bY rM rF
         obtain ⟨z, hz⟩ : ∃ z, at0 zs pk.at_ = z := ⟨_, rfl⟩
         rw [hz] at f0
         have y3 := ovr_cell f0
         (first | (injection hbz with hbz; injection hbz with hb1 hb2 _; subst hb1 hb2) | subst hbz)
         have m3 : decide ((pk.at_ : Int) < (zs.length : Int)) = true := decide_eq_true (by have := HPK.out.2; rw [hpk] at this; omega)
         have m4 : pk.at_ < zs.length := by have := HPK.out.2; rw [hpk] at this; exact this
         refine wp_region_seq2 19 (fun _ => none) (by kernel_rfl) (by kernel_rfl) (by kernel_rfl) (by kernel_rfl) (by kernel_rfl) ?_
         simp only [List.take_succ_cons, List.take_zero, List.drop_succ_cons, List.drop_zero]
         repeat (first | (refine wpG_one rfl rfl rfl ?_; intro K hK; go_big_quiet_op; go_big_quiet_on) | (refine wpG_skip rfl ?_; simp only [Act.put, List.setIfInBounds_toArray, List.set_cons_zero, List.set_cons_succ]))
         refine wpG_nil (fun w5 hw5 hG => ?_)
         have rQ := (hw5.le.block _ (lt_of_row HY3.out.2.1)).trans HY3.out.2.1
         have hSL := HY3.out.1.below hw5.le
         have g0 : w5.cell? ⟨qt, 2, none⟩ = some (I 0) := by rw [cell_of_row _ _ _ _ _ _ rQ]; rfl
         have g1 := frozen_of_row _ _ 2 _ _ rQ
         clear hG hw5 y0 y1 y2 y3 f0
         refine wpTailIn_cons Wd.wide (by intro c h; cases h) ?_
         unfold Oper.wp
         go_simp
         refine wpTailIn_cons Wd.wide (by intro c h; cases h) ?_
         unfold Oper.wp
         go_simp
         refine wpTailIn_nil ?_
         (try simp only [Act.put])
         go_wp2_with fail
         refine name_rounds fun T3 hT3 => ?_
         have hval : wrap64 (wrap64 (z * d.d) + wrap64 (d.n * wrap64 (wrap64 (bits BinOp.and IntKind.i64 ((s : Int) / 4) 1 * 2) - 1))) = atH (at0 zs) d.n d.d pk (sg9 s 2) := by
          have h1 := mul_bdF (a := z) (b := d.d) (A := 1000000) (B := 200) (by have := HIZ.out _ m4; rw [hz] at this; exact this) (by have := HID.out; unfold InD at this; omega)
          have h2 := HID.out
          unfold InD at h2
          have e1 : wrap64 (z * d.d) = z * d.d := by unfold wrap64; omega
          rw [e1]
          unfold atH
          rw [hz]
          obtain ⟨m, hm⟩ : ∃ m, z * d.d = m := ⟨_, rfl⟩
          rw [hm] at h1 ⊢
          have e3 : wrap64 (wrap64 (bits BinOp.and IntKind.i64 ((s : Int) / 4) 1 * 2) - 1) = sg9 s 2 := sg_bits2 HS8.out
          rw [e3]
          have e4 := sg9_pm s 2
          generalize sg9 s 2 = g at e4 ⊢
          have e5 : -200000000 ≤ d.n * g ∧ d.n * g ≤ 200000000 := by rcases e4 with rfl | rfl <;> omega
          unfold wrap64
          omega
         rw [hval] at hT3
         have HT3 : Hid (StL w [(qc, ptA (pt9 l k), 96), (qb, ptA (pt9 l j), 96), (qa, ptA (pt9 l i), 96), (w.heap.size + 1, #[I 0, I 0, I 0, I 0], 109), (w.heap.size, #[I d.n, I d.d], 47)] T3 ∧ T3.heap[qt]? = some (.cells #[I (atH (at0 zs) d.n d.d pi (sg9 s 0)), I (atH (at0 zs) d.n d.d pj (sg9 s 1)), I (atH (at0 zs) d.n d.d pk (sg9 s 2))] 144 (0, 0)) ∧ V4.heap.size ≤ qt) := by
          rw [hT3]
          refine ⟨hSL.setCell (Nat.le_trans HS7.out.1.size HT2.out.2.2) (fun x hx e => ?_), rs rQ 2 _, HT2.out.2.2⟩
          have := lt_of_row (HS7.out.2 x hx)
          have := HT2.out.2.2
          omega
         clear hT3 hval hSL rQ g0 g1 m3 m4 hz
         rw [rounds_succ]
         go_upto_region 19 with fail
         have ra := HT3.out.1.2 (qa, ptA (pt9 l i), 96) (by simp)
         have rb := HT3.out.1.2 (qb, ptA (pt9 l j), 96) (by simp)
         have rc := HT3.out.1.2 (qc, ptA (pt9 l k), 96) (by simp)
         have rF := HT3.out.1.2 (w.heap.size, #[I d.n, I d.d], 47) (by simp)
         rw [hpi] at ra
         rw [hpj] at rb
         rw [hpk] at rc
         have a0 : T3.cell? ⟨qa, 0, none⟩ = some (I (pi.at_ : Int)) := by rw [cell_of_row _ _ _ _ _ _ ra]; rfl
         have a1 : T3.cell? ⟨qa, 1, none⟩ = some (I pi.x) := by rw [cell_of_row _ _ _ _ _ _ ra]; rfl
         have a2 : T3.cell? ⟨qa, 2, none⟩ = some (I pi.y) := by rw [cell_of_row _ _ _ _ _ _ ra]; rfl
         have b0 : T3.cell? ⟨qb, 0, none⟩ = some (I (pj.at_ : Int)) := by rw [cell_of_row _ _ _ _ _ _ rb]; rfl
         have b1 : T3.cell? ⟨qb, 1, none⟩ = some (I pj.x) := by rw [cell_of_row _ _ _ _ _ _ rb]; rfl
         have b2 : T3.cell? ⟨qb, 2, none⟩ = some (I pj.y) := by rw [cell_of_row _ _ _ _ _ _ rb]; rfl
         have c0 : T3.cell? ⟨qc, 0, none⟩ = some (I (pk.at_ : Int)) := by rw [cell_of_row _ _ _ _ _ _ rc]; rfl
         have c1 : T3.cell? ⟨qc, 1, none⟩ = some (I pk.x) := by rw [cell_of_row _ _ _ _ _ _ rc]; rfl
         have c2 : T3.cell? ⟨qc, 2, none⟩ = some (I pk.y) := by rw [cell_of_row _ _ _ _ _ _ rc]; rfl
         have h0 : T3.cell? ⟨qt, 0, none⟩ = some (I (atH (at0 zs) d.n d.d pi (sg9 s 0))) := by rw [cell_of_row _ _ _ _ _ _ HT3.out.2.1]; rfl
         have h1 : T3.cell? ⟨qt, 1, none⟩ = some (I (atH (at0 zs) d.n d.d pj (sg9 s 1))) := by rw [cell_of_row _ _ _ _ _ _ HT3.out.2.1]; rfl
         have h2 : T3.cell? ⟨qt, 2, none⟩ = some (I (atH (at0 zs) d.n d.d pk (sg9 s 2))) := by rw [cell_of_row _ _ _ _ _ _ HT3.out.2.1]; rfl
         have hF : T3.cell? ⟨w.heap.size, 1, none⟩ = some (I d.d) := by rw [cell_of_row _ _ _ _ _ _ rF]; rfl
         clear ra rb rc rF i0 i1 i2
         have HTH : Hid (thS l (at0 zs) d i j k s = thrR pi pj pk (atH (at0 zs) d.n d.d pi (sg9 s 0)) (atH (at0 zs) d.n d.d pj (sg9 s 1)) (atH (at0 zs) d.n d.d pk (sg9 s 2)) d.d) := by show _ = _; unfold thS; rw [hpi, hpj, hpk]
         have HCR : Hid (crs (pt9 l i) (pt9 l j) (pt9 l k) = crs pi pj pk) := by show _ = _; rw [hpi, hpj, hpk]
         rw [hpi] at HPI
         rw [hpj] at HPJ
         rw [hpk] at HPK
         have HM : Hid (InM (atH (at0 zs) d.n d.d pi (sg9 s 0)) ∧ InM (atH (at0 zs) d.n d.d pj (sg9 s 1)) ∧ InM (atH (at0 zs) d.n d.d pk (sg9 s 2))) :=
          ⟨atH_in HID.out (HIZ.out _ HPI.out.2) (sg9_pm _ _), atH_in HID.out (HIZ.out _ HPJ.out.2) (sg9_pm _ _), atH_in HID.out (HIZ.out _ HPK.out.2) (sg9_pm _ _)⟩
         go_wp2_with fail
         refine (through_any pi pj pk _ _ _ d.d T3 HPI.out.1 HPJ.out.1 HPK.out.1 HM.out.1 HM.out.2.1 HM.out.2.2 HID.out.2).mono ?_
         rintro e w9 ⟨rfl, hb9⟩
         have HPin := Lib.hid (thr_in HPI.out.1 HPJ.out.1 HPK.out.1 HM.out.1 HM.out.2.1 HM.out.2.2 HID.out.2)
         obtain ⟨P, hP⟩ : ∃ P, thrR pi pj pk (atH (at0 zs) d.n d.d pi (sg9 s 0)) (atH (at0 zs) d.n d.d pj (sg9 s 1)) (atH (at0 zs) d.n d.d pk (sg9 s 2)) d.d = P := ⟨_, rfl⟩
         rw [hP] at HTH HPin ⊢
         have HS9 := Lib.hid (HT3.out.1.below hb9)
         clear hb9 hP a0 a1 a2 b0 b1 b2 c0 c1 c2 h0 h1 h2 hF HT3
         go_upto_region 20 with fail
         obtain ⟨qp, hqp⟩ : ∃ q, q = w9.heap.size := ⟨_, rfl⟩
         obtain ⟨T4, hT4⟩ : ∃ X, X = w9.alloc (.cells (plA P) 109) := ⟨_, rfl⟩
         have rP4 : T4.heap[qp]? = some (.cells (plA P) 109 (0, 0)) := by rw [hT4]; exact heap_last _ _ _ hqp
         have HS10 : Hid (StL w [(qc, ptA (pt9 l k), 96), (qb, ptA (pt9 l j), 96), (qa, ptA (pt9 l i), 96), (w.heap.size + 1, #[I 0, I 0, I 0, I 0], 109), (w.heap.size, #[I d.n, I d.d], 47)] T4) := HS9.out.below (by rw [hT4]; exact (Below.refl _ _).alloc (Nat.le_refl _) _)
         rw [← hqp, ← hT4]
         clear hT4 hqp HS9
         have p0 : T4.cell? ⟨qp, 0, none⟩ = some (I P.a) := by rw [cell_of_row _ _ _ _ _ _ rP4]; rfl
         have p1 : T4.cell? ⟨qp, 1, none⟩ = some (I P.b) := by rw [cell_of_row _ _ _ _ _ _ rP4]; rfl
         have p2 : T4.cell? ⟨qp, 2, none⟩ = some (I P.c) := by rw [cell_of_row _ _ _ _ _ _ rP4]; rfl
         have p3 : T4.cell? ⟨qp, 3, none⟩ = some (I P.d) := by rw [cell_of_row _ _ _ _ _ _ rP4]; rfl
         have rF := HS10.out.2 (w.heap.size, #[I d.n, I d.d], 47) (by simp)
         have f0 : T4.cell? ⟨w.heap.size, 0, none⟩ = some (I d.n) := by rw [cell_of_row _ _ _ _ _ _ rF]; rfl
         have f1 : T4.cell? ⟨w.heap.size, 1, none⟩ = some (I d.d) := by rw [cell_of_row _ _ _ _ _ _ rF]; rfl
         have HRP := Lib.hid rP4
         clear rP4 rF
         by_cases hcr : crs pi pj pk = 0
         · have dd : decide (crs pi pj pk = 0) = true := decide_eq_true hcr
           have HN4' : Hid (N4 l (at0 zs) d i j k (s + 1)) := fun s' hs' => by
            rcases Nat.lt_or_ge s' s with h9 | h9
            · exact HN4.out s' h9
            · obtain rfl : s' = s := by omega
              exact fun hne => absurd (HCR.out.trans hcr) hne
           clear hcr p0 p1 p2 p3 f0 f1
           go_wp2_with fail
           (try rw [← hpi])
           (try rw [← hpj])
           (try rw [← hpk])
           go_roundw
           case rel => exact ⟨s + 1, HS8.out, by go_num, HS10.out, HN4'.out⟩
           case measure => have := HS8.out; simp [intOf]; omega
         have dd : decide (crs pi pj pk = 0) = false := decide_eq_false hcr
         have HNE : Hid (crs (pt9 l i) (pt9 l j) (pt9 l k) ≠ 0) := fun h => hcr (HCR.out.symm.trans h)
         clear hcr
         go_wp2_with fail
         refine (near_any P l zs d _ dc _ c B T4 HPin.out HLN.out.1 HLN.out.2 HIZ.out HID.out HLE.out.1 (HRD.out T4 HS10.out.1).2.2 (HRD.out T4 HS10.out.1).1 (HRD.out T4 HS10.out.1).2.1).mono ?_
         rintro e w10 ⟨rfl, hb10⟩
         have HSE := Lib.hid (HS10.out.below hb10)
         have HRP2 : Hid (w10.heap[qp]? = some (.cells (plA P) 109 (0, 0))) := (hb10.block _ (lt_of_row HRP.out)).trans HRP.out
         clear hb10 p0 p1 p2 p3 f0 f1
         rcases hnr : near9 P l (at0 zs) d with _ | _
         · have HN4' : Hid (N4 l (at0 zs) d i j k (s + 1)) := fun s' hs' => by
            rcases Nat.lt_or_ge s' s with h9 | h9
            · exact HN4.out s' h9
            · obtain rfl : s' = s := by omega
              exact fun _ => by rw [HTH.out]; exact hnr
           clear hnr
           go_wp2_with fail
           (try rw [← hpi])
           (try rw [← hpj])
           (try rw [← hpk])
           go_roundw
           case rel => exact ⟨s + 1, HS8.out, by go_num, HSE.out, HN4'.out⟩
           case measure => have := HS8.out; simp [intOf]; omega
         have HTC : Hid (TchR l (at0 zs) d P) := .inl ⟨i, j, k, s, hkl.out, hjl.out, hil.out, HS8.out, HNE.out, by rw [HTH.out]; exact hnr, HTH.out.symm⟩
         have HR6 : Hid (w10.heap[w.heap.size + 1]? = some (.cells #[I 0, I 0, I 0, I 0] 109 (0, 0))) := HSE.out.2 (w.heap.size + 1, #[I 0, I 0, I 0, I 0], 109) (by simp)
         clear hnr
         go_wp2_with (first | (with_reducible show wpList _ _ _ _ _ _; refine wpList_load_row9 rfl 109 _ rfl qp rfl (plA P) _ _ _ HRP2.out Tryz.underlying109 rfl (by kernel_rfl) ?_) | (with_reducible show wpList _ _ _ _ _ _; refine wpList_store_row rfl 109 _ _ rfl (w.heap.size + 1) rfl _ _ HR6.out (plA P) rfl (by simp [Value.oneCell']) rfl (by kernel_rfl) ?_))
         refine bodyPost_ret (results_cell_only rfl _ _ (w.heap.size + 1) 109 _ (0, 0) _ rfl (setRow_same (HR6.out)) Tryz.underlying109 rfl (by kernel_rfl)) rfl ?_
         exact ⟨⟨P, rfl, HTC.out⟩, below_setRow HSE.out.1 (by omega) _⟩
end Go.Proofs.YtliolnfcgaflcaaGreat.Un
