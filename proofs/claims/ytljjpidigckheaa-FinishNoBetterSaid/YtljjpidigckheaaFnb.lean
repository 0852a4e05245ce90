/- The frame of the row: its arguments opened. -/
import Derived.Test.YtljjpidigckheaaU5
import Derived.Test.YtljjpidigckheaaRows
import Derived.ProofKit
import Derived.OpenShut
import Derived.OpenVars
import Derived.Lib.SmallJoins
import Derived.Test.YtljjpidigckheaaMpr
import Derived.Deep.Strs
import Derived.Test.YtljjpidigckheaaLnb
namespace Go.Proofs.Ytljjpidigckheaa.Un
open Go.RowKit Go.ChangeShapes Go.WideShapes Go.Deep
theorem sub_cell {cs : List Value} {o k j : Nat} {v : Value} (hj : j < k) (h : ((cs.drop o).take k)[j]? = some v) : cs[o + j]? = some v := by
 rw [List.getElem?_take_of_lt hj, List.getElem?_drop] at h
 exact h
theorem at0_map {α : Type} [Inhabited α] {n k : Nat} (f : Nat → α) (hk : k < n) : at0 ((List.range n).map f) k = f k := by
 rw [at0_get (by simpa using hk)]; simp
def numAt (P : Program) : Nat → TypeId → List (Nat × IntKind)
 | 0, _ => []
 | d + 1, t => match P.underlying t with
   | some (.int k) => [(0, k)]
   | some (.struct fs) => fs.toList.flatMap fun f => ((numAt P d f.type).filter (fun q => decide (q.1 < P.cellsOf f.type))).map fun q => (f.offset + q.1, q.2)
   | some (.array n e) => (List.range n).flatMap fun i => ((numAt P d e).filter (fun q => decide (q.1 < P.cellsOf e))).map fun q => (i * P.cellsOf e + q.1, q.2)
   | _ => []
section
variable {H : Type} {enc : TypeId × Value → H} {P : Program} {w : World} {base : Nat} {spare : Nat → Bool} {held : Bool}
theorem num_cells : ∀ (d : Nat) {fuel : Nat} {t : TypeId} {cs : List Value} {x : DataW H × List MemPlace}, DataW.trod enc P w base spare held fuel t cs = some x → ∀ j kd, (j, kd) ∈ numAt P d t → ∃ n, cs[j]? = some (.int kd n) ∧ (Lit.int kd n).wf = true
 | 0, _, _, _, _, _, j, kd, hj => by simp [numAt] at hj
 | d + 1, fuel, t, cs, x, h, j, kd, hj => by
   unfold numAt at hj
   split at hj
   · rename_i ht
     obtain ⟨n, rfl, _, wf⟩ := DataW.trod_int ht h
     simp at hj
     obtain ⟨rfl, rfl⟩ := hj
     exact ⟨n, rfl, wf⟩
   · rename_i fs ht
     obtain ⟨xs, m, _, _, _, hlen, hf⟩ := DataW.trod_struct ht h
     obtain ⟨f, hfm, hj⟩ := List.mem_flatMap.1 hj
     obtain ⟨i, hi, hfi⟩ := List.mem_iff_getElem.1 hfm
     obtain ⟨q, hk, he⟩ := List.mem_map.1 hj
     injection he with e1 e2
     subst e1 e2
     obtain ⟨hk1, hk2⟩ := List.mem_filter.1 hk
     have hi' : i < fs.size := by simpa using hi
     have h1 := hf i f (by rw [Array.getElem?_eq_getElem hi', ← hfi]; simp)
     rw [List.getElem?_eq_getElem (by omega)] at h1
     obtain ⟨n, hn, wf⟩ := num_cells d h1 q.1 q.2 hk1
     exact ⟨n, sub_cell (by simpa using hk2) hn, wf⟩
   · rename_i n e ht
     obtain ⟨xs, m, _, _, _, hlen, hf⟩ := DataW.trod_array ht h
     obtain ⟨i, hi, hj⟩ := List.mem_flatMap.1 hj
     obtain ⟨q, hk, he⟩ := List.mem_map.1 hj
     injection he with e1 e2
     subst e1 e2
     obtain ⟨hk1, hk2⟩ := List.mem_filter.1 hk
     have hi' : i < n := by simpa using hi
     have h1 := hf i hi'
     rw [List.getElem?_eq_getElem (by omega)] at h1
     obtain ⟨n, hn, wf⟩ := num_cells d h1 q.1 q.2 hk1
     exact ⟨n, sub_cell (by simpa using hk2) hn, wf⟩
   · simp at hj
def numsOf (P : Program) (t : TypeId) (ks : List IntKind) : Bool := (List.range ks.length).all fun j => (numAt P 6 t).contains (j, ks.getD j .i64)
theorem nums_in {t : TypeId} {ks : List IntKind} (h : numsOf P t ks = true) {fuel : Nat} {cs : List Value} {x : DataW H × List MemPlace} (ht : DataW.trod enc P w base spare held fuel t cs = some x) : ∀ j, j < ks.length → ∃ q, cs[j]? = some (.int (ks.getD j .i64) q) ∧ (Lit.int (ks.getD j .i64) q).wf = true := fun j hj => by
 unfold numsOf at h
 rw [List.all_eq_true] at h
 have := h j (List.mem_range.2 hj)
 exact num_cells 6 ht j _ (by simpa using this)
theorem open_listK {t e : TypeId} {ks : List IntKind} (ht : P.underlying t = some (.slice e)) (hs : P.cellsOf e = ks.length) (hsz : 0 < ks.length) (hi : numsOf P e ks = true) {fuel : Nat} {v : Value} {x : DataW H × List MemPlace}
 (h : DataW.trod enc P w base spare held fuel t [v] = some x) : ∃ (A : Option Addr) (n c : Nat) (z : Nat → Nat → Int), v = .slice A n c ∧ n ≤ c ∧ c ≤ maxLen ∧ Rd w w.heap.size ks.length A n (fun k j => .int (ks.getD j .i64) (z k j)) ∧ ∀ k, k < n → ∀ j, j < ks.length → (Lit.int (ks.getD j .i64) (z k j)).wf = true := by
 rcases open_slice ht h with ⟨h0, _⟩ | ⟨a, len, cap, m, q, D, Pl, hcs, _, hl, hcm, hm, _, hx⟩
 · obtain rfl : v = .slice none 0 0 := by simpa using h0
   exact ⟨none, 0, 0, fun _ _ => 0, rfl, Nat.le_refl _, by unfold maxLen; omega, fun h => absurd h (by omega), fun k hk => absurd hk (by omega)⟩
 · obtain rfl : v = .slice (some a) len cap := by simpa using hcs
   rw [hs] at hx
   have hlm : len ≤ m := by rw [hm]; split <;> omega
   have key : ∀ k, k < len → ∀ j, j < ks.length → ∃ n, w.cell? ((a.add (k * ks.length)).add j) = some (.int (ks.getD j .i64) n) ∧ (Lit.int (ks.getD j .i64) n).wf = true := fun k hk j hj => by
    obtain ⟨cs', h1, h2⟩ := hx k (by omega)
    obtain ⟨_, hlen, hc⟩ := World.cells?_some h1
    obtain ⟨n, hn, wf⟩ := nums_in hi h2 j hj
    exact ⟨n, (hc j hj).trans hn, wf⟩
   obtain ⟨b, o, hel⟩ := a
   have key0 : 0 < len → hel = none := fun hn => by
    obtain ⟨n, hn, _⟩ := key 0 hn 0 hsz
    unfold World.cell? at hn
    simp only [Nat.zero_mul, Addr.add, if_true] at hn
    split at hn
    · split at hn
      · cases hn
      · rename_i hsp
        simpa using hsp
    · cases hn
   have hat : ∀ k, k < len → ∀ j, j < ks.length → ∃ n, w.cell? ⟨b, o + k * ks.length + j, none⟩ = some (.int (ks.getD j .i64) n) ∧ (Lit.int (ks.getD j .i64) n).wf = true := fun k hk j hj => by
    obtain ⟨n, hn, wf⟩ := key k hk j hj
    rw [key0 (by omega), addr_add, addr_add] at hn
    exact ⟨n, hn, wf⟩
   classical
   have hch : ∀ k (hk : k < len) j (hj : j < ks.length), w.cell? ⟨b, o + k * ks.length + j, none⟩ = some (.int (ks.getD j .i64) (Classical.choose (hat k hk j hj))) := fun k hk j hj => (Classical.choose_spec (hat k hk j hj)).1
   refine ⟨some ⟨b, o, hel⟩, len, cap, fun k j => if hk : k < len then if hj : j < ks.length then Classical.choose (hat k hk j hj) else 0 else 0, rfl, hl, hcm, fun hn => ?_, fun k hk j hj => ?_⟩
   · refine ⟨b, o, by rw [key0 hn], block_lt_of_cell (hch 0 hn 0 hsz), fun k hk j hj => ?_⟩
     rw [hch k hk j hj]
     simp only [dif_pos hk, dif_pos hj]
   · simp only [dif_pos hk, dif_pos hj]
     exact (Classical.choose_spec (hat k hk j hj)).2
end
theorem i8_bd {n : Int} (h : (Lit.int .i8 n).wf = true) : -128 ≤ n ∧ n ≤ 127 := by
 simp [Lit.wf, IntKind.min, IntKind.max, IntKind.signed, IntKind.bits] at h
 omega
theorem u8_bd {n : Int} (h : (Lit.int .u8 n).wf = true) : 0 ≤ n ∧ n ≤ 255 := by
 simp [Lit.wf, IntKind.min, IntKind.max, IntKind.signed, IntKind.bits] at h
 omega
theorem i64_bd {n : Int} (h : (Lit.int .i64 n).wf = true) : -9223372036854775808 ≤ n ∧ n ≤ 9223372036854775807 := by
 simp [Lit.wf, IntKind.min, IntKind.max, IntKind.signed, IntKind.bits] at h
 omega
theorem _root_.Go.Proofs.Ytljjpidigckheaa.Rd.same {w : World} {B sz n : Nat} {A : Option Addr} {g g' : Nat → Nat → Value} (h : Rd w B sz A n g) (he : ∀ k, k < n → ∀ j, j < sz → g k j = g' k j) : Rd w B sz A n g' := fun hn => by
 obtain ⟨b, o, e, hb, hc⟩ := h hn
 exact ⟨b, o, e, hb, fun k hk j hj => (hc k hk j hj).trans (congrArg some (he k hk j hj))⟩
section
variable {H : Type} {enc : TypeId × Value → H} {P : Program} {w : World} {base : Nat} {spare : Nat → Bool} {held : Bool}
end
def toL (n : Nat) (z : Nat → Nat → Int) : List Int := (List.range n).map fun k => z k 0
theorem toL_len (n : Nat) (z : Nat → Nat → Int) : (toL n z).length = n := by simp [toL]
theorem toL_at {n k : Nat} (z : Nat → Nat → Int) (hk : k < n) : at0 (toL n z) k = z k 0 := at0_map _ hk
theorem ownK : ownKnob Try.prog.godebug = none := by kernel_rfl
theorem laidOut : laidOutB Try.prog = true := by kernel_rfl
end Go.Proofs.Ytljjpidigckheaa.Un
namespace Go.Proofs.Ytljjpidigckheaa.Un
open Go.RowKit Go.ChangeShapes Go.WideShapes Go.Deep
section
variable {H : Type} {enc : TypeId × Value → H} {w : World} {base : Nat} {spare : Nat → Bool} {held : Bool} {r : Reach} {b0 : Nat} {v : Value} {d : DataW H} {ps : List MemPlace}
theorem toI_rd {B : Nat} {A : Option Addr} {n : Nat} {z : Nat → Nat → Int} {g : Nat → Nat → Value} (h : Rd w B 1 A n g) (hg : ∀ k, g k 0 = I (z k 0)) : Rd w B 1 A n (rI (toL n z)) :=
 h.same fun k hk j hj => by
  obtain rfl : j = 0 := by omega
  rw [hg]; show _ = I (at0 (toL n z) _); rw [toL_at z hk]
end
end Go.Proofs.Ytljjpidigckheaa.Un
namespace Go.Proofs.Ytljjpidigckheaa.Un
open Go.RowKit Go.ChangeShapes Go.WideShapes Go.Deep
section
variable {H : Type} {enc : TypeId × Value → H} {w : World} {base : Nat} {spare : Nat → Bool} {held : Bool} {r : Reach} {b0 : Nat} {v : Value} {d : DataW H} {ps : List MemPlace}
end
end Go.Proofs.Ytljjpidigckheaa.Un
namespace Go.Proofs.Ytljjpidigckheaa.Un
open Go.RowKit Go.ChangeShapes Go.WideShapes Go.Deep
section
variable {H : Type} {enc : TypeId × Value → H} {w : World} {base : Nat} {spare : Nat → Bool} {held : Bool} {r : Reach} {b0 : Nat} {v : Value} {d : DataW H} {ps : List MemPlace}
set_option maxRecDepth 100000 in
theorem open_intF (hv : Value.okWide Try.prog w r b0 3 v) (h : DataW.Trod enc Try.prog w base spare held 3 v d ps) : ∃ n, v = I n ∧ (-9223372036854775808 ≤ n ∧ n ≤ 9223372036854775807) := by
 obtain ⟨n, rfl, _, _, hw⟩ := Go.ChangeShapes.open_int Try.underlying3 hv h
 exact ⟨n, rfl, i64_bd hw⟩
end
end Go.Proofs.Ytljjpidigckheaa.Un
namespace Go.Proofs.Ytljjpidigckheaa.Un
open Go.RowKit Go.ChangeShapes Go.WideShapes Go.Deep
theorem array_k8 {α : Type} {cs : Array α} (h : cs.size = 8) : ∃ c0 c1 c2 c3 c4 c5 c6 c7, cs = #[c0, c1, c2, c3, c4, c5, c6, c7] := by
 obtain ⟨l⟩ := cs
 match l, h with
 | [c0, c1, c2, c3, c4, c5, c6, c7], _ => exact ⟨c0, c1, c2, c3, c4, c5, c6, c7, rfl⟩
theorem i16_bd {n : Int} (h : (Lit.int .i16 n).wf = true) : -32768 ≤ n ∧ n ≤ 32767 := by
 simp [Lit.wf, IntKind.min, IntKind.max, IntKind.signed, IntKind.bits] at h
 omega
theorem i32_bd {n : Int} (h : (Lit.int .i32 n).wf = true) : -2147483648 ≤ n ∧ n ≤ 2147483647 := by
 simp [Lit.wf, IntKind.min, IntKind.max, IntKind.signed, IntKind.bits] at h
 omega
section
variable {H : Type} {enc : TypeId × Value → H} {w : World} {base : Nat} {spare : Nat → Bool} {held : Bool} {r : Reach} {b0 : Nat} {v : Value} {d : DataW H} {ps : List MemPlace}
set_option maxRecDepth 100000 in
theorem open_heightsK {g0 g1 g2 : Field} (hg : Try.prog.underlying 101 = some (.struct #[g0, g1, g2])) (hC : Try.prog.cellsOf 101 = 8)
 (e0 : g0.type = 30) (o0 : g0.offset = 0) (e1 : g1.type = 97) (o1 : g1.offset = 1) (e2 : g2.type = 99) (o2 : g2.offset = 5)
 (c0 : Try.prog.cellsOf 30 = 1) (c1 : Try.prog.cellsOf 97 = 4) (c2 : Try.prog.cellsOf 99 = 3)
 (hv : Value.okWide Try.prog w r b0 101 v) (h : DataW.Trod enc Try.prog w base spare held 101 v d ps) :
 ∃ (A : Option Addr) (n : Nat) (z : List Int) (ta tb tc td a0 a1 a2 : Int), v = .agg (htA A z.length n ta tb tc td a0 a1 a2) ∧ z.length ≤ n ∧ n ≤ maxLen ∧ Rd w w.heap.size 1 A z.length (rI z) ∧
   ((-32768 ≤ ta ∧ ta ≤ 32767) ∧ (-32768 ≤ tb ∧ tb ≤ 32767) ∧ (-2147483648 ≤ tc ∧ tc ≤ 2147483647) ∧ (0 ≤ td ∧ td ≤ 255) ∧ (-128 ≤ a0 ∧ a0 ≤ 127) ∧ (-128 ≤ a1 ∧ a1 ≤ 127) ∧ (-128 ≤ a2 ∧ a2 ≤ 127)) := by
 obtain ⟨cs, rfl, hsz⟩ := okWide_struct hg hv
 obtain ⟨u0, u1, u2, u3, u4, u5, u6, u7, rfl⟩ := array_k8 (hsz.trans hC)
 obtain ⟨fuel, hf⟩ := h
 obtain ⟨y0, y1, y2, n, _, _, h0, h1, h2⟩ := trod_struct3 hg hf
 have r0 : DataW.trod enc Try.prog w base spare held n 30 [u0] = some y0 := by simpa [Value.cells, e0, o0, c0] using h0
 have r1 : DataW.trod enc Try.prog w base spare held n 97 [u1, u2, u3, u4] = some y1 := by simpa [Value.cells, e1, o1, c1] using h1
 have r2 : DataW.trod enc Try.prog w base spare held n 99 [u5, u6, u7] = some y2 := by simpa [Value.cells, e2, o2, c2] using h2
 have n1 := nums_in (ks := [.i16, .i16, .i32, .u8]) (by kernel_rfl) r1
 have n2 := nums_in (ks := [.i8, .i8, .i8]) (by kernel_rfl) r2
 obtain ⟨A, m, c, z, rfl, l1, l2, hr, _⟩ := open_listK (ks := [.i64]) Try.underlying30 (by kernel_rfl) (by decide) (by kernel_rfl) r0
 obtain ⟨a1, ha1, w1⟩ := n1 0 (by decide)
 obtain ⟨a2, ha2, w2⟩ := n1 1 (by decide)
 obtain ⟨a3, ha3, w3⟩ := n1 2 (by decide)
 obtain ⟨a4, ha4, w4⟩ := n1 3 (by decide)
 obtain ⟨a5, ha5, w5⟩ := n2 0 (by decide)
 obtain ⟨a6, ha6, w6⟩ := n2 1 (by decide)
 obtain ⟨a7, ha7, w7⟩ := n2 2 (by decide)
 simp at ha1 ha2 ha3 ha4 ha5 ha6 ha7
 subst ha1 ha2 ha3 ha4 ha5 ha6 ha7
 exact ⟨A, c, toL m z, a1, a2, a3, a4, a5, a6, a7, by rw [toL_len], by rw [toL_len]; exact l1, l2, by rw [toL_len]; exact toI_rd hr (fun _ => rfl), i16_bd w1, i16_bd w2, i32_bd w3, u8_bd w4, i8_bd w5, i8_bd w6, i8_bd w7⟩
set_option maxRecDepth 100000 in
theorem open_heights (hv : Value.okWide Try.prog w r b0 101 v) (h : DataW.Trod enc Try.prog w base spare held 101 v d ps) :
 ∃ (A : Option Addr) (n : Nat) (z : List Int) (ta tb tc td a0 a1 a2 : Int), v = .agg (htA A z.length n ta tb tc td a0 a1 a2) ∧ z.length ≤ n ∧ n ≤ maxLen ∧ Rd w w.heap.size 1 A z.length (rI z) ∧
   ((-32768 ≤ ta ∧ ta ≤ 32767) ∧ (-32768 ≤ tb ∧ tb ≤ 32767) ∧ (-2147483648 ≤ tc ∧ tc ≤ 2147483647) ∧ (0 ≤ td ∧ td ≤ 255) ∧ (-128 ≤ a0 ∧ a0 ≤ 127) ∧ (-128 ≤ a1 ∧ a1 ≤ 127) ∧ (-128 ≤ a2 ∧ a2 ≤ 127)) :=
 open_heightsK Try.underlying101 (by kernel_rfl) rfl rfl rfl rfl rfl rfl (by kernel_rfl) (by kernel_rfl) (by kernel_rfl) hv h
end
end Go.Proofs.Ytljjpidigckheaa.Un
