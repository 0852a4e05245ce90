/- The frame of the row: its arguments opened. -/
import Derived.Test.YtljjpidigckheaaU5
import Derived.Test.YtljjpidigckheaaRows
import Derived.ProofKit
import Derived.OpenShut
import Derived.OpenVars
import Derived.Lib.SmallJoins
import Derived.Test.YtljjpidigckheaaMpr
import Derived.Deep.Strs
import Derived.Test.YtljjpidigckheaaPck
namespace Go.Proofs.Ytljjpidigckheaa.Un
open Go.RowKit Go.ChangeShapes Go.WideShapes Go.Deep
theorem sub_cell {cs : List Value} {o k j : Nat} {v : Value} (hj : j < k) (h : ((cs.drop o).take k)[j]? = some v) : cs[o + j]? = some v := by
 rw [List.getElem?_take_of_lt hj, List.getElem?_drop] at h
 exact h
theorem at0_map {α : Type} [Inhabited α] {n k : Nat} (f : Nat → α) (hk : k < n) : at0 ((List.range n).map f) k = f k := by
 rw [at0_get (by simpa using hk)]; simp
def numAt (P : Program) : Nat → TypeId → List (Nat × IntKind)
 | 0, _ => []
 | d + 1, t => match P.underlying t with
   | some (.int k) => [(0, k)]
   | some (.struct fs) => fs.toList.flatMap fun f => ((numAt P d f.type).filter (fun q => decide (q.1 < P.cellsOf f.type))).map fun q => (f.offset + q.1, q.2)
   | some (.array n e) => (List.range n).flatMap fun i => ((numAt P d e).filter (fun q => decide (q.1 < P.cellsOf e))).map fun q => (i * P.cellsOf e + q.1, q.2)
   | _ => []
section
variable {H : Type} {enc : TypeId × Value → H} {P : Program} {w : World} {base : Nat} {spare : Nat → Bool} {held : Bool}
theorem num_cells : ∀ (d : Nat) {fuel : Nat} {t : TypeId} {cs : List Value} {x : DataW H × List MemPlace}, DataW.trod enc P w base spare held fuel t cs = some x → ∀ j kd, (j, kd) ∈ numAt P d t → ∃ n, cs[j]? = some (.int kd n) ∧ (Lit.int kd n).wf = true
 | 0, _, _, _, _, _, j, kd, hj => by simp [numAt] at hj
 | d + 1, fuel, t, cs, x, h, j, kd, hj => by
   unfold numAt at hj
   split at hj
   · rename_i ht
     obtain ⟨n, rfl, _, wf⟩ := DataW.trod_int ht h
     simp at hj
     obtain ⟨rfl, rfl⟩ := hj
     exact ⟨n, rfl, wf⟩
   · rename_i fs ht
     obtain ⟨xs, m, _, _, _, hlen, hf⟩ := DataW.trod_struct ht h
     obtain ⟨f, hfm, hj⟩ := List.mem_flatMap.1 hj
     obtain ⟨i, hi, hfi⟩ := List.mem_iff_getElem.1 hfm
     obtain ⟨q, hk, he⟩ := List.mem_map.1 hj
     injection he with e1 e2
     subst e1 e2
     obtain ⟨hk1, hk2⟩ := List.mem_filter.1 hk
     have hi' : i < fs.size := by simpa using hi
     have h1 := hf i f (by rw [Array.getElem?_eq_getElem hi', ← hfi]; simp)
     rw [List.getElem?_eq_getElem (by omega)] at h1
     obtain ⟨n, hn, wf⟩ := num_cells d h1 q.1 q.2 hk1
     exact ⟨n, sub_cell (by simpa using hk2) hn, wf⟩
   · rename_i n e ht
     obtain ⟨xs, m, _, _, _, hlen, hf⟩ := DataW.trod_array ht h
     obtain ⟨i, hi, hj⟩ := List.mem_flatMap.1 hj
     obtain ⟨q, hk, he⟩ := List.mem_map.1 hj
     injection he with e1 e2
     subst e1 e2
     obtain ⟨hk1, hk2⟩ := List.mem_filter.1 hk
     have hi' : i < n := by simpa using hi
     have h1 := hf i hi'
     rw [List.getElem?_eq_getElem (by omega)] at h1
     obtain ⟨n, hn, wf⟩ := num_cells d h1 q.1 q.2 hk1
     exact ⟨n, sub_cell (by simpa using hk2) hn, wf⟩
   · simp at hj
def numsOf (P : Program) (t : TypeId) (ks : List IntKind) : Bool := (List.range ks.length).all fun j => (numAt P 6 t).contains (j, ks.getD j .i64)
theorem nums_in {t : TypeId} {ks : List IntKind} (h : numsOf P t ks = true) {fuel : Nat} {cs : List Value} {x : DataW H × List MemPlace} (ht : DataW.trod enc P w base spare held fuel t cs = some x) : ∀ j, j < ks.length → ∃ q, cs[j]? = some (.int (ks.getD j .i64) q) ∧ (Lit.int (ks.getD j .i64) q).wf = true := fun j hj => by
 unfold numsOf at h
 rw [List.all_eq_true] at h
 have := h j (List.mem_range.2 hj)
 exact num_cells 6 ht j _ (by simpa using this)
theorem open_listK {t e : TypeId} {ks : List IntKind} (ht : P.underlying t = some (.slice e)) (hs : P.cellsOf e = ks.length) (hsz : 0 < ks.length) (hi : numsOf P e ks = true) {fuel : Nat} {v : Value} {x : DataW H × List MemPlace}
 (h : DataW.trod enc P w base spare held fuel t [v] = some x) : ∃ (A : Option Addr) (n c : Nat) (z : Nat → Nat → Int), v = .slice A n c ∧ n ≤ c ∧ c ≤ maxLen ∧ Rd w w.heap.size ks.length A n (fun k j => .int (ks.getD j .i64) (z k j)) ∧ ∀ k, k < n → ∀ j, j < ks.length → (Lit.int (ks.getD j .i64) (z k j)).wf = true := by
 rcases open_slice ht h with ⟨h0, _⟩ | ⟨a, len, cap, m, q, D, Pl, hcs, _, hl, hcm, hm, _, hx⟩
 · obtain rfl : v = .slice none 0 0 := by simpa using h0
   exact ⟨none, 0, 0, fun _ _ => 0, rfl, Nat.le_refl _, by unfold maxLen; omega, fun h => absurd h (by omega), fun k hk => absurd hk (by omega)⟩
 · obtain rfl : v = .slice (some a) len cap := by simpa using hcs
   rw [hs] at hx
   have hlm : len ≤ m := by rw [hm]; split <;> omega
   have key : ∀ k, k < len → ∀ j, j < ks.length → ∃ n, w.cell? ((a.add (k * ks.length)).add j) = some (.int (ks.getD j .i64) n) ∧ (Lit.int (ks.getD j .i64) n).wf = true := fun k hk j hj => by
    obtain ⟨cs', h1, h2⟩ := hx k (by omega)
    obtain ⟨_, hlen, hc⟩ := World.cells?_some h1
    obtain ⟨n, hn, wf⟩ := nums_in hi h2 j hj
    exact ⟨n, (hc j hj).trans hn, wf⟩
   obtain ⟨b, o, hel⟩ := a
   have key0 : 0 < len → hel = none := fun hn => by
    obtain ⟨n, hn, _⟩ := key 0 hn 0 hsz
    unfold World.cell? at hn
    simp only [Nat.zero_mul, Addr.add, if_true] at hn
    split at hn
    · split at hn
      · cases hn
      · rename_i hsp
        simpa using hsp
    · cases hn
   have hat : ∀ k, k < len → ∀ j, j < ks.length → ∃ n, w.cell? ⟨b, o + k * ks.length + j, none⟩ = some (.int (ks.getD j .i64) n) ∧ (Lit.int (ks.getD j .i64) n).wf = true := fun k hk j hj => by
    obtain ⟨n, hn, wf⟩ := key k hk j hj
    rw [key0 (by omega), addr_add, addr_add] at hn
    exact ⟨n, hn, wf⟩
   classical
   have hch : ∀ k (hk : k < len) j (hj : j < ks.length), w.cell? ⟨b, o + k * ks.length + j, none⟩ = some (.int (ks.getD j .i64) (Classical.choose (hat k hk j hj))) := fun k hk j hj => (Classical.choose_spec (hat k hk j hj)).1
   refine ⟨some ⟨b, o, hel⟩, len, cap, fun k j => if hk : k < len then if hj : j < ks.length then Classical.choose (hat k hk j hj) else 0 else 0, rfl, hl, hcm, fun hn => ?_, fun k hk j hj => ?_⟩
   · refine ⟨b, o, by rw [key0 hn], block_lt_of_cell (hch 0 hn 0 hsz), fun k hk j hj => ?_⟩
     rw [hch k hk j hj]
     simp only [dif_pos hk, dif_pos hj]
   · simp only [dif_pos hk, dif_pos hj]
     exact (Classical.choose_spec (hat k hk j hj)).2
end
theorem ku16_bd {n : Int} (h : (Lit.int .u16 n).wf = true) : 0 ≤ n ∧ n ≤ 65535 := by
 simp [Lit.wf, IntKind.min, IntKind.max, IntKind.signed, IntKind.bits] at h
 omega
theorem _root_.Go.Proofs.Ytljjpidigckheaa.Rd.same {w : World} {B sz n : Nat} {A : Option Addr} {g g' : Nat → Nat → Value} (h : Rd w B sz A n g) (he : ∀ k, k < n → ∀ j, j < sz → g k j = g' k j) : Rd w B sz A n g' := fun hn => by
 obtain ⟨b, o, e, hb, hc⟩ := h hn
 exact ⟨b, o, e, hb, fun k hk j hj => (hc k hk j hj).trans (congrArg some (he k hk j hj))⟩
section
variable {H : Type} {enc : TypeId × Value → H} {P : Program} {w : World} {base : Nat} {spare : Nat → Bool} {held : Bool}
end
def toR (n : Nat) (z : Nat → Nat → Int) : List Rng := (List.range n).map fun k => ⟨z k 0, z k 1⟩
theorem toR_len (n : Nat) (z : Nat → Nat → Int) : (toR n z).length = n := by simp [toR]
theorem toR_at {n k : Nat} (z : Nat → Nat → Int) (hk : k < n) : at0 (toR n z) k = ⟨z k 0, z k 1⟩ := at0_map _ hk
theorem ownK : ownKnob Try.prog.godebug = none := by kernel_rfl
theorem laidOut : laidOutB Try.prog = true := by kernel_rfl
end Go.Proofs.Ytljjpidigckheaa.Un
namespace Go.Proofs.Ytljjpidigckheaa.Un
open Go.RowKit Go.ChangeShapes Go.WideShapes Go.Deep
section
variable {H : Type} {enc : TypeId × Value → H} {w : World} {base : Nat} {spare : Nat → Bool} {held : Bool} {r : Reach} {b0 : Nat} {v : Value} {d : DataW H} {ps : List MemPlace}
theorem toR_rd {B : Nat} {A : Option Addr} {n : Nat} {z : Nat → Nat → Int} {g : Nat → Nat → Value} (h : Rd w B 2 A n g) (h0 : ∀ k, g k 0 = I (z k 0)) (h1 : ∀ k, g k 1 = I (z k 1)) : Rd w B 2 A n (rR (toR n z)) :=
 h.same fun k hk j hj => by
  rcases (show j = 0 ∨ j = 1 by omega) with rfl | rfl
  · rw [h0]; show _ = (at0 (toR n z) _).c 0; rw [toR_at z hk]; rfl
  · rw [h1]; show _ = (at0 (toR n z) _).c 1; rw [toR_at z hk]; rfl
end
end Go.Proofs.Ytljjpidigckheaa.Un
namespace Go.Proofs.Ytljjpidigckheaa.Un
open Go.RowKit Go.ChangeShapes Go.WideShapes Go.Deep
theorem array_k5 {α : Type} {cs : Array α} (h : cs.size = 5) : ∃ c0 c1 c2 c3 c4, cs = #[c0, c1, c2, c3, c4] := by
 obtain ⟨l⟩ := cs
 match l, h with
 | [c0, c1, c2, c3, c4], _ => exact ⟨c0, c1, c2, c3, c4, rfl⟩
section
variable {H : Type} {enc : TypeId × Value → H} {w : World} {base : Nat} {spare : Nat → Bool} {held : Bool} {r : Reach} {b0 : Nat} {v : Value} {d : DataW H} {ps : List MemPlace}
set_option maxRecDepth 100000 in
theorem open_sheetK {g0 g1 g2 g3 : Field} (hg : Try.prog.underlying 37 = some (.struct #[g0, g1, g2, g3])) (hC : Try.prog.cellsOf 37 = 5)
 (e0 : g0.type = 3) (o0 : g0.offset = 0) (e1 : g1.type = 3) (o1 : g1.offset = 1) (e2 : g2.type = 24) (o2 : g2.offset = 2) (e3 : g3.type = 35) (o3 : g3.offset = 4)
 (c0 : Try.prog.cellsOf 3 = 1) (c1 : Try.prog.cellsOf 24 = 2) (c2 : Try.prog.cellsOf 35 = 1)
 (hv : Value.okWide Try.prog w r b0 37 v) (h : DataW.Trod enc Try.prog w base spare held 37 v d ps) :
 ∃ (x : Sht) (A : Option Addr) (n : Nat), v = .agg (shA x A n) ∧ (x.s.length ≤ n ∧ n ≤ maxLen) ∧ Rd w w.heap.size 2 A x.s.length (rR x.s) := by
 obtain ⟨cs, rfl, hsz⟩ := okWide_struct hg hv
 obtain ⟨u0, u1, u2, u3, u4, rfl⟩ := array_k5 (hsz.trans hC)
 obtain ⟨fuel, hf⟩ := h
 obtain ⟨y0, y1, y2, y3, n, _, _, h0, h1, h2, h3⟩ := _root_.Go.Joins.trod_struct4 hg hf
 have r0 : DataW.trod enc Try.prog w base spare held n 3 [u0] = some y0 := by simpa [Value.cells, e0, o0, c0] using h0
 have r1 : DataW.trod enc Try.prog w base spare held n 3 [u1] = some y1 := by simpa [Value.cells, e1, o1, c0] using h1
 have r2 : DataW.trod enc Try.prog w base spare held n 24 [u2, u3] = some y2 := by simpa [Value.cells, e2, o2, c1] using h2
 have r3 : DataW.trod enc Try.prog w base spare held n 35 [u4] = some y3 := by simpa [Value.cells, e3, o3, c2] using h3
 have n0 := nums_in (ks := [.i64]) (by kernel_rfl) r0
 have n1 := nums_in (ks := [.i64]) (by kernel_rfl) r1
 have n2 := nums_in (ks := [.i64, .i64]) (by kernel_rfl) r2
 obtain ⟨A, m, c, z, rfl, l1, l2, hr, _⟩ := open_listK (ks := [.i64, .i64]) Try.underlying35 (by kernel_rfl) (by decide) (by kernel_rfl) r3
 obtain ⟨a0, ha0, _⟩ := n0 0 (by decide)
 obtain ⟨a1, ha1, _⟩ := n1 0 (by decide)
 obtain ⟨a2, ha2, _⟩ := n2 0 (by decide)
 obtain ⟨a3, ha3, _⟩ := n2 1 (by decide)
 simp at ha0 ha1 ha2 ha3
 subst ha0 ha1 ha2 ha3
 refine ⟨⟨a0, a1, ⟨a2, a3⟩, toR m z⟩, A, c, by show _ = Value.agg #[I a0, I a1, I a2, I a3, .slice A (toR m z).length c]; rw [toR_len], ?_, ?_⟩
 · simp only [toR_len]; exact ⟨l1, l2⟩
 · simp only [toR_len]; exact toR_rd hr (fun _ => rfl) (fun _ => rfl)
set_option maxRecDepth 100000 in
theorem open_sheet (hv : Value.okWide Try.prog w r b0 37 v) (h : DataW.Trod enc Try.prog w base spare held 37 v d ps) :
 ∃ (x : Sht) (A : Option Addr) (n : Nat), v = .agg (shA x A n) ∧ (x.s.length ≤ n ∧ n ≤ maxLen) ∧ Rd w w.heap.size 2 A x.s.length (rR x.s) :=
 open_sheetK Try.underlying37 (by kernel_rfl) rfl rfl rfl rfl rfl rfl rfl rfl (by kernel_rfl) (by kernel_rfl) (by kernel_rfl) hv h
end
end Go.Proofs.Ytljjpidigckheaa.Un
namespace Go.Proofs.Ytljjpidigckheaa.Un
open Go.RowKit Go.ChangeShapes Go.WideShapes Go.Deep
section
variable {H : Type} {enc : TypeId × Value → H} {w : World} {base : Nat} {spare : Nat → Bool} {held : Bool} {r : Reach} {b0 : Nat} {v : Value} {d : DataW H} {ps : List MemPlace}
end
end Go.Proofs.Ytljjpidigckheaa.Un
namespace Go.Proofs.Ytljjpidigckheaa.Un
open Go.RowKit Go.ChangeShapes Go.WideShapes Go.Deep
def toH (n : Nat) (z : Nat → Nat → Int) : List Int := (List.range n).map fun k => z k 0
theorem toH_len (n : Nat) (z : Nat → Nat → Int) : (toH n z).length = n := by simp [toH]
theorem toH_at {n k : Nat} (z : Nat → Nat → Int) (hk : k < n) : at0 (toH n z) k = z k 0 := at0_map _ hk
section
variable {H : Type} {enc : TypeId × Value → H} {w : World} {base : Nat} {spare : Nat → Bool} {held : Bool} {r : Reach} {b0 : Nat} {v : Value} {d : DataW H} {ps : List MemPlace}
set_option maxRecDepth 100000 in
theorem open_h16 {fuel : Nat} {x : DataW H × List MemPlace} (h : DataW.trod enc Try.prog w base spare held fuel 78 [v] = some x) :
 ∃ (A : Option Addr) (c : Nat) (xs : List Int), v = .slice A xs.length c ∧ xs.length ≤ c ∧ c ≤ maxLen ∧ Rd w w.heap.size 1 A xs.length (rH xs) ∧ Is16 xs := by
 obtain ⟨A, m, c', z, he, l1, l2, hr, hz⟩ := open_listK (ks := [.u16]) Try.underlying78 (by kernel_rfl) (by decide) (by kernel_rfl) h
 refine ⟨A, c', toH m z, by rw [toH_len]; exact he, by rw [toH_len]; exact l1, l2, ?_, fun k => ?_⟩
 · rw [toH_len]
   exact hr.same fun k hk j hj => by
    obtain rfl : j = 0 := by simp at hj; exact hj
    show _ = H16 (at0 (toH m z) k)
    rw [toH_at z hk]
    rfl
 · by_cases hk : k < m
   · rw [toH_at z hk]
     exact ku16_bd (hz k hk 0 (by decide))
   · have e : at0 (toH m z) k = 0 := by
        unfold at0
        rw [List.getD_eq_getElem?_getD, List.getElem?_eq_none (by rw [toH_len]; omega)]
        rfl
     rw [e]
     omega
set_option maxRecDepth 100000 in
theorem open_listH (hv : Value.okWide Try.prog w r b0 78 v) (h : DataW.Trod enc Try.prog w base spare held 78 v d ps) :
 ∃ (A : Option Addr) (c : Nat) (xs : List Int), v = .slice A xs.length c ∧ xs.length ≤ c ∧ c ≤ maxLen ∧ Rd w w.heap.size 1 A xs.length (rH xs) ∧ Is16 xs := by
 obtain ⟨a, l, c, rfl⟩ := okWide_slice Try.underlying78 hv
 obtain ⟨fuel, hf⟩ := h
 exact open_h16 hf
end
end Go.Proofs.Ytljjpidigckheaa.Un
