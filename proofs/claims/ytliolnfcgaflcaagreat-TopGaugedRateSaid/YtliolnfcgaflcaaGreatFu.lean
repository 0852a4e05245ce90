/- The frame for arguments made of integers of any kind: structs, arrays and slices of them (units). -/
import Derived.Test.YtliolnfcgaflcaaGreatU5
import Derived.Test.YtliolnfcgaflcaaGreatRows
import Derived.ProofKit
import Derived.OpenShut
import Derived.OpenVars
import Derived.Lib.SmallJoins
namespace Go.Proofs.YtliolnfcgaflcaaGreat.Un
open Go.RowKit Go.ChangeShapes Go.WideShapes Go.Deep
theorem sub_cell {cs : List Value} {o k j : Nat} {v : Value} (hj : j < k) (h : ((cs.drop o).take k)[j]? = some v) : cs[o + j]? = some v := by
 rw [List.getElem?_take_of_lt hj, List.getElem?_drop] at h
 exact h
theorem at0_map {α : Type} [Inhabited α] {n k : Nat} (f : Nat → α) (hk : k < n) : at0 ((List.range n).map f) k = f k := by
 rw [at0_get (by simpa using hk)]; simp
def numAt (P : Program) : Nat → TypeId → List (Nat × IntKind)
 | 0, _ => []
 | d + 1, t => match P.underlying t with
   | some (.int k) => [(0, k)]
   | some (.struct fs) => fs.toList.flatMap fun f => ((numAt P d f.type).filter (fun q => decide (q.1 < P.cellsOf f.type))).map fun q => (f.offset + q.1, q.2)
   | some (.array n e) => (List.range n).flatMap fun i => ((numAt P d e).filter (fun q => decide (q.1 < P.cellsOf e))).map fun q => (i * P.cellsOf e + q.1, q.2)
   | _ => []
section
variable {H : Type} {enc : TypeId × Value → H} {P : Program} {w : World} {base : Nat} {spare : Nat → Bool} {held : Bool}
theorem agg_of {P : Program} {t : TypeId} {fs : Array Field} {r : Reach} {b : Nat} {v : Value} {n : Nat} (hu : P.underlying t = some (.struct fs)) (hv : Value.okWide P w r b t v) (hc : P.cellsOf t = n) : ∃ cs : Array Value, v = .agg cs ∧ cs.size = n := by
 obtain ⟨cs, h1, h2⟩ := okWide_struct hu hv
 exact ⟨cs, h1, h2.trans hc⟩
theorem arr_of {P : Program} {t e : TypeId} {m : Nat} {r : Reach} {b : Nat} {v : Value} {n : Nat} (hu : P.underlying t = some (.array m e)) (hv : Value.okWide P w r b t v) (hc : P.cellsOf t = n) : ∃ cs : Array Value, v = .agg cs ∧ cs.size = n := by
 simp only [Value.okWide, hu] at hv
 obtain ⟨cs, h1, h2, _⟩ := hv
 exact ⟨cs, h1, h2.trans hc⟩
theorem num_cells : ∀ (d : Nat) {fuel : Nat} {t : TypeId} {cs : List Value} {x : DataW H × List MemPlace}, DataW.trod enc P w base spare held fuel t cs = some x → ∀ j kd, (j, kd) ∈ numAt P d t → ∃ n, cs[j]? = some (.int kd n) ∧ (Lit.int kd n).wf = true
 | 0, _, _, _, _, _, j, kd, hj => by simp [numAt] at hj
 | d + 1, fuel, t, cs, x, h, j, kd, hj => by
   unfold numAt at hj
   split at hj
   · rename_i ht
     obtain ⟨n, rfl, _, wf⟩ := DataW.trod_int ht h
     simp at hj
     obtain ⟨rfl, rfl⟩ := hj
     exact ⟨n, rfl, wf⟩
   · rename_i fs ht
     obtain ⟨xs, m, _, _, _, hlen, hf⟩ := DataW.trod_struct ht h
     obtain ⟨f, hfm, hj⟩ := List.mem_flatMap.1 hj
     obtain ⟨i, hi, hfi⟩ := List.mem_iff_getElem.1 hfm
     obtain ⟨q, hk, he⟩ := List.mem_map.1 hj
     injection he with e1 e2
     subst e1 e2
     obtain ⟨hk1, hk2⟩ := List.mem_filter.1 hk
     have hi' : i < fs.size := by simpa using hi
     have h1 := hf i f (by rw [Array.getElem?_eq_getElem hi', ← hfi]; simp)
     rw [List.getElem?_eq_getElem (by omega)] at h1
     obtain ⟨n, hn, wf⟩ := num_cells d h1 q.1 q.2 hk1
     exact ⟨n, sub_cell (by simpa using hk2) hn, wf⟩
   · rename_i n e ht
     obtain ⟨xs, m, _, _, _, hlen, hf⟩ := DataW.trod_array ht h
     obtain ⟨i, hi, hj⟩ := List.mem_flatMap.1 hj
     obtain ⟨q, hk, he⟩ := List.mem_map.1 hj
     injection he with e1 e2
     subst e1 e2
     obtain ⟨hk1, hk2⟩ := List.mem_filter.1 hk
     have hi' : i < n := by simpa using hi
     have h1 := hf i hi'
     rw [List.getElem?_eq_getElem (by omega)] at h1
     obtain ⟨n, hn, wf⟩ := num_cells d h1 q.1 q.2 hk1
     exact ⟨n, sub_cell (by simpa using hk2) hn, wf⟩
   · simp at hj
def numsOf (P : Program) (t : TypeId) (ks : List IntKind) : Bool := (List.range ks.length).all fun j => (numAt P 6 t).contains (j, ks.getD j .i64)
theorem nums_in {t : TypeId} {ks : List IntKind} (h : numsOf P t ks = true) {fuel : Nat} {cs : List Value} {x : DataW H × List MemPlace} (ht : DataW.trod enc P w base spare held fuel t cs = some x) : ∀ j, j < ks.length → ∃ q, cs[j]? = some (.int (ks.getD j .i64) q) ∧ (Lit.int (ks.getD j .i64) q).wf = true := fun j hj => by
 unfold numsOf at h
 rw [List.all_eq_true] at h
 have := h j (List.mem_range.2 hj)
 exact num_cells 6 ht j _ (by simpa using this)
theorem open_listK {t e : TypeId} {ks : List IntKind} (ht : P.underlying t = some (.slice e)) (hs : P.cellsOf e = ks.length) (hsz : 0 < ks.length) (hi : numsOf P e ks = true) {fuel : Nat} {v : Value} {x : DataW H × List MemPlace}
 (h : DataW.trod enc P w base spare held fuel t [v] = some x) : ∃ (A : Option Addr) (n c : Nat) (z : Nat → Nat → Int), v = .slice A n c ∧ n ≤ c ∧ c ≤ maxLen ∧ Rd w w.heap.size ks.length A n (fun k j => .int (ks.getD j .i64) (z k j)) ∧ ∀ k, k < n → ∀ j, j < ks.length → (Lit.int (ks.getD j .i64) (z k j)).wf = true := by
 rcases open_slice ht h with ⟨h0, _⟩ | ⟨a, len, cap, m, q, D, Pl, hcs, _, hl, hcm, hm, _, hx⟩
 · obtain rfl : v = .slice none 0 0 := by simpa using h0
   exact ⟨none, 0, 0, fun _ _ => 0, rfl, Nat.le_refl _, by unfold maxLen; omega, fun h => absurd h (by omega), fun k hk => absurd hk (by omega)⟩
 · obtain rfl : v = .slice (some a) len cap := by simpa using hcs
   rw [hs] at hx
   have hlm : len ≤ m := by rw [hm]; split <;> omega
   have key : ∀ k, k < len → ∀ j, j < ks.length → ∃ n, w.cell? ((a.add (k * ks.length)).add j) = some (.int (ks.getD j .i64) n) ∧ (Lit.int (ks.getD j .i64) n).wf = true := fun k hk j hj => by
    obtain ⟨cs', h1, h2⟩ := hx k (by omega)
    obtain ⟨_, hlen, hc⟩ := World.cells?_some h1
    obtain ⟨n, hn, wf⟩ := nums_in hi h2 j hj
    exact ⟨n, (hc j hj).trans hn, wf⟩
   obtain ⟨b, o, hel⟩ := a
   have key0 : 0 < len → hel = none := fun hn => by
    obtain ⟨n, hn, _⟩ := key 0 hn 0 hsz
    unfold World.cell? at hn
    simp only [Nat.zero_mul, Addr.add, if_true] at hn
    split at hn
    · split at hn
      · cases hn
      · rename_i hsp
        simpa using hsp
    · cases hn
   have hat : ∀ k, k < len → ∀ j, j < ks.length → ∃ n, w.cell? ⟨b, o + k * ks.length + j, none⟩ = some (.int (ks.getD j .i64) n) ∧ (Lit.int (ks.getD j .i64) n).wf = true := fun k hk j hj => by
    obtain ⟨n, hn, wf⟩ := key k hk j hj
    rw [key0 (by omega), addr_add, addr_add] at hn
    exact ⟨n, hn, wf⟩
   classical
   have hch : ∀ k (hk : k < len) j (hj : j < ks.length), w.cell? ⟨b, o + k * ks.length + j, none⟩ = some (.int (ks.getD j .i64) (Classical.choose (hat k hk j hj))) := fun k hk j hj => (Classical.choose_spec (hat k hk j hj)).1
   refine ⟨some ⟨b, o, hel⟩, len, cap, fun k j => if hk : k < len then if hj : j < ks.length then Classical.choose (hat k hk j hj) else 0 else 0, rfl, hl, hcm, fun hn => ?_, fun k hk j hj => ?_⟩
   · refine ⟨b, o, by rw [key0 hn], block_lt_of_cell (hch 0 hn 0 hsz), fun k hk j hj => ?_⟩
     rw [hch k hk j hj]
     simp only [dif_pos hk, dif_pos hj]
   · simp only [dif_pos hk, dif_pos hj]
     exact (Classical.choose_spec (hat k hk j hj)).2
end
theorem i8_bd {n : Int} (h : (Lit.int .i8 n).wf = true) : -128 ≤ n ∧ n ≤ 127 := by
 simp [Lit.wf, IntKind.min, IntKind.max, IntKind.signed, IntKind.bits] at h
 omega
theorem u8_bd {n : Int} (h : (Lit.int .u8 n).wf = true) : 0 ≤ n ∧ n ≤ 255 := by
 simp [Lit.wf, IntKind.min, IntKind.max, IntKind.signed, IntKind.bits] at h
 omega
theorem ku16_bd {n : Int} (h : (Lit.int .u16 n).wf = true) : 0 ≤ n ∧ n ≤ 65535 := by
 simp [Lit.wf, IntKind.min, IntKind.max, IntKind.signed, IntKind.bits] at h
 omega
theorem u32_bd {n : Int} (h : (Lit.int .u32 n).wf = true) : 0 ≤ n ∧ n ≤ 4294967295 := by
 simp [Lit.wf, IntKind.min, IntKind.max, IntKind.signed, IntKind.bits] at h
 omega
theorem i64_bd {n : Int} (h : (Lit.int .i64 n).wf = true) : -9223372036854775808 ≤ n ∧ n ≤ 9223372036854775807 := by
 simp [Lit.wf, IntKind.min, IntKind.max, IntKind.signed, IntKind.bits] at h
 omega
theorem _root_.Go.Proofs.YtliolnfcgaflcaaGreat.Rd.same {w : World} {B sz n : Nat} {A : Option Addr} {g g' : Nat → Nat → Value} (h : Rd w B sz A n g) (he : ∀ k, k < n → ∀ j, j < sz → g k j = g' k j) : Rd w B sz A n g' := fun hn => by
 obtain ⟨b, o, e, hb, hc⟩ := h hn
 exact ⟨b, o, e, hb, fun k hk j hj => (hc k hk j hj).trans (congrArg some (he k hk j hj))⟩
section
variable {H : Type} {enc : TypeId × Value → H} {P : Program} {w : World} {base : Nat} {spare : Nat → Bool} {held : Bool}
theorem open_nums {t : TypeId} {ks : List IntKind} {fuel : Nat} {cs : Array Value} {x : DataW H × List MemPlace} (hi : numsOf P t ks = true) (hs : cs.size = ks.length) (ht : DataW.trod enc P w base spare held fuel t cs.toList = some x) :
 ∃ z : Nat → Int, cs = ((List.range ks.length).map fun j => .int (ks.getD j .i64) (z j)).toArray ∧ ∀ j, j < ks.length → (Lit.int (ks.getD j .i64) (z j)).wf = true := by
 have h1 := nums_in hi ht
 classical
 refine ⟨fun j => if hj : j < ks.length then Classical.choose (h1 j hj) else 0, ?_, fun j hj => ?_⟩
 · apply Array.ext'
   apply List.ext_getElem?
   intro i
   by_cases hii : i < ks.length
   · have := (Classical.choose_spec (h1 i hii)).1
     rw [this]
     simp only [List.getElem?_map]
     rw [List.getElem?_range hii]
     simp only [Option.map_some, dif_pos hii]
   · rw [List.getElem?_eq_none (by rw [Array.length_toList]; omega), List.getElem?_eq_none (by rw [List.length_map, List.length_range]; omega)]
 · simp only [dif_pos hj]
   exact (Classical.choose_spec (h1 j hj)).2
theorem open_aggK {t : TypeId} {fs : Array Field} {ks : List IntKind} {r : Reach} {b0 : Nat} {v : Value} {d : DataW H} {ps : List MemPlace} (hu : P.underlying t = some (.struct fs)) (hc : P.cellsOf t = ks.length) (hi : numsOf P t ks = true) (hv : Value.okWide P w r b0 t v) (h : DataW.Trod enc P w base spare held t v d ps) :
 ∃ z : Nat → Int, v = .agg ((List.range ks.length).map fun j => .int (ks.getD j .i64) (z j)).toArray ∧ ∀ j, j < ks.length → (Lit.int (ks.getD j .i64) (z j)).wf = true := by
 obtain ⟨cs, rfl, hsz⟩ := agg_of hu hv hc
 obtain ⟨fuel, hf⟩ := h
 obtain ⟨z, h1, h2⟩ := open_nums hi hsz hf
 exact ⟨z, by rw [h1], h2⟩
theorem open_arrK {t e : TypeId} {m : Nat} {ks : List IntKind} {r : Reach} {b0 : Nat} {v : Value} {d : DataW H} {ps : List MemPlace} (hu : P.underlying t = some (.array m e)) (hc : P.cellsOf t = ks.length) (hi : numsOf P t ks = true) (hv : Value.okWide P w r b0 t v) (h : DataW.Trod enc P w base spare held t v d ps) :
 ∃ z : Nat → Int, v = .agg ((List.range ks.length).map fun j => .int (ks.getD j .i64) (z j)).toArray ∧ ∀ j, j < ks.length → (Lit.int (ks.getD j .i64) (z j)).wf = true := by
 obtain ⟨cs, rfl, hsz⟩ := arr_of hu hv hc
 obtain ⟨fuel, hf⟩ := h
 obtain ⟨z, h1, h2⟩ := open_nums hi hsz hf
 exact ⟨z, by rw [h1], h2⟩
end
def toL (n : Nat) (z : Nat → Nat → Int) : List Int := (List.range n).map fun k => z k 0
theorem toL_len (n : Nat) (z : Nat → Nat → Int) : (toL n z).length = n := by simp [toL]
theorem toL_at {n k : Nat} (z : Nat → Nat → Int) (hk : k < n) : at0 (toL n z) k = z k 0 := at0_map _ hk
def toR (n : Nat) (z : Nat → Nat → Int) : List Rng := (List.range n).map fun k => ⟨z k 0, z k 1⟩
theorem toR_len (n : Nat) (z : Nat → Nat → Int) : (toR n z).length = n := by simp [toR]
theorem toR_at {n k : Nat} (z : Nat → Nat → Int) (hk : k < n) : at0 (toR n z) k = ⟨z k 0, z k 1⟩ := at0_map _ hk
set_option maxRecDepth 100000 in
theorem open_frac {H : Type} {enc : TypeId × Value → H} {w : World} {base : Nat} {spare : Nat → Bool} {held : Bool} {r : Reach} {b0 : Nat} {v : Value} {d : DataW H} {ps : List MemPlace} (hv : Value.okWide Tryz.prog w r b0 47 v) (h : DataW.Trod enc Tryz.prog w base spare held 47 v d ps) :
 ∃ f : Frc, v = f.val := by
 obtain ⟨z, h1, _⟩ := open_aggK (ks := [.i64, .i64]) Tryz.underlying47 (by kernel_rfl) (by kernel_rfl) hv h
 exact ⟨⟨z 0, z 1⟩, h1⟩
set_option maxRecDepth 100000 in
theorem open_range {H : Type} {enc : TypeId × Value → H} {w : World} {base : Nat} {spare : Nat → Bool} {held : Bool} {r : Reach} {b0 : Nat} {v : Value} {d : DataW H} {ps : List MemPlace} (hv : Value.okWide Tryz.prog w r b0 24 v) (h : DataW.Trod enc Tryz.prog w base spare held 24 v d ps) :
 ∃ f : Rng, v = f.val := by
 obtain ⟨z, h1, _⟩ := open_aggK (ks := [.i64, .i64]) Tryz.underlying24 (by kernel_rfl) (by kernel_rfl) hv h
 exact ⟨⟨z 0, z 1⟩, h1⟩
theorem ownK : ownKnob Tryz.prog.godebug = none := by kernel_rfl
theorem laidOut : laidOutB Tryz.prog = true := by kernel_rfl
theorem varsR : varsRowed Tryz.prog ["math/bits.divideError", "math/bits.overflowError"] = true := by kernel_rfl
end Go.Proofs.YtliolnfcgaflcaaGreat.Un
