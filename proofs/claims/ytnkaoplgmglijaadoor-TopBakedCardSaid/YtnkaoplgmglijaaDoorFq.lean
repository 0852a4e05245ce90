/- The frame for arguments made of integers of any kind, and for the laid variables (melt). -/
import Derived.Test.YtnkaoplgmglijaaDoorNi
import Derived.ProofKit
import Derived.OpenShut
import Derived.OpenVars
import Derived.LaidMore
import Derived.Stop.Joined
import Derived.Lib.SmallJoins
namespace Go.Proofs.YtnkaoplgmglijaaDoor
open Go.RowKit Go.ChangeShapes Go.WideShapes Go.Deep
theorem sub_cell {cs : List Value} {o k j : Nat} {v : Value} (hj : j < k) (h : ((cs.drop o).take k)[j]? = some v) : cs[o + j]? = some v := by
 rw [List.getElem?_take_of_lt hj, List.getElem?_drop] at h
 exact h
theorem at0_map {α : Type} [Inhabited α] {n k : Nat} (f : Nat → α) (hk : k < n) : at0 ((List.range n).map f) k = f k := by
 rw [at0_get (by simpa using hk)]; simp
def numAt (P : Program) : Nat → TypeId → List (Nat × IntKind)
 | 0, _ => []
 | d + 1, t => match P.underlying t with
   | some (.int k) => [(0, k)]
   | some (.struct fs) => fs.toList.flatMap fun f => ((numAt P d f.type).filter (fun q => decide (q.1 < P.cellsOf f.type))).map fun q => (f.offset + q.1, q.2)
   | some (.array n e) => (List.range n).flatMap fun i => ((numAt P d e).filter (fun q => decide (q.1 < P.cellsOf e))).map fun q => (i * P.cellsOf e + q.1, q.2)
   | _ => []
section
variable {H : Type} {enc : TypeId × Value → H} {P : Program} {w : World} {base : Nat} {spare : Nat → Bool} {held : Bool}
theorem agg_of {P : Program} {t : TypeId} {fs : Array Field} {r : Reach} {b : Nat} {v : Value} {n : Nat} (hu : P.underlying t = some (.struct fs)) (hv : Value.okWide P w r b t v) (hc : P.cellsOf t = n) : ∃ cs : Array Value, v = .agg cs ∧ cs.size = n := by
 obtain ⟨cs, h1, h2⟩ := okWide_struct hu hv
 exact ⟨cs, h1, h2.trans hc⟩
theorem arr_of {P : Program} {t e : TypeId} {m : Nat} {r : Reach} {b : Nat} {v : Value} {n : Nat} (hu : P.underlying t = some (.array m e)) (hv : Value.okWide P w r b t v) (hc : P.cellsOf t = n) : ∃ cs : Array Value, v = .agg cs ∧ cs.size = n := by
 simp only [Value.okWide, hu] at hv
 obtain ⟨cs, h1, h2, _⟩ := hv
 exact ⟨cs, h1, h2.trans hc⟩
theorem num_cells : ∀ (d : Nat) {fuel : Nat} {t : TypeId} {cs : List Value} {x : DataW H × List MemPlace}, DataW.trod enc P w base spare held fuel t cs = some x → ∀ j kd, (j, kd) ∈ numAt P d t → ∃ n, cs[j]? = some (.int kd n) ∧ (Lit.int kd n).wf = true
 | 0, _, _, _, _, _, j, kd, hj => by simp [numAt] at hj
 | d + 1, fuel, t, cs, x, h, j, kd, hj => by
   unfold numAt at hj
   split at hj
   · rename_i ht
     obtain ⟨n, rfl, _, wf⟩ := DataW.trod_int ht h
     simp at hj
     obtain ⟨rfl, rfl⟩ := hj
     exact ⟨n, rfl, wf⟩
   · rename_i fs ht
     obtain ⟨xs, m, _, _, _, hlen, hf⟩ := DataW.trod_struct ht h
     obtain ⟨f, hfm, hj⟩ := List.mem_flatMap.1 hj
     obtain ⟨i, hi, hfi⟩ := List.mem_iff_getElem.1 hfm
     obtain ⟨q, hk, he⟩ := List.mem_map.1 hj
     injection he with e1 e2
     subst e1 e2
     obtain ⟨hk1, hk2⟩ := List.mem_filter.1 hk
     have hi' : i < fs.size := by simpa using hi
     have h1 := hf i f (by rw [Array.getElem?_eq_getElem hi', ← hfi]; simp)
     rw [List.getElem?_eq_getElem (by omega)] at h1
     obtain ⟨n, hn, wf⟩ := num_cells d h1 q.1 q.2 hk1
     exact ⟨n, sub_cell (by simpa using hk2) hn, wf⟩
   · rename_i n e ht
     obtain ⟨xs, m, _, _, _, hlen, hf⟩ := DataW.trod_array ht h
     obtain ⟨i, hi, hj⟩ := List.mem_flatMap.1 hj
     obtain ⟨q, hk, he⟩ := List.mem_map.1 hj
     injection he with e1 e2
     subst e1 e2
     obtain ⟨hk1, hk2⟩ := List.mem_filter.1 hk
     have hi' : i < n := by simpa using hi
     have h1 := hf i hi'
     rw [List.getElem?_eq_getElem (by omega)] at h1
     obtain ⟨n, hn, wf⟩ := num_cells d h1 q.1 q.2 hk1
     exact ⟨n, sub_cell (by simpa using hk2) hn, wf⟩
   · simp at hj
def numsOf (P : Program) (t : TypeId) (ks : List IntKind) : Bool := (List.range ks.length).all fun j => (numAt P 6 t).contains (j, ks.getD j .i64)
theorem nums_in {t : TypeId} {ks : List IntKind} (h : numsOf P t ks = true) {fuel : Nat} {cs : List Value} {x : DataW H × List MemPlace} (ht : DataW.trod enc P w base spare held fuel t cs = some x) : ∀ j, j < ks.length → ∃ q, cs[j]? = some (.int (ks.getD j .i64) q) ∧ (Lit.int (ks.getD j .i64) q).wf = true := fun j hj => by
 unfold numsOf at h
 rw [List.all_eq_true] at h
 have := h j (List.mem_range.2 hj)
 exact num_cells 6 ht j _ (by simpa using this)
theorem open_listK {t e : TypeId} {ks : List IntKind} (ht : P.underlying t = some (.slice e)) (hs : P.cellsOf e = ks.length) (hsz : 0 < ks.length) (hi : numsOf P e ks = true) {fuel : Nat} {v : Value} {x : DataW H × List MemPlace}
 (h : DataW.trod enc P w base spare held fuel t [v] = some x) : ∃ (A : Option Addr) (n c : Nat) (z : Nat → Nat → Int), v = .slice A n c ∧ n ≤ c ∧ c ≤ maxLen ∧ Rd w w.heap.size ks.length A n (fun k j => .int (ks.getD j .i64) (z k j)) ∧ ∀ k, k < n → ∀ j, j < ks.length → (Lit.int (ks.getD j .i64) (z k j)).wf = true := by
 rcases open_slice ht h with ⟨h0, _⟩ | ⟨a, len, cap, m, q, D, Pl, hcs, _, hl, hcm, hm, _, hx⟩
 · obtain rfl : v = .slice none 0 0 := by simpa using h0
   exact ⟨none, 0, 0, fun _ _ => 0, rfl, Nat.le_refl _, by unfold maxLen; omega, fun h => absurd h (by omega), fun k hk => absurd hk (by omega)⟩
 · obtain rfl : v = .slice (some a) len cap := by simpa using hcs
   rw [hs] at hx
   have hlm : len ≤ m := by rw [hm]; split <;> omega
   have key : ∀ k, k < len → ∀ j, j < ks.length → ∃ n, w.cell? ((a.add (k * ks.length)).add j) = some (.int (ks.getD j .i64) n) ∧ (Lit.int (ks.getD j .i64) n).wf = true := fun k hk j hj => by
    obtain ⟨cs', h1, h2⟩ := hx k (by omega)
    obtain ⟨_, hlen, hc⟩ := World.cells?_some h1
    obtain ⟨n, hn, wf⟩ := nums_in hi h2 j hj
    exact ⟨n, (hc j hj).trans hn, wf⟩
   obtain ⟨b, o, hel⟩ := a
   have key0 : 0 < len → hel = none := fun hn => by
    obtain ⟨n, hn, _⟩ := key 0 hn 0 hsz
    unfold World.cell? at hn
    simp only [Nat.zero_mul, Addr.add, if_true] at hn
    split at hn
    · split at hn
      · cases hn
      · rename_i hsp
        simpa using hsp
    · cases hn
   have hat : ∀ k, k < len → ∀ j, j < ks.length → ∃ n, w.cell? ⟨b, o + k * ks.length + j, none⟩ = some (.int (ks.getD j .i64) n) ∧ (Lit.int (ks.getD j .i64) n).wf = true := fun k hk j hj => by
    obtain ⟨n, hn, wf⟩ := key k hk j hj
    rw [key0 (by omega), addr_add, addr_add] at hn
    exact ⟨n, hn, wf⟩
   classical
   have hch : ∀ k (hk : k < len) j (hj : j < ks.length), w.cell? ⟨b, o + k * ks.length + j, none⟩ = some (.int (ks.getD j .i64) (Classical.choose (hat k hk j hj))) := fun k hk j hj => (Classical.choose_spec (hat k hk j hj)).1
   refine ⟨some ⟨b, o, hel⟩, len, cap, fun k j => if hk : k < len then if hj : j < ks.length then Classical.choose (hat k hk j hj) else 0 else 0, rfl, hl, hcm, fun hn => ?_, fun k hk j hj => ?_⟩
   · refine ⟨b, o, by rw [key0 hn], block_lt_of_cell (hch 0 hn 0 hsz), fun k hk j hj => ?_⟩
     rw [hch k hk j hj]
     simp only [dif_pos hk, dif_pos hj]
   · simp only [dif_pos hk, dif_pos hj]
     exact (Classical.choose_spec (hat k hk j hj)).2
end
theorem i8_bd {n : Int} (h : (Lit.int .i8 n).wf = true) : -128 ≤ n ∧ n ≤ 127 := by
 simp [Lit.wf, IntKind.min, IntKind.max, IntKind.signed, IntKind.bits] at h
 omega
theorem u8_bd {n : Int} (h : (Lit.int .u8 n).wf = true) : 0 ≤ n ∧ n ≤ 255 := by
 simp [Lit.wf, IntKind.min, IntKind.max, IntKind.signed, IntKind.bits] at h
 omega
theorem ku16_bd {n : Int} (h : (Lit.int .u16 n).wf = true) : 0 ≤ n ∧ n ≤ 65535 := by
 simp [Lit.wf, IntKind.min, IntKind.max, IntKind.signed, IntKind.bits] at h
 omega
theorem u32_bd {n : Int} (h : (Lit.int .u32 n).wf = true) : 0 ≤ n ∧ n ≤ 4294967295 := by
 simp [Lit.wf, IntKind.min, IntKind.max, IntKind.signed, IntKind.bits] at h
 omega
theorem i64_bd {n : Int} (h : (Lit.int .i64 n).wf = true) : -9223372036854775808 ≤ n ∧ n ≤ 9223372036854775807 := by
 simp [Lit.wf, IntKind.min, IntKind.max, IntKind.signed, IntKind.bits] at h
 omega
theorem Rd.same {w : World} {B sz n : Nat} {A : Option Addr} {g g' : Nat → Nat → Value} (h : Rd w B sz A n g) (he : ∀ k, k < n → ∀ j, j < sz → g k j = g' k j) : Rd w B sz A n g' := fun hn => by
 obtain ⟨b, o, e, hb, hc⟩ := h hn
 exact ⟨b, o, e, hb, fun k hk j hj => (hc k hk j hj).trans (congrArg some (he k hk j hj))⟩
section
variable {H : Type} {enc : TypeId × Value → H} {P : Program} {w : World} {base : Nat} {spare : Nat → Bool} {held : Bool}
theorem open_nums {t : TypeId} {ks : List IntKind} {fuel : Nat} {cs : Array Value} {x : DataW H × List MemPlace} (hi : numsOf P t ks = true) (hs : cs.size = ks.length) (ht : DataW.trod enc P w base spare held fuel t cs.toList = some x) :
 ∃ z : Nat → Int, cs = ((List.range ks.length).map fun j => .int (ks.getD j .i64) (z j)).toArray ∧ ∀ j, j < ks.length → (Lit.int (ks.getD j .i64) (z j)).wf = true := by
 have h1 := nums_in hi ht
 classical
 refine ⟨fun j => if hj : j < ks.length then Classical.choose (h1 j hj) else 0, ?_, fun j hj => ?_⟩
 · apply Array.ext'
   apply List.ext_getElem?
   intro i
   by_cases hii : i < ks.length
   · have := (Classical.choose_spec (h1 i hii)).1
     rw [this]
     simp only [List.getElem?_map]
     rw [List.getElem?_range hii]
     simp only [Option.map_some, dif_pos hii]
   · rw [List.getElem?_eq_none (by rw [Array.length_toList]; omega), List.getElem?_eq_none (by rw [List.length_map, List.length_range]; omega)]
 · simp only [dif_pos hj]
   exact (Classical.choose_spec (h1 j hj)).2
theorem open_aggK {t : TypeId} {fs : Array Field} {ks : List IntKind} {r : Reach} {b0 : Nat} {v : Value} {d : DataW H} {ps : List MemPlace} (hu : P.underlying t = some (.struct fs)) (hc : P.cellsOf t = ks.length) (hi : numsOf P t ks = true) (hv : Value.okWide P w r b0 t v) (h : DataW.Trod enc P w base spare held t v d ps) :
 ∃ z : Nat → Int, v = .agg ((List.range ks.length).map fun j => .int (ks.getD j .i64) (z j)).toArray ∧ ∀ j, j < ks.length → (Lit.int (ks.getD j .i64) (z j)).wf = true := by
 obtain ⟨cs, rfl, hsz⟩ := agg_of hu hv hc
 obtain ⟨fuel, hf⟩ := h
 obtain ⟨z, h1, h2⟩ := open_nums hi hsz hf
 exact ⟨z, by rw [h1], h2⟩
theorem open_arrK {t e : TypeId} {m : Nat} {ks : List IntKind} {r : Reach} {b0 : Nat} {v : Value} {d : DataW H} {ps : List MemPlace} (hu : P.underlying t = some (.array m e)) (hc : P.cellsOf t = ks.length) (hi : numsOf P t ks = true) (hv : Value.okWide P w r b0 t v) (h : DataW.Trod enc P w base spare held t v d ps) :
 ∃ z : Nat → Int, v = .agg ((List.range ks.length).map fun j => .int (ks.getD j .i64) (z j)).toArray ∧ ∀ j, j < ks.length → (Lit.int (ks.getD j .i64) (z j)).wf = true := by
 obtain ⟨cs, rfl, hsz⟩ := arr_of hu hv hc
 obtain ⟨fuel, hf⟩ := h
 obtain ⟨z, h1, h2⟩ := open_nums hi hsz hf
 exact ⟨z, by rw [h1], h2⟩
end
def toL (n : Nat) (z : Nat → Nat → Int) : List Int := (List.range n).map fun k => z k 0
theorem toL_len (n : Nat) (z : Nat → Nat → Int) : (toL n z).length = n := by simp [toL]
theorem toL_at {n k : Nat} (z : Nat → Nat → Int) (hk : k < n) : at0 (toL n z) k = z k 0 := at0_map _ hk
def toR (n : Nat) (z : Nat → Nat → Int) : List Rng := (List.range n).map fun k => ⟨z k 0, z k 1⟩
theorem toR_len (n : Nat) (z : Nat → Nat → Int) : (toR n z).length = n := by simp [toR]
theorem toR_at {n k : Nat} (z : Nat → Nat → Int) (hk : k < n) : at0 (toR n z) k = ⟨z k 0, z k 1⟩ := at0_map _ hk
theorem ownK : ownKnob Tryd.prog.godebug = none := by kernel_rfl
theorem laidOut : laidOutB Tryd.prog = true := by kernel_rfl
section
variable {H : Type} {enc : TypeId × Value → H} {P : Program} {w : World} {base : Nat} {spare : Nat → Bool} {held : Bool}
def litAt (P : Program) : Nat → TypeId → DataW H → List (Nat × Value)
 | 0, _, _ => []
 | d + 1, t, x => match P.underlying t, x with
   | some (.int _), .lit (.int k n) => [(0, .int k n)]
   | some .bool, .lit (.bool b) => [(0, .bool b)]
   | some (.struct fs), .agg xs => (List.range fs.size).flatMap fun i => match fs[i]?, xs[i]? with
     | some f, some y => ((litAt P d f.type y).filter (fun q => decide (q.1 < P.cellsOf f.type))).map fun q => (f.offset + q.1, q.2)
     | _, _ => []
   | some (.array n e), .agg xs => (List.range n).flatMap fun i => match xs[i]? with
     | some y => ((litAt P d e y).filter (fun q => decide (q.1 < P.cellsOf e))).map fun q => (i * P.cellsOf e + q.1, q.2)
     | none => []
   | _, _ => []
theorem lit_cells : ∀ (d : Nat) {fuel : Nat} {t : TypeId} {cs : List Value} {x : DataW H} {ps : List MemPlace}, DataW.trod enc P w base spare held fuel t cs = some (x, ps) → ∀ j v, (j, v) ∈ litAt P d t x → cs[j]? = some v
 | 0, _, _, _, _, _, _, j, v, hj => by simp [litAt] at hj
 | d + 1, fuel, t, cs, x, ps, h, j, v, hj => by
   unfold litAt at hj
   split at hj
   · rename_i k0 k n ht
     obtain ⟨n', rfl, hx, _⟩ := DataW.trod_int ht h
     simp at hx hj
     obtain ⟨rfl, rfl⟩ := hj
     simp [hx.1]
   · rename_i b ht
     obtain ⟨b', rfl, hx⟩ := DataW.trod_bool ht h
     simp at hx hj
     obtain ⟨rfl, rfl⟩ := hj
     simp [hx.1]
   · rename_i fs xs ht
     obtain ⟨ys, m, _, hx, _, hlen, hf⟩ := DataW.trod_struct ht h
     obtain ⟨i, hi, hj⟩ := List.mem_flatMap.1 hj
     have hi' : i < fs.size := by simpa using hi
     simp only [Prod.mk.injEq, DataW.agg.injEq] at hx
     rw [hx.1, Array.getElem?_eq_getElem hi', List.getElem?_map, List.getElem?_eq_getElem (show i < ys.length by omega)] at hj
     simp only [Option.map_some] at hj
     obtain ⟨q, hk, he⟩ := List.mem_map.1 hj
     injection he with e1 e2
     subst e1 e2
     obtain ⟨hk1, hk2⟩ := List.mem_filter.1 hk
     have h1 := hf i fs[i] (Array.getElem?_eq_getElem hi')
     rw [List.getElem?_eq_getElem (show i < ys.length by omega)] at h1
     exact sub_cell (by simpa using hk2) (lit_cells d (x := ys[i].1) (ps := ys[i].2) h1 q.1 q.2 hk1)
   · rename_i n e xs ht
     obtain ⟨ys, m, _, hx, _, hlen, hf⟩ := DataW.trod_array ht h
     obtain ⟨i, hi, hj⟩ := List.mem_flatMap.1 hj
     have hi' : i < n := by simpa using hi
     simp only [Prod.mk.injEq, DataW.agg.injEq] at hx
     rw [hx.1, List.getElem?_map, List.getElem?_eq_getElem (show i < ys.length by omega)] at hj
     simp only [Option.map_some] at hj
     obtain ⟨q, hk, he⟩ := List.mem_map.1 hj
     injection he with e1 e2
     subst e1 e2
     obtain ⟨hk1, hk2⟩ := List.mem_filter.1 hk
     have h1 := hf i hi'
     rw [List.getElem?_eq_getElem (show i < ys.length by omega)] at h1
     exact sub_cell (by simpa using hk2) (lit_cells d (x := ys[i].1) (ps := ys[i].2) h1 q.1 q.2 hk1)
   · simp at hj
end
def laidM {H : Type} : List (String × DataW H) := [("boule/melt.limits", Rows.laid_boule_melt_limits), ("boule/melt.poor", Rows.laid_boule_melt_poor), ("boule/melt.rich", Rows.laid_boule_melt_rich)]
theorem gLim : Tryd.prog.globalNamed "boule/melt.limits" = some 2 := by kernel_rfl
theorem gPoor : Tryd.prog.globalNamed "boule/melt.poor" = some 0 := by kernel_rfl
theorem gRich : Tryd.prog.globalNamed "boule/melt.rich" = some 1 := by kernel_rfl
theorem of_laid {W : World} (h : laidMetH Tryd.prog laidM W) : Glob W := by
 rw [MakeChecks.laidMetH_plain _ _ _ (by kernel_rfl)] at h
 obtain ⟨ps, ⟨g0, t0, cs0, f0, p0, q0, hg0, ht0, hv0, hd0, ⟨g1, t1, cs1, f1, p1, q1, hg1, ht1, hv1, hd1, ⟨g2, t2, cs2, f2, p2, q2, hg2, ht2, hv2, hd2, _, _⟩, _⟩, _⟩, _, _⟩ := h
 obtain rfl := Option.some.inj (gLim.symm.trans hg0)
 obtain rfl := Option.some.inj (gPoor.symm.trans hg1)
 obtain rfl := Option.some.inj (gRich.symm.trans hg2)
 obtain rfl := Option.some.inj ((show (Tryd.prog.globals[2]?).map (·.type) = some 150 by kernel_rfl).symm.trans ht0)
 obtain rfl := Option.some.inj ((show (Tryd.prog.globals[0]?).map (·.type) = some 95 by kernel_rfl).symm.trans ht1)
 obtain rfl := Option.some.inj ((show (Tryd.prog.globals[1]?).map (·.type) = some 95 by kernel_rfl).symm.trans ht2)
 have L0 := fun j => World.var?_cell hg0 hv0 j
 have L1 := fun j => World.var?_cell hg1 hv1 j
 have L2 := fun j => World.var?_cell hg2 hv2 j
 have M0 : ∀ (i j : Nat) (v : Value), (litAt (H := Unit) Tryd.prog 5 150 Rows.laid_boule_melt_limits)[i]? = some (j, v) → W.cell? ⟨2, j, none⟩ = some v := fun i j v hi => by
  have := lit_cells 5 hd0 j v (List.mem_of_getElem? hi)
  rw [L0 j]; simpa using this
 have M1 : ∀ (i j : Nat) (v : Value), (litAt (H := Unit) Tryd.prog 5 95 Rows.laid_boule_melt_poor)[i]? = some (j, v) → W.cell? ⟨0, j, none⟩ = some v := fun i j v hi => by
  have := lit_cells 5 hd1 j v (List.mem_of_getElem? hi)
  rw [L1 j]; simpa using this
 have M2 : ∀ (i j : Nat) (v : Value), (litAt (H := Unit) Tryd.prog 5 95 Rows.laid_boule_melt_rich)[i]? = some (j, v) → W.cell? ⟨1, j, none⟩ = some v := fun i j v hi => by
  have := lit_cells 5 hd2 j v (List.mem_of_getElem? hi)
  rw [L2 j]; simpa using this
 refine ⟨⟨M1 0 0 _ (by kernel_rfl), M1 1 1 _ (by kernel_rfl), M1 2 2 _ (by kernel_rfl)⟩, ⟨M2 0 0 _ (by kernel_rfl), M2 1 1 _ (by kernel_rfl), M2 2 2 _ (by kernel_rfl)⟩, ⟨M0 2 2 _ (by kernel_rfl), M0 3 3 _ (by kernel_rfl)⟩, ⟨M0 4 4 _ (by kernel_rfl), M0 5 5 _ (by kernel_rfl)⟩, ⟨M0 6 6 _ (by kernel_rfl), M0 7 7 _ (by kernel_rfl)⟩, ⟨M0 8 8 _ (by kernel_rfl), M0 9 9 _ (by kernel_rfl)⟩, ?_⟩
 have := M0 2 2 (I 20000) (by kernel_rfl)
 exact block_lt_of_cell this
theorem door_met (os : Os) (args : Array Value) : laidMetH Tryd.prog laidM ((World.doorLaid Tryd.prog 400 os).forCall (fun _ _ => 0) ⟨#[], args, []⟩).memory :=
 laidMetH_of_parts3 (fuel := 8) (laidMet_of_run' 8 (by kernel_rfl) (by kernel_rfl)) (by kernel_rfl) (by kernel_rfl)
def toP (n : Nat) (z : Nat → Nat → Int) : List Stp := (List.range n).map fun k => ⟨z k 0, z k 1, fun j => z k (j + 2)⟩
theorem toP_len (n : Nat) (z : Nat → Nat → Int) : (toP n z).length = n := by simp [toP]
theorem toP_at {n k : Nat} (z : Nat → Nat → Int) (hk : k < n) : at0 (toP n z) k = ⟨z k 0, z k 1, fun j => z k (j + 2)⟩ := at0_map _ hk
section
variable {H : Type} {enc : TypeId × Value → H} {w : World} {base : Nat} {spare : Nat → Bool} {held : Bool} {r : Reach} {b0 : Nat} {v : Value} {d : DataW H} {ps : List MemPlace}
set_option maxRecDepth 100000 in
theorem open_melt (hv : Value.okWide Tryd.prog w r b0 27 v) (h : DataW.Trod enc Tryd.prog w base spare held 27 v d ps) : ∃ m : Mlt, v = .agg (mltArr m) := by
 obtain ⟨z, h1, _⟩ := open_aggK (ks := [.i64, .i64, .i64, .i64, .i64, .i64, .i64]) Tryd.underlying27 (by kernel_rfl) (by kernel_rfl) hv h
 exact ⟨⟨z 0, fun j => z (j + 1)⟩, h1⟩
set_option maxRecDepth 100000 in
theorem open_steps (hv : Value.okWide Tryd.prog w r b0 28 v) (h : DataW.Trod enc Tryd.prog w base spare held 28 v d ps) :
 ∃ A c xs, v = .slice A (xs : List Stp).length c ∧ xs.length ≤ c ∧ c ≤ maxLen ∧ Rd w w.heap.size 8 A xs.length (rT xs) ∧ ∀ j, j < xs.length → 0 ≤ (at0 xs j).kd ∧ (at0 xs j).kd ≤ 255 := by
 obtain ⟨a, l, c, rfl⟩ := okWide_slice Tryd.underlying28 hv
 obtain ⟨fuel, hf⟩ := h
 obtain ⟨A, n, c', z, e, h1, h2, h3, h4⟩ := open_listK (ks := [.u8, .i64, .i64, .i64, .i64, .i64, .i64, .i64]) Tryd.underlying28 (by kernel_rfl) (by decide) (by kernel_rfl) hf
 refine ⟨A, c', toP n z, by rw [e, toP_len], by rw [toP_len]; exact h1, h2, ?_, fun j hj => ?_⟩
 · rw [toP_len]
   refine Rd.same h3 fun k hk j hj => ?_
   have hj8 : j < 8 := hj
   unfold rT
   rw [toP_at z hk]
   match j, hj8 with
   | 0, _ => rfl | 1, _ => rfl | 2, _ => rfl | 3, _ => rfl | 4, _ => rfl | 5, _ => rfl | 6, _ => rfl | 7, _ => rfl
 · rw [toP_len] at hj
   rw [toP_at z hj]
   exact u8_bd (h4 j hj 0 (by decide))
end
end Go.Proofs.YtnkaoplgmglijaaDoor
