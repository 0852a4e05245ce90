/- The frame of the claims over package pull: what fits as an argument is a puller of integers, a run of three lists. -/
import Derived.Test.YtlebefopdnadaaaLk
import Derived.Test.YtlebefopdnadaaaRows
import Derived.ProofKit
import Derived.OpenShut
import Derived.Lib.SmallJoins
namespace Go.Proofs.Ytlebefopdnadaaa
open Go.RowKit Go.ChangeShapes Go.WideShapes Go.Deep
/-- The cells of a type that are integers. -/
def intAt (P : Program) : Nat → TypeId → List Nat
  | 0, _ => []
  | d + 1, t => match P.underlying t with
    | some (.int .i64) => [0]
    | some (.struct fs) => fs.toList.flatMap fun f => ((intAt P d f.type).filter (fun j => decide (j < P.cellsOf f.type))).map (f.offset + ·)
    | some (.array n e) => (List.range n).flatMap fun i => ((intAt P d e).filter (fun j => decide (j < P.cellsOf e))).map (i * P.cellsOf e + ·)
    | _ => []
theorem sub_cell {cs : List Value} {o k j : Nat} {v : Value} (hj : j < k) (h : ((cs.drop o).take k)[j]? = some v) : cs[o + j]? = some v := by
  rw [List.getElem?_take_of_lt hj, List.getElem?_drop] at h
  exact h
section
variable {H : Type} {enc : TypeId × Value → H} {P : Program} {w : World} {base : Nat} {spare : Nat → Bool} {held : Bool}
theorem int_cells : ∀ (d : Nat) {fuel : Nat} {t : TypeId} {cs : List Value} {x : DataW H × List MemPlace}, DataW.trod enc P w base spare held fuel t cs = some x → ∀ j, j ∈ intAt P d t → ∃ n, cs[j]? = some (I n)
  | 0, _, _, _, _, _, j, hj => by simp [intAt] at hj
  | d + 1, fuel, t, cs, x, h, j, hj => by
    unfold intAt at hj
    split at hj
    · rename_i ht
      obtain ⟨n, rfl, _, _⟩ := DataW.trod_int ht h
      simp at hj
      subst hj
      exact ⟨n, rfl⟩
    · rename_i fs ht
      obtain ⟨xs, m, _, _, _, hlen, hf⟩ := DataW.trod_struct ht h
      obtain ⟨f, hfm, hj⟩ := List.mem_flatMap.1 hj
      obtain ⟨i, hi, hfi⟩ := List.mem_iff_getElem.1 hfm
      obtain ⟨k, hk, rfl⟩ := List.mem_map.1 hj
      obtain ⟨hk1, hk2⟩ := List.mem_filter.1 hk
      have hi' : i < fs.size := by simpa using hi
      have h1 := hf i f (by rw [Array.getElem?_eq_getElem hi', ← hfi]; simp)
      rw [List.getElem?_eq_getElem (by omega)] at h1
      obtain ⟨n, hn⟩ := int_cells d h1 k hk1
      exact ⟨n, sub_cell (by simpa using hk2) hn⟩
    · rename_i n e ht
      obtain ⟨xs, m, _, _, _, hlen, hf⟩ := DataW.trod_array ht h
      obtain ⟨i, hi, hj⟩ := List.mem_flatMap.1 hj
      obtain ⟨k, hk, rfl⟩ := List.mem_map.1 hj
      obtain ⟨hk1, hk2⟩ := List.mem_filter.1 hk
      have hi' : i < n := by simpa using hi
      have h1 := hf i hi'
      rw [List.getElem?_eq_getElem (by omega)] at h1
      obtain ⟨q, hq⟩ := int_cells d h1 k hk1
      exact ⟨q, sub_cell (by simpa using hk2) hq⟩
    · simp at hj
end
section
variable {H : Type} {enc : TypeId × Value → H} {w : World} {base : Nat} {spare : Nat → Bool} {held : Bool}
theorem ints_puller : (List.range 117).all (fun j => (intAt Try.prog 6 30).contains j) = true := by kernel_rfl
theorem ints_stg : (List.range 8).all (fun j => (intAt Try.prog 6 73).contains j) = true := by kernel_rfl
theorem ints_smp : (List.range 3).all (fun j => (intAt Try.prog 6 75).contains j) = true := by kernel_rfl
theorem ints_evt : (List.range 2).all (fun j => (intAt Try.prog 6 77).contains j) = true := by kernel_rfl
theorem ints_in {t : TypeId} {n : Nat} (h : (List.range n).all (fun j => (intAt Try.prog 6 t).contains j) = true) {fuel : Nat} {cs : List Value} {x : DataW H × List MemPlace} (ht : DataW.trod enc Try.prog w base spare held fuel t cs = some x) : ∀ j, j < n → ∃ q, cs[j]? = some (I q) := fun j hj => by
  rw [List.all_eq_true] at h
  have := h j (List.mem_range.2 hj)
  exact int_cells 6 ht j (by simpa using this)
theorem cells_puller : Try.prog.cellsOf 30 = 117 := by kernel_rfl
/-- A puller that fits is 117 integers. -/
theorem agg_of {P : Program} {t : TypeId} {fs : Array Field} {r : Reach} {b : Nat} {v : Value} {n : Nat} (hu : P.underlying t = some (.struct fs)) (hv : Value.okWide P w r b t v) (hc : P.cellsOf t = n) : ∃ cs : Array Value, v = .agg cs ∧ cs.size = n := by
  obtain ⟨cs, h1, h2⟩ := okWide_struct hu hv
  exact ⟨cs, h1, h2.trans hc⟩
set_option maxRecDepth 100000 in
theorem open_puller {fs : Array Field} {r : Reach} {b0 : Nat} {v : Value} {d : DataW H} {ps : List MemPlace} (hu : Try.prog.underlying 30 = some (.struct fs)) (hv : Value.okWide Try.prog w r b0 30 v) (h : DataW.Trod enc Try.prog w base spare held 30 v d ps) : ∃ p : Vec, v = .agg (ia 117 p) := by
  obtain ⟨cs, rfl, hsz⟩ := agg_of hu hv cells_puller
  obtain ⟨fuel, hf⟩ := h
  have h1 := ints_in ints_puller hf
  classical
  refine ⟨fun j => if hj : j < 117 then Classical.choose (h1 j hj) else 0, ?_⟩
  congr 1
  apply Array.ext'
  apply List.ext_getElem?
  intro i
  by_cases hi : i < 117
  · have := Classical.choose_spec (h1 i hi)
    simp only [Value.cells] at this
    rw [this]
    simp only [ia, List.getElem?_map]
    rw [List.getElem?_range hi]
    simp only [Option.map_some, dif_pos hi]
    rfl
  · rw [List.getElem?_eq_none (by rw [Array.length_toList]; omega), List.getElem?_eq_none (by rw [ia, List.length_map, List.length_range]; omega)]
theorem Rd.same {w : World} {B sz n : Nat} {A : Option Addr} {g g' : Nat → Nat → Value} (h : Rd w B sz A n g) (he : ∀ k, k < n → ∀ j, j < sz → g k j = g' k j) : Rd w B sz A n g' := fun hn => by
  obtain ⟨b, o, e, hb, hc⟩ := h hn
  exact ⟨b, o, e, hb, fun k hk j hj => (hc k hk j hj).trans (congrArg some (he k hk j hj))⟩
/-- A slice that fits, of elements of integers. -/
theorem open_list {t e : TypeId} {sz : Nat} (ht : Try.prog.underlying t = some (.slice e)) (hs : Try.prog.cellsOf e = sz) (hsz : 0 < sz) (hi : (List.range sz).all (fun j => (intAt Try.prog 6 e).contains j) = true) {fuel : Nat} {v : Value} {x : DataW H × List MemPlace}
    (h : DataW.trod enc Try.prog w base spare held fuel t [v] = some x) : ∃ (A : Option Addr) (n c : Nat) (z : Nat → Nat → Int), v = .slice A n c ∧ n ≤ c ∧ Rd w w.heap.size sz A n (fun k j => I (z k j)) := by
  rcases open_slice ht h with ⟨h0, _⟩ | ⟨a, len, cap, m, q, D, Pl, hcs, _, hl, _, hm, _, hx⟩
  · obtain rfl : v = .slice none 0 0 := by simpa using h0
    exact ⟨none, 0, 0, fun _ _ => 0, rfl, Nat.le_refl _, fun h => absurd h (by omega)⟩
  · obtain rfl : v = .slice (some a) len cap := by simpa using hcs
    rw [hs] at hx
    have hlm : len ≤ m := by rw [hm]; split <;> omega
    have key : ∀ k, k < len → ∀ j, j < sz → ∃ n, w.cell? ((a.add (k * sz)).add j) = some (I n) := fun k hk j hj => by
      obtain ⟨cs', h1, h2⟩ := hx k (by omega)
      obtain ⟨_, hlen, hc⟩ := World.cells?_some h1
      obtain ⟨n, hn⟩ := ints_in hi h2 j hj
      exact ⟨n, (hc j hj).trans hn⟩
    obtain ⟨b, o, hel⟩ := a
    have key0 : 0 < len → hel = none := fun hn => by
      obtain ⟨n, hn⟩ := key 0 hn 0 hsz
      unfold World.cell? at hn
      simp only [Nat.zero_mul, Addr.add, if_true] at hn
      split at hn
      · split at hn
        · cases hn
        · rename_i hsp
          simpa using hsp
      · cases hn
    have hat : ∀ k, k < len → ∀ j, j < sz → ∃ n, w.cell? ⟨b, o + k * sz + j, none⟩ = some (I n) := fun k hk j hj => by
      obtain ⟨n, hn⟩ := key k hk j hj
      rw [key0 (by omega), addr_add, addr_add] at hn
      exact ⟨n, hn⟩
    classical
    refine ⟨some ⟨b, o, hel⟩, len, cap, fun k j => if hk : k < len then if hj : j < sz then Classical.choose (hat k hk j hj) else 0 else 0, rfl, hl, fun hn => ?_⟩
    have hch : ∀ k (hk : k < len) j (hj : j < sz), w.cell? ⟨b, o + k * sz + j, none⟩ = some (I (Classical.choose (hat k hk j hj))) := fun k hk j hj => Classical.choose_spec (hat k hk j hj)
    refine ⟨b, o, by rw [key0 hn], block_lt_of_cell (hch 0 hn 0 hsz), fun k hk j hj => ?_⟩
    rw [hch k hk j hj]
    simp only [dif_pos hk, dif_pos hj]
/-- The lists of a run, out of their cells. -/
def toS (n : Nat) (z : Nat → Nat → Int) : List Stg := (List.range n).map fun k => ⟨z k 0, z k 1, fun g => z k (g + 2)⟩
def toM (n : Nat) (z : Nat → Nat → Int) : List Smp := (List.range n).map fun k => ⟨z k 0, z k 1, z k 2⟩
def toE (n : Nat) (z : Nat → Nat → Int) : List Evt := (List.range n).map fun k => ⟨z k 0, z k 1⟩
theorem at0_map {α : Type} [Inhabited α] {n k : Nat} (f : Nat → α) (hk : k < n) : at0 ((List.range n).map f) k = f k := by
  unfold at0
  rw [List.getD_eq_getElem?_getD, List.getElem?_map, List.getElem?_range hk]
  rfl
theorem rd_toS {n B : Nat} {A : Option Addr} {z : Nat → Nat → Int} (h : Rd w B 8 A n (fun k j => I (z k j))) : Rd w B 8 A (toS n z).length (rS (toS n z)) := by
  have e : (toS n z).length = n := by simp [toS]
  rw [e]
  refine h.same fun k hk j _ => ?_
  unfold rS toS
  rw [at0_map _ hk]
  rcases j with _ | _ | j <;> rfl
theorem rd_toM {n B : Nat} {A : Option Addr} {z : Nat → Nat → Int} (h : Rd w B 3 A n (fun k j => I (z k j))) : Rd w B 3 A (toM n z).length (rM (toM n z)) := by
  have e : (toM n z).length = n := by simp [toM]
  rw [e]
  refine h.same fun k hk j hj => ?_
  unfold rM toM
  rw [at0_map _ hk]
  rcases j with _ | _ | _ | j
  · rfl
  · rfl
  · rfl
  · omega
theorem rd_toE {n B : Nat} {A : Option Addr} {z : Nat → Nat → Int} (h : Rd w B 2 A n (fun k j => I (z k j))) : Rd w B 2 A (toE n z).length (rE (toE n z)) := by
  have e : (toE n z).length = n := by simp [toE]
  rw [e]
  refine h.same fun k hk j hj => ?_
  unfold rE toE
  rw [at0_map _ hk]
  rcases j with _ | _ | j
  · rfl
  · rfl
  · omega
/-- What fits as a run. -/
def FitR (w : World) (v : Value) : Prop := ∃ A1 A2 A3 c1 c2 c3 R, v = runV A1 A2 A3 c1 c2 c3 R ∧ R.ms.length ≤ c2 ∧ Rd w w.heap.size 8 A1 R.ss.length (rS R.ss) ∧ Rd w w.heap.size 3 A2 R.ms.length (rM R.ms) ∧ Rd w w.heap.size 2 A3 R.es.length (rE R.es)
set_option maxRecDepth 100000 in
theorem open_run {f0 f1 f2 f3 : Field} {r : Reach} {b0 : Nat} {v : Value} {d : DataW H} {p : List MemPlace} (hu : Try.prog.underlying 35 = some (.struct #[f0, f1, f2, f3])) (hone : oneCellFields Try.prog #[f0, f1, f2, f3] = true) (hC : Try.prog.cellsOf 35 = 4)
    (k0 : Try.prog.underlying f0.type = some (.slice 73)) (k1 : Try.prog.underlying f1.type = some (.int .i64)) (k2 : Try.prog.underlying f2.type = some (.slice 75)) (k3 : Try.prog.underlying f3.type = some (.slice 77))
    (hv : Value.okWide Try.prog w r b0 35 v) (h : DataW.Trod enc Try.prog w base spare held 35 v d p) : FitR w v := by
  obtain ⟨v0, v1, v2, v3, y0, y1, y2, y3, n, rfl, _, _, h0, h1, h2, h3⟩ := Go.Joins.open_agg4 hu hone hC hv h
  obtain ⟨A1, n1, c1, z1, rfl, _, q1⟩ := open_list k0 (by kernel_rfl) (by decide) ints_stg h0
  obtain ⟨en, he, _, _⟩ := DataW.trod_int k1 h1
  obtain rfl : v1 = I en := by simpa using he
  obtain ⟨A2, n2, c2, z2, rfl, hc, q2⟩ := open_list k2 (by kernel_rfl) (by decide) ints_smp h2
  obtain ⟨A3, n3, c3, z3, rfl, _, q3⟩ := open_list k3 (by kernel_rfl) (by decide) ints_evt h3
  refine ⟨A1, A2, A3, c1, c2, c3, ⟨toS n1 z1, en, toM n2 z2, toE n3 z3⟩, ?_, ?_, rd_toS q1, rd_toM q2, rd_toE q3⟩
  · simp [runV, toS, toM, toE]
  · simpa [toM] using hc
end
end Go.Proofs.Ytlebefopdnadaaa
/- The frame's arguments that are arrays of integers. -/
namespace Go.Proofs.Ytlebefopdnadaaa
open Go.RowKit Go.ChangeShapes Go.WideShapes Go.Deep
section
variable {H : Type} {enc : TypeId × Value → H} {w : World} {base : Nat} {spare : Nat → Bool} {held : Bool}
theorem arr_of {P : Program} {t e : TypeId} {m : Nat} {r : Reach} {b : Nat} {v : Value} {n : Nat} (hu : P.underlying t = some (.array m e)) (hv : Value.okWide P w r b t v) (hc : P.cellsOf t = n) : ∃ cs : Array Value, v = .agg cs ∧ cs.size = n := by
  simp only [Value.okWide, hu] at hv
  obtain ⟨cs, h1, h2, _⟩ := hv
  exact ⟨cs, h1, h2.trans hc⟩
theorem ints_two : (List.range 2).all (fun j => (intAt Try.prog 6 44).contains j) = true := by kernel_rfl
set_option maxRecDepth 100000 in
theorem open_two {m : Nat} {e : TypeId} {r : Reach} {b0 : Nat} {v : Value} {d : DataW H} {ps : List MemPlace} (hu : Try.prog.underlying 44 = some (.array m e)) (hv : Value.okWide Try.prog w r b0 44 v) (h : DataW.Trod enc Try.prog w base spare held 44 v d ps) : ∃ x y : Int, v = .agg #[I x, I y] := by
  obtain ⟨cs, rfl, hsz⟩ := arr_of hu hv (show Try.prog.cellsOf 44 = 2 by kernel_rfl)
  obtain ⟨fuel, hf⟩ := h
  have h1 := ints_in ints_two hf
  obtain ⟨x, hx⟩ := h1 0 (by decide)
  obtain ⟨y, hy⟩ := h1 1 (by decide)
  refine ⟨x, y, ?_⟩
  congr 1
  apply Array.ext'
  simp only [Value.cells] at hx hy
  have hl : cs.toList.length = 2 := by rw [Array.length_toList]; exact hsz
  match hcs : cs.toList, hl with
  | [p, q], _ =>
    rw [hcs] at hx hy
    have e1 : p = I x := by simpa using hx
    have e2 : q = I y := by simpa using hy
    rw [e1, e2]
end
end Go.Proofs.Ytlebefopdnadaaa
