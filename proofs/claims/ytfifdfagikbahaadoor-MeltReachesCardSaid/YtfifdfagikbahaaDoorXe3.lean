/- Extreme. -/
import Derived.Test.YtfifdfagikbahaaDoorXe1
import Derived.Test.YtfifdfagikbahaaDoorXe2
import Derived.Test.YtfifdfagikbahaaDoorFo4
namespace Go.Proofs.YtfifdfagikbahaaDoor
open Go.RowKit
attribute [local go_sem] Oper.semAt_some
/-- The step that makes the slice with a number; -1 if there is none among the first k. -/
def atK (l : List Stp) (sl : Int) : Nat → Int
  | 0 => -1
  | k + 1 => if (at0 l k).kd = 1 ∧ (fzK l k : Int) = sl then (k : Int) else atK l sl k
theorem atK_bd (l : List Stp) (sl : Int) : ∀ k, -1 ≤ atK l sl k ∧ atK l sl k < k
  | 0 => by show -1 ≤ (-1 : Int) ∧ (-1 : Int) < _; omega
  | k + 1 => by
    have ih := atK_bd l sl k
    unfold atK
    split <;> omega
def crsX (mo : Bool) : Crs := if mo then crsRich else crsPoor
/-- The error of Extreme. -/
def xeE (m : Mlt) (l : List Stp) (sl s : Int) : Int := if ckF m l ≠ 0 then ckF m l else if atK l sl l.length < 0 ∨ spB s = false then 7 else 0
/-- What is there at the start. -/
def xeS (m : Mlt) (mo : Bool) (j : Nat) : Int := stF (crsX mo) (m.ct (j * 2)) (m.ct (j * 2 + 1))
/-- What is chosen. -/
def xeV (m : Mlt) (l : List Stp) (a : Int) (mo : Bool) (j k : Nat) : Int := xgF (crsX mo) l a mo k (chF (at0 l k) j (wkG m (xgF (crsX mo) l a mo) j (xeS m mo j) l k) (msK m l k)).1 (chF (at0 l k) j (wkG m (xgF (crsX mo) l a mo) j (xeS m mo j) l k) (msK m l k)).2
/-- What is written down: all of the first s species, and the first k of the next one. -/
def mdA (n : Nat) (V : Nat → Nat → Int) (s k : Nat) : Array Value := ((List.range (n * 3)).map fun t => I (if t % 3 < s ∨ (t % 3 = s ∧ t / 3 < k) then V (t % 3) (t / 3) else 0)).toArray
theorem mdA_size (n : Nat) (V : Nat → Nat → Int) (s k : Nat) : (mdA n V s k).size = n * 3 := by simp [mdA]
theorem mdA_at {n : Nat} {V : Nat → Nat → Int} {s k t : Nat} (ht : t < n * 3) : (mdA n V s k)[t]? = some (I (if t % 3 < s ∨ (t % 3 = s ∧ t / 3 < k) then V (t % 3) (t / 3) else 0)) := by
  unfold mdA
  simp [ht]
theorem mdA_set {n : Nat} {V : Nat → Nat → Int} {s k : Nat} (hs : s < 3) : (mdA n V s k).setIfInBounds (k * 3 + s) (I (V s k)) = mdA n V s (k + 1) := by
  apply Array.ext_getElem?
  intro t
  rw [Array.getElem?_setIfInBounds, mdA_size]
  by_cases ht : t < n * 3
  · rw [mdA_at ht, mdA_at ht]
    by_cases e : k * 3 + s = t
    · rw [if_pos e, if_pos (by omega)]
      have h1 : t % 3 = s := by omega
      have h2 : t / 3 = k := by omega
      rw [h1, h2, if_pos (.inr ⟨rfl, by omega⟩)]
    · rw [if_neg e]
      by_cases h : t % 3 < s ∨ (t % 3 = s ∧ t / 3 < k)
      · rw [if_pos h, if_pos (by omega)]
      · rw [if_neg h, if_neg (by omega)]
  · rw [Array.getElem?_eq_none (by rw [mdA_size]; omega), Array.getElem?_eq_none (by rw [mdA_size]; omega)]
    split
    · rw [if_neg (by omega)]
    · rfl
theorem mdA_full (n : Nat) (V : Nat → Nat → Int) (s : Nat) : mdA n V s n = mdA n V (s + 1) 0 := by
  apply Array.ext_getElem?
  intro t
  by_cases ht : t < n * 3
  · rw [mdA_at ht, mdA_at ht]
    by_cases h : t % 3 < s ∨ (t % 3 = s ∧ t / 3 < n)
    · rw [if_pos h, if_pos (by omega)]
    · rw [if_neg h, if_neg (by omega)]
  · rw [Array.getElem?_eq_none (by rw [mdA_size]; omega), Array.getElem?_eq_none (by rw [mdA_size]; omega)]
set_option maxRecDepth 100000 in
theorem make_cnts (W : World) (n : Nat) (V : Nat → Nat → Int) (hn : n ≤ 200) : (Instr.makeSlice 64 (.int .i64 (n : Int)) (.int .i64 (n : Int))).run Tryd.prog W = .ok (.slice (some ⟨W.heap.size, 0, none⟩) n n) (W.alloc (.cells (mdA n V 0 0) 63)) := by
  obtain ⟨i0, hi0, iz0, iz1, iz2⟩ := info_parts cnt_info
  have h := run_make (P := Tryd.prog) W 64 63 i0 (.agg #[I 0, I 0, I 0]) Tryd.underlying64 hi0 iz0 .i64 .i64 (n : Int) (n : Int) (by omega) (by omega) (by rw [iz2]; omega) (by omega)
  rw [h, iz1]
  simp only [Int.toNat_natCast]
  congr 3
  apply Array.ext_getElem?
  intro t
  by_cases ht : t < n * 3
  · rw [mdA_at ht, if_neg (by omega)]
    have h3 : t % 3 < 3 := Nat.mod_lt _ (by omega)
    simp [madeCells, ht, Value.cells]
    match t % 3, h3 with
    | 0, _ => rfl
    | 1, _ => rfl
    | 2, _ => rfl
  · rw [Array.getElem?_eq_none (by simp [madeCells]; omega), Array.getElem?_eq_none (by rw [mdA_size]; omega)]
theorem results_cell_cell_tmp {P : Program} {fn : Func} {p q t2 : Tmp} {ty ty2 : TypeId} (h : fn.results = #[.cell p ty, .cell q ty2, .tmp t2]) (tmps : Array Value) (w : World) (g : Nat) (t : TypeId) (cs : Array Value) (fr : Nat × Nat) (d : TypeDesc)
    (hp : tmps.getD p undef = .pointer (some ⟨g, 0, none⟩)) (hg : w.heap[g]? = some (.cells cs t fr))
    (hu : P.underlying ty = some d) (hd : (match d with | .struct _ | .array _ _ => true | _ => false) = true) (hi : (P.info? ty).map (·.size) = some cs.size)
    (v : Value) (hv : (loadVar ty2 ⟨g + 1, 0, none⟩).run P w = .ok v w) (hq : tmps.getD q undef = .pointer (some ⟨g + 1, 0, none⟩)) :
    (results fn tmps).run P w = .ok (.tuple #[.agg cs, v, tmps.getD t2 undef]) w := by
  have hp' : tmps[p]?.getD undef = .pointer (some ⟨g, 0, none⟩) := by simpa using hp
  have hq' : tmps[q]?.getD undef = .pointer (some ⟨g + 1, 0, none⟩) := by simpa using hq
  simp [results, h, hp', hq', hv, asAddr, run_loadVar_row w g t ty cs fr d hg hu hd hi]
theorem load_sl {W : World} {q : Nat} {v : Value} (h : W.heap[q]? = some (.cells #[v] 64 (0, 0))) : (loadVar 64 ⟨q, 0, none⟩).run Tryd.prog W = .ok v W := by
  have z : W.cell? ⟨q, 0, none⟩ = some v := by rw [cell_of_row _ _ _ _ _ _ h]; rfl
  go_simp
/-- What Extreme tells. -/
def RetXe (m : Mlt) (l : List Stp) (sl s : Int) (mo : Bool) (w : World) (e : Ending) (w' : World) : Prop :=
  Below w.heap.size w w' ∧ ((xeE m l sl s ≠ 0 ∧ e = .returned (.tuple #[.agg #[I 0, I 0, I 0], .slice none 0 0, I (xeE m l sl s)])) ∨
    (xeE m l sl s = 0 ∧ ∃ mb, e = .returned (.tuple #[.agg (cnArr (xeS m mo)), .slice (some ⟨mb, 0, none⟩) l.length l.length, I 0]) ∧ w.heap.size ≤ mb ∧ w'.heap[mb]? = some (.cells (mdA l.length (xeV m l (atK l sl l.length) mo) 3 0) 63 (0, 0))))
/-- What is there at the start, as far as it is known. -/
def xsE (m : Mlt) (mo : Bool) (s j : Nat) : Int := if j < s then xeS m mo j else 0
theorem xsE_set {m : Mlt} {mo : Bool} {s : Nat} {dv : Int} (hs : s < 3) (h : xeS m mo s = dv) : (#[I (xsE m mo s 0), I (xsE m mo s 1), I (xsE m mo s 2)] : Array Value).setIfInBounds s (I dv) = #[I (xsE m mo (s + 1) 0), I (xsE m mo (s + 1) 1), I (xsE m mo (s + 1) 2)] := by
  subst h
  match s, hs with
  | 0, _ => simp [xsE]
  | 1, _ => simp [xsE]
  | 2, _ => simp [xsE]
end Go.Proofs.YtfifdfagikbahaaDoor
