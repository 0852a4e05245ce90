/- Small words for the proofs of this seat: lists by place, searches, ranges, and what is kept below a block. No condition. -/
import Derived.Test.YtnkaoplgmglijaaDoorRows
import Derived.WalkKit
import Derived.WalkSpells
import Derived.WalkLawsBesides
import Derived.BigQuiet
import Derived.Deep.QuietTactic
import Derived.Lib.Hide
import Derived.Deep.AppendLies
import Derived.StillTail
namespace Go.Proofs.YtnkaoplgmglijaaDoor
open Go.RowKit
def at0 {α : Type} [Inhabited α] (xs : List α) (k : Nat) : α := xs.getD k default
theorem at0_mem {α : Type} [Inhabited α] {xs : List α} {x : α} (h : x ∈ xs) : ∃ j, j < xs.length ∧ at0 xs j = x := by
 obtain ⟨j, hj, rfl⟩ := List.getElem_of_mem h
 exact ⟨j, hj, by rw [at0, List.getD_eq_getElem?_getD, List.getElem?_eq_getElem hj]; rfl⟩
theorem at0_get {α : Type} [Inhabited α] {xs : List α} {j : Nat} (hj : j < xs.length) : at0 xs j = xs[j] := by
 rw [at0, List.getD_eq_getElem?_getD, List.getElem?_eq_getElem hj]; rfl
def ixOf {α : Type} (p : α → Bool) : List α → Int
 | [] => -1
 | x :: r => if p x then 0 else (let i := ixOf p r; if i < 0 then -1 else i + 1)
theorem ixOf_none {α : Type} {p : α → Bool} : ∀ {xs : List α}, (∀ x ∈ xs, p x = false) → ixOf p xs = -1
 | [], _ => rfl
 | x :: r, h => by
   have h1 := h x (by simp)
   have h2 := ixOf_none (xs := r) (fun y hy => h y (by simp [hy]))
   simp [ixOf, h1, h2]
theorem ixOf_at {α : Type} [Inhabited α] {p : α → Bool} : ∀ {xs : List α} {k : Nat}, k < xs.length → p (at0 xs k) = true → (∀ j, j < k → p (at0 xs j) = false) → ixOf p xs = k
 | x :: r, 0, _, h, _ => by simp [at0] at h; simp [ixOf, h]
 | x :: r, k + 1, hk, h, hj => by
   have h0 := hj 0 (by omega)
   have := ixOf_at (xs := r) (k := k) (by simp at hk; omega) (by simpa [at0] using h) (fun j hjk => by simpa [at0] using hj (j + 1) (by omega))
   simp [at0] at h0
   simp [ixOf, h0, this]
   omega
theorem ixOf_none0 {α : Type} [Inhabited α] {p : α → Bool} {xs : List α} (h : ∀ j, j < xs.length → p (at0 xs j) = false) : ixOf p xs = -1 :=
 ixOf_none fun x hx => by
  obtain ⟨j, hj, rfl⟩ := at0_mem hx
  exact h j hj
theorem ixOf_any {α : Type} {p : α → Bool} : ∀ {xs : List α}, decide (0 ≤ ixOf p xs) = xs.any p
 | [] => by simp [ixOf]
 | x :: r => by
   have := ixOf_any (p := p) (xs := r)
   by_cases h : p x = true <;> simp [ixOf, h]
   rw [← this]; simp; split <;> omega
theorem succ_case {p : Nat → Prop} {k : Nat} (h : ∀ j, j < k → p j) (hk : p k) : ∀ j, j < k + 1 → p j := fun j hj => by
 rcases Nat.lt_succ_iff_lt_or_eq.1 hj with h1 | rfl
 · exact h j h1
 · exact hk
theorem ret_int {k : IntKind} {a b : Int} (h : a = b) : Ending.returned (.int k a) = .returned (.int k b) := by rw [h]
theorem bor {a b : Bool} (h : a = b) : Ending.returned (.bool a) = .returned (.bool b) := by rw [h]
theorem bcell {W w1 : World} (hb : Below W.heap.size W w1) : (∀ b o, b < W.heap.size → w1.cell? ⟨b, o, none⟩ = W.cell? ⟨b, o, none⟩) ∧ (∀ b o, b < W.heap.size → w1.frozen? ⟨b, o, none⟩ = W.frozen? ⟨b, o, none⟩) :=
 ⟨fun b o h => hb.cell (p := ⟨b, o, none⟩) h, fun b o h => hb.frozen (p := ⟨b, o, none⟩) h⟩
theorem all1 {P : Nat → Prop} (h0 : P 0) : ∀ k, k < 1 → P k
 | 0, _ => h0
theorem all2 {P : Nat → Prop} (h0 : P 0) (h1 : P 1) : ∀ k, k < 2 → P k
 | 0, _ => h0 | 1, _ => h1
theorem all6 {P : Nat → Prop} (h0 : P 0) (h1 : P 1) (h2 : P 2) (h3 : P 3) (h4 : P 4) (h5 : P 5) : ∀ k, k < 6 → P k
 | 0, _ => h0 | 1, _ => h1 | 2, _ => h2 | 3, _ => h3 | 4, _ => h4 | 5, _ => h5
theorem makeFunc_run {P : Program} : ∀ (fn : Fn) (first cap : Array Value) (w : World), (Instr.makeFunc fn first cap).run P w = .ok (.func fn first cap) w := fun _ _ _ _ => rfl
structure Rng where
 lo : Int
 hi : Int
 deriving Inhabited, DecidableEq
abbrev Vec := Nat → Int
abbrev I (x : Int) : Value := .int .i64 x
structure Stg where
 t : Int
 ph : Int
 v : Vec
instance : Inhabited Stg := ⟨⟨0, 0, fun _ => 0⟩⟩
structure Smp where
 t : Int
 lo : Int
 hi : Int
 deriving Inhabited, DecidableEq
structure Evt where
 t : Int
 kd : Int
 deriving Inhabited, DecidableEq
structure Pce where
 s : Stg
 e : Int
 p : Int
instance : Inhabited Pce := ⟨⟨default, 0, 0⟩⟩
def Rng.c (r : Rng) : Nat → Value
 | 0 => I r.lo | _ => I r.hi
def Stg.c (s : Stg) : Nat → Value
 | 0 => I s.t | 1 => I s.ph | g + 2 => I (s.v g)
def Smp.c (s : Smp) : Nat → Value
 | 0 => I s.t | 1 => I s.lo | _ => I s.hi
def Evt.c (s : Evt) : Nat → Value
 | 0 => I s.t | _ => I s.kd
def Pce.c (p : Pce) : Nat → Value
 | 8 => I p.e | 9 => I p.p | j => p.s.c j
abbrev Rng.val (r : Rng) : Value := .agg #[I r.lo, I r.hi]
abbrev Stg.val (s : Stg) : Value := .agg #[I s.t, I s.ph, I (s.v 0), I (s.v 1), I (s.v 2), I (s.v 3), I (s.v 4), I (s.v 5)]
abbrev Pce.val (p : Pce) : Value := .agg #[I p.s.t, I p.s.ph, I (p.s.v 0), I (p.s.v 1), I (p.s.v 2), I (p.s.v 3), I (p.s.v 4), I (p.s.v 5), I p.e, I p.p]
def rI (xs : List Int) (k _j : Nat) : Value := I (at0 xs k)
def rR (xs : List Rng) (k j : Nat) : Value := (at0 xs k).c j
def rS (xs : List Stg) (k j : Nat) : Value := (at0 xs k).c j
def rM (xs : List Smp) (k j : Nat) : Value := (at0 xs k).c j
def rE (xs : List Evt) (k j : Nat) : Value := (at0 xs k).c j
def rP (xs : List Pce) (k j : Nat) : Value := (at0 xs k).c j
def Rd (w : World) (B sz : Nat) (A : Option Addr) (n : Nat) (g : Nat → Nat → Value) : Prop :=
 0 < n → ∃ b o, A = some ⟨b, o, none⟩ ∧ b < B ∧ ∀ k, k < n → ∀ j, j < sz → w.cell? ⟨b, o + k * sz + j, none⟩ = some (g k j)
section
variable {w w' : World} {B B' sz n k b o : Nat} {A : Option Addr} {g : Nat → Nat → Value}
theorem Rd.keep (h : Rd w B sz A n g) (hk : ∀ b o, b < B → w'.cell? ⟨b, o, none⟩ = w.cell? ⟨b, o, none⟩) : Rd w' B sz A n g := fun hn => by
 obtain ⟨b, o, e, hb, hc⟩ := h hn
 exact ⟨b, o, e, hb, fun k hkn j hj => (hk b _ hb).trans (hc k hkn j hj)⟩
theorem Rd.below (h : Rd w B sz A n g) (hb : Below B w w') : Rd w' B sz A n g := h.keep fun _ _ hp => hb.cell hp
theorem Rd.more (h : Rd w B sz A n g) (hB : B ≤ B') : Rd w B' sz A n g := fun hn => by
 obtain ⟨b, o, e, hb, hc⟩ := h hn
 exact ⟨b, o, e, by omega, hc⟩
theorem Rd.alloc (h : Rd w B sz A n g) (hB : B ≤ w.heap.size) (x : Obj) : Rd (w.alloc x) B sz A n g := h.below ((Below.refl _ _).alloc hB x)
theorem Rd.nil : Rd w B sz A 0 g := fun h => absurd h (by omega)
theorem Rd.cap (h : Rd w B sz A n g) {m : Nat} (hm : m ≤ n) : Rd w B sz A m g := fun hn => by
 obtain ⟨b, o, e, hb, hc⟩ := h (by omega)
 exact ⟨b, o, e, hb, fun k hk j hj => hc k (by omega) j hj⟩
theorem Rd.int {xs : List Int} (h : Rd w B 1 A n (rI xs)) (hk : k < n) : ∃ b o, A = some ⟨b, o, none⟩ ∧ b < B ∧ w.cell? ⟨b, o + k, none⟩ = some (I (at0 xs k)) := by
 obtain ⟨b, o, e, hb, hc⟩ := h (by omega)
 exact ⟨b, o, e, hb, by simpa [rI] using hc k hk 0 (by omega)⟩
theorem Rd.rng {xs : List Rng} (h : Rd w B 2 A n (rR xs)) (hk : k < n) : ∃ b o, A = some ⟨b, o, none⟩ ∧ b < B ∧ w.cell? ⟨b, o + k * 2, none⟩ = some (I (at0 xs k).lo) ∧ w.cell? ⟨b, o + k * 2 + 1, none⟩ = some (I (at0 xs k).hi) := by
 obtain ⟨b, o, e, hb, hc⟩ := h (by omega)
 exact ⟨b, o, e, hb, hc k hk 0 (by omega), hc k hk 1 (by omega)⟩
theorem Rd.stg {xs : List Stg} (h : Rd w B 8 A n (rS xs)) (hk : k < n) : ∃ b o, A = some ⟨b, o, none⟩ ∧ b < B ∧
 w.cell? ⟨b, o + k * 8, none⟩ = some (I (at0 xs k).t) ∧ w.cell? ⟨b, o + k * 8 + 1, none⟩ = some (I (at0 xs k).ph) ∧ w.cell? ⟨b, o + k * 8 + 2, none⟩ = some (I ((at0 xs k).v 0)) ∧ w.cell? ⟨b, o + k * 8 + 3, none⟩ = some (I ((at0 xs k).v 1)) ∧
 w.cell? ⟨b, o + k * 8 + 4, none⟩ = some (I ((at0 xs k).v 2)) ∧ w.cell? ⟨b, o + k * 8 + 5, none⟩ = some (I ((at0 xs k).v 3)) ∧ w.cell? ⟨b, o + k * 8 + 6, none⟩ = some (I ((at0 xs k).v 4)) ∧ w.cell? ⟨b, o + k * 8 + 7, none⟩ = some (I ((at0 xs k).v 5)) := by
 obtain ⟨b, o, e, hb, hc⟩ := h (by omega)
 exact ⟨b, o, e, hb, hc k hk 0 (by omega), hc k hk 1 (by omega), hc k hk 2 (by omega), hc k hk 3 (by omega), hc k hk 4 (by omega), hc k hk 5 (by omega), hc k hk 6 (by omega), hc k hk 7 (by omega)⟩
theorem Rd.smp {xs : List Smp} (h : Rd w B 3 A n (rM xs)) (hk : k < n) : ∃ b o, A = some ⟨b, o, none⟩ ∧ b < B ∧
 w.cell? ⟨b, o + k * 3, none⟩ = some (I (at0 xs k).t) ∧ w.cell? ⟨b, o + k * 3 + 1, none⟩ = some (I (at0 xs k).lo) ∧ w.cell? ⟨b, o + k * 3 + 2, none⟩ = some (I (at0 xs k).hi) := by
 obtain ⟨b, o, e, hb, hc⟩ := h (by omega)
 exact ⟨b, o, e, hb, hc k hk 0 (by omega), hc k hk 1 (by omega), hc k hk 2 (by omega)⟩
theorem Rd.evt {xs : List Evt} (h : Rd w B 2 A n (rE xs)) (hk : k < n) : ∃ b o, A = some ⟨b, o, none⟩ ∧ b < B ∧
 w.cell? ⟨b, o + k * 2, none⟩ = some (I (at0 xs k).t) ∧ w.cell? ⟨b, o + k * 2 + 1, none⟩ = some (I (at0 xs k).kd) := by
 obtain ⟨b, o, e, hb, hc⟩ := h (by omega)
 exact ⟨b, o, e, hb, hc k hk 0 (by omega), hc k hk 1 (by omega)⟩
theorem Rd.pce {xs : List Pce} (h : Rd w B 10 A n (rP xs)) (hk : k < n) : ∃ b o, A = some ⟨b, o, none⟩ ∧ b < B ∧
 w.cell? ⟨b, o + k * 10, none⟩ = some (I (at0 xs k).s.t) ∧ w.cell? ⟨b, o + k * 10 + 1, none⟩ = some (I (at0 xs k).s.ph) ∧ w.cell? ⟨b, o + k * 10 + 2, none⟩ = some (I ((at0 xs k).s.v 0)) ∧ w.cell? ⟨b, o + k * 10 + 3, none⟩ = some (I ((at0 xs k).s.v 1)) ∧
 w.cell? ⟨b, o + k * 10 + 4, none⟩ = some (I ((at0 xs k).s.v 2)) ∧ w.cell? ⟨b, o + k * 10 + 5, none⟩ = some (I ((at0 xs k).s.v 3)) ∧ w.cell? ⟨b, o + k * 10 + 6, none⟩ = some (I ((at0 xs k).s.v 4)) ∧ w.cell? ⟨b, o + k * 10 + 7, none⟩ = some (I ((at0 xs k).s.v 5)) ∧
 w.cell? ⟨b, o + k * 10 + 8, none⟩ = some (I (at0 xs k).e) ∧ w.cell? ⟨b, o + k * 10 + 9, none⟩ = some (I (at0 xs k).p) := by
 obtain ⟨b, o, e, hb, hc⟩ := h (by omega)
 exact ⟨b, o, e, hb, hc k hk 0 (by omega), hc k hk 1 (by omega), hc k hk 2 (by omega), hc k hk 3 (by omega), hc k hk 4 (by omega), hc k hk 5 (by omega), hc k hk 6 (by omega), hc k hk 7 (by omega), hc k hk 8 (by omega), hc k hk 9 (by omega)⟩
end
end Go.Proofs.YtnkaoplgmglijaaDoor
/- Laws of the walk for aggregates of integers that are not written out: a load, an index, a store into a variable that was just made. No condition beyond those that each law names. -/
namespace Go.Proofs.YtnkaoplgmglijaaDoor
open Go.RowKit
def ia (n : Nat) (f : Vec) : Array Value := ((List.range n).map fun i => I (f i)).toArray
theorem ia_size (n : Nat) (f : Vec) : (ia n f).size = n := by simp [ia]
theorem ia_get {n : Nat} {f : Vec} {i : Nat} (h : i < n) : (ia n f)[i]? = some (I (f i)) := by simp [ia, h]
theorem ia_extract (n : Nat) (f : Vec) (a m : Nat) (h : a + m ≤ n) : (ia n f).extract a (a + m) = ia m fun i => f (a + i) := by
 apply Array.ext_getElem?
 intro i
 rw [Array.getElem?_extract]
 by_cases hi : i < m
 · rw [if_pos (by rw [ia_size]; omega), ia_get (by omega), ia_get hi]
 · rw [if_neg (by rw [ia_size]; omega), Array.getElem?_eq_none (by rw [ia_size]; omega)]
theorem ia_one {n : Nat} {f : Vec} : ∀ v ∈ (ia n f).toList, v.oneCell' = true := by
 intro v hv
 simp [ia] at hv
 obtain ⟨a, _, rfl⟩ := hv
 rfl
section
variable {P : Program}
theorem addr_add (b o j : Nat) : (⟨b, o, none⟩ : Addr).add j = ⟨b, o + j, none⟩ := by unfold Addr.add; split <;> simp_all
theorem wpList_load_ia {ops : Array Oper} {rest : List Oper} {o : Oper} {a : Act} {w : World} {Q : Exit → Act → World → Prop} (hgd : o.guard = none) (ty : TypeId) (x : Operand) (ho : o.op = .load ty x)
 (g i : Nat) (hx : a.eval x = .pointer (some ⟨g, i, none⟩)) (m : Nat) (f : Vec) (d : TypeDesc) (hg : ∀ j, j < m → w.cell? ⟨g, i + j, none⟩ = some (I (f j)))
 (hu : P.underlying ty = some d) (hd : (match d with | .struct _ | .array _ _ => true | _ => false) = true) (hi : (P.info? ty).map (·.size) = some m)
 (h : wpList P ops Q rest (a.put o.dst (.agg (ia m f))) w) : wpList P ops Q (o :: rest) a w := by
 refine wpList_plain hgd fun _ hK => ?_
 have hl := run_loadCells (P := P) w ⟨g, i, none⟩ m (fun j => I (f j)) (fun j hj => by rw [addr_add]; exact hg j hj)
 have hrun : (loadVar ty ⟨g, i, none⟩).run P w = .ok (.agg (ia m f)) w := by
  cases hq : P.info? ty with
  | none => simp [hq] at hi
  | some q =>
    have hs : q.size = m := by simpa [hq] using hi
    have hagg : (isAgg ty).run P w = .ok true w := by
        unfold isAgg
        rw [Sem.run_bind, run_underlying hu w]
        cases d <;> simp_all
    simp [loadVar, Sem.run_bind, hagg, sizeOf, typeInfo, hq, hs, hl, ia]
 unfold Oper.wp execOp
 simp only [ho, hx, Instr.loadAt, Instr.sureAddr, Sem.run_bind, Sem.run_pure, Result.andThen_ok, hrun]
 exact hK _ _ h
theorem wpList_index_ia {ops : Array Oper} {rest : List Oper} {o : Oper} {a : Act} {w : World} {Q : Exit → Act → World → Prop} (hgd : o.guard = none) (ty : TypeId) (x y : Operand) (ho : o.op = .index ty x y)
 (n : Nat) (f : Vec) (hx : a.eval x = .agg (ia n f)) (k : Nat) (hy : a.eval y = .int .i64 k) (len m : Nat) (e : TypeId) (d : TypeDesc) (hu : P.underlying ty = some (.array len e)) (hk : k < len)
 (hue : P.underlying e = some d) (hd : (match d with | .struct _ | .array _ _ => true | _ => false) = true) (hi : (P.info? e).map (·.size) = some m) (hn : k * m + m ≤ n)
 (h : wpList P ops Q rest (a.put o.dst (.agg (ia m fun i => f (k * m + i)))) w) : wpList P ops Q (o :: rest) a w := by
 refine wpList_plain hgd fun _ hK => ?_
 have hagg : (isAgg e).run P w = .ok true w := by
  unfold isAgg
  rw [Sem.run_bind, run_underlying hue w]
  cases d <;> simp_all
 have hrun : (Instr.index ty (.agg (ia n f)) (.int .i64 k)).run P w = .ok (.agg (ia m fun i => f (k * m + i))) w := by
  cases hq : P.info? e with
  | none => simp [hq] at hi
  | some q =>
    have hs : q.size = m := by simpa [hq] using hi
    have hkl : ¬ len ≤ k := by omega
    simp [Instr.index, asIntOf, run_underlying hu, part, hagg, sizeOf, typeInfo, hq, hs, hkl, ia_extract n f (k * m) m hn]
 unfold Oper.wp execOp
 simp only [ho, hx, hy, Sem.run_bind, Sem.run_pure, Result.andThen_ok, hrun]
 exact hK _ _ h
theorem wpList_store_fresh {ops : Array Oper} {rest : List Oper} {o : Oper} {a : Act} {w : World} {Q : Exit → Act → World → Prop} (hgd : o.guard = none) (ty : TypeId) (x y : Operand) (ho : o.op = .store ty x y)
 (cs : Array Value) (t : TypeId) (hx : a.eval x = .pointer (some ⟨w.heap.size, 0, none⟩)) (cs' : Array Value) (hy : a.eval y = .agg cs') (h1 : ∀ v ∈ cs'.toList, v.oneCell' = true) (hs : cs'.size = cs.size) (hi : (P.info? ty).map (·.size) = some cs.size)
 (h : wpList P ops Q rest (a.put o.dst undef) (w.alloc (.cells cs' t))) : wpList P ops Q (o :: rest) a (w.alloc (.cells cs t)) := by
 refine wpList_plain hgd fun _ hK => ?_
 have hst := run_storeCells_from (P := P) w.heap.size t cs'.toList 0 cs (w.alloc (.cells cs t)) (heap_alloc_new w _) (by simpa using hs) h1
 have hw : (w.alloc (.cells cs t)).setRow w.heap.size (cs.toList.take 0 ++ cs'.toList).toArray = w.alloc (.cells cs' t) := by
  unfold World.setRow
  show World.mk .. = World.mk ..
  congr 1
  apply Array.ext_getElem?
  intro i
  rw [Array.getElem?_modify]
  show (if w.heap.size = i then ((w.heap.push (.cells cs t))[i]?).map _ else (w.heap.push (.cells cs t))[i]?) = (w.heap.push (.cells cs' t))[i]?
  rw [Array.getElem?_push, Array.getElem?_push]
  by_cases he : i = w.heap.size
  · subst he; simp
  · have he' : ¬ w.heap.size = i := fun e => he e.symm
    simp [he, he']
 rw [hw] at hst
 have hrun : (storeVar ty ⟨w.heap.size, 0, none⟩ (.agg cs')).run P (w.alloc (.cells cs t)) = .ok () (w.alloc (.cells cs' t)) := by
  cases hq : P.info? ty with
  | none => simp [hq] at hi
  | some q =>
    have hs' : q.size = cs.size := by simpa [hq] using hi
    simp [storeVar, Sem.run_bind, sizeOf, typeInfo, hq, hs', hs, Value.cells, hst]
 unfold Oper.wp execOp
 simp only [ho, hx, hy, Instr.storeAt, Instr.sureAddr, Sem.run_bind, Sem.run_pure, Result.andThen_ok, hrun]
 exact hK _ _ h
end
end Go.Proofs.YtnkaoplgmglijaaDoor
/- A region that draws its order, whose operations only read or call functions that leave alone what was there: one walk in the order of the text serves every order. -/
namespace Go.Proofs.YtnkaoplgmglijaaDoor
open Go.RowKit Classical
noncomputable def ovr (W u : World) : World := if Below W.heap.size W u then u else W
theorem ovr_below (W u : World) : Below W.heap.size W (ovr W u) := by
 unfold ovr
 split
 · assumption
 · exact Below.refl _ _
theorem ovr_of {W u : World} (h : Below W.heap.size W u) : u = ovr W u := by unfold ovr; rw [if_pos h]
theorem ovr_cell {W : World} {b o : Nat} {v : Value} (h : W.cell? ⟨b, o, none⟩ = some v) (u : World) : (ovr W u).cell? ⟨b, o, none⟩ = some v :=
 ((ovr_below W u).cell (p := ⟨b, o, none⟩) (block_lt_of_cell h)).trans h
theorem wp_region_below_lit {P : Program} {id : Nat} {Q : Exit → Act → World → Prop} {a : Act} {w : World} {l : List Oper} (hm : P.follows .mixedOrders = true) (hB : Region.lexB .any l.toArray = true)
 (h : wpQuiet P l.toArray (fun w' => ∃ u, w' = ovr w u) (fun a' => ∀ w', Below w.heap.size w w' → Q .normal a' w') l a) : (Code.region id l.toArray true).wp P Q a w := by
 refine wp_region_quiet (C := fun w' => ∃ u, w' = ovr w u) hm hB ⟨w.drew, ovr_of (Below.refl _ _).drew⟩ ?_
 have e : (fun a' => ∀ w', Below w.heap.size w w' → Q .normal a' w') = (fun a' => ∀ w', (∃ u, w' = ovr w u) → Q .normal a' w') := by
  funext a'
  apply propext
  constructor
  · rintro h w' ⟨u, rfl⟩; exact h _ (ovr_below _ _)
  · intro h w' hb; exact h w' ⟨w', ovr_of hb⟩
 rw [e] at h
 simpa using h
theorem call_below {P : Program} {f : FuncId} {args : Array Value} {w u : World} {v : Value} (h : Calls P f args (ovr w u) fun e w' => e = .returned v ∧ Below (ovr w u).heap.size (ovr w u) w') :
 Calls P f args (ovr w u) fun e w' => e = .returned v ∧ ∃ m, w' = ovr w m :=
 h.mono fun _ w' ⟨he, hb⟩ => ⟨he, w', ovr_of ((ovr_below w u).trans (hb.mono (ovr_below w u).size))⟩
end Go.Proofs.YtnkaoplgmglijaaDoor
/- Rows that the call owns, as lists of cells by element and place; what is kept of them below. -/
namespace Go.Proofs.YtnkaoplgmglijaaDoor
open Go.RowKit
def flat (sz : Nat) (g : Nat → Nat → Value) (n : Nat) : List Value := (List.range (n * sz)).map fun i => g (i / sz) (i % sz)
theorem flat_len (sz : Nat) (g : Nat → Nat → Value) (n : Nat) : (flat sz g n).length = n * sz := by simp [flat]
theorem idx_lt {sz n k j : Nat} (hk : k < n) (hj : j < sz) : k * sz + j < n * sz := by
 have : (k + 1) * sz ≤ n * sz := Nat.mul_le_mul_right _ hk
 rw [Nat.add_mul] at this
 omega
theorem idx_div {sz k j : Nat} (hj : j < sz) : (k * sz + j) / sz = k := by
 rw [Nat.mul_comm, Nat.mul_add_div (by omega), Nat.div_eq_of_lt hj]; omega
theorem idx_mod {sz k j : Nat} (hj : j < sz) : (k * sz + j) % sz = j := by
 rw [Nat.mul_comm, Nat.mul_add_mod, Nat.mod_eq_of_lt hj]
theorem flat_get {sz n k j : Nat} (g : Nat → Nat → Value) (hk : k < n) (hj : j < sz) : (flat sz g n)[k * sz + j]? = some (g k j) := by
 simp [flat, idx_lt hk hj, idx_div hj, idx_mod hj]
theorem flat_succ (sz : Nat) (hs : 0 < sz) (g : Nat → Nat → Value) (n : Nat) : flat sz g (n + 1) = flat sz g n ++ (List.range sz).map (g n) := by
 apply List.ext_getElem?
 intro i
 rw [List.getElem?_append]
 by_cases h1 : i < n * sz
 · rw [if_pos (by rw [flat_len]; exact h1)]
   have : i < (n + 1) * sz := by rw [Nat.add_mul]; omega
   simp [flat, h1, this]
 · rw [if_neg (by rw [flat_len]; exact h1), flat_len]
   obtain ⟨j, rfl⟩ : ∃ j, i = n * sz + j := ⟨i - n * sz, by omega⟩
   by_cases hj : j < sz
   · rw [flat_get g (by omega) hj]; simp [hj]
   · have h2 : ¬ n * sz + j < (n + 1) * sz := by rw [Nat.add_mul]; omega
     simp [flat, h2, hj]
theorem own_below {w w' : World} {base sz n : Nat} {e : TypeId} {v : Value} {xs : List Value} (h : w.ownsRow base e sz v n xs) (hb : Below w.heap.size w w') : w'.ownsRow base e sz v n xs := by
 obtain ⟨h1, h2⟩ := h
 refine ⟨h1, ?_⟩
 rcases h2 with h2 | ⟨g, cap, cur, hv, hg, hh, r⟩
 · exact .inl h2
 · exact .inr ⟨g, cap, cur, hv, hg, (hb.block g (Array.getElem?_eq_some_iff.1 hh).1).trans hh, r⟩
theorem Rd.of_own {w : World} {base sz n : Nat} {e : TypeId} {v : Value} {g : Nat → Nat → Value} (h : w.ownsRow base e sz v n (flat sz g n)) : ∃ A c, v = .slice A n c ∧ Rd w w.heap.size sz A n g := by
 rcases h.2 with ⟨rfl, rfl⟩ | ⟨q, cap, cur, rfl, hq, hh, hn, hc, hsz, ht⟩
 · exact ⟨none, 0, rfl, Rd.nil⟩
 · refine ⟨_, cap, rfl, fun hpos => ⟨q, 0, rfl, (Array.getElem?_eq_some_iff.1 hh).1, fun k hk j hj => ?_⟩⟩
   rw [cell_of_row w q _ cur e _ hh, Nat.zero_add, ← flat_get g hk hj, ← ht, List.getElem?_take, if_pos (idx_lt hk hj)]
   simp
theorem Rd.of_own_cap {w : World} {base sz n : Nat} {e : TypeId} {v : Value} {g : Nat → Nat → Value} (h : w.ownsRow base e sz v n (flat sz g n)) : ∃ A c, v = .slice A n c ∧ n ≤ c ∧ Rd w w.heap.size sz A n g := by
 obtain ⟨A, c, hv, hr⟩ := Rd.of_own h
 refine ⟨A, c, hv, ?_, hr⟩
 rcases h.2 with ⟨rfl, rfl⟩ | ⟨q, cap, cur, rfl, hq, hh, hn, hc, hsz, ht⟩
 · omega
 · injection hv with _ _ h3
   omega
theorem news_lit {w : World} {q : Nat} {cs : Array Value} {t : TypeId} (hq : w.heap[q]? = some (.cells cs t (0, 0))) : ∀ j u, cs.toList[j]? = some u → w.cell? ((⟨q, 0, none⟩ : Addr).add j) = some u := fun j u hu => by
 rw [addr_add, Nat.zero_add, cell_of_row w q _ cs t _ hq]; simpa using hu
end Go.Proofs.YtnkaoplgmglijaaDoor
/- More laws of the walk: a store over a whole block, an index of an aggregate at a place that is a variable, results of which one lies in memory. -/
namespace Go.Proofs.YtnkaoplgmglijaaDoor
open Go.RowKit
section
variable {P : Program}
theorem setRow_same {w : World} {g : Nat} {cs cs' : Array Value} {t : TypeId} {fr : Nat × Nat} (h : w.heap[g]? = some (.cells cs t fr)) : (w.setRow g cs').heap[g]? = some (.cells cs' t fr) := setRow_heap w g cs cs' t fr h
theorem setRow_other {w : World} {g k : Nat} {cs : Array Value} (h : k ≠ g) : (w.setRow g cs).heap[k]? = w.heap[k]? := by
 simp only [World.setRow, Array.getElem?_modify]
 rw [if_neg (by omega)]
theorem below_setRow {B : Nat} {a w : World} (h : Below B a w) {g : Nat} (hg : B ≤ g) (cs : Array Value) : Below B a (w.setRow g cs) :=
 h.trans ⟨rfl, rfl, rfl, by simp [World.setRow], fun k hk => setRow_other (by omega)⟩
theorem setRow_size (w : World) (g : Nat) (cs : Array Value) : (w.setRow g cs).heap.size = w.heap.size := by simp [World.setRow]
theorem wpList_store_row {ops : Array Oper} {rest : List Oper} {o : Oper} {a : Act} {w : World} {Q : Exit → Act → World → Prop} (hgd : o.guard = none) (ty : TypeId) (x y : Operand) (ho : o.op = .store ty x y)
 (g : Nat) (hx : a.eval x = .pointer (some ⟨g, 0, none⟩)) (cs : Array Value) (t : TypeId) (hg : w.heap[g]? = some (.cells cs t (0, 0))) (cs' : Array Value) (hy : a.eval y = .agg cs') (h1 : ∀ v ∈ cs'.toList, v.oneCell' = true) (hs : cs'.size = cs.size) (hi : (P.info? ty).map (·.size) = some cs.size)
 (h : wpList P ops Q rest (a.put o.dst undef) (w.setRow g cs')) : wpList P ops Q (o :: rest) a w := by
 refine wpList_plain hgd fun _ hK => ?_
 have hst := run_storeCells_from (P := P) g t cs'.toList 0 cs w hg (by simpa using hs) h1
 simp only [List.take_zero, List.nil_append, Array.toArray_toList] at hst
 have hrun : (storeVar ty ⟨g, 0, none⟩ (.agg cs')).run P w = .ok () (w.setRow g cs') := by
  cases hq : P.info? ty with
  | none => simp [hq] at hi
  | some q =>
    have hs' : q.size = cs.size := by simpa [hq] using hi
    simp [storeVar, Sem.run_bind, sizeOf, typeInfo, hq, hs', hs, Value.cells, hst]
 unfold Oper.wp execOp
 simp only [ho, hx, hy, Instr.storeAt, Instr.sureAddr, Sem.run_bind, Sem.run_pure, Result.andThen_ok, hrun]
 exact hK _ _ h
theorem wp_store_row {o : Oper} {a : Act} {w : World} {K : Act → World → Prop} {Q : Exit → Act → World → Prop} (ty : TypeId) (x y : Operand) (ho : o.op = .store ty x y)
 (g : Nat) (hx : a.eval x = .pointer (some ⟨g, 0, none⟩)) (cs : Array Value) (t : TypeId) (hg : w.heap[g]? = some (.cells cs t (0, 0))) (cs' : Array Value) (hy : a.eval y = .agg cs') (h1 : ∀ v ∈ cs'.toList, v.oneCell' = true) (hs : cs'.size = cs.size) (hi : (P.info? ty).map (·.size) = some cs.size)
 (h : K (a.put o.dst undef) (w.setRow g cs')) : o.wp P a w K Q := by
 have hst := run_storeCells_from (P := P) g t cs'.toList 0 cs w hg (by simpa using hs) h1
 simp only [List.take_zero, List.nil_append, Array.toArray_toList] at hst
 have hrun : (storeVar ty ⟨g, 0, none⟩ (.agg cs')).run P w = .ok () (w.setRow g cs') := by
  cases hq : P.info? ty with
  | none => simp [hq] at hi
  | some q =>
    have hs' : q.size = cs.size := by simpa [hq] using hi
    simp [storeVar, Sem.run_bind, sizeOf, typeInfo, hq, hs', hs, Value.cells, hst]
 unfold Oper.wp execOp
 simp only [ho, hx, hy, Instr.storeAt, Instr.sureAddr, Sem.run_bind, Sem.run_pure, Result.andThen_ok, hrun]
 exact h
theorem wpList_index_one {ops : Array Oper} {rest : List Oper} {o : Oper} {a : Act} {w : World} {Q : Exit → Act → World → Prop} (hgd : o.guard = none) (ty : TypeId) (x y : Operand) (ho : o.op = .index ty x y)
 (cs : Array Value) (hx : a.eval x = .agg cs) (k : Nat) (hy : a.eval y = .int .i64 k) (len : Nat) (e : TypeId) (d : TypeDesc) (hu : P.underlying ty = some (.array len e)) (hk : k < len)
 (hue : P.underlying e = some d) (hd : (match d with | .struct _ | .array _ _ => true | _ => false) = false) (hi : (P.info? e).map (·.size) = some 1) (v : Value) (hv : cs[k]? = some v)
 (h : wpList P ops Q rest (a.put o.dst v) w) : wpList P ops Q (o :: rest) a w := by
 refine wpList_plain hgd fun _ hK => ?_
 have hagg : (isAgg e).run P w = .ok false w := by
  unfold isAgg
  rw [Sem.run_bind, run_underlying hue w]
  cases d <;> simp_all
 have hrun : (Instr.index ty (.agg cs) (.int .i64 k)).run P w = .ok v w := by
  cases hq : P.info? e with
  | none => simp [hq] at hi
  | some q =>
    have hs : q.size = 1 := by simpa [hq] using hi
    have hkl : ¬ len ≤ k := by omega
    simp [Instr.index, asIntOf, run_underlying hu, part, hagg, sizeOf, typeInfo, hq, hs, hkl, hv]
 unfold Oper.wp execOp
 simp only [ho, hx, hy, Sem.run_bind, Sem.run_pure, Result.andThen_ok, hrun]
 exact hK _ _ h
theorem wpList_store_new {ops : Array Oper} {rest : List Oper} {o : Oper} {a : Act} {w : World} {Q : Exit → Act → World → Prop} (hgd : o.guard = none) (ty : TypeId) (x y : Operand) (ho : o.op = .store ty x y)
 (cs : Array Value) (t : TypeId) (g : Nat) (hx : a.eval x = .pointer (some ⟨g, 0, none⟩)) (hg : g = w.heap.size) (cs' : Array Value) (hy : a.eval y = .agg cs') (h1 : ∀ v ∈ cs'.toList, v.oneCell' = true) (hs : cs'.size = cs.size) (hi : (P.info? ty).map (·.size) = some cs.size)
 (h : wpList P ops Q rest (a.put o.dst undef) (w.alloc (.cells cs' t))) : wpList P ops Q (o :: rest) a (w.alloc (.cells cs t)) := by
 subst hg
 exact wpList_store_fresh hgd ty x y ho cs t hx cs' hy h1 hs hi h
theorem results_cell_tmp {fn : Func} {p t1 : Tmp} {ty : TypeId} (h : fn.results = #[.cell p ty, .tmp t1]) (tmps : Array Value) (w : World) (g : Nat) (t : TypeId) (cs : Array Value) (fr : Nat × Nat) (d : TypeDesc)
 (hp : tmps.getD p undef = .pointer (some ⟨g, 0, none⟩)) (hg : w.heap[g]? = some (.cells cs t fr))
 (hu : P.underlying ty = some d) (hd : (match d with | .struct _ | .array _ _ => true | _ => false) = true) (hi : (P.info? ty).map (·.size) = some cs.size) :
 (results fn tmps).run P w = .ok (.tuple #[.agg cs, tmps.getD t1 undef]) w := by
 have hp' : tmps[p]?.getD undef = .pointer (some ⟨g, 0, none⟩) := by simpa using hp
 simp [results, h, hp', asAddr, run_loadVar_row w g t ty cs fr d hg hu hd hi]
theorem results_cell_only {fn : Func} {p : Tmp} {ty : TypeId} (h : fn.results = #[.cell p ty]) (tmps : Array Value) (w : World) (g : Nat) (t : TypeId) (cs : Array Value) (fr : Nat × Nat) (d : TypeDesc)
 (hp : tmps.getD p undef = .pointer (some ⟨g, 0, none⟩)) (hg : w.heap[g]? = some (.cells cs t fr))
 (hu : P.underlying ty = some d) (hd : (match d with | .struct _ | .array _ _ => true | _ => false) = true) (hi : (P.info? ty).map (·.size) = some cs.size) :
 (results fn tmps).run P w = .ok (.agg cs) w := results_cell_row h tmps w g t cs fr d hp hg hu hd hi
end
end Go.Proofs.YtnkaoplgmglijaaDoor
/- A region that draws its order, whose last operation waits for all the others, which only read or call functions that leave alone what was there: one walk in the order of the text serves every order. -/
namespace Go.Proofs.YtnkaoplgmglijaaDoor
open Go.RowKit
def skipLast : List Oper → List Oper
 | [] => []
 | [o] => [{ o with op := .move (.const (.bool true)) }]
 | o :: o' :: r => o :: skipLast (o' :: r)
theorem skipLast_one (o : Oper) : skipLast [o] = [{ o with op := .move (.const (.bool true)) }] := rfl
theorem skipLast_two (o o' : Oper) (r : List Oper) : skipLast (o :: o' :: r) = o :: skipLast (o' :: r) := rfl
theorem skipLast_len : ∀ l : List Oper, (skipLast l).length = l.length
 | [] => rfl
 | [_] => rfl
 | o :: o' :: r => by rw [skipLast_two, List.length_cons, skipLast_len (o' :: r)]; rfl
theorem skipLast_lt : ∀ (l : List Oper) (i : Nat), i + 1 < l.length → (skipLast l)[i]? = l[i]?
 | [], _, h => by simp at h
 | [_], _, h => by simp at h
 | o :: o' :: r, 0, _ => rfl
 | o :: o' :: r, i + 1, h => by
   rw [skipLast_two, List.getElem?_cons_succ, List.getElem?_cons_succ]
   exact skipLast_lt (o' :: r) i (by simpa using h)
theorem skipLast_after : ∀ (l : List Oper) (i : Nat), ((skipLast l)[i]?).map (fun o => (o.after, o.dst, o.guard)) = (l[i]?).map fun o => (o.after, o.dst, o.guard)
 | [], _ => rfl
 | [_], 0 => rfl
 | [_], _ + 1 => rfl
 | o :: o' :: r, 0 => rfl
 | o :: o' :: r, i + 1 => by
   rw [skipLast_two, List.getElem?_cons_succ, List.getElem?_cons_succ]
   exact skipLast_after (o' :: r) i
theorem skipLast_ready (md : Region.Mode) (l : List Oper) (listed : Array Bool) : Region.ready md (skipLast l).toArray listed = Region.ready md l.toArray listed := by
 unfold Region.ready
 rw [List.size_toArray, List.size_toArray, skipLast_len]
 apply List.filter_congr
 intro i _
 have := congrArg (fun x => x.map fun q : Array Edge × Option Tmp × Option (Nat × Bool) => q.1) (skipLast_after l i)
 simp only [Option.map_map, List.getElem?_toArray] at this ⊢
 congr 1
 have h2 : ((skipLast l)[i]?.map fun o => o.after) = (l[i]?.map fun o => o.after) := by simpa [Function.comp_def] using this
 have h3 : ∀ x : Option Oper, (x.map fun o => o.after.all fun e => !Region.binds md e || listed.getD e.on false) = (x.map fun o => o.after).map fun a => a.all fun e => !Region.binds md e || listed.getD e.on false := fun x => by cases x <;> rfl
 rw [h3, h3, h2]
theorem skipLast_yielded (l : List Oper) (tmps : Array Value) : yielded (skipLast l).toArray tmps = yielded l.toArray tmps := by
 funext j
 unfold yielded
 have := congrArg (fun x => x.bind fun q : Array Edge × Option Tmp × Option (Nat × Bool) => q.2.1) (skipLast_after l j)
 have h3 : ∀ x : Option Oper, (x.bind fun o => o.dst) = ((x.map fun o => (o.after, o.dst, o.guard)).bind fun q => q.2.1) := fun x => by cases x <;> rfl
 rw [List.getElem?_toArray, List.getElem?_toArray, h3, h3, skipLast_after]
def tailB (md : Region.Mode) (l : List Oper) : Bool :=
 match l[l.length - 1]? with
 | none => false
 | some o => o.guard.isNone && o.dst.isNone && ((List.range (l.length - 1)).all fun i => o.after.any fun e => Region.binds md e && e.on == i) &&
   (List.range l.length).all fun k => match l[k]? with | some o => o.after.all fun e => !Region.binds md e || decide (e.on < k) | none => true
section
variable {P : Program} {C : World → Prop} {md : Region.Mode}
theorem wpAny_of_tail {l : List Oper} {o : Oper} {n : Nat} {Q' : Exit → Act → World → Prop} (hn : l.length = n + 1) (ho : l[n]? = some o) (hg : o.guard = none) (hd : o.dst = none)
 (hs : ∀ i, i < n → ∃ e ∈ o.after, Region.binds md e = true ∧ e.on = i) (hf : ∀ k q, l[k]? = some q → ∀ e ∈ q.after, Region.binds md e = true → e.on < k) :
 ∀ (fuel : Nat) (listed : Array Bool) (a : Act) (w : World), C w → listed.size = n + 1 → listed.getD n true = false →
   wpAnyQ P md (skipLast l).toArray C (fun a' => ∀ w', C w' → o.wp P a' w' (fun a'' w'' => Q' .normal a'' w'') Q') fuel listed a → wpAny P md l.toArray Q' fuel listed a w := by
 have hne : ∀ listed : Array Bool, listed.size = n + 1 → listed.getD n true = false → Region.ready md l.toArray listed ≠ [] := by
  intro listed hsz hnl he
  have : ∀ k, k ≤ n → ∀ i, i < k → listed.getD i false = true := by
   intro k
   induction k with
   | zero => intro _ i hi; omega
   | succ k ih =>
     intro hk i hi
     rcases Nat.lt_succ_iff_lt_or_eq.1 hi with h | rfl
     · exact ih (by omega) i h
     · cases hl : listed.getD i true with
       | false =>
         have hmem : i ∈ Region.ready md l.toArray listed := by
          rw [mem_ready]
          refine ⟨hl, l[i]'(by omega), by simp, fun e he hb => ?_⟩
          exact ih (by omega) e.on (hf i _ (List.getElem?_eq_getElem (by omega)) e he hb)
         rw [he] at hmem; cases hmem
       | true =>
         have hi' : i < listed.size := by omega
         simp [hi'] at hl ⊢; exact hl
  have hmem : n ∈ Region.ready md l.toArray listed := by
   rw [mem_ready]
   refine ⟨hnl, o, by simpa using ho, fun e he hb => this n (Nat.le_refl _) e.on (hf n o ho e he hb)⟩
  rw [he] at hmem; cases hmem
 intro fuel
 induction fuel with
 | zero =>
   intro listed a w hC hsz hnl h
   have := h.1
   rw [skipLast_ready] at this
   exact absurd this (hne listed hsz hnl)
 | succ fuel ih =>
   intro listed a w hC hsz hnl h
   refine ⟨fun h0 => absurd h0 (hne listed hsz hnl), fun i hi => ?_⟩
   have hq := h.2 i (by rw [skipLast_ready]; exact hi)
   have hil : i < n + 1 := by
    obtain ⟨_, q, hq', _⟩ := mem_ready.1 hi
    have := (Array.getElem?_eq_some_iff.1 hq').1
    simpa [hn] using this
   by_cases hin : i = n
   · subst hin
     obtain ⟨_, q, hq', hall⟩ := mem_ready.1 hi
     have hqo : q = o := by
        have : l[i]? = some q := by simpa using hq'
        rw [ho] at this; exact (Option.some.inj this).symm
     subst hqo
     have hlist : ∀ j, j < i + 1 → (listed.setIfInBounds i true).getD j false = true := by
        intro j hj
        by_cases hji : j = i
        · subst hji; simp [hsz]
        · obtain ⟨e, he, hb, hon⟩ := hs j (by omega)
          have := hall e he hb
          rw [hon] at this
          have hjs : j < listed.size := by omega
          have hij : ¬ i = j := fun e => hji e.symm
          simp [hjs, hij] at this ⊢
          exact this
     have hempty : Region.ready md l.toArray (listed.setIfInBounds i true) = [] := by
        rw [List.eq_nil_iff_forall_not_mem]
        intro j hj
        obtain ⟨h1, q', h2, _⟩ := mem_ready.1 hj
        have hjl : j < i + 1 := by
         have := (Array.getElem?_eq_some_iff.1 h2).1
         simpa [hn] using this
        have h3 := hlist j hjl
        rw [getD_both h1] at h3
        cases h3
     have hK : ∀ w', C w' → q.wp P a w' (fun a'' w'' => Q' .normal a'' w'') Q' := by
        unfold qOp at hq
        have h2 : (skipLast l).toArray[i]? = some ((skipLast l)[i]'(by rw [skipLast_len]; omega)) := by simp [skipLast_len, hn]
        have hsa := skipLast_after l i
        rw [ho, List.getElem?_eq_getElem (by rw [skipLast_len]; omega)] at hsa
        simp only [Option.map_some, Option.some.injEq, Prod.mk.injEq] at hsa
        obtain ⟨_, hsd, hsg⟩ := hsa
        rw [h2] at hq
        simp only at hq
        have hfin : ∀ v, wpAnyQ P md (skipLast l).toArray C (fun a' => ∀ w', C w' → q.wp P a' w' (fun a'' w'' => Q' .normal a'' w'') Q') fuel (listed.setIfInBounds i true) (a.put ((skipLast l)[i]'(by rw [skipLast_len]; omega)).dst v) → ∀ w', C w' → q.wp P a w' (fun a'' w'' => Q' .normal a'' w'') Q' := by
         intro v hv
         rw [hsd, hd] at hv
         have ea : a.put none v = a := rfl
         rw [ea] at hv
         cases fuel with
         | zero => exact hv.2
         | succ f => exact hv.1 (by rw [skipLast_ready]; exact hempty)
        split at hq
        · obtain ⟨v, _, hv⟩ := hq; exact hfin v hv
        · exact hfin undef hq
     unfold wpOp
     have ho' : l.toArray[i]? = some q := by simpa using ho
     rw [ho']
     simp only
     rw [if_pos (by simp [Region.wanted, hg])]
     left
     refine Oper.wp_mono (fun a'' w'' h3 => ?_) (hK w hC)
     cases fuel with
     | zero => exact ⟨hempty, h3⟩
     | succ f => exact ⟨fun _ => h3, fun j hj => by rw [hempty] at hj; cases hj⟩
   · have hop : (skipLast l).toArray[i]? = l.toArray[i]? := by simpa using skipLast_lt l i (by omega)
     have hq2 : qOp P l.toArray C i (wpAnyQ P md (skipLast l).toArray C (fun a' => ∀ w', C w' → o.wp P a' w' (fun a'' w'' => Q' .normal a'' w'') Q') fuel (listed.setIfInBounds i true)) a := by
        unfold qOp at hq ⊢
        rw [hop, skipLast_yielded] at hq
        exact hq
     exact wpOp_of_qOp hC (fun a' w' hC' hk => ih (listed.setIfInBounds i true) a' w' hC' (by simpa using hsz) (by
        have : ¬ i = n := hin
        rw [← hnl]; simp [hsz, this]) hk) hq2
end
theorem wp_region_below_tail {P : Program} {id : Nat} {Q : Exit → Act → World → Prop} {a : Act} {w : World} {l : List Oper} (hm : P.follows .mixedOrders = true) (hB : Region.lexB .any (skipLast l).toArray = true) (ht : tailB .any l = true)
 (h : wpQuiet P (skipLast l).toArray (fun w' => ∃ u, w' = ovr w u) (fun a' => ∀ w', Below w.heap.size w w' → ∀ o, l[l.length - 1]? = some o → o.wp P a' w' (fun a'' w'' => Q .normal a'' w'') Q) (skipLast l) a) : (Code.region id l.toArray true).wp P Q a w := by
 unfold tailB at ht
 cases ho : l[l.length - 1]? with
 | none => rw [ho] at ht; cases ht
 | some o =>
   rw [ho] at ht h
   simp only [Bool.and_eq_true, List.all_eq_true, List.mem_range, Option.isNone_iff_eq_none] at ht
   obtain ⟨⟨⟨hg, hd⟩, hs⟩, hf⟩ := ht
   have hlen : l.length = (l.length - 1) + 1 := by have := (List.getElem?_eq_some_iff.1 ho).1; omega
   simp only [Region.lexB, Bool.and_eq_true] at hB
   have hq : wpQuiet P (skipLast l).toArray (fun w' => ∃ u, w' = ovr w u) (fun a' => ∀ w', (∃ u, w' = ovr w u) → o.wp P a' w' (fun a'' w'' => Q .normal a'' w'') Q) (skipLast l) a := by
    have e : (fun a' => ∀ w', (∃ u, w' = ovr w u) → o.wp P a' w' (fun a'' w'' => Q .normal a'' w'') Q) = (fun a' => ∀ w', Below w.heap.size w w' → ∀ o', some o = some o' → o'.wp P a' w' (fun a'' w'' => Q .normal a'' w'') Q) := by
        funext a'
        apply propext
        constructor
        · intro h w' hb o' ho'; cases ho'; exact h w' ⟨w', ovr_of hb⟩
        · rintro h w' ⟨u, rfl⟩; exact h _ (ovr_below _ _) o rfl
    rw [e]; exact h
   have hany := wpAnyQ_lex (C := fun w' => ∃ u, w' = ovr w u) (md := .any) hB.1 (skipLast l) 0 (Array.replicate (skipLast l).length false) a (by simp) (by simpa using hB.2) hq
   refine wp_region_any hm ?_
   rw [List.size_toArray]
   refine wpAny_of_tail (o := o) (n := l.length - 1) (C := fun w' => ∃ u, w' = ovr w u) hlen ho hg hd (fun i hi => ?_) (fun k q hk e he hb => ?_) _ _ _ _ ⟨w.drew, ovr_of (Below.refl _ _).drew⟩ (by simp; omega) (by simp [show l.length - 1 < l.length by omega]) (by rw [skipLast_len] at hany; exact hany)
   · have := hs i hi
     obtain ⟨e, he, hb⟩ := Array.any_eq_true'.1 this
     simp only [Bool.and_eq_true, beq_iff_eq] at hb
     exact ⟨e, he, hb.1, hb.2⟩
   · have hkl := (List.getElem?_eq_some_iff.1 hk).1
     have := hf k hkl
     rw [hk] at this
     have h2 := Array.all_eq_true'.1 this e he
     simp [hb] at h2
     exact h2
def lastOf : List Oper → Oper
 | [] => default
 | [o] => o
 | _ :: o' :: r => lastOf (o' :: r)
theorem lastOf_one (o : Oper) : lastOf [o] = o := rfl
theorem lastOf_two (o o' : Oper) (r : List Oper) : lastOf (o :: o' :: r) = lastOf (o' :: r) := rfl
theorem lastOf_eq : ∀ (l : List Oper) (o : Oper), l[l.length - 1]? = some o → o = lastOf l
 | [], _, h => by simp at h
 | [q], o, h => by
   have h2 : q = o := by simpa using h
   exact h2.symm
 | q :: q' :: r, o, h => by
   rw [lastOf_two]
   refine lastOf_eq (q' :: r) o ?_
   simpa using h
theorem wp_region_below_last {P : Program} {id : Nat} {Q : Exit → Act → World → Prop} {a : Act} {w : World} {l : List Oper} (hm : P.follows .mixedOrders = true) (hB : Region.lexB .any (skipLast l).toArray = true) (ht : tailB .any l = true)
 (h : wpQuiet P (skipLast l).toArray (fun w' => ∃ u, w' = ovr w u) (fun a' => ∀ w', Below w.heap.size w w' → (lastOf l).wp P a' w' (fun a'' w'' => Q .normal a'' w'') Q) (skipLast l) a) : (Code.region id l.toArray true).wp P Q a w := by
 refine wp_region_below_tail hm hB ht ?_
 have e : (fun a' => ∀ w', Below w.heap.size w w' → (lastOf l).wp P a' w' (fun a'' w'' => Q .normal a'' w'') Q) = (fun a' => ∀ w', Below w.heap.size w w' → ∀ o, l[l.length - 1]? = some o → o.wp P a' w' (fun a'' w'' => Q .normal a'' w'') Q) := by
  funext a'
  apply propext
  constructor
  · intro h w' hb o ho; rw [lastOf_eq l o ho]; exact h w' hb
  · intro h w' hb
    unfold tailB at ht
    cases ho : l[l.length - 1]? with
    | none => rw [ho] at ht; cases ht
    | some o => rw [← lastOf_eq l o ho]; exact h w' hb o ho
 rw [e] at h
 exact h
end Go.Proofs.YtnkaoplgmglijaaDoor
