/- Small words for the proofs of this seat: lists by place, searches, ranges, and what is kept below a block. No condition. -/
import Derived.Test.YtlebefopdnadaaaRows
import Derived.WalkKit
import Derived.WalkSpells
import Derived.WalkLawsBesides
import Derived.BigQuiet
import Derived.Deep.QuietTactic
import Derived.Lib.Hide
namespace Go.Proofs.Ytlebefopdnadaaa
open Go.RowKit
def at0 {α : Type} [Inhabited α] (xs : List α) (k : Nat) : α := xs.getD k default
theorem at0_mem {α : Type} [Inhabited α] {xs : List α} {x : α} (h : x ∈ xs) : ∃ j, j < xs.length ∧ at0 xs j = x := by
  obtain ⟨j, hj, rfl⟩ := List.getElem_of_mem h
  exact ⟨j, hj, by rw [at0, List.getD_eq_getElem?_getD, List.getElem?_eq_getElem hj]; rfl⟩
theorem at0_get {α : Type} [Inhabited α] {xs : List α} {j : Nat} (hj : j < xs.length) : at0 xs j = xs[j] := by
  rw [at0, List.getD_eq_getElem?_getD, List.getElem?_eq_getElem hj]; rfl
def ixOf {α : Type} (p : α → Bool) : List α → Int
  | [] => -1
  | x :: r => if p x then 0 else (let i := ixOf p r; if i < 0 then -1 else i + 1)
theorem ixOf_none {α : Type} {p : α → Bool} : ∀ {xs : List α}, (∀ x ∈ xs, p x = false) → ixOf p xs = -1
  | [], _ => rfl
  | x :: r, h => by
    have h1 := h x (by simp)
    have h2 := ixOf_none (xs := r) (fun y hy => h y (by simp [hy]))
    simp [ixOf, h1, h2]
theorem ixOf_at {α : Type} [Inhabited α] {p : α → Bool} : ∀ {xs : List α} {k : Nat}, k < xs.length → p (at0 xs k) = true → (∀ j, j < k → p (at0 xs j) = false) → ixOf p xs = k
  | x :: r, 0, _, h, _ => by simp [at0] at h; simp [ixOf, h]
  | x :: r, k + 1, hk, h, hj => by
    have h0 := hj 0 (by omega)
    have := ixOf_at (xs := r) (k := k) (by simp at hk; omega) (by simpa [at0] using h) (fun j hjk => by simpa [at0] using hj (j + 1) (by omega))
    simp [at0] at h0
    simp [ixOf, h0, this]
    omega
theorem ixOf_none0 {α : Type} [Inhabited α] {p : α → Bool} {xs : List α} (h : ∀ j, j < xs.length → p (at0 xs j) = false) : ixOf p xs = -1 :=
  ixOf_none fun x hx => by
    obtain ⟨j, hj, rfl⟩ := at0_mem hx
    exact h j hj
theorem ixOf_any {α : Type} {p : α → Bool} : ∀ {xs : List α}, decide (0 ≤ ixOf p xs) = xs.any p
  | [] => by simp [ixOf]
  | x :: r => by
    have := ixOf_any (p := p) (xs := r)
    by_cases h : p x = true <;> simp [ixOf, h]
    rw [← this]; simp; split <;> omega
theorem succ_case {p : Nat → Prop} {k : Nat} (h : ∀ j, j < k → p j) (hk : p k) : ∀ j, j < k + 1 → p j := fun j hj => by
  rcases Nat.lt_succ_iff_lt_or_eq.1 hj with h1 | rfl
  · exact h j h1
  · exact hk
theorem ret_int {k : IntKind} {a b : Int} (h : a = b) : Ending.returned (.int k a) = .returned (.int k b) := by rw [h]
theorem bor {a b : Bool} (h : a = b) : Ending.returned (.bool a) = .returned (.bool b) := by rw [h]
theorem bcell {W w1 : World} (hb : Below W.heap.size W w1) : (∀ b o, b < W.heap.size → w1.cell? ⟨b, o, none⟩ = W.cell? ⟨b, o, none⟩) ∧ (∀ b o, b < W.heap.size → w1.frozen? ⟨b, o, none⟩ = W.frozen? ⟨b, o, none⟩) :=
  ⟨fun b o h => hb.cell (p := ⟨b, o, none⟩) h, fun b o h => hb.frozen (p := ⟨b, o, none⟩) h⟩
theorem all1 {P : Nat → Prop} (h0 : P 0) : ∀ k, k < 1 → P k
  | 0, _ => h0
theorem all2 {P : Nat → Prop} (h0 : P 0) (h1 : P 1) : ∀ k, k < 2 → P k
  | 0, _ => h0 | 1, _ => h1
theorem all6 {P : Nat → Prop} (h0 : P 0) (h1 : P 1) (h2 : P 2) (h3 : P 3) (h4 : P 4) (h5 : P 5) : ∀ k, k < 6 → P k
  | 0, _ => h0 | 1, _ => h1 | 2, _ => h2 | 3, _ => h3 | 4, _ => h4 | 5, _ => h5
theorem makeFunc_run {P : Program} : ∀ (fn : Fn) (first cap : Array Value) (w : World), (Instr.makeFunc fn first cap).run P w = .ok (.func fn first cap) w := fun _ _ _ _ => rfl
/-- A range. -/
structure Rng where
  lo : Int
  hi : Int
  deriving Inhabited, DecidableEq
abbrev Vec := Nat → Int
abbrev I (x : Int) : Value := .int .i64 x
/-- A setting: its time, its phase, its values. -/
structure Stg where
  t : Int
  ph : Int
  v : Vec
instance : Inhabited Stg := ⟨⟨0, 0, fun _ => 0⟩⟩
/-- A sample: its time, and between which numbers. -/
structure Smp where
  t : Int
  lo : Int
  hi : Int
  deriving Inhabited, DecidableEq
/-- An event: its time, its kind. -/
structure Evt where
  t : Int
  kd : Int
  deriving Inhabited, DecidableEq
/-- A piece: its setting, its end, its place. -/
structure Pce where
  s : Stg
  e : Int
  p : Int
instance : Inhabited Pce := ⟨⟨default, 0, 0⟩⟩
def Rng.c (r : Rng) : Nat → Value
  | 0 => I r.lo | _ => I r.hi
def Stg.c (s : Stg) : Nat → Value
  | 0 => I s.t | 1 => I s.ph | g + 2 => I (s.v g)
def Smp.c (s : Smp) : Nat → Value
  | 0 => I s.t | 1 => I s.lo | _ => I s.hi
def Evt.c (s : Evt) : Nat → Value
  | 0 => I s.t | _ => I s.kd
def Pce.c (p : Pce) : Nat → Value
  | 8 => I p.e | 9 => I p.p | j => p.s.c j
abbrev Rng.val (r : Rng) : Value := .agg #[I r.lo, I r.hi]
abbrev Stg.val (s : Stg) : Value := .agg #[I s.t, I s.ph, I (s.v 0), I (s.v 1), I (s.v 2), I (s.v 3), I (s.v 4), I (s.v 5)]
abbrev Pce.val (p : Pce) : Value := .agg #[I p.s.t, I p.s.ph, I (p.s.v 0), I (p.s.v 1), I (p.s.v 2), I (p.s.v 3), I (p.s.v 4), I (p.s.v 5), I p.e, I p.p]
def rI (xs : List Int) (k _j : Nat) : Value := I (at0 xs k)
def rR (xs : List Rng) (k j : Nat) : Value := (at0 xs k).c j
def rS (xs : List Stg) (k j : Nat) : Value := (at0 xs k).c j
def rM (xs : List Smp) (k j : Nat) : Value := (at0 xs k).c j
def rE (xs : List Evt) (k j : Nat) : Value := (at0 xs k).c j
def rP (xs : List Pce) (k j : Nat) : Value := (at0 xs k).c j
/-- The slice at A with n elements of sz cells each holds g, below block B. -/
def Rd (w : World) (B sz : Nat) (A : Option Addr) (n : Nat) (g : Nat → Nat → Value) : Prop :=
  0 < n → ∃ b o, A = some ⟨b, o, none⟩ ∧ b < B ∧ ∀ k, k < n → ∀ j, j < sz → w.cell? ⟨b, o + k * sz + j, none⟩ = some (g k j)
section
variable {w w' : World} {B B' sz n k b o : Nat} {A : Option Addr} {g : Nat → Nat → Value}
theorem Rd.keep (h : Rd w B sz A n g) (hk : ∀ b o, b < B → w'.cell? ⟨b, o, none⟩ = w.cell? ⟨b, o, none⟩) : Rd w' B sz A n g := fun hn => by
  obtain ⟨b, o, e, hb, hc⟩ := h hn
  exact ⟨b, o, e, hb, fun k hkn j hj => (hk b _ hb).trans (hc k hkn j hj)⟩
theorem Rd.below (h : Rd w B sz A n g) (hb : Below B w w') : Rd w' B sz A n g := h.keep fun _ _ hp => hb.cell hp
theorem Rd.more (h : Rd w B sz A n g) (hB : B ≤ B') : Rd w B' sz A n g := fun hn => by
  obtain ⟨b, o, e, hb, hc⟩ := h hn
  exact ⟨b, o, e, by omega, hc⟩
theorem Rd.alloc (h : Rd w B sz A n g) (hB : B ≤ w.heap.size) (x : Obj) : Rd (w.alloc x) B sz A n g := h.below ((Below.refl _ _).alloc hB x)
theorem Rd.nil : Rd w B sz A 0 g := fun h => absurd h (by omega)
theorem Rd.cap (h : Rd w B sz A n g) {m : Nat} (hm : m ≤ n) : Rd w B sz A m g := fun hn => by
  obtain ⟨b, o, e, hb, hc⟩ := h (by omega)
  exact ⟨b, o, e, hb, fun k hk j hj => hc k (by omega) j hj⟩
theorem Rd.int {xs : List Int} (h : Rd w B 1 A n (rI xs)) (hk : k < n) : ∃ b o, A = some ⟨b, o, none⟩ ∧ b < B ∧ w.cell? ⟨b, o + k, none⟩ = some (I (at0 xs k)) := by
  obtain ⟨b, o, e, hb, hc⟩ := h (by omega)
  exact ⟨b, o, e, hb, by simpa [rI] using hc k hk 0 (by omega)⟩
theorem Rd.rng {xs : List Rng} (h : Rd w B 2 A n (rR xs)) (hk : k < n) : ∃ b o, A = some ⟨b, o, none⟩ ∧ b < B ∧ w.cell? ⟨b, o + k * 2, none⟩ = some (I (at0 xs k).lo) ∧ w.cell? ⟨b, o + k * 2 + 1, none⟩ = some (I (at0 xs k).hi) := by
  obtain ⟨b, o, e, hb, hc⟩ := h (by omega)
  exact ⟨b, o, e, hb, hc k hk 0 (by omega), hc k hk 1 (by omega)⟩
theorem Rd.stg {xs : List Stg} (h : Rd w B 8 A n (rS xs)) (hk : k < n) : ∃ b o, A = some ⟨b, o, none⟩ ∧ b < B ∧
    w.cell? ⟨b, o + k * 8, none⟩ = some (I (at0 xs k).t) ∧ w.cell? ⟨b, o + k * 8 + 1, none⟩ = some (I (at0 xs k).ph) ∧ w.cell? ⟨b, o + k * 8 + 2, none⟩ = some (I ((at0 xs k).v 0)) ∧ w.cell? ⟨b, o + k * 8 + 3, none⟩ = some (I ((at0 xs k).v 1)) ∧
    w.cell? ⟨b, o + k * 8 + 4, none⟩ = some (I ((at0 xs k).v 2)) ∧ w.cell? ⟨b, o + k * 8 + 5, none⟩ = some (I ((at0 xs k).v 3)) ∧ w.cell? ⟨b, o + k * 8 + 6, none⟩ = some (I ((at0 xs k).v 4)) ∧ w.cell? ⟨b, o + k * 8 + 7, none⟩ = some (I ((at0 xs k).v 5)) := by
  obtain ⟨b, o, e, hb, hc⟩ := h (by omega)
  exact ⟨b, o, e, hb, hc k hk 0 (by omega), hc k hk 1 (by omega), hc k hk 2 (by omega), hc k hk 3 (by omega), hc k hk 4 (by omega), hc k hk 5 (by omega), hc k hk 6 (by omega), hc k hk 7 (by omega)⟩
theorem Rd.smp {xs : List Smp} (h : Rd w B 3 A n (rM xs)) (hk : k < n) : ∃ b o, A = some ⟨b, o, none⟩ ∧ b < B ∧
    w.cell? ⟨b, o + k * 3, none⟩ = some (I (at0 xs k).t) ∧ w.cell? ⟨b, o + k * 3 + 1, none⟩ = some (I (at0 xs k).lo) ∧ w.cell? ⟨b, o + k * 3 + 2, none⟩ = some (I (at0 xs k).hi) := by
  obtain ⟨b, o, e, hb, hc⟩ := h (by omega)
  exact ⟨b, o, e, hb, hc k hk 0 (by omega), hc k hk 1 (by omega), hc k hk 2 (by omega)⟩
theorem Rd.evt {xs : List Evt} (h : Rd w B 2 A n (rE xs)) (hk : k < n) : ∃ b o, A = some ⟨b, o, none⟩ ∧ b < B ∧
    w.cell? ⟨b, o + k * 2, none⟩ = some (I (at0 xs k).t) ∧ w.cell? ⟨b, o + k * 2 + 1, none⟩ = some (I (at0 xs k).kd) := by
  obtain ⟨b, o, e, hb, hc⟩ := h (by omega)
  exact ⟨b, o, e, hb, hc k hk 0 (by omega), hc k hk 1 (by omega)⟩
theorem Rd.pce {xs : List Pce} (h : Rd w B 10 A n (rP xs)) (hk : k < n) : ∃ b o, A = some ⟨b, o, none⟩ ∧ b < B ∧
    w.cell? ⟨b, o + k * 10, none⟩ = some (I (at0 xs k).s.t) ∧ w.cell? ⟨b, o + k * 10 + 1, none⟩ = some (I (at0 xs k).s.ph) ∧ w.cell? ⟨b, o + k * 10 + 2, none⟩ = some (I ((at0 xs k).s.v 0)) ∧ w.cell? ⟨b, o + k * 10 + 3, none⟩ = some (I ((at0 xs k).s.v 1)) ∧
    w.cell? ⟨b, o + k * 10 + 4, none⟩ = some (I ((at0 xs k).s.v 2)) ∧ w.cell? ⟨b, o + k * 10 + 5, none⟩ = some (I ((at0 xs k).s.v 3)) ∧ w.cell? ⟨b, o + k * 10 + 6, none⟩ = some (I ((at0 xs k).s.v 4)) ∧ w.cell? ⟨b, o + k * 10 + 7, none⟩ = some (I ((at0 xs k).s.v 5)) ∧
    w.cell? ⟨b, o + k * 10 + 8, none⟩ = some (I (at0 xs k).e) ∧ w.cell? ⟨b, o + k * 10 + 9, none⟩ = some (I (at0 xs k).p) := by
  obtain ⟨b, o, e, hb, hc⟩ := h (by omega)
  exact ⟨b, o, e, hb, hc k hk 0 (by omega), hc k hk 1 (by omega), hc k hk 2 (by omega), hc k hk 3 (by omega), hc k hk 4 (by omega), hc k hk 5 (by omega), hc k hk 6 (by omega), hc k hk 7 (by omega), hc k hk 8 (by omega), hc k hk 9 (by omega)⟩
end
end Go.Proofs.Ytlebefopdnadaaa
