/- The contracts of the helpers of Portions of package units, and the iterator backward over integers. -/
import Derived.Test.YtmadlmmfbpmebaaU7
import Derived.Laws.EntriesVeiled
namespace Go.Proofs.Ytmadlmmfbpmebaa
open Go.RowKit
attribute [local go_sem] Oper.semAt_some
/-- A weight. -/
def wiP (n : Int) : Bool := decide (0 ≤ n) && decide (n ≤ 1000000000000000)
theorem wiP_iff {n : Int} : wiP n = true ↔ 0 ≤ n ∧ n ≤ 1000000000000000 := by simp [wiP]
def noP (n : Int) : Bool := !wiP n
theorem withinP (n : Int) (w : World) : Calls Try.prog 73 #[I n] w fun e w' => e = .returned (.bool (wiP n)) ∧ w = w' := by
  rcases h1 : decide (0 ≤ n) with _ | _ <;> rcases h2 : decide (n ≤ 1000000000000000) with _ | _
  all_goals
    have hf : Hid (wiP n = (decide (0 ≤ n) && decide (n ≤ 1000000000000000))) := rfl
    rw [h1, h2] at hf
    go_enter Try.func73, Try.ntmps73
    go_wp2
    go_ret
    exact ⟨by rw [hf.out]; rfl, rfl⟩
abbrev fnP : Value := .func (Fn.func 73) #[] #[]
theorem notP (n : Int) (k : Nat) (w : World) (hc : w.cell? ⟨k, 0, none⟩ = some fnP) : Calls Try.prog 75 #[I n, .pointer (some ⟨k, 0, none⟩)] w fun e w' => e = .returned (.bool (noP n)) ∧ w = w' := by
  have cw := Lib.hid fun w => withinP n w
  go_enter Try.func75, Try.ntmps75
  go_wp2_with fail
  refine (cw.out _).mono ?_
  rintro e w' ⟨rfl, rfl⟩
  go_wp2_with fail
  go_ret
  exact ⟨rfl, rfl⟩
abbrev fnQ (k : Nat) : Value := .func (Fn.func 75) #[] #[.pointer (some ⟨k, 0, none⟩)]
set_option maxHeartbeats 400000 in
theorem ix_P (A : Option Addr) (c k6 : Nat) (xs : List Int) (w : World) (B : Nat) (hm : xs.length ≤ maxLen) (hk : w.cell? ⟨k6, 0, none⟩ = some fnP) (hx : Rd w B 1 A xs.length (rI xs)) :
    Calls Try.prog 109 #[.slice A xs.length c, fnQ k6] w fun e w' => e = .returned (.int .i64 (ixOf noP xs)) ∧ w = w' := by
  unfold maxLen at hm
  have Hx := Lib.hid hx
  have cn := Lib.hid fun n => notP n k6 w hk
  clear hx hk
  go_enter Try.func109, Try.ntmps109
  go_wp2
  go_loop [8] (fun i => ∃ k : Nat, k ≤ xs.length ∧ i = .int .i64 k ∧ ∀ j, j < k → noP (at0 xs j) = false) (fun i => xs.length - (intOf i).toNat)
  case atStart => exact ⟨0, by omega, rfl, by omega⟩
  case round =>
    obtain ⟨k, hk, rfl, hb⟩ := hrel
    have Hb := Lib.hid hb
    clear hb
    by_cases hlt : k < xs.length
    · obtain ⟨b, o, rfl, _, hxk⟩ := Hx.out.int hlt
      have ck := cn.out (at0 xs k)
      rcases hp : noP (at0 xs k) with _ | _
      · rw [hp] at ck
        have Ck := Lib.hid ck
        clear ck
        go_wp2_with fail
        refine Ck.out.mono ?_
        rintro e w' ⟨rfl, rfl⟩
        go_wp2_with fail
        go_round
        case rel => exact ⟨k + 1, by omega, by go_num, succ_case Hb.out hp⟩
        case measure => simp [intOf]; omega
      · have hfin := Lib.hid (ixOf_at hlt hp Hb.out)
        rw [hp] at ck
        have Ck := Lib.hid ck
        clear ck
        go_wp2_with fail
        refine Ck.out.mono ?_
        rintro e w' ⟨rfl, rfl⟩
        go_wp2_with fail
        go_ret
        exact ⟨ret_int hfin.out.symm, rfl⟩
    · have hfin : Hid (ixOf noP xs = -1) := ixOf_none0 fun j hj => Hb.out j (by omega)
      go_wp2
      go_ret
      exact ⟨ret_int hfin.out.symm, rfl⟩
theorem has_P (A : Option Addr) (c k6 : Nat) (xs : List Int) (w : World) (B : Nat) (hm : xs.length ≤ maxLen) (hk : w.cell? ⟨k6, 0, none⟩ = some fnP) (hx : Rd w B 1 A xs.length (rI xs)) :
    Calls Try.prog 74 #[.slice A xs.length c, fnQ k6] w fun e w' => e = .returned (.bool (xs.any noP)) ∧ w = w' := by
  have hfin := ixOf_any (p := noP) (xs := xs)
  have cx := Lib.hid (ix_P A c k6 xs w B hm hk hx)
  clear hk hx hm
  go_enter Try.func74, Try.ntmps74
  go_wp2_with fail
  refine cx.out.mono ?_
  rintro e w' ⟨rfl, rfl⟩
  go_wp2_with fail
  go_ret
  exact ⟨rfl, rfl⟩
/-- A place in a list. -/
abbrev Pl (n : Nat) : Type := { k : Nat // k < n }
/-- The first k places from the end on. -/
def bwd (n : Nat) : Nat → List (Pl n)
  | 0 => [] | k + 1 => if h : k < n then bwd n k ++ [⟨n - 1 - k, by omega⟩] else bwd n k
theorem bwd_succ {n k : Nat} (h : k < n) : bwd n (k + 1) = bwd n k ++ [⟨n - 1 - k, by omega⟩] := by rw [bwd, dif_pos h]
theorem bwd_len {n : Nat} : ∀ {k : Nat}, k ≤ n → (bwd n k).length = k
  | 0, _ => rfl
  | k + 1, h => by rw [bwd_succ (by omega), List.length_append, bwd_len (by omega)]; rfl
theorem backward_any (A : Option Addr) (n c : Nat) (w : World) : Calls Try.prog 76 #[.slice A n c] w fun e w' => e = .returned (.func (.func 110) #[] #[.pointer (some ⟨w.heap.size, 0, none⟩)]) ∧ w' = w.alloc (.cells #[.slice A n c] 30) := by
  go_enter Try.func76, Try.ntmps76
  go_wp2
  go_ret
  exact ⟨rfl, rfl⟩
/-- The first n blocks but some stay. -/
def KpS (n : Nat) (X : Nat → Prop) (W W' : World) : Prop := (∀ k, k < n → ¬ X k → W'.heap[k]? = W.heap[k]?) ∧ W.heap.size ≤ W'.heap.size
theorem KpS.refl {n : Nat} {X : Nat → Prop} (W : World) : KpS n X W W := ⟨fun _ _ _ => rfl, Nat.le_refl _⟩
theorem KpS.trans {n : Nat} {X : Nat → Prop} {A B C : World} (h : KpS n X A B) (h' : KpS n X B C) : KpS n X A C := ⟨fun k hk hq => (h'.1 k hk hq).trans (h.1 k hk hq), Nat.le_trans h.2 h'.2⟩
theorem KpS.of_below {n m : Nat} {X : Nat → Prop} {A B : World} (h : Below m A B) (hm : n ≤ m) : KpS n X A B := ⟨fun k hk _ => h.block k (by omega), h.size⟩
theorem KpS.cell {n b o : Nat} {X : Nat → Prop} {A B : World} (h : KpS n X A B) (hb : b < n) (hq : ¬ X b) : B.cell? ⟨b, o, none⟩ = A.cell? ⟨b, o, none⟩ := by
  unfold World.cell?
  rw [h.1 b hb hq]
set_option maxRecDepth 100000 in
set_option maxHeartbeats 4000000 in
theorem backward_in (xs : List Int) (A : Option Addr) (n c l Bn n₀ B N : Nat) (X : Nat → Prop) (hN : 1 ≤ N) (hn : n = xs.length) (hm : n ≤ 1000) (hBn : Bn < n₀) (hB : B ≤ n₀) (hq : ¬ X Bn) (hBq : ∀ k, k < B → ¬ X k) (J Jx : List (Pl n) → World → Prop) (W : World)
    (hY : ∀ pre x W1, J pre W1 → pre.length < n → YieldAt Fence.wide (N - 1) Try.prog l #[.int .i64 (x.1 : Int), I (at0 xs x.1)] W1 fun e W' =>
      (e = .returned (.bool true) ∧ J (pre ++ [x]) W' ∧ KpS n₀ X W1 W') ∨ (e = .returned (.bool false) ∧ Jx (pre ++ [x]) W'))
    (hc : W.cell? ⟨Bn, 0, none⟩ = some (.slice A n c)) (hx : Rd W B 1 A n (rI xs)) (h0 : J [] W) :
    CallsIn Fence.wide N Try.prog 110 #[.func (.yield l) #[] #[], .pointer (some ⟨Bn, 0, none⟩)] W fun e W' => (∃ v, e = .returned v) ∧
      ((∃ ys, ys = bwd n n ∧ J ys W') ∨ (∃ pre, True ∧ Jx pre W')) := by
  subst hn
  have HX : Hid (∀ W', KpS n₀ X W W' → Rd W' B 1 A xs.length (rI xs) ∧ W'.cell? ⟨Bn, 0, none⟩ = some (.slice A xs.length c)) := fun W' h => ⟨hx.keep fun b o hb => h.cell (by omega) (hBq b hb), (h.cell hBn hq).trans hc⟩
  have HY := Lib.hid hY
  have H0 := Lib.hid h0
  clear hx hY h0
  refine callsIn_of_wp Try.func110 rfl trivial ?_ rfl
  simp only [Try.ntmps110, List.size_toArray, List.length_cons, List.length_nil, Nat.reduceAdd, Nat.reduceSub, Array.replicate_succ, Array.replicate_zero, List.push_toArray, List.append_toArray, List.nil_append, List.cons_append]
  gi_wp2
  clear hc
  gi_loopw [3] (fun i wr => ∃ k : Nat, k ≤ xs.length ∧ i = .int .i64 ((xs.length : Int) - 1 - (k : Int)) ∧ J (bwd xs.length k) wr ∧ KpS n₀ X W wr)
    (fun i _ => (intOf i + 1).toNat)
  case atStart => exact ⟨0, Nat.zero_le _, by simp, H0.out, KpS.refl _⟩
  case round =>
    obtain ⟨k, hk, rfl, hJs, hnx⟩ := hrel
    by_cases hlt : k < xs.length
    · rename World => Y
      obtain ⟨hrd, hbc⟩ := HX.out Y hnx
      obtain ⟨m, hm1⟩ : ∃ m : Nat, (xs.length : Int) - 1 - (k : Int) = (m : Int) := ⟨xs.length - 1 - k, by omega⟩
      obtain ⟨b, o, rfl, _, hxk⟩ := hrd.int (show m < xs.length by omega)
      have hmk : xs.length - 1 - k = m := by omega
      have hmb : m < xs.length := by omega
      obtain ⟨fn, tmps, assign, body, hy, hR⟩ := HY.out (bwd xs.length k) ⟨m, hmb⟩ Y hJs (by rw [bwd_len (by omega)]; exact hlt)
      dsimp only at hy
      have Hm1 := Lib.hid hm1
      have Hmk := Lib.hid hmk
      rw [hm1]
      clear hm1 hmk hrd
      gi_wp2
      refine hR.mono ?_
      rintro e W3 (⟨rfl, hJ3, hk3⟩ | ⟨rfl, hJx3⟩)
      · have HJ3 : Hid (J (bwd xs.length (k + 1)) W3) := by show J _ _; rw [bwd_succ hlt]; have e : (⟨xs.length - 1 - k, by omega⟩ : Pl xs.length) = ⟨m, hmb⟩ := Subtype.ext Hmk.out; rw [e]; exact hJ3
        have HK3 := Lib.hid (hnx.trans hk3)
        clear hJ3 hk3 hJs hnx
        gi_wp2
        go_roundw
        case rel => exact ⟨k + 1, by omega, by congr 1; have := Hm1.out; omega, HJ3.out, HK3.out⟩
        case measure => simp [intOf]
      · gi_wp2
        (try simp only [Exit.inBlock, Exit.then])
        refine bodyPost_ret (results_none rfl _ _ _) rfl ?_
        exact ⟨⟨_, rfl⟩, .inr ⟨_, trivial, hJx3⟩⟩
    · obtain rfl : k = xs.length := by omega
      have e : (xs.length : Int) - 1 - (xs.length : Int) = -1 := by omega
      rw [e]
      have HJs := Lib.hid hJs
      clear hJs hnx e
      gi_wp2
      go_end0
      exact ⟨⟨_, rfl⟩, .inl ⟨_, rfl, HJs.out⟩⟩
theorem backward_stops (xs : List Int) (A : Option Addr) (n c Bn n₀ B N : Nat) (X : Nat → Prop) (w : World) (hN : 1 ≤ N) (hn : n = xs.length) (hm : n ≤ 1000) (hBn : Bn < n₀) (hB : B ≤ n₀) (hq : ¬ X Bn) (hBq : ∀ k, k < B → ¬ X k) (hn₀ : n₀ ≤ w.heap.size)
    (hc : w.cell? ⟨Bn, 0, none⟩ = some (.slice A n c)) (hx : Rd w B 1 A n (rI xs)) :
    SeqStopsK Fence.wide N Try.prog 110 #[.pointer (some ⟨Bn, 0, none⟩)] (fun x : Pl n => #[.int .i64 (x.1 : Int), I (at0 xs x.1)]) (KpS n₀ X) (fun ys => ys = bwd n n) (fun _ => True) n w := fun l J Jx W hW _ _ hY h0 =>
  backward_in xs A n c l Bn n₀ B N X hN hn hm hBn hB hq hBq J Jx W hY ((hW.cell (p := ⟨Bn, 0, none⟩) (by show Bn < _; omega)).trans hc) (hx.below (hW.mono (Nat.le_trans hB hn₀))) h0
end Go.Proofs.Ytmadlmmfbpmebaa
/- The contract of Portions of package units. -/
namespace Go.Proofs.Ytmadlmmfbpmebaa
open Go.RowKit
attribute [local go_sem] Oper.semAt_some
/-- The sum of the first k. -/
def sumK (ws : List Int) : Nat → Int
  | 0 => 0 | k + 1 => sumK ws k + at0 ws k
/-- What is left of all before, what is left of the number, the parts. -/
structure PSt where
  up : Int
  lf : Int
  out : List Int
def poStep (n all : Int) (ws : List Int) (s : PSt) (x : Nat) : PSt := ⟨s.up - at0 ws x, (ovF (n * (s.up - at0 ws x)) all).1, s.out.set x (s.lf - (ovF (n * (s.up - at0 ws x)) all).1)⟩
def poL (n all : Int) (ws : List Int) {m : Nat} (pre : List (Pl m)) : PSt := pre.foldl (fun s x => poStep n all ws s x.1) ⟨all, n, List.replicate m 0⟩
theorem poL_snoc (n all : Int) (ws : List Int) {m : Nat} (pre : List (Pl m)) (x : Pl m) : poL n all ws (pre ++ [x]) = poStep n all ws (poL n all ws pre) x.1 := by simp [poL]
def poF (n : Int) (ws : List Int) : List Int × Int :=
  if 100 < ws.length then ([], 5) else if wiP n && !(ws.any noP) then (if 1000000000000000 < sumK ws ws.length then ([], 10) else if sumK ws ws.length = 0 then ([], 2) else ((poL n (sumK ws ws.length) ws (bwd ws.length ws.length)).out, 0)) else ([], 3)
/-- Integers in new memory, and an error's number. -/
def RetI (w : World) (q : List Int × Int) (e : Ending) (w' : World) : Prop := ∃ A n c, e = .returned (.tuple #[.slice A n c, I q.2]) ∧ n = q.1.length ∧ n ≤ c ∧ Rd w' w'.heap.size 1 A n (rI q.1) ∧ Below w.heap.size w w'
def iaL (l : List Int) : Array Value := (l.map fun x => I x).toArray
theorem iaL_set (l : List Int) (k : Nat) (v : Int) : (iaL l).setIfInBounds k (I v) = iaL (l.set k v) := by
  unfold iaL
  rw [List.setIfInBounds_toArray, List.map_set]
theorem iaL_at {l : List Int} {k : Nat} (h : k < l.length) : (iaL l)[k]? = some (I (at0 l k)) := by
  simp [iaL, at0_get h, h]
theorem int_info : (Try.prog.info? 3).map (fun i => (i.zero, i.size, i.bytes)) = some (some (I 0), 1, 8) := by kernel_rfl
set_option maxRecDepth 100000 in
theorem make_ints (W : World) (n : Nat) (hn : n ≤ 1000) : (Instr.makeSlice 30 (.int .i64 (n : Int)) (.int .i64 (n : Int))).run Try.prog W = .ok (.slice (some ⟨W.heap.size, 0, none⟩) n n) (W.alloc (.cells (iaL (List.replicate n 0)) 3)) := by
  obtain ⟨i0, hi0, iz0, iz1, iz2⟩ := info_parts int_info
  have h := run_make (P := Try.prog) W 30 3 i0 (I 0) Try.underlying30 hi0 iz0 .i64 .i64 (n : Int) (n : Int) (by omega) (by omega) (by rw [iz2]; omega) (by omega)
  rw [h, iz1]
  simp only [Int.toNat_natCast, Nat.mul_one]
  congr 3
  apply Array.ext_getElem?
  intro i
  by_cases hi : i < n
  · simp [iaL, madeCells, hi, Value.cells, Nat.mod_one]
  · simp [iaL, madeCells, hi]
theorem noP_at {ws : List Int} (h : ws.any noP = false) {j : Nat} (hj : j < ws.length) : 0 ≤ at0 ws j ∧ at0 ws j ≤ 1000000000000000 := by
  rw [List.any_eq_false] at h
  have := h (at0 ws j) (by rw [at0_get hj]; exact List.getElem_mem hj)
  unfold noP at this
  exact wiP_iff.1 (by simpa using this)
theorem sumK_bd {ws : List Int} (h : ws.any noP = false) : ∀ k : Nat, k ≤ ws.length → 0 ≤ sumK ws k ∧ sumK ws k ≤ 1000000000000000 * (k : Int)
  | 0, _ => by simp [sumK]
  | k + 1, hk => by
    have i1 := sumK_bd h k (by omega)
    have := noP_at h (show k < ws.length by omega)
    simp only [sumK]
    omega
theorem ov_bd (v c : Int) (hc : 1 ≤ c) : -1000000000000001 ≤ (ovF v c).1 ∧ (ovF v c).1 ≤ 1000000000000000 := by
  unfold ovF
  split
  · rename_i h; exact quo_near hc h
  · simp
theorem poL_bd {n all : Int} {ws : List Int} {m : Nat} (hm : m = ws.length) (hn : 0 ≤ n ∧ n ≤ 1000000000000000) (ha : 1 ≤ all ∧ all ≤ 1000000000000000) (h : ws.any noP = false) (pre : List (Pl m)) :
    (-(1000000000000000 * (pre.length : Int)) ≤ (poL n all ws pre).up ∧ (poL n all ws pre).up ≤ 1000000000000000) ∧ (-1000000000000001 ≤ (poL n all ws pre).lf ∧ (poL n all ws pre).lf ≤ 1000000000000000) ∧ (poL n all ws pre).out.length = m := by
  have : ∀ (l : List (Pl m)) (s : PSt) (k : Int), (-(1000000000000000 * k) ≤ s.up ∧ s.up ≤ 1000000000000000) → (-1000000000000001 ≤ s.lf ∧ s.lf ≤ 1000000000000000) → s.out.length = m →
      (-(1000000000000000 * (k + (l.length : Int))) ≤ (l.foldl (fun s x => poStep n all ws s x.1) s).up ∧ (l.foldl (fun s x => poStep n all ws s x.1) s).up ≤ 1000000000000000) ∧ (-1000000000000001 ≤ (l.foldl (fun s x => poStep n all ws s x.1) s).lf ∧ (l.foldl (fun s x => poStep n all ws s x.1) s).lf ≤ 1000000000000000) ∧ (l.foldl (fun s x => poStep n all ws s x.1) s).out.length = m := by
    intro l
    induction l with
    | nil => intro s k h1 h2 h3; exact ⟨by simpa using h1, h2, h3⟩
    | cons x r ih =>
      intro s k h1 h2 h3
      have hx := noP_at h (j := x.1) (by have := x.2; omega)
      have := ih (poStep n all ws s x.1) (k + 1) (by simp only [poStep]; omega) (ov_bd _ _ ha.1) (by simp [poStep, h3])
      simp only [List.foldl_cons, List.length_cons]
      refine ⟨⟨?_, this.1.2⟩, this.2⟩
      have h5 := this.1.1
      have e : (k + 1 + (r.length : Int)) = k + ((r.length + 1 : Nat) : Int) := by omega
      rw [e] at h5
      exact h5
  have h2 := this pre ⟨all, n, List.replicate m 0⟩ 0 ⟨by simp only; omega, by simp only; omega⟩ ⟨by simp only; omega, by simp only; omega⟩ (by simp)
  rw [Int.zero_add] at h2
  exact h2
set_option maxRecDepth 100000 in
set_option maxHeartbeats 4000000 in
theorem portions_any (A : Option Addr) (m c : Nat) (n : Int) (ws : List Int) (w : World) (B : Nat) (hn : m = ws.length) (hm : m ≤ maxLen) (hB : B ≤ w.heap.size) (hx : Rd w B 1 A m (rI ws)) :
    Calls Try.prog 24 #[I n, .slice A m c] w (RetI w (poF n ws)) := by
  subst hn
  have hf : Hid (poF n ws = if 100 < ws.length then ([], 5) else if wiP n && !(ws.any noP) then (if 1000000000000000 < sumK ws ws.length then ([], 10) else if sumK ws ws.length = 0 then ([], 2) else ((poL n (sumK ws ws.length) ws (bwd ws.length ws.length)).out, 0)) else ([], 3)) := rfl
  have HX : Hid (∀ W', Below w.heap.size w W' → Rd W' B 1 A ws.length (rI ws) ∧ B ≤ W'.heap.size) := fun W' h => ⟨hx.below (h.mono hB), Nat.le_trans hB h.size⟩
  have ch : Hid (∀ k6 W', W'.cell? ⟨k6, 0, none⟩ = some fnP → Below w.heap.size w W' → Calls Try.prog 74 #[.slice A ws.length c, fnQ k6] W' fun e w' => e = .returned (.bool (ws.any noP)) ∧ W' = w') := fun k6 W' hk h => has_P A c k6 ws W' B hm hk (HX.out W' h).1
  have cw : Hid (∀ w, Calls Try.prog 73 #[I n] w fun e w' => e = .returned (.bool (wiP n)) ∧ w = w') := fun w => withinP n w
  unfold maxLen at hm
  have HBw := Lib.hid hB
  clear hx hB
  obtain ⟨W, hW⟩ : ∃ W, W = ((w.alloc (.cells #[I n] 3)).alloc (.cells #[fnP] 107)) := ⟨_, rfl⟩
  have rowW0 : W.heap[w.heap.size]? = some (.cells #[I n] 3 (0, 0)) := by rw [hW]; exact heap_before (heap_last _ _ _ rfl)
  have yW00 := ovr_cell (W := W) (b := w.heap.size) (o := 0) (v := I n) (by rw [cell_of_row _ _ _ _ _ _ rowW0]; rfl)
  have RrowW0 := Lib.hid (ovr_row rowW0)
  clear rowW0
  have rowW1 : W.heap[w.heap.size + 1]? = some (.cells #[fnP] 107 (0, 0)) := by rw [hW]; exact heap_last _ _ _ (by simp)
  have yW10 := ovr_cell (W := W) (b := w.heap.size + 1) (o := 0) (v := fnP) (by rw [cell_of_row _ _ _ _ _ _ rowW1]; rfl)
  have RrowW1 := Lib.hid (ovr_row rowW1)
  clear rowW1
  have HUW : Hid (∀ u, Below w.heap.size w (ovr W u)) := U2 hW
  have HW := Lib.hid hW
  clear hW
  by_cases h1 : 100 < ws.length
  · rw [if_pos h1] at hf
    have h1b : decide ((100 : Int) < (ws.length : Int)) = true := decide_eq_true (by omega)
    have H1 := Lib.hid h1
    clear h1
    go_enter Try.func24, Try.ntmps24
    go_upto_block 0 with (fail)
    rw [← HW.out]
    obtain ⟨u0, hu0⟩ := ovr_self W
    rw [hu0]
    clear hu0
    go_wp2_with fail
    go_ret2
    exact ⟨none, 0, 0, by rw [hf.out]; rfl, by rw [hf.out]; rfl, Nat.le_refl _, Rd.nil, HUW.out _⟩
  rw [if_neg h1] at hf
  have h1b : decide ((100 : Int) < (ws.length : Int)) = false := decide_eq_false (by omega)
  have hl : ws.length ≤ 100 := by omega
  clear h1
  rcases h2 : wiP n with _ | _
  · rw [h2] at hf
    have cw : Hid (∀ w, Calls Try.prog 73 #[I n] w fun e w' => e = .returned (.bool false) ∧ w = w') := fun w => by have := cw.out w; rwa [h2] at this
    go_enter Try.func24, Try.ntmps24
    go_upto_block 0 with (fail)
    rw [← HW.out]
    obtain ⟨u0, hu0⟩ := ovr_self W
    rw [hu0]
    clear hu0
    go_wp2_with fail
    refine (cw.out _).mono ?_
    rintro e w' ⟨rfl, rfl⟩
    go_wp2_with fail
    go_ret2
    exact ⟨none, 0, 0, by rw [hf.out]; rfl, by rw [hf.out]; rfl, Nat.le_refl _, Rd.nil, HUW.out _⟩
  rw [h2] at hf
  have Hn := Lib.hid (wiP_iff.1 h2)
  have cw : Hid (∀ (_ : Int) w, Calls Try.prog 73 #[I n] w fun e w' => e = .returned (.bool true) ∧ w = w') := fun _ w => by have := cw.out w; rwa [h2] at this
  clear h2
  rcases ha : ws.any noP with _ | _
  case true =>
    rw [ha] at hf ch
    go_enter Try.func24, Try.ntmps24
    go_upto_block 0 with (fail)
    rw [← HW.out]
    obtain ⟨u0, hu0⟩ := ovr_self W
    rw [hu0]
    clear hu0
    go_wp2_with fail
    refine (cw.out 0 _).mono ?_
    rintro e w' ⟨rfl, rfl⟩
    go_wp2_with fail
    refine (ch.out _ _ (yW10 _) (HUW.out _)).mono ?_
    rintro e w' ⟨rfl, rfl⟩
    go_wp2_with fail
    go_ret2
    exact ⟨none, 0, 0, by rw [hf.out]; rfl, by rw [hf.out]; rfl, Nat.le_refl _, Rd.nil, HUW.out _⟩
  rw [ha] at hf ch
  rw [if_pos (show (true && !false) = true from rfl)] at hf
  have Ha := Lib.hid ha
  clear ha
  by_cases hs1 : 1000000000000000 < sumK ws ws.length
  · rw [if_pos hs1] at hf
    go_enter Try.func24, Try.ntmps24
    go_upto_block 0 with (fail)
    rw [← HW.out]
    obtain ⟨u0, hu0⟩ := ovr_self W
    rw [hu0]
    clear hu0
    go_wp2_with fail
    refine (cw.out 0 _).mono ?_
    rintro e w' ⟨rfl, rfl⟩
    go_wp2_with fail
    refine (ch.out _ _ (yW10 _) (HUW.out _)).mono ?_
    rintro e w' ⟨rfl, rfl⟩
    go_upto_region 7 with (fail)
    obtain ⟨V, hV⟩ : ∃ V, V = (ovr W u0).alloc (.cells #[I 0] 3) := ⟨_, rfl⟩
    have rV : V.heap[(ovr W u0).heap.size]? = some (.cells #[I 0] 3 (0, 0)) := by rw [hV]; exact heap_last _ _ _ rfl
    have bV : Below W.heap.size W V := by rw [hV]; exact (ovr_below W u0).alloc (ovr_below W u0).size _
    have sk := (ovr_below W u0).size
    rw [← hV]
    obtain ⟨kx, hkx⟩ : ∃ kx, (ovr W u0).heap.size = kx := ⟨_, rfl⟩
    rw [hkx] at rV sk
    rw [hkx]
    have RV := Lib.hid rV
    have BV := Lib.hid bV
    have SK := Lib.hid sk
    clear hV hkx rV bV sk
    go_wp2_with fail
    go_loopw [34] (fun i wr => ∃ k : Nat, k ≤ ws.length ∧ i = .int .i64 k ∧ wr.heap[kx]? = some (.cells #[I (sumK ws k)] 3 (0, 0)) ∧ Below W.heap.size W wr) (fun i _ => ws.length - (intOf i).toNat)
    case atStart => exact ⟨0, by omega, rfl, RV.out, BV.out⟩
    case round =>
      obtain ⟨k, hk, rfl, hr, hb⟩ := hrel
      rename World => X
      by_cases hlt : k < ws.length
      · have kb : decide ((k : Int) < (ws.length : Int)) = true := decide_eq_true (by omega)
        have hbX := Lib.hid hb
        have reX : ∀ v, ∃ x, ovr X v = ovr W x := fun v => ovr_reB hb v
        replace yW00 := tr_cell reX yW00
        replace RrowW0 := Lib.hid (tr_row reX RrowW0.out)
        replace yW10 := tr_cell reX yW10
        replace RrowW1 := Lib.hid (tr_row reX RrowW1.out)
        have yX00 := ovr_cell (W := X) (b := kx) (o := 0) (v := I (sumK ws k)) (by rw [cell_of_row _ _ _ _ _ _ hr]; rfl)
        have RrowX0 := Lib.hid (ovr_row hr)
        clear hr
        have HUX : Hid (∀ u, Below w.heap.size w (ovr X u)) := fun u => by obtain ⟨x, hx⟩ := reX u; rw [hx]; exact HUW.out x
        clear reX hb
        have z0 := fun u => frozen_of_row _ _ 0 _ _ (RrowX0.out u)
        obtain ⟨u, hu⟩ := ovr_self X
        obtain ⟨b, o, rfl, _, e0⟩ := (HX.out _ (HUX.out u)).1.int hlt
        have bd := sumK_bd Ha.out (k + 1) hlt
        have hs : Hid (sumK ws (k + 1) = sumK ws k + at0 ws k) := rfl
        rw [hs.out] at bd
        obtain ⟨p, hp⟩ : ∃ p, sumK ws k = p := ⟨_, rfl⟩
        obtain ⟨q, hq⟩ : ∃ q, at0 ws k = q := ⟨_, rfl⟩
        rw [hp] at bd hs
        rw [hq] at bd hs e0
        rw [hp] at yX00
        have c1 : IntKind.i64.wrap (p + q) = p + q := IntWalk.i64_in _ (by omega)
        have RR := Lib.hid (rs (RrowX0.out u) 0 (I (p + q)))
        have BB : Hid (Below W.heap.size W ((ovr X u).setCell ⟨kx, 0, none⟩ (I (p + q)))) := (hbX.out.trans ((ovr_below X u).mono hbX.out.size)).setCell (p := ⟨kx, 0, none⟩) SK.out _
        rw [hu]
        clear hu bd hp hq
        go_wp2_with fail
        go_roundw
        case rel => exact ⟨k + 1, by omega, by go_num, by rw [hs.out]; exact RR.out, BB.out⟩
        case measure => simp [intOf]; omega
      · obtain rfl : k = ws.length := by omega
        have kb : decide ((ws.length : Int) < (ws.length : Int)) = false := decide_eq_false (by omega)
        obtain ⟨S, hS⟩ : ∃ S, sumK ws ws.length = S := ⟨_, rfl⟩
        rw [hS] at hr
        have hs1b : decide (1000000000000000 < S) = true := decide_eq_true (by omega)
        clear hS hs1
        have reX : ∀ v, ∃ x, ovr X v = ovr W x := fun v => ovr_reB hb v
        replace yW00 := tr_cell reX yW00
        replace RrowW0 := Lib.hid (tr_row reX RrowW0.out)
        replace yW10 := tr_cell reX yW10
        replace RrowW1 := Lib.hid (tr_row reX RrowW1.out)
        have yX00 := ovr_cell (W := X) (b := kx) (o := 0) (v := I S) (by rw [cell_of_row _ _ _ _ _ _ hr]; rfl)
        have RrowX0 := Lib.hid (ovr_row hr)
        clear hr
        have HUX : Hid (∀ u, Below w.heap.size w (ovr X u)) := fun u => by obtain ⟨x, hx⟩ := reX u; rw [hx]; exact HUW.out x
        clear reX hb
        obtain ⟨u, hu⟩ := ovr_self X
        rw [hu]
        clear hu
        go_wp2_with fail
        go_ret2
        exact ⟨none, 0, 0, by rw [hf.out]; rfl, by rw [hf.out]; rfl, Nat.le_refl _, Rd.nil, HUX.out _⟩
  rw [if_neg hs1] at hf
  by_cases hs0 : sumK ws ws.length = 0
  · rw [if_pos hs0] at hf
    go_enter Try.func24, Try.ntmps24
    go_upto_block 0 with (fail)
    rw [← HW.out]
    obtain ⟨u0, hu0⟩ := ovr_self W
    rw [hu0]
    clear hu0
    go_wp2_with fail
    refine (cw.out 0 _).mono ?_
    rintro e w' ⟨rfl, rfl⟩
    go_wp2_with fail
    refine (ch.out _ _ (yW10 _) (HUW.out _)).mono ?_
    rintro e w' ⟨rfl, rfl⟩
    go_upto_region 7 with (fail)
    obtain ⟨V, hV⟩ : ∃ V, V = (ovr W u0).alloc (.cells #[I 0] 3) := ⟨_, rfl⟩
    have rV : V.heap[(ovr W u0).heap.size]? = some (.cells #[I 0] 3 (0, 0)) := by rw [hV]; exact heap_last _ _ _ rfl
    have bV : Below W.heap.size W V := by rw [hV]; exact (ovr_below W u0).alloc (ovr_below W u0).size _
    have sk := (ovr_below W u0).size
    rw [← hV]
    obtain ⟨kx, hkx⟩ : ∃ kx, (ovr W u0).heap.size = kx := ⟨_, rfl⟩
    rw [hkx] at rV sk
    rw [hkx]
    have RV := Lib.hid rV
    have BV := Lib.hid bV
    have SK := Lib.hid sk
    clear hV hkx rV bV sk
    go_wp2_with fail
    go_loopw [34] (fun i wr => ∃ k : Nat, k ≤ ws.length ∧ i = .int .i64 k ∧ wr.heap[kx]? = some (.cells #[I (sumK ws k)] 3 (0, 0)) ∧ Below W.heap.size W wr) (fun i _ => ws.length - (intOf i).toNat)
    case atStart => exact ⟨0, by omega, rfl, RV.out, BV.out⟩
    case round =>
      obtain ⟨k, hk, rfl, hr, hb⟩ := hrel
      rename World => X
      by_cases hlt : k < ws.length
      · have kb : decide ((k : Int) < (ws.length : Int)) = true := decide_eq_true (by omega)
        have hbX := Lib.hid hb
        have reX : ∀ v, ∃ x, ovr X v = ovr W x := fun v => ovr_reB hb v
        replace yW00 := tr_cell reX yW00
        replace RrowW0 := Lib.hid (tr_row reX RrowW0.out)
        replace yW10 := tr_cell reX yW10
        replace RrowW1 := Lib.hid (tr_row reX RrowW1.out)
        have yX00 := ovr_cell (W := X) (b := kx) (o := 0) (v := I (sumK ws k)) (by rw [cell_of_row _ _ _ _ _ _ hr]; rfl)
        have RrowX0 := Lib.hid (ovr_row hr)
        clear hr
        have HUX : Hid (∀ u, Below w.heap.size w (ovr X u)) := fun u => by obtain ⟨x, hx⟩ := reX u; rw [hx]; exact HUW.out x
        clear reX hb
        have z0 := fun u => frozen_of_row _ _ 0 _ _ (RrowX0.out u)
        obtain ⟨u, hu⟩ := ovr_self X
        obtain ⟨b, o, rfl, _, e0⟩ := (HX.out _ (HUX.out u)).1.int hlt
        have bd := sumK_bd Ha.out (k + 1) hlt
        have hs : Hid (sumK ws (k + 1) = sumK ws k + at0 ws k) := rfl
        rw [hs.out] at bd
        obtain ⟨p, hp⟩ : ∃ p, sumK ws k = p := ⟨_, rfl⟩
        obtain ⟨q, hq⟩ : ∃ q, at0 ws k = q := ⟨_, rfl⟩
        rw [hp] at bd hs
        rw [hq] at bd hs e0
        rw [hp] at yX00
        have c1 : IntKind.i64.wrap (p + q) = p + q := IntWalk.i64_in _ (by omega)
        have RR := Lib.hid (rs (RrowX0.out u) 0 (I (p + q)))
        have BB : Hid (Below W.heap.size W ((ovr X u).setCell ⟨kx, 0, none⟩ (I (p + q)))) := (hbX.out.trans ((ovr_below X u).mono hbX.out.size)).setCell (p := ⟨kx, 0, none⟩) SK.out _
        rw [hu]
        clear hu bd hp hq
        go_wp2_with fail
        go_roundw
        case rel => exact ⟨k + 1, by omega, by go_num, by rw [hs.out]; exact RR.out, BB.out⟩
        case measure => simp [intOf]; omega
      · obtain rfl : k = ws.length := by omega
        have kb : decide ((ws.length : Int) < (ws.length : Int)) = false := decide_eq_false (by omega)
        obtain ⟨S, hS⟩ : ∃ S, sumK ws ws.length = S := ⟨_, rfl⟩
        rw [hS] at hr
        have hs1b : decide (1000000000000000 < S) = false := decide_eq_false (by omega)
        have hs0b : (S == 0) = true := by rw [beq_iff_eq]; omega
        clear hS hs1 hs0
        have reX : ∀ v, ∃ x, ovr X v = ovr W x := fun v => ovr_reB hb v
        replace yW00 := tr_cell reX yW00
        replace RrowW0 := Lib.hid (tr_row reX RrowW0.out)
        replace yW10 := tr_cell reX yW10
        replace RrowW1 := Lib.hid (tr_row reX RrowW1.out)
        have yX00 := ovr_cell (W := X) (b := kx) (o := 0) (v := I S) (by rw [cell_of_row _ _ _ _ _ _ hr]; rfl)
        have RrowX0 := Lib.hid (ovr_row hr)
        clear hr
        have HUX : Hid (∀ u, Below w.heap.size w (ovr X u)) := fun u => by obtain ⟨x, hx⟩ := reX u; rw [hx]; exact HUW.out x
        clear reX hb
        obtain ⟨u, hu⟩ := ovr_self X
        rw [hu]
        clear hu
        go_wp2_with fail
        go_ret2
        exact ⟨none, 0, 0, by rw [hf.out]; rfl, by rw [hf.out]; rfl, Nat.le_refl _, Rd.nil, HUX.out _⟩
  rw [if_neg hs0] at hf
  have hSb : 1 ≤ sumK ws ws.length ∧ sumK ws ws.length ≤ 1000000000000000 := by have := sumK_bd Ha.out ws.length (Nat.le_refl _); omega
  refine (callsIn_wide (n := 5)).1 ?_
  refine callsIn_of_wp_marks Try.func24 rfl trivial ?_ rfl
  simp only [Try.ntmps24, List.size_toArray, List.length_cons, List.length_nil, Nat.reduceAdd, Nat.reduceSub, Array.replicate_succ, Array.replicate_zero, List.push_toArray, List.append_toArray, List.nil_append, List.cons_append]
  refine wpIn_wide.2 ?_
  go_upto_block 0 with (fail)
  rw [← HW.out]
  obtain ⟨u0, hu0⟩ := ovr_self W
  rw [hu0]
  clear hu0
  go_wp2_with fail
  refine (cw.out 0 _).mono ?_
  rintro e w' ⟨rfl, rfl⟩
  go_wp2_with fail
  refine (ch.out _ _ (yW10 _) (HUW.out _)).mono ?_
  rintro e w' ⟨rfl, rfl⟩
  go_upto_region 7 with (fail)
  obtain ⟨V, hV⟩ : ∃ V, V = (ovr W u0).alloc (.cells #[I 0] 3) := ⟨_, rfl⟩
  have rV : V.heap[(ovr W u0).heap.size]? = some (.cells #[I 0] 3 (0, 0)) := by rw [hV]; exact heap_last _ _ _ rfl
  have bV : Below W.heap.size W V := by rw [hV]; exact (ovr_below W u0).alloc (ovr_below W u0).size _
  have sk := (ovr_below W u0).size
  rw [← hV]
  obtain ⟨kx, hkx⟩ : ∃ kx, (ovr W u0).heap.size = kx := ⟨_, rfl⟩
  rw [hkx] at rV sk
  rw [hkx]
  have RV := Lib.hid rV
  have BV := Lib.hid bV
  have SK := Lib.hid sk
  clear hV hkx rV bV sk
  go_wp2_with fail
  go_loopw [34] (fun i wr => ∃ k : Nat, k ≤ ws.length ∧ i = .int .i64 k ∧ wr.heap[kx]? = some (.cells #[I (sumK ws k)] 3 (0, 0)) ∧ Below W.heap.size W wr) (fun i _ => ws.length - (intOf i).toNat)
  case atStart => exact ⟨0, by omega, rfl, RV.out, BV.out⟩
  case round =>
    obtain ⟨k, hk, rfl, hr, hb⟩ := hrel
    rename World => X
    by_cases hlt : k < ws.length
    · have kb : decide ((k : Int) < (ws.length : Int)) = true := decide_eq_true (by omega)
      have hbX := Lib.hid hb
      have reX : ∀ v, ∃ x, ovr X v = ovr W x := fun v => ovr_reB hb v
      replace yW00 := tr_cell reX yW00
      replace RrowW0 := Lib.hid (tr_row reX RrowW0.out)
      replace yW10 := tr_cell reX yW10
      replace RrowW1 := Lib.hid (tr_row reX RrowW1.out)
      have yX00 := ovr_cell (W := X) (b := kx) (o := 0) (v := I (sumK ws k)) (by rw [cell_of_row _ _ _ _ _ _ hr]; rfl)
      have RrowX0 := Lib.hid (ovr_row hr)
      clear hr
      have HUX : Hid (∀ u, Below w.heap.size w (ovr X u)) := fun u => by obtain ⟨x, hx⟩ := reX u; rw [hx]; exact HUW.out x
      clear reX hb
      have z0 := fun u => frozen_of_row _ _ 0 _ _ (RrowX0.out u)
      obtain ⟨u, hu⟩ := ovr_self X
      obtain ⟨b, o, rfl, _, e0⟩ := (HX.out _ (HUX.out u)).1.int hlt
      have bd := sumK_bd Ha.out (k + 1) hlt
      have hs : Hid (sumK ws (k + 1) = sumK ws k + at0 ws k) := rfl
      rw [hs.out] at bd
      obtain ⟨p, hp⟩ : ∃ p, sumK ws k = p := ⟨_, rfl⟩
      obtain ⟨q, hq⟩ : ∃ q, at0 ws k = q := ⟨_, rfl⟩
      rw [hp] at bd hs
      rw [hq] at bd hs e0
      rw [hp] at yX00
      have c1 : IntKind.i64.wrap (p + q) = p + q := IntWalk.i64_in _ (by omega)
      have RR := Lib.hid (rs (RrowX0.out u) 0 (I (p + q)))
      have BB : Hid (Below W.heap.size W ((ovr X u).setCell ⟨kx, 0, none⟩ (I (p + q)))) := (hbX.out.trans ((ovr_below X u).mono hbX.out.size)).setCell (p := ⟨kx, 0, none⟩) SK.out _
      rw [hu]
      clear hu bd hp hq
      go_wp2_with fail
      go_roundw
      case rel => exact ⟨k + 1, by omega, by go_num, by rw [hs.out]; exact RR.out, BB.out⟩
      case measure => simp [intOf]; omega
    · obtain rfl : k = ws.length := by omega
      have kb : decide ((ws.length : Int) < (ws.length : Int)) = false := decide_eq_false (by omega)
      obtain ⟨S, hS⟩ : ∃ S, sumK ws ws.length = S := ⟨_, rfl⟩
      rw [hS] at hr
      rw [hS] at hSb hf
      have hs1b : decide (1000000000000000 < S) = false := decide_eq_false (by omega)
      have hs0b : (S == 0) = false := by rw [beq_eq_false_iff_ne]; omega
      have HS := Lib.hid hSb
      clear hS hs1 hs0 hSb
      have hmk : ∀ W : World, (Instr.makeSlice 30 (.int .i64 (ws.length : Int)) (.int .i64 (ws.length : Int))).run Try.prog W = .ok (.slice (some ⟨W.heap.size, 0, none⟩) ws.length ws.length) (W.alloc (.cells (iaL (List.replicate ws.length 0)) 3)) := fun W => make_ints W _ (by omega)
      have reX : ∀ v, ∃ x, ovr X v = ovr W x := fun v => ovr_reB hb v
      replace yW00 := tr_cell reX yW00
      replace RrowW0 := Lib.hid (tr_row reX RrowW0.out)
      replace yW10 := tr_cell reX yW10
      replace RrowW1 := Lib.hid (tr_row reX RrowW1.out)
      have yX00 := ovr_cell (W := X) (b := kx) (o := 0) (v := I S) (by rw [cell_of_row _ _ _ _ _ _ hr]; rfl)
      have RrowX0 := Lib.hid (ovr_row hr)
      clear hr
      have HUX : Hid (∀ u, Below w.heap.size w (ovr X u)) := fun u => by obtain ⟨x, hx⟩ := reX u; rw [hx]; exact HUW.out x
      clear reX hb
      obtain ⟨u, hu⟩ := ovr_self X
      rw [hu]
      clear hu
      go_upto_region 17 with (fail)
      obtain ⟨Y, hY⟩ : ∃ Y, Y = ((ovr X u).alloc (.cells (iaL (List.replicate ws.length 0)) 3)).alloc (.cells #[.slice (some ⟨(ovr X u).heap.size, 0, none⟩) ws.length ws.length] 30) := ⟨_, rfl⟩
      have ro0 : Y.heap[(ovr X u).heap.size]? = some (.cells (iaL (List.replicate ws.length 0)) 3 (0, 0)) := by rw [hY]; exact heap_before (heap_last _ _ _ rfl)
      have rt0 : Y.heap[(ovr X u).heap.size + 1]? = some (.cells #[.slice (some ⟨(ovr X u).heap.size, 0, none⟩) ws.length ws.length] 30 (0, 0)) := by rw [hY]; exact heap_last _ _ _ (by simp)
      have bY : Below (ovr X u).heap.size (ovr X u) Y := by rw [hY]; exact ((Below.refl _ _).alloc (Nat.le_refl _) _).alloc (by simp) _
      have sY : (ovr X u).heap.size + 1 + 1 ≤ Y.heap.size := by rw [hY]; simp
      have rn0 : Y.heap[w.heap.size]? = some (.cells #[I n] 3 (0, 0)) := (bY.block _ (Array.getElem?_eq_some_iff.1 (RrowW0.out u)).1).trans (RrowW0.out u)
      have rs0 : Y.heap[kx]? = some (.cells #[I S] 3 (0, 0)) := (bY.block _ (Array.getElem?_eq_some_iff.1 (RrowX0.out u)).1).trans (RrowX0.out u)
      have sw := (HUX.out u).size
      have slt : w.heap.size < (ovr X u).heap.size := (Array.getElem?_eq_some_iff.1 (RrowW0.out u)).1
      have slx : kx < (ovr X u).heap.size := (Array.getElem?_eq_some_iff.1 (RrowX0.out u)).1
      have bw : Below w.heap.size w Y := (HUX.out u).trans (bY.mono sw)
      rw [← hY]
      obtain ⟨ko, hko⟩ : ∃ k, (ovr X u).heap.size = k := ⟨_, rfl⟩
      rw [hko] at ro0 rt0 sY sw slt slx
      rw [hko]
      have Hro := Lib.hid ro0
      have Hrt := Lib.hid rt0
      have Hrn := Lib.hid rn0
      have Hrs := Lib.hid rs0
      have Hbw := Lib.hid bw
      have x1 := cell_of_row _ _ 0 _ _ _ rn0
      have x2 := cell_of_row _ _ 0 _ _ _ rs0
      have x1 : Y.cell? ⟨w.heap.size, 0, none⟩ = some (I n) := x1
      have x2 : Y.cell? ⟨kx, 0, none⟩ = some (I S) := x2
      have W2 : W.heap.size = w.heap.size + 1 + 1 := by rw [HW.out]; simp
      have kxl : w.heap.size + 1 + 1 ≤ kx := by have := SK.out; omega
      clear hY hko bY ro0 rt0 rn0 rs0 bw yW00 yW10 yX00 hmk W2
      go_cut [11, 12] from 51 to 52 (fun s11 s12 wx => ∃ p q : Nat, s11 = .pointer (some ⟨p, 0, none⟩) ∧ s12 = .pointer (some ⟨q, 0, none⟩) ∧ wx.heap[p]? = some (.cells #[I n] 3 (0, 0)) ∧ wx.heap[q]? = some (.cells #[I S] 3 (0, 0)) ∧ p ≠ q ∧ Y.heap.size ≤ p ∧ Y.heap.size ≤ q ∧ Below Y.heap.size Y wx)
      case first =>
        go_region_held3 (fun w' => w'.cell? ⟨w.heap.size, 0, none⟩ = some (I n) ∧ w'.cell? ⟨kx, 0, none⟩ = some (I S)) (go_keep) (fail)
        all_goals
          go_wp2_with fail
          go_meet
          case rel =>
            first
            | exact ⟨_, _, rfl, rfl, (by rw [heap_drew]; exact heap_before (heap_last _ _ _ rfl)), (by rw [heap_drew]; exact heap_last _ _ _ (by simp)), by omega, by omega, by omega, (((Below.refl _ _).alloc (Nat.le_refl _) _).alloc (by simp) _).drew⟩
            | exact ⟨_, _, rfl, rfl, (by rw [heap_drew]; exact heap_last _ _ _ (by simp)), (by rw [heap_drew]; exact heap_before (heap_last _ _ _ rfl)), by omega, by omega, by omega, (((Below.refl _ _).alloc (Nat.le_refl _) _).alloc (by simp) _).drew⟩
      case rest =>
        obtain ⟨p, q, rfl, rfl, rp, rq, hpq, hp, hq, hb⟩ := hcut
        rename World => Z
        clear x1 x2
        go_wp2_with fail
        refine (backward_any _ _ _ _).mono ?_
        rintro e w1 ⟨rfl, rfl⟩
        go_wp2_with fail
        obtain ⟨V, hV⟩ : ∃ V, V = Z.alloc (.cells #[.slice A ws.length c] 30) := ⟨_, rfl⟩
        have rb : V.heap[Z.heap.size]? = some (.cells #[.slice A ws.length c] 30 (0, 0)) := by rw [hV]; exact heap_last _ _ _ rfl
        have zv : Below Z.heap.size Z V := by rw [hV]; exact (Below.refl _ _).alloc (Nat.le_refl _) _
        have sV1 : Z.heap.size + 1 ≤ V.heap.size := by rw [hV]; simp
        have pl := (Array.getElem?_eq_some_iff.1 rp).1
        have ql := (Array.getElem?_eq_some_iff.1 rq).1
        have sYZ := hb.size
        have yv : Below Y.heap.size Y V := hb.trans (zv.mono sYZ)
        have keep : ∀ k o, Y.heap[k]? = some o → V.heap[k]? = some o := fun k o h => (yv.block k (Array.getElem?_eq_some_iff.1 h).1).trans h
        have vp : V.heap[p]? = some (.cells #[I n] 3 (0, 0)) := (zv.block p pl).trans rp
        have vq : V.heap[q]? = some (.cells #[I S] 3 (0, 0)) := (zv.block q ql).trans rq
        have vo := keep _ _ Hro.out
        have vt := keep _ _ Hrt.out
        have vn := keep _ _ Hrn.out
        have vs := keep _ _ Hrs.out
        have bwV : Below w.heap.size w V := Hbw.out.trans (yv.mono Hbw.out.size)
        have hxV := HX.out V bwV
        have hBw := HBw.out
        rw [← hV]
        obtain ⟨kb, hkb⟩ : ∃ k, Z.heap.size = k := ⟨_, rfl⟩
        rw [hkb] at rb sV1 pl ql sYZ
        rw [hkb]
        obtain ⟨i0, hi0, iz0, iz1, iz2⟩ := info_parts int_info
        clear hV hkb zv yv keep rp rq hb
        refine (wpIn_wide (n := 5)).1 ?_
        refine wpIn_rangeFunc_ownG rfl (by omega) (gf := 110) (lb := #[.pointer (some ⟨kb, 0, none⟩)]) rfl trivial (enters_of Try.func110 (by kernel_rfl) rfl)
          (backward_stops ws A ws.length c kb V.heap.size B 4 (fun k => k = ko ∨ k = p ∨ k = q) V (by omega) rfl (by omega) (by omega) (by omega) (by omega) (fun k hk h => by omega) (Nat.le_refl _) (by rw [cell_of_row _ _ _ _ _ _ rb]; rfl) hxV.1)
          (fun h h' => KpS.trans h h') (fun W l o o' hl h _ _ => ⟨fun k hk _ => World.putObj_heap_other (by omega), by simp⟩) (Below.refl _ _) (fun _ => rfl)
          (fun pre W => W.heap[ko]? = some (.cells (iaL (poL n S ws pre).out) 3 (0, 0)) ∧ W.heap[q]? = some (.cells #[I (poL n S ws pre).up] 3 (0, 0)) ∧ W.heap[p]? = some (.cells #[I (poL n S ws pre).lf] 3 (0, 0)) ∧
            W.heap[kx]? = some (.cells #[I S] 3 (0, 0)) ∧ W.heap[w.heap.size]? = some (.cells #[I n] 3 (0, 0)) ∧ W.heap[ko + 1]? = some (.cells #[.slice (some ⟨ko, 0, none⟩) ws.length ws.length] 30 (0, 0)) ∧ Below w.heap.size w W ∧ V.heap.size ≤ W.heap.size)
          (fun _ _ _ => False)
          (fun s W W' row hs hg hr => ⟨row_kept hs.1 hg hr, row_kept hs.2.1 hg hr, row_kept hs.2.2.1 hg hr, row_kept hs.2.2.2.1 hg hr, row_kept hs.2.2.2.2.1 hg hr, row_kept hs.2.2.2.2.2.1 hg hr, hs.2.2.2.2.2.2.1.grown hg hs.2.2.2.2.2.2.1.size (fun k e => by have := (hr k e).1; omega), Nat.le_trans hs.2.2.2.2.2.2.2 hg.size⟩)
          (fun _ _ _ _ _ hs _ _ => hs)
          ⟨vo, vq, vp, vs, vn, vt, bwV, Nat.le_refl _⟩
          (fun x => { tmps := #[I n, .slice A ws.length c, .pointer (some ⟨w.heap.size, 0, none⟩), undef, .slice none 0 0, .int .i64 0, .pointer (some ⟨w.heap.size + 1, 0, none⟩), .pointer (some ⟨kx, 0, none⟩), undef, u9, .pointer (some ⟨ko + 1, 0, none⟩), .pointer (some ⟨p, 0, none⟩), .pointer (some ⟨q, 0, none⟩), .int .i64 (x.1 : Int), I (at0 ws x.1), undef, undef, undef, .bool false, .slice A ws.length c, .int .i64 (ws.length : Int), .bool false, .bool false, fnP, I n, .bool true, .bool false, .bool false, .slice A ws.length c, fnQ (w.heap.size + 1), .bool false, .bool false, .slice A ws.length c, .int .i64 (ws.length : Int), .int .i64 (ws.length : Int), .bool false, u36, u37, u38, u39, u40, u41, .bool false, I S, .bool false, .bool false, I S, .bool false, .slice A ws.length c, .int .i64 (ws.length : Int), .slice (some ⟨ko, 0, none⟩) ws.length ws.length, u51, u52, .slice A ws.length c, .func (.func 110) #[] #[.pointer (some ⟨kb, 0, none⟩)], .int .i64 (x.1 : Int), I (at0 ws x.1), undef, undef, undef, undef, undef, undef, undef, undef, undef, undef, undef, undef, undef, undef, undef, undef, undef, undef, undef, undef], defers := [] }) ?assign ?body ?done ?stop
        case assign =>
          intro l x W K hK
          have hK' := hK
          clear hK
          gi_wp2
          exact hK'
        case body =>
          rintro l pre x X2 ⟨ho, hq2, hp2, hs2, hn2, ht2, hbw2, hsX⟩ hlt
          have hF := Wd.round l
          have hbd := poL_bd (n := n) (all := S) (pre := pre) rfl Hn.out HS.out Ha.out
          have hsn := poL_snoc n S ws pre x
          obtain ⟨xk, hxk⟩ := x
          have hwx := noP_at Ha.out hxk
          have Hnb := Hn.out
          have HSb := HS.out
          obtain ⟨st, hst⟩ : ∃ st, poL n S ws pre = st := ⟨_, rfl⟩
          rw [hst] at ho hq2 hp2 hbd hsn
          obtain ⟨up, lf, out⟩ := st
          simp only at ho hq2 hp2 hbd
          obtain ⟨wx, hwxe⟩ : ∃ wx, at0 ws xk = wx := ⟨_, rfl⟩
          rw [hwxe] at hwx
          have hpr : (pre.length : Int) ≤ 100 := by omega
          have hup : -200000000000000000 ≤ up - wx ∧ up - wx ≤ 1000000000000000 := by omega
          have cpr : Hid (∀ w, Calls Try.prog 68 #[I n, I (up - wx)] w fun e w' => e = .returned (wdV (n * (up - wx))) ∧ Below w.heap.size w w') := fun w => product_any _ _ w (by omega) (by omega)
          have cov : Hid (∀ w, Calls Try.prog 69 #[wdV (n * (up - wx)), I S] w fun e w' => e = .returned (.tuple #[I (ovF (n * (up - wx)) S).1, I (ovF (n * (up - wx)) S).2.1, .bool (ovF (n * (up - wx)) S).2.2]) ∧ Below w.heap.size w w') := fun w => over_any _ _ w (by omega)
          have hob := ov_bd (n * (up - wx)) S HSb.1
          obtain ⟨o3, ho3⟩ : ∃ o3, ovF (n * (up - wx)) S = o3 := ⟨_, rfl⟩
          have Hnew : Hid (poL n S ws (pre ++ [⟨xk, hxk⟩]) = ⟨up - wx, o3.1, out.set xk (lf - o3.1)⟩) := by show _ = _; rw [hsn]; simp only [poStep]; rw [hwxe, ho3]
          rw [ho3] at cov hob
          obtain ⟨bf, o32, o33⟩ := o3
          simp only at cov hob Hnew
          have c1 : IntKind.i64.wrap (up - wx) = up - wx := IntWalk.i64_in _ (by omega)
          have c2 : IntKind.i64.wrap (lf - bf) = lf - bf := IntWalk.i64_in _ (by omega)
          have hol : out.length = ws.length := hbd.2.2
          have hco : Hid ((iaL out)[xk]? = some (I (at0 out xk))) := iaL_at (by omega)
          have Ho := Lib.hid ho
          have Hq := Lib.hid hq2
          have Hp := Lib.hid hp2
          have Hs := Lib.hid hs2
          have Hn2 := Lib.hid hn2
          have Ht := Lib.hid ht2
          have Hbw2 := Lib.hid hbw2
          rw [hwxe]
          have HX2l : p < X2.heap.size ∧ q < X2.heap.size ∧ ko < X2.heap.size := ⟨(Array.getElem?_eq_some_iff.1 hp2).1, (Array.getElem?_eq_some_iff.1 hq2).1, (Array.getElem?_eq_some_iff.1 ho).1⟩
          have d1 : ko ≠ p ∧ ko ≠ q ∧ ko ≠ kx ∧ ko ≠ w.heap.size ∧ kx ≠ p ∧ kx ≠ q ∧ w.heap.size ≠ p ∧ w.heap.size ≠ q ∧ ko + 1 ≠ p ∧ ko + 1 ≠ q ∧ kx ≠ ko + 1 := by omega
          have D1 := Lib.hid d1
          clear hsn hwxe ho3 hbd hst d1
          have y1 := cell_of_row _ _ 0 _ _ _ hq2
          have y2 := frozen_of_row _ _ 0 _ _ hq2
          have y1 : X2.cell? ⟨q, 0, none⟩ = some (I up) := y1
          gi_upto_region 22 with (fail)
          have rq3 := rs hq2 0 (I (up - wx))
          have ro3 := ro (b := q) (i := 0) (v := I (up - wx)) ho (by omega)
          have rp3 := ro (b := q) (i := 0) (v := I (up - wx)) hp2 hpq
          have rs3 := ro (b := q) (i := 0) (v := I (up - wx)) hs2 (by omega)
          have rn3 := ro (b := q) (i := 0) (v := I (up - wx)) hn2 (by omega)
          have rt3 := ro (b := q) (i := 0) (v := I (up - wx)) ht2 (by omega)
          have hb3 : Below w.heap.size w (X2.setCell ⟨q, 0, none⟩ (I (up - wx))) := hbw2.setCell (p := ⟨q, 0, none⟩) (by show w.heap.size ≤ q; omega) _
          obtain ⟨X3, hX3⟩ : ∃ X3, X3 = X2.setCell ⟨q, 0, none⟩ (I (up - wx)) := ⟨_, rfl⟩
          have KX : Hid (KeepsFrom V.heap.size X2 X3 ∧ KpS V.heap.size (fun k => k = ko ∨ k = p ∨ k = q) X2 X3) := by
            rw [hX3]
            exact ⟨(KeepsOthers.setCell _ _ _).from _, fun k hk hkn => heap_setCell_other _ _ _ _ (by show k ≠ q; omega), by simp⟩
          rw [← hX3] at rq3 ro3 rp3 rs3 rn3 rt3 hb3
          have rq3 : X3.heap[q]? = some (.cells #[I (up - wx)] 3 (0, 0)) := rq3
          rw [← hX3]
          have hs3 : X3.heap.size = X2.heap.size := by rw [hX3]; simp
          have hs31 : X2.heap.size ≤ X3.heap.size := by omega
          have HB3 := Lib.hid hb3
          clear hX3 y1 y2 ho hq2 hp2 hs2 hn2 ht2 hbw2 hb3 hs3 c1
          have HR := Lib.hid (And.intro ro3 (And.intro rq3 (And.intro rp3 (And.intro rs3 (And.intro rn3 rt3)))))
          have e0 := fun u => (cell_of_row _ _ xk _ _ _ (ovr_row ro3 u)).trans hco.out
          have z0 := fun u => frozen_of_row _ _ xk _ _ (ovr_row ro3 u)
          clear ro3
          have yX300 := ovr_cell (W := X3) (b := q) (o := 0) (v := I (up - wx)) (by rw [cell_of_row _ _ _ _ _ _ rq3]; rfl)
          have zX300 : ∀ u, (ovr X3 u).frozen? ⟨q, 0, none⟩ = false := fun u => frozen_of_row _ _ _ _ _ (ovr_row rq3 u)
          have RrowX30 := Lib.hid (ovr_row rq3)
          clear rq3
          have yX310 := ovr_cell (W := X3) (b := p) (o := 0) (v := I lf) (by rw [cell_of_row _ _ _ _ _ _ rp3]; rfl)
          have zX310 : ∀ u, (ovr X3 u).frozen? ⟨p, 0, none⟩ = false := fun u => frozen_of_row _ _ _ _ _ (ovr_row rp3 u)
          have RrowX31 := Lib.hid (ovr_row rp3)
          clear rp3
          have yX320 := ovr_cell (W := X3) (b := kx) (o := 0) (v := I S) (by rw [cell_of_row _ _ _ _ _ _ rs3]; rfl)
          have zX320 : ∀ u, (ovr X3 u).frozen? ⟨kx, 0, none⟩ = false := fun u => frozen_of_row _ _ _ _ _ (ovr_row rs3 u)
          have RrowX32 := Lib.hid (ovr_row rs3)
          clear rs3
          have yX330 := ovr_cell (W := X3) (b := w.heap.size) (o := 0) (v := I n) (by rw [cell_of_row _ _ _ _ _ _ rn3]; rfl)
          have zX330 : ∀ u, (ovr X3 u).frozen? ⟨w.heap.size, 0, none⟩ = false := fun u => frozen_of_row _ _ _ _ _ (ovr_row rn3 u)
          have RrowX33 := Lib.hid (ovr_row rn3)
          clear rn3
          have yX340 := ovr_cell (W := X3) (b := ko + 1) (o := 0) (v := .slice (some ⟨ko, 0, none⟩) ws.length ws.length) (by rw [cell_of_row _ _ _ _ _ _ rt3]; rfl)
          have zX340 : ∀ u, (ovr X3 u).frozen? ⟨ko + 1, 0, none⟩ = false := fun u => frozen_of_row _ _ _ _ _ (ovr_row rt3 u)
          have RrowX34 := Lib.hid (ovr_row rt3)
          clear rt3
          refine wpIn_region_seq 12 hF  (fun j => if j = 2 then some (fun u _ => u = wdV (n * (up - wx))) else if j = 4 then some (fun u _ => u = .tuple #[I bf, I o32, .bool o33]) else none) (by kernel_rfl) (by kernel_rfl) (by kernel_rfl) (by kernel_rfl) (by kernel_rfl) ?_
          simp only [List.take_succ_cons, List.take_zero, List.drop_succ_cons, List.drop_zero]
          repeat (first | (refine wpG_one rfl rfl rfl ?_; intro K hK; go_big_quiet_op; go_big_quiet_on) | (refine wpG_skip rfl ?_; simp only [Act.put, List.setIfInBounds_toArray, List.set_cons_zero, List.set_cons_succ]))
          refine wpG_make (fun u _ => u = wdV (n * (up - wx))) rfl rfl (fun w' hw' _ => ?_) (fun u hu => ?_)
          · go_simp
            exact call_grow (cpr.out _)
          obtain ⟨_, _, rfl⟩ := hu
          simp only [Act.put, List.setIfInBounds_toArray, List.set_cons_zero, List.set_cons_succ]
          repeat (first | (refine wpG_one rfl rfl rfl ?_; intro K hK; go_big_quiet_op; go_big_quiet_on) | (refine wpG_skip rfl ?_; simp only [Act.put, List.setIfInBounds_toArray, List.set_cons_zero, List.set_cons_succ]))
          refine wpG_make (fun u _ => u = .tuple #[I bf, I o32, .bool o33]) rfl rfl (fun w' hw' _ => ?_) (fun u hu => ?_)
          · go_simp
            exact call_grow (cov.out _)
          obtain ⟨_, _, rfl⟩ := hu
          simp only [Act.put, List.setIfInBounds_toArray, List.set_cons_zero, List.set_cons_succ]
          repeat (first | (refine wpG_one rfl rfl rfl ?_; intro K hK; go_big_quiet_op; go_big_quiet_on) | (refine wpG_skip rfl ?_; simp only [Act.put, List.setIfInBounds_toArray, List.set_cons_zero, List.set_cons_succ]))
          refine wpG_nil (fun w5 hw5 hG => ?_)
          clear hG
          obtain ⟨v3, rfl⟩ : ∃ x, w5 = ovr X3 x := ⟨w5, ovr_of hw5.le⟩
          clear hw5
          refine wpTailIn_nil ?_
          have hxk2 : (xk : Int) < (ws.length : Int) := by omega
          have fin : Hid (KeepsFrom V.heap.size X2 (((ovr X3 v3).setCell ⟨ko, xk, none⟩ (I (lf - bf))).setCell ⟨p, 0, none⟩ (I bf)) ∧ KpS V.heap.size (fun k => k = ko ∨ k = p ∨ k = q) X2 (((ovr X3 v3).setCell ⟨ko, xk, none⟩ (I (lf - bf))).setCell ⟨p, 0, none⟩ (I bf)) ∧
              (((ovr X3 v3).setCell ⟨ko, xk, none⟩ (I (lf - bf))).setCell ⟨p, 0, none⟩ (I bf)).heap[ko]? = some (.cells (iaL (poL n S ws (pre ++ [⟨xk, hxk⟩])).out) 3 (0, 0)) ∧ (((ovr X3 v3).setCell ⟨ko, xk, none⟩ (I (lf - bf))).setCell ⟨p, 0, none⟩ (I bf)).heap[q]? = some (.cells #[I (poL n S ws (pre ++ [⟨xk, hxk⟩])).up] 3 (0, 0)) ∧ (((ovr X3 v3).setCell ⟨ko, xk, none⟩ (I (lf - bf))).setCell ⟨p, 0, none⟩ (I bf)).heap[p]? = some (.cells #[I (poL n S ws (pre ++ [⟨xk, hxk⟩])).lf] 3 (0, 0)) ∧
              (((ovr X3 v3).setCell ⟨ko, xk, none⟩ (I (lf - bf))).setCell ⟨p, 0, none⟩ (I bf)).heap[kx]? = some (.cells #[I S] 3 (0, 0)) ∧ (((ovr X3 v3).setCell ⟨ko, xk, none⟩ (I (lf - bf))).setCell ⟨p, 0, none⟩ (I bf)).heap[w.heap.size]? = some (.cells #[I n] 3 (0, 0)) ∧ (((ovr X3 v3).setCell ⟨ko, xk, none⟩ (I (lf - bf))).setCell ⟨p, 0, none⟩ (I bf)).heap[ko + 1]? = some (.cells #[.slice (some ⟨ko, 0, none⟩) ws.length ws.length] 30 (0, 0)) ∧ Below w.heap.size w (((ovr X3 v3).setCell ⟨ko, xk, none⟩ (I (lf - bf))).setCell ⟨p, 0, none⟩ (I bf)) ∧ V.heap.size ≤ (((ovr X3 v3).setCell ⟨ko, xk, none⟩ (I (lf - bf))).setCell ⟨p, 0, none⟩ (I bf)).heap.size) := by
            show _ ∧ _
            have hd := D1.out
            have hbv := ovr_below X3 v3
            have hsz := hbv.size
            obtain ⟨r1, r2, r3, r4, r5, r6⟩ := HR.out
            have g1 := rs (ovr_row r1 v3) xk (I (lf - bf))
            rw [iaL_set] at g1
            rw [Hnew.out]
            refine ⟨KX.out.1.trans ⟨by simpa using hsz, fun k o _ hk hc => ?_⟩, KpS.trans KX.out.2 ⟨fun k hk hkn => ?_, by simpa using hsz⟩, ro (b := p) g1 hd.1, ?_, ?_, ?_, ?_, ?_, ?_, by simp; omega⟩
            · have hkl := (Array.getElem?_eq_some_iff.1 hk).1
              have n1 : k ≠ ko := fun e => by subst e; rw [r1] at hk; cases hk; cases hc
              have n2 : k ≠ p := fun e => by subst e; rw [r3] at hk; cases hk; cases hc
              rw [heap_setCell_other _ _ _ _ n2, heap_setCell_other _ _ _ _ n1]
              exact (hbv.block k hkl).trans hk
            · rw [heap_setCell_other _ _ _ _ (show k ≠ p by omega), heap_setCell_other _ _ _ _ (show k ≠ ko by omega)]
              exact hbv.block k (by omega)
            · exact ro (b := p) (ro (b := ko) (ovr_row r2 v3) (by omega)) (by omega)
            · exact rs (ro (b := ko) (ovr_row r3 v3) (by omega)) 0 _
            · exact ro (b := p) (ro (b := ko) (ovr_row r4 v3) (by omega)) (by omega)
            · exact ro (b := p) (ro (b := ko) (ovr_row r5 v3) (by omega)) (by omega)
            · exact ro (b := p) (ro (b := ko) (ovr_row r6 v3) (by omega)) (by omega)
            · exact ((HB3.out.trans (hbv.mono HB3.out.size)).setCell (p := ⟨ko, xk, none⟩) (by show w.heap.size ≤ ko; omega) _).setCell (p := ⟨p, 0, none⟩) (by show w.heap.size ≤ p; omega) _
          gi_wp2
          exact fin.out
        case done =>
          rintro D ys X2 hD rfl ⟨ho, hq2, hp2, hs2, hn2, ht2, hbw2, hsX⟩ hK
          have hln := (poL_bd (n := n) (all := S) (pre := bwd ws.length ws.length) rfl Hn.out HS.out Ha.out).2.2
          obtain ⟨out, hout⟩ : ∃ out, (poL n S ws (bwd ws.length ws.length)).out = out := ⟨_, rfl⟩
          rw [hout] at ho hf hln
          have hct := cell_of_row _ _ 0 _ _ _ ht2
          have hct : X2.cell? ⟨ko + 1, 0, none⟩ = some (.slice (some ⟨ko, 0, none⟩) ws.length ws.length) := hct
          have hDk : D ≠ ko := by omega
          have hD2 := (Array.getElem?_eq_some_iff.1 hK).1
          have HO : Hid ((X2.putObj D (.deferred none)).heap[ko]? = some (.cells (iaL out) 3 (0, 0))) := (World.putObj_heap_other (by omega)).trans ho
          have HBW : Hid (Below w.heap.size w (X2.putObj D (.deferred none))) := hbw2.grown (grownBy_putObj' X2 D _) hbw2.size (fun k e => by cases e; omega)
          have HK := Lib.hid hK
          have Hln := Lib.hid hln
          clear ho hq2 hp2 hs2 hn2 ht2 hbw2 hK hout hln
          go_wp2_with fail
          refine ⟨by simp, .inl ⟨_, _, rfl, run_takeDeferred HK.out, ?_⟩⟩
          exact ⟨_, results_tmp2 rfl _ _ _, some ⟨ko, 0, none⟩, ws.length, ws.length, by rw [hf.out]; rfl, by rw [hf.out]; exact Hln.out.symm, Nat.le_refl _, by
            rw [hf.out]
            intro h0
            refine ⟨ko, 0, rfl, (Array.getElem?_eq_some_iff.1 HO.out).1, fun k hk j hj => ?_⟩
            obtain rfl : j = 0 := by omega
            rw [cell_of_row _ _ _ _ _ _ HO.out]
            rw [show 0 + k * 1 + 0 = k by omega]
            exact iaL_at (by rw [Hln.out]; exact hk), HBW.out⟩
        case stop =>
          rintro D c' pre X2 _ _ h _
          exact h.elim
end Go.Proofs.Ytmadlmmfbpmebaa
/- The contracts of sameInts, sameRanges, hill; what the examples' calls return. -/
namespace Go.Proofs.Ytmadlmmfbpmebaa
open Go.RowKit
set_option maxRecDepth 100000 in
set_option maxHeartbeats 2000000 in
theorem sameI_yes (A A' : Option Addr) (n c c' : Nat) (xs : List Int) (w : World) (B B' : Nat) (hn : n = xs.length) (hm : n ≤ 1000000) (hB : B ≤ w.heap.size) (hB' : B' ≤ w.heap.size) (hx : Rd w B 1 A n (rI xs)) (hy : Rd w B' 1 A' n (rI xs)) :
    Calls Try.prog 26 #[.slice A n c, .slice A' n c'] w fun e w' => e = .returned (.bool true) ∧ Below w.heap.size w w' := by
  subst hn
  have HX : Hid (∀ u, Rd (ovr w u) B 1 A xs.length (rI xs) ∧ Rd (ovr w u) B' 1 A' xs.length (rI xs)) := fun u => ⟨hx.below ((ovr_below w u).mono hB), hy.below ((ovr_below w u).mono hB')⟩
  obtain ⟨u0, hu0⟩ := ovr_self w
  have H0 := Lib.hid hu0
  clear hx hy hB hB' hu0
  have HUw : Hid (∀ u, Below w.heap.size w (ovr w u)) := fun u => ovr_below _ _
  go_enter Try.func26, Try.ntmps26
  go_wp2_with fail
  go_loopw [5] (fun i wr => ∃ k : Nat, k ≤ xs.length ∧ i = .int .i64 k ∧ ∃ u, wr = ovr w u) (fun i _ => xs.length - (intOf i).toNat)
  case atStart => exact ⟨0, by omega, rfl, u0, H0.out⟩
  case round =>
    obtain ⟨k, hk, rfl, u, rfl⟩ := hrel
    by_cases hlt : k < xs.length
    · have kb : decide (k < xs.length) = true := decide_eq_true hlt
      obtain ⟨X, hX⟩ : ∃ X, X = ovr w u := ⟨_, rfl⟩
      have hxx := HX.out u
      rw [← hX] at hxx
      rw [← hX]
      obtain ⟨b, o, rfl, _, e0⟩ := hxx.1.int hlt
      obtain ⟨b', o', rfl, _, e1⟩ := hxx.2.int hlt
      have e0 := ovr_cell e0
      have e1 := ovr_cell e1
      obtain ⟨v, hv⟩ : ∃ v, at0 xs k = v := ⟨_, rfl⟩
      rw [hv] at e0 e1
      have hXb : Hid (∀ u, ∃ q, ovr X u = ovr w q) := fun u2 => ⟨_, ovr_of (by rw [hX]; exact (ovr_below w u).trans ((ovr_below (ovr w u) u2).mono (ovr_below w u).size))⟩
      have t1 : (v != v) = false := by simp
      clear hxx hX hv
      go_upto_region 6 with (fail)
      refine wp_region_below_lit (by kernel_rfl) (by kernel_rfl) ?_
      repeat (go_big_quiet_step (fail))
      refine wpQuiet_nil ?_
      intro w1 hb1
      obtain ⟨u1, rfl⟩ : ∃ u, w1 = ovr X u := ⟨w1, ovr_of hb1⟩
      clear hb1 e0 e1
      obtain ⟨q, hq⟩ := hXb.out u1
      rw [hq]
      go_wp2_with fail
      go_roundw
      case rel => exact ⟨k + 1, by omega, by go_num, q, rfl⟩
      case measure => simp [intOf]; omega
    · obtain rfl : k = xs.length := by omega
      go_wp2_with fail
      go_ret
      exact ⟨rfl, ovr_below _ _⟩
set_option maxRecDepth 100000 in
set_option maxHeartbeats 2000000 in
theorem sameR_yes (A A' : Option Addr) (n c c' : Nat) (xs : List Rng) (w : World) (B B' : Nat) (hn : n = xs.length) (hm : n ≤ 1000000) (hB : B ≤ w.heap.size) (hB' : B' ≤ w.heap.size) (hx : Rd w B 2 A n (rR xs)) (hy : Rd w B' 2 A' n (rR xs)) :
    Calls Try.prog 30 #[.slice A n c, .slice A' n c'] w fun e w' => e = .returned (.bool true) ∧ Below w.heap.size w w' := by
  subst hn
  have HX : Hid (∀ u, Rd (ovr w u) B 2 A xs.length (rR xs) ∧ Rd (ovr w u) B' 2 A' xs.length (rR xs)) := fun u => ⟨hx.below ((ovr_below w u).mono hB), hy.below ((ovr_below w u).mono hB')⟩
  obtain ⟨u0, hu0⟩ := ovr_self w
  have H0 := Lib.hid hu0
  clear hx hy hB hB' hu0
  have HUw : Hid (∀ u, Below w.heap.size w (ovr w u)) := fun u => ovr_below _ _
  go_enter Try.func30, Try.ntmps30
  go_wp2_with fail
  go_loopw [5] (fun i wr => ∃ k : Nat, k ≤ xs.length ∧ i = .int .i64 k ∧ ∃ u, wr = ovr w u) (fun i _ => xs.length - (intOf i).toNat)
  case atStart => exact ⟨0, by omega, rfl, u0, H0.out⟩
  case round =>
    obtain ⟨k, hk, rfl, u, rfl⟩ := hrel
    by_cases hlt : k < xs.length
    · have kb : decide (k < xs.length) = true := decide_eq_true hlt
      obtain ⟨X, hX⟩ : ∃ X, X = ovr w u := ⟨_, rfl⟩
      have hxx := HX.out u
      rw [← hX] at hxx
      rw [← hX]
      obtain ⟨b, o, rfl, _, e0, e2⟩ := hxx.1.rng hlt
      obtain ⟨b', o', rfl, _, e1, e3⟩ := hxx.2.rng hlt
      have e0 := ovr_cell e0
      have e1 := ovr_cell e1
      have e2 := ovr_cell e2
      have e3 := ovr_cell e3
      obtain ⟨v, hv⟩ : ∃ v, at0 xs k = v := ⟨_, rfl⟩
      rw [hv] at e0 e1 e2 e3
      have hXb : Hid (∀ u, ∃ q, ovr X u = ovr w q) := fun u2 => ⟨_, ovr_of (by rw [hX]; exact (ovr_below w u).trans ((ovr_below (ovr w u) u2).mono (ovr_below w u).size))⟩
      clear hxx hX hv
      go_upto_region 6 with (fail)
      refine wp_region_below_lit (by kernel_rfl) (by kernel_rfl) ?_
      repeat (go_big_quiet_step (fail))
      refine wpQuiet_nil ?_
      intro w1 hb1
      obtain ⟨u1, rfl⟩ : ∃ u, w1 = ovr X u := ⟨w1, ovr_of hb1⟩
      clear hb1 e0 e1 e2 e3
      obtain ⟨q, hq⟩ := hXb.out u1
      rw [hq]
      go_wp2_with fail
      go_roundw
      case rel => exact ⟨k + 1, by omega, by go_num, q, rfl⟩
      case measure => simp [intOf]; omega
    · obtain rfl : k = xs.length := by omega
      go_wp2_with fail
      go_ret
      exact ⟨rfl, ovr_below _ _⟩
def hillT : List Rng := [⟨0, 0⟩, ⟨10, 5⟩, ⟨20, 0⟩]
theorem hill_any (w : World) : Calls Try.prog 72 #[] w fun e w' => e = .returned (.slice (some ⟨w.heap.size, 0, none⟩) 3 3) ∧ w' = w.alloc (.cells #[I 0, I 0, I 10, I 5, I 20, I 0] 50) := by
  go_enter Try.func72, Try.ntmps72
  go_wp2
  go_ret
  exact ⟨rfl, rfl⟩
theorem ex1 : mdF (-7) 5 3 3 = (-12, 1, 0) := by decide +kernel
theorem ex2 : siF ⟨314, 100⟩ ⟨315, 100⟩ = (⟨22, 7⟩, 0) := by rfl
theorem ex3 : poF 10 [2, 0, 1] = ([6, 0, 4], 0) := by decide +kernel
theorem ex4 : tmF ⟨2, 3⟩ ⟨-4, 5⟩ 2 = (⟨-6, 8⟩, 0) := by decide +kernel
theorem ex5 : baF [⟨0, 10⟩, ⟨3, 5⟩, ⟨2, 9⟩] ⟨18, 30⟩ = ([⟨4, 10⟩, ⟨3, 5⟩, ⟨3, 9⟩], ⟨18, 24⟩, 0) := by decide +kernel
theorem ex6 : weF hillT ⟨2, 4⟩ = ([⟨4, 8⟩, ⟨12, 16⟩], 0) := by decide +kernel
theorem ex7 : vaF hillT ⟨3, 12⟩ = (⟨1, 5⟩, 0) := by decide +kernel
end Go.Proofs.Ytmadlmmfbpmebaa
/- The contract of known: the examples are as the document says. -/
namespace Go.Proofs.Ytmadlmmfbpmebaa
open Go.RowKit
theorem all3 {P : Nat → Prop} (h0 : P 0) (h1 : P 1) (h2 : P 2) : ∀ k, k < 3 → P k
  | 0, _ => h0 | 1, _ => h1 | 2, _ => h2
theorem pick_por (W : World) (k : Nat) (hk : W.heap.size = k) : Calls Try.prog 24 #[I 10, .slice (some ⟨k, 0, none⟩) 3 3] (W.alloc (.cells #[I 2, I 0, I 1] 3)) fun e w' => ∃ A c, e = .returned (.tuple #[.slice A 3 c, I 0]) ∧ Rd w' w'.heap.size 1 A 3 (rI [6, 0, 4]) ∧ Below W.heap.size W w' := by
  subst hk
  have h := portions_any (some ⟨W.heap.size, 0, none⟩) 3 3 10 [2, 0, 1] (W.alloc (.cells #[I 2, I 0, I 1] 3)) _ rfl (by unfold maxLen; omega) (by simp) (Rd_new (heap_last _ _ _ rfl) _ _ _ _ (all3 (all1 rfl) (all1 rfl) (all1 rfl)))
  rw [ex3] at h
  refine h.mono ?_
  rintro e w' ⟨A, n, c, rfl, hn, _, hr, hb⟩
  have hn : n = 3 := hn
  subst hn
  exact ⟨A, c, rfl, hr, under2 hb⟩
theorem pick_bal (W : World) (k : Nat) (hk : W.heap.size = k) : Calls Try.prog 28 #[.slice (some ⟨k, 0, none⟩) 3 3, .agg #[I 18, I 30]] (W.alloc (.cells #[I 0, I 10, I 3, I 5, I 2, I 9] 38)) fun e w' => ∃ A c, e = .returned (.tuple #[.slice A 3 c, .agg #[I 18, I 24], I 0]) ∧ Rd w' w'.heap.size 2 A 3 (rR [⟨4, 10⟩, ⟨3, 5⟩, ⟨3, 9⟩]) ∧ Below W.heap.size W w' := by
  subst hk
  have h := balance_any (some ⟨W.heap.size, 0, none⟩) 3 3 [⟨0, 10⟩, ⟨3, 5⟩, ⟨2, 9⟩] ⟨18, 30⟩ (W.alloc (.cells #[I 0, I 10, I 3, I 5, I 2, I 9] 38)) _ rfl (by unfold maxLen; omega) (by simp) (Rd_new (heap_last _ _ _ rfl) _ _ _ _ (all3 (all2 rfl rfl) (all2 rfl rfl) (all2 rfl rfl)))
  rw [ex5] at h
  refine h.mono ?_
  rintro e w' ⟨A, n, c, rfl, hn, _, hr, hb⟩
  have hn : n = 3 := hn
  subst hn
  exact ⟨A, c, rfl, hr, under2 hb⟩
theorem hill_rd (W : World) : Rd (W.alloc (.cells #[I 0, I 0, I 10, I 5, I 20, I 0] 50)) (W.alloc (.cells #[I 0, I 0, I 10, I 5, I 20, I 0] 50)).heap.size 2 (some ⟨W.heap.size, 0, none⟩) 3 (rR hillT) :=
  Rd_new (heap_last _ _ _ rfl) _ _ _ _ (all3 (all2 rfl rfl) (all2 rfl rfl) (all2 rfl rfl))
theorem pick_whe (W : World) (k : Nat) (hk : W.heap.size = k) : Calls Try.prog 41 #[.slice (some ⟨k, 0, none⟩) 3 3, .agg #[I 2, I 4]] (W.alloc (.cells #[I 0, I 0, I 10, I 5, I 20, I 0] 50)) fun e w' => ∃ A c, e = .returned (.tuple #[.slice A 2 c, I 0]) ∧ Rd w' w'.heap.size 2 A 2 (rR [⟨4, 8⟩, ⟨12, 16⟩]) ∧ Below W.heap.size W w' := by
  subst hk
  have h := where2_any (some ⟨W.heap.size, 0, none⟩) 3 3 hillT ⟨2, 4⟩ _ _ rfl (by unfold maxLen; omega) (Nat.le_refl _) (hill_rd W)
  rw [ex6] at h
  refine h.mono ?_
  rintro e w' ⟨A, n, c, rfl, hn, _, hr, hb⟩
  have hn : n = 2 := hn
  subst hn
  exact ⟨A, c, rfl, hr, under2 hb⟩
theorem pick_val (W : World) (k : Nat) (hk : W.heap.size = k) : Calls Try.prog 33 #[.slice (some ⟨k, 0, none⟩) 3 3, .agg #[I 3, I 12]] (W.alloc (.cells #[I 0, I 0, I 10, I 5, I 20, I 0] 50)) fun e w' => e = .returned (.tuple #[.agg #[I 1, I 5], I 0]) ∧ Below W.heap.size W w' := by
  subst hk
  have h := value2_any (some ⟨W.heap.size, 0, none⟩) 3 3 hillT ⟨3, 12⟩ _ _ rfl (by unfold maxLen; omega) (Nat.le_refl _) (hill_rd W)
  rw [ex7] at h
  refine h.mono ?_
  rintro e w' ⟨rfl, hb⟩
  exact ⟨rfl, under2 hb⟩
theorem pick_sI (A : Option Addr) (c : Nat) (X W : World) (k : Nat) (hk : W.heap.size = k) (hX : Below X.heap.size X W) (hx : Rd X X.heap.size 1 A 3 (rI [6, 0, 4])) : Calls Try.prog 26 #[.slice A 3 c, .slice (some ⟨k, 0, none⟩) 3 3] (W.alloc (.cells #[I 6, I 0, I 4] 3)) fun e w' => e = .returned (.bool true) ∧ Below W.heap.size W w' := by
  subst hk
  have h := sameI_yes A (some ⟨W.heap.size, 0, none⟩) 3 c 3 [6, 0, 4] (W.alloc (.cells #[I 6, I 0, I 4] 3)) X.heap.size _ rfl (by omega) (by have := hX.size; simp; omega) (Nat.le_refl _) (hx.below (hX.alloc hX.size _)) ((Rd_new (heap_last _ _ _ rfl) _ _ _ _ (all3 (all1 rfl) (all1 rfl) (all1 rfl))))
  refine h.mono ?_
  rintro e w' ⟨rfl, hb⟩
  exact ⟨rfl, under2 hb⟩
theorem pick_sP (A : Option Addr) (c : Nat) (X W : World) (k : Nat) (hk : W.heap.size = k) (hX : Below X.heap.size X W) (hx : Rd X X.heap.size 2 A 3 (rR [⟨4, 10⟩, ⟨3, 5⟩, ⟨3, 9⟩])) : Calls Try.prog 30 #[.slice A 3 c, .slice (some ⟨k, 0, none⟩) 3 3] (W.alloc (.cells #[I 4, I 10, I 3, I 5, I 3, I 9] 38)) fun e w' => e = .returned (.bool true) ∧ Below W.heap.size W w' := by
  subst hk
  have h := sameR_yes A (some ⟨W.heap.size, 0, none⟩) 3 c 3 [⟨4, 10⟩, ⟨3, 5⟩, ⟨3, 9⟩] (W.alloc (.cells #[I 4, I 10, I 3, I 5, I 3, I 9] 38)) X.heap.size _ rfl (by omega) (by have := hX.size; simp; omega) (Nat.le_refl _) (hx.below (hX.alloc hX.size _)) ((Rd_new (heap_last _ _ _ rfl) _ _ _ _ (all3 (all2 rfl rfl) (all2 rfl rfl) (all2 rfl rfl))))
  refine h.mono ?_
  rintro e w' ⟨rfl, hb⟩
  exact ⟨rfl, under2 hb⟩
theorem pick_sW (A : Option Addr) (c : Nat) (X W : World) (k : Nat) (hk : W.heap.size = k) (hX : Below X.heap.size X W) (hx : Rd X X.heap.size 2 A 2 (rR [⟨4, 8⟩, ⟨12, 16⟩])) : Calls Try.prog 30 #[.slice A 2 c, .slice (some ⟨k, 0, none⟩) 2 2] (W.alloc (.cells #[I 4, I 8, I 12, I 16] 38)) fun e w' => e = .returned (.bool true) ∧ Below W.heap.size W w' := by
  subst hk
  have h := sameR_yes A (some ⟨W.heap.size, 0, none⟩) 2 c 2 [⟨4, 8⟩, ⟨12, 16⟩] (W.alloc (.cells #[I 4, I 8, I 12, I 16] 38)) X.heap.size _ rfl (by omega) (by have := hX.size; simp; omega) (Nat.le_refl _) (hx.below (hX.alloc hX.size _)) ((Rd_new (heap_last _ _ _ rfl) _ _ _ _ (all2 (all2 rfl rfl) (all2 rfl rfl))))
  refine h.mono ?_
  rintro e w' ⟨rfl, hb⟩
  exact ⟨rfl, under2 hb⟩
set_option maxRecDepth 100000 in
set_option maxHeartbeats 8000000 in
theorem known_any (w : World) : Calls Try.prog 22 #[] w fun e w' => e = .returned (.bool true) ∧ Below w.heap.size w w' := by
  have c1 : Hid (∀ w, Calls Try.prog 20 #[I (-7), I 5, I 3, .int .u8 3] w fun e w' => e = .returned (.tuple #[I (-12), I 1, I 0]) ∧ Below w.heap.size w w') := fun w => by
    have h := muldiv_any (-7) 5 3 3 w (by omega) (by omega) (by omega)
    rw [ex1] at h; exact h
  have c2 : Hid (∀ w, Calls Try.prog 46 #[.agg #[I 314, I 100], .agg #[I 315, I 100]] w fun e w' => e = .returned (.tuple #[.agg #[I 22, I 7], I 0]) ∧ Below w.heap.size w w') := fun w => by
    have h := simplest2_any ⟨314, 100⟩ ⟨315, 100⟩ w
    rw [ex2] at h; exact h
  have c4 : Hid (∀ w, Calls Try.prog 56 #[.agg #[I 2, I 3], .agg #[I (-4), I 5], I 2] w fun e w' => e = .returned (.tuple #[.agg #[I (-6), I 8], I 0]) ∧ Below w.heap.size w w') := fun w => by
    have h := times_any ⟨2, 3⟩ ⟨-4, 5⟩ 2 w
    rw [ex4] at h; exact h
  have HUw : Hid (∀ u, Below w.heap.size w (ovr w u)) := fun u => ovr_below _ _
  go_enter Try.func22, Try.ntmps22
  go_wp2_with fail
  refine (c1.out _).mono ?_
  rintro e w1 ⟨rfl, hb1⟩
  obtain ⟨u1, rfl⟩ : ∃ u, w1 = ovr w u := ⟨w1, ovr_of hb1⟩
  clear hb1
  go_wp2_with fail
  refine (c2.out _).mono ?_
  rintro e w1 ⟨rfl, hb1⟩
  obtain ⟨u2, rfl⟩ := ovr_next hb1
  clear hb1
  go_upto_region 3 with (fail)
  obtain ⟨X1, hX1⟩ : ∃ X1, X1 = ((ovr w u2).alloc (.cells #[I 22, I 7] 71)) := ⟨_, rfl⟩
  have reX1 : ∀ v, ∃ x, ovr X1 v = ovr w x := fun v => ovr_re1 hX1
  have rowX10 : X1.heap[(ovr w u2).heap.size]? = some (.cells #[I 22, I 7] 71 (0, 0)) := by rw [hX1]; exact heap_last _ _ _ rfl
  have yX100 := ovr_cell (W := X1) (b := (ovr w u2).heap.size) (o := 0) (v := I 22) (by rw [cell_of_row _ _ _ _ _ _ rowX10]; rfl)
  have yX101 := ovr_cell (W := X1) (b := (ovr w u2).heap.size) (o := 1) (v := I 7) (by rw [cell_of_row _ _ _ _ _ _ rowX10]; rfl)
  have RrowX10 := Lib.hid (ovr_row rowX10)
  clear rowX10
  have HBX1 : Hid (∀ u, Below w.heap.size w (ovr X1 u)) := fun u => by obtain ⟨x, hx⟩ := reX1 u; rw [hx]; exact ovr_below _ _
  have HUX1 : Hid (∀ u, Below w.heap.size w (ovr X1 u)) := fun u => by obtain ⟨x, hx⟩ := reX1 u; rw [hx]; exact HUw.out x
  clear reX1
  have HX1 := Lib.hid hX1
  clear hX1
  rw [← HX1.out]
  obtain ⟨v1, hv1⟩ := ovr_self X1
  rw [hv1]
  clear hv1
  go_wp2_with fail
  refine (pick_por (ovr X1 v1) _ rfl).mono ?_
  rintro e w1 ⟨A1, d1, rfl, hr1, hb1⟩
  obtain ⟨u3, rfl⟩ := ovr_next hb1
  clear hb1
  go_upto_region 4 with (fail)
  have hbX2 := ovr_below X1 u3
  obtain ⟨X2, hX2⟩ : ∃ X2, X2 = ovr X1 u3 := ⟨_, rfl⟩
  rw [← hX2] at hbX2
  rw [← hX2]
  have hX2' := Lib.hid hX2
  clear hX2
  have hbX2' := Lib.hid hbX2
  have reX2 : ∀ v, ∃ x, ovr X2 v = ovr X1 x := fun v => ovr_reB hbX2 v
  replace yX100 := tr_cell reX2 yX100
  replace yX101 := tr_cell reX2 yX101
  replace RrowX10 := Lib.hid (tr_row reX2 RrowX10.out)
  have HUX2 : Hid (∀ u, Below w.heap.size w (ovr X2 u)) := fun u => by obtain ⟨x, hx⟩ := reX2 u; rw [hx]; exact HUX1.out x
  clear reX2 hbX2
  rw [← hX2'.out] at hr1
  have HR1 := Lib.hid hr1
  clear hr1
  obtain ⟨v2, hv2⟩ := ovr_self X2
  rw [hv2]
  clear hv2
  go_wp2_with fail
  refine (pick_sI A1 d1 X2 (ovr X2 v2) _ rfl (ovr_below _ _) HR1.out).mono ?_
  rintro e w1 ⟨rfl, hb1⟩
  obtain ⟨u4, rfl⟩ := ovr_next hb1
  clear hb1
  go_wp2_with fail
  refine (c4.out _).mono ?_
  rintro e w1 ⟨rfl, hb1⟩
  obtain ⟨u5, rfl⟩ := ovr_next hb1
  clear hb1
  go_upto_region 7 with (fail)
  obtain ⟨X3, hX3⟩ : ∃ X3, X3 = ((ovr X2 u5).alloc (.cells #[I (-6), I 8] 38)) := ⟨_, rfl⟩
  have reX3 : ∀ v, ∃ x, ovr X3 v = ovr X2 x := fun v => ovr_re1 hX3
  replace yX100 := tr_cell reX3 yX100
  replace yX101 := tr_cell reX3 yX101
  replace RrowX10 := Lib.hid (tr_row reX3 RrowX10.out)
  have rowX30 : X3.heap[(ovr X2 u5).heap.size]? = some (.cells #[I (-6), I 8] 38 (0, 0)) := by rw [hX3]; exact heap_last _ _ _ rfl
  have yX300 := ovr_cell (W := X3) (b := (ovr X2 u5).heap.size) (o := 0) (v := I (-6)) (by rw [cell_of_row _ _ _ _ _ _ rowX30]; rfl)
  have yX301 := ovr_cell (W := X3) (b := (ovr X2 u5).heap.size) (o := 1) (v := I 8) (by rw [cell_of_row _ _ _ _ _ _ rowX30]; rfl)
  have RrowX30 := Lib.hid (ovr_row rowX30)
  clear rowX30
  have HBX3 : Hid (∀ u, Below X2.heap.size X2 (ovr X3 u)) := fun u => by obtain ⟨x, hx⟩ := reX3 u; rw [hx]; exact ovr_below _ _
  have HUX3 : Hid (∀ u, Below w.heap.size w (ovr X3 u)) := fun u => by obtain ⟨x, hx⟩ := reX3 u; rw [hx]; exact HUX2.out x
  clear reX3
  have HX3 := Lib.hid hX3
  clear hX3
  rw [← HX3.out]
  obtain ⟨v3, hv3⟩ := ovr_self X3
  rw [hv3]
  clear hv3
  go_wp2_with fail
  refine (pick_bal (ovr X3 v3) _ rfl).mono ?_
  rintro e w1 ⟨A2, d2, rfl, hr2, hb1⟩
  obtain ⟨u6, rfl⟩ := ovr_next hb1
  clear hb1
  go_upto_region 8 with (fail)
  obtain ⟨X4, hX4⟩ : ∃ X4, X4 = ((ovr X3 u6).alloc (.cells #[I 18, I 24] 38)) := ⟨_, rfl⟩
  have reX4 : ∀ v, ∃ x, ovr X4 v = ovr X3 x := fun v => ovr_re1 hX4
  replace yX100 := tr_cell reX4 yX100
  replace yX101 := tr_cell reX4 yX101
  replace RrowX10 := Lib.hid (tr_row reX4 RrowX10.out)
  replace yX300 := tr_cell reX4 yX300
  replace yX301 := tr_cell reX4 yX301
  replace RrowX30 := Lib.hid (tr_row reX4 RrowX30.out)
  have rowX40 : X4.heap[(ovr X3 u6).heap.size]? = some (.cells #[I 18, I 24] 38 (0, 0)) := by rw [hX4]; exact heap_last _ _ _ rfl
  have yX400 := ovr_cell (W := X4) (b := (ovr X3 u6).heap.size) (o := 0) (v := I 18) (by rw [cell_of_row _ _ _ _ _ _ rowX40]; rfl)
  have yX401 := ovr_cell (W := X4) (b := (ovr X3 u6).heap.size) (o := 1) (v := I 24) (by rw [cell_of_row _ _ _ _ _ _ rowX40]; rfl)
  have RrowX40 := Lib.hid (ovr_row rowX40)
  clear rowX40
  have HBX4 : Hid (∀ u, Below X3.heap.size X3 (ovr X4 u)) := fun u => by obtain ⟨x, hx⟩ := reX4 u; rw [hx]; exact ovr_below _ _
  have HUX4 : Hid (∀ u, Below w.heap.size w (ovr X4 u)) := fun u => by obtain ⟨x, hx⟩ := reX4 u; rw [hx]; exact HUX3.out x
  clear reX4
  have HX4 := Lib.hid hX4
  clear hX4
  have HR2 : Hid (Rd X4 X4.heap.size 2 A2 3 (rR [⟨4, 10⟩, ⟨3, 5⟩, ⟨3, 9⟩])) := by show Rd _ _ _ _ _ _; rw [HX4.out]; exact (hr2.alloc (Nat.le_refl _) _).more (by simp)
  clear hr2
  rw [← HX4.out]
  obtain ⟨v4, hv4⟩ := ovr_self X4
  rw [hv4]
  clear hv4
  go_wp2_with fail
  refine (hill_any _).mono ?_
  rintro e w1 ⟨rfl, rfl⟩
  go_wp2_with fail
  refine (pick_whe (ovr X4 v4) _ rfl).mono ?_
  rintro e w1 ⟨A3, d3, rfl, hr3, hb1⟩
  obtain ⟨u7, rfl⟩ := ovr_next hb1
  clear hb1
  go_upto_region 9 with (fail)
  have hbX5 := ovr_below X4 u7
  obtain ⟨X5, hX5⟩ : ∃ X5, X5 = ovr X4 u7 := ⟨_, rfl⟩
  rw [← hX5] at hbX5
  rw [← hX5]
  have hX5' := Lib.hid hX5
  clear hX5
  have hbX5' := Lib.hid hbX5
  have reX5 : ∀ v, ∃ x, ovr X5 v = ovr X4 x := fun v => ovr_reB hbX5 v
  replace yX100 := tr_cell reX5 yX100
  replace yX101 := tr_cell reX5 yX101
  replace RrowX10 := Lib.hid (tr_row reX5 RrowX10.out)
  replace yX300 := tr_cell reX5 yX300
  replace yX301 := tr_cell reX5 yX301
  replace RrowX30 := Lib.hid (tr_row reX5 RrowX30.out)
  replace yX400 := tr_cell reX5 yX400
  replace yX401 := tr_cell reX5 yX401
  replace RrowX40 := Lib.hid (tr_row reX5 RrowX40.out)
  have HUX5 : Hid (∀ u, Below w.heap.size w (ovr X5 u)) := fun u => by obtain ⟨x, hx⟩ := reX5 u; rw [hx]; exact HUX4.out x
  clear reX5 hbX5
  have HR2 : Hid (Rd X5 X5.heap.size 2 A2 3 (rR [⟨4, 10⟩, ⟨3, 5⟩, ⟨3, 9⟩])) := (HR2.out.below hbX5'.out).more hbX5'.out.size
  rw [← hX5'.out] at hr3
  have HR3 := Lib.hid hr3
  clear hr3
  obtain ⟨v5, hv5⟩ := ovr_self X5
  rw [hv5]
  clear hv5
  go_wp2_with fail
  refine (hill_any _).mono ?_
  rintro e w1 ⟨rfl, rfl⟩
  go_wp2_with fail
  refine (pick_val (ovr X5 v5) _ rfl).mono ?_
  rintro e w1 ⟨rfl, hb1⟩
  obtain ⟨u8, rfl⟩ := ovr_next hb1
  clear hb1
  go_upto_region 10 with (fail)
  obtain ⟨X6, hX6⟩ : ∃ X6, X6 = ((ovr X5 u8).alloc (.cells #[I 1, I 5] 38)) := ⟨_, rfl⟩
  have reX6 : ∀ v, ∃ x, ovr X6 v = ovr X5 x := fun v => ovr_re1 hX6
  replace yX100 := tr_cell reX6 yX100
  replace yX101 := tr_cell reX6 yX101
  replace RrowX10 := Lib.hid (tr_row reX6 RrowX10.out)
  replace yX300 := tr_cell reX6 yX300
  replace yX301 := tr_cell reX6 yX301
  replace RrowX30 := Lib.hid (tr_row reX6 RrowX30.out)
  replace yX400 := tr_cell reX6 yX400
  replace yX401 := tr_cell reX6 yX401
  replace RrowX40 := Lib.hid (tr_row reX6 RrowX40.out)
  have rowX60 : X6.heap[(ovr X5 u8).heap.size]? = some (.cells #[I 1, I 5] 38 (0, 0)) := by rw [hX6]; exact heap_last _ _ _ rfl
  have yX600 := ovr_cell (W := X6) (b := (ovr X5 u8).heap.size) (o := 0) (v := I 1) (by rw [cell_of_row _ _ _ _ _ _ rowX60]; rfl)
  have yX601 := ovr_cell (W := X6) (b := (ovr X5 u8).heap.size) (o := 1) (v := I 5) (by rw [cell_of_row _ _ _ _ _ _ rowX60]; rfl)
  have RrowX60 := Lib.hid (ovr_row rowX60)
  clear rowX60
  have HBX6 : Hid (∀ u, Below X5.heap.size X5 (ovr X6 u)) := fun u => by obtain ⟨x, hx⟩ := reX6 u; rw [hx]; exact ovr_below _ _
  have HUX6 : Hid (∀ u, Below w.heap.size w (ovr X6 u)) := fun u => by obtain ⟨x, hx⟩ := reX6 u; rw [hx]; exact HUX5.out x
  clear reX6
  have HX6 := Lib.hid hX6
  clear hX6
  rw [← HX6.out]
  obtain ⟨v6, hv6⟩ := ovr_self X6
  rw [hv6]
  clear hv6
  go_wp2_with fail
  have HB6 : Hid (∀ u, Below X5.heap.size X5 (ovr X6 u)) := HBX6.out
  refine (pick_sP A2 d2 X5 (ovr X6 v6) _ rfl (HB6.out _) HR2.out).mono ?_
  rintro e w1 ⟨rfl, hb1⟩
  obtain ⟨u9, rfl⟩ := ovr_next hb1
  clear hb1
  go_wp2_with fail
  refine (pick_sW A3 d3 X5 (ovr X6 u9) _ rfl (HB6.out _) HR3.out).mono ?_
  rintro e w1 ⟨rfl, hb1⟩
  obtain ⟨u10, rfl⟩ := ovr_next hb1
  clear hb1
  go_wp2_with fail
  go_ret
  exact ⟨rfl, HUX6.out _⟩
end Go.Proofs.Ytmadlmmfbpmebaa
