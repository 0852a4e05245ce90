/- The contracts of the helpers of Portions of package units, and the iterator backward over integers. -/
import Derived.Test.YtmadlmmfbpmebaaVi
namespace Go.Proofs.Ytmadlmmfbpmebaa
open Go.RowKit
attribute [local go_sem] Oper.semAt_some
/-- A weight. -/
def wiP (n : Int) : Bool := decide (0 ≤ n) && decide (n ≤ 1000000000000000)
theorem wiP_iff {n : Int} : wiP n = true ↔ 0 ≤ n ∧ n ≤ 1000000000000000 := by simp [wiP]
def noP (n : Int) : Bool := !wiP n
theorem withinP (n : Int) (w : World) : Calls Try.prog 73 #[I n] w fun e w' => e = .returned (.bool (wiP n)) ∧ w = w' := by
  rcases h1 : decide (0 ≤ n) with _ | _ <;> rcases h2 : decide (n ≤ 1000000000000000) with _ | _
  all_goals
    have hf : Hid (wiP n = (decide (0 ≤ n) && decide (n ≤ 1000000000000000))) := rfl
    rw [h1, h2] at hf
    go_enter Try.func73, Try.ntmps73
    go_wp2
    go_ret
    exact ⟨by rw [hf.out]; rfl, rfl⟩
abbrev fnP : Value := .func (Fn.func 73) #[] #[]
theorem notP (n : Int) (k : Nat) (w : World) (hc : w.cell? ⟨k, 0, none⟩ = some fnP) : Calls Try.prog 75 #[I n, .pointer (some ⟨k, 0, none⟩)] w fun e w' => e = .returned (.bool (noP n)) ∧ w = w' := by
  have cw := Lib.hid fun w => withinP n w
  go_enter Try.func75, Try.ntmps75
  go_wp2_with fail
  refine (cw.out _).mono ?_
  rintro e w' ⟨rfl, rfl⟩
  go_wp2_with fail
  go_ret
  exact ⟨rfl, rfl⟩
abbrev fnQ (k : Nat) : Value := .func (Fn.func 75) #[] #[.pointer (some ⟨k, 0, none⟩)]
set_option maxHeartbeats 400000 in
theorem ix_P (A : Option Addr) (c k6 : Nat) (xs : List Int) (w : World) (B : Nat) (hm : xs.length ≤ maxLen) (hk : w.cell? ⟨k6, 0, none⟩ = some fnP) (hx : Rd w B 1 A xs.length (rI xs)) :
    Calls Try.prog 109 #[.slice A xs.length c, fnQ k6] w fun e w' => e = .returned (.int .i64 (ixOf noP xs)) ∧ w = w' := by
  unfold maxLen at hm
  have Hx := Lib.hid hx
  have cn := Lib.hid fun n => notP n k6 w hk
  clear hx hk
  go_enter Try.func109, Try.ntmps109
  go_wp2
  go_loop [8] (fun i => ∃ k : Nat, k ≤ xs.length ∧ i = .int .i64 k ∧ ∀ j, j < k → noP (at0 xs j) = false) (fun i => xs.length - (intOf i).toNat)
  case atStart => exact ⟨0, by omega, rfl, by omega⟩
  case round =>
    obtain ⟨k, hk, rfl, hb⟩ := hrel
    have Hb := Lib.hid hb
    clear hb
    by_cases hlt : k < xs.length
    · obtain ⟨b, o, rfl, _, hxk⟩ := Hx.out.int hlt
      have ck := cn.out (at0 xs k)
      rcases hp : noP (at0 xs k) with _ | _
      · rw [hp] at ck
        have Ck := Lib.hid ck
        clear ck
        go_wp2_with fail
        refine Ck.out.mono ?_
        rintro e w' ⟨rfl, rfl⟩
        go_wp2_with fail
        go_round
        case rel => exact ⟨k + 1, by omega, by go_num, succ_case Hb.out hp⟩
        case measure => simp [intOf]; omega
      · have hfin := Lib.hid (ixOf_at hlt hp Hb.out)
        rw [hp] at ck
        have Ck := Lib.hid ck
        clear ck
        go_wp2_with fail
        refine Ck.out.mono ?_
        rintro e w' ⟨rfl, rfl⟩
        go_wp2_with fail
        go_ret
        exact ⟨ret_int hfin.out.symm, rfl⟩
    · have hfin : Hid (ixOf noP xs = -1) := ixOf_none0 fun j hj => Hb.out j (by omega)
      go_wp2
      go_ret
      exact ⟨ret_int hfin.out.symm, rfl⟩
theorem has_P (A : Option Addr) (c k6 : Nat) (xs : List Int) (w : World) (B : Nat) (hm : xs.length ≤ maxLen) (hk : w.cell? ⟨k6, 0, none⟩ = some fnP) (hx : Rd w B 1 A xs.length (rI xs)) :
    Calls Try.prog 74 #[.slice A xs.length c, fnQ k6] w fun e w' => e = .returned (.bool (xs.any noP)) ∧ w = w' := by
  have hfin := ixOf_any (p := noP) (xs := xs)
  have cx := Lib.hid (ix_P A c k6 xs w B hm hk hx)
  clear hk hx hm
  go_enter Try.func74, Try.ntmps74
  go_wp2_with fail
  refine cx.out.mono ?_
  rintro e w' ⟨rfl, rfl⟩
  go_wp2_with fail
  go_ret
  exact ⟨rfl, rfl⟩
/-- A place in a list. -/
abbrev Pl (n : Nat) : Type := { k : Nat // k < n }
/-- The first k places from the end on. -/
def bwd (n : Nat) : Nat → List (Pl n)
  | 0 => [] | k + 1 => if h : k < n then bwd n k ++ [⟨n - 1 - k, by omega⟩] else bwd n k
theorem bwd_succ {n k : Nat} (h : k < n) : bwd n (k + 1) = bwd n k ++ [⟨n - 1 - k, by omega⟩] := by rw [bwd, dif_pos h]
theorem bwd_len {n : Nat} : ∀ {k : Nat}, k ≤ n → (bwd n k).length = k
  | 0, _ => rfl
  | k + 1, h => by rw [bwd_succ (by omega), List.length_append, bwd_len (by omega)]; rfl
theorem backward_any (A : Option Addr) (n c : Nat) (w : World) : Calls Try.prog 76 #[.slice A n c] w fun e w' => e = .returned (.func (.func 110) #[] #[.pointer (some ⟨w.heap.size, 0, none⟩)]) ∧ w' = w.alloc (.cells #[.slice A n c] 30) := by
  go_enter Try.func76, Try.ntmps76
  go_wp2
  go_ret
  exact ⟨rfl, rfl⟩
/-- The first n blocks but some stay. -/
def KpS (n : Nat) (X : Nat → Prop) (W W' : World) : Prop := (∀ k, k < n → ¬ X k → W'.heap[k]? = W.heap[k]?) ∧ W.heap.size ≤ W'.heap.size
theorem KpS.refl {n : Nat} {X : Nat → Prop} (W : World) : KpS n X W W := ⟨fun _ _ _ => rfl, Nat.le_refl _⟩
theorem KpS.trans {n : Nat} {X : Nat → Prop} {A B C : World} (h : KpS n X A B) (h' : KpS n X B C) : KpS n X A C := ⟨fun k hk hq => (h'.1 k hk hq).trans (h.1 k hk hq), Nat.le_trans h.2 h'.2⟩
theorem KpS.of_below {n m : Nat} {X : Nat → Prop} {A B : World} (h : Below m A B) (hm : n ≤ m) : KpS n X A B := ⟨fun k hk _ => h.block k (by omega), h.size⟩
theorem KpS.cell {n b o : Nat} {X : Nat → Prop} {A B : World} (h : KpS n X A B) (hb : b < n) (hq : ¬ X b) : B.cell? ⟨b, o, none⟩ = A.cell? ⟨b, o, none⟩ := by
  unfold World.cell?
  rw [h.1 b hb hq]
set_option maxRecDepth 100000 in
set_option maxHeartbeats 4000000 in
theorem backward_in (xs : List Int) (A : Option Addr) (n c l Bn n₀ B N : Nat) (X : Nat → Prop) (hN : 1 ≤ N) (hn : n = xs.length) (hm : n ≤ 1000) (hBn : Bn < n₀) (hB : B ≤ n₀) (hq : ¬ X Bn) (hBq : ∀ k, k < B → ¬ X k) (J Jx : List (Pl n) → World → Prop) (W : World)
    (hY : ∀ pre x W1, J pre W1 → pre.length < n → YieldAt Fence.wide (N - 1) Try.prog l #[.int .i64 (x.1 : Int), I (at0 xs x.1)] W1 fun e W' =>
      (e = .returned (.bool true) ∧ J (pre ++ [x]) W' ∧ KpS n₀ X W1 W') ∨ (e = .returned (.bool false) ∧ Jx (pre ++ [x]) W'))
    (hc : W.cell? ⟨Bn, 0, none⟩ = some (.slice A n c)) (hx : Rd W B 1 A n (rI xs)) (h0 : J [] W) :
    CallsIn Fence.wide N Try.prog 110 #[.func (.yield l) #[] #[], .pointer (some ⟨Bn, 0, none⟩)] W fun e W' => (∃ v, e = .returned v) ∧
      ((∃ ys, ys = bwd n n ∧ J ys W') ∨ (∃ pre, True ∧ Jx pre W')) := by
  subst hn
  have HX : Hid (∀ W', KpS n₀ X W W' → Rd W' B 1 A xs.length (rI xs) ∧ W'.cell? ⟨Bn, 0, none⟩ = some (.slice A xs.length c)) := fun W' h => ⟨hx.keep fun b o hb => h.cell (by omega) (hBq b hb), (h.cell hBn hq).trans hc⟩
  have HY := Lib.hid hY
  have H0 := Lib.hid h0
  clear hx hY h0
  refine callsIn_of_wp Try.func110 rfl trivial ?_ rfl
  simp only [Try.ntmps110, List.size_toArray, List.length_cons, List.length_nil, Nat.reduceAdd, Nat.reduceSub, Array.replicate_succ, Array.replicate_zero, List.push_toArray, List.append_toArray, List.nil_append, List.cons_append]
  gi_wp2
  clear hc
  gi_loopw [3] (fun i wr => ∃ k : Nat, k ≤ xs.length ∧ i = .int .i64 ((xs.length : Int) - 1 - (k : Int)) ∧ J (bwd xs.length k) wr ∧ KpS n₀ X W wr)
    (fun i _ => (intOf i + 1).toNat)
  case atStart => exact ⟨0, Nat.zero_le _, by simp, H0.out, KpS.refl _⟩
  case round =>
    obtain ⟨k, hk, rfl, hJs, hnx⟩ := hrel
    by_cases hlt : k < xs.length
    · rename World => Y
      obtain ⟨hrd, hbc⟩ := HX.out Y hnx
      obtain ⟨m, hm1⟩ : ∃ m : Nat, (xs.length : Int) - 1 - (k : Int) = (m : Int) := ⟨xs.length - 1 - k, by omega⟩
      obtain ⟨b, o, rfl, _, hxk⟩ := hrd.int (show m < xs.length by omega)
      have hmk : xs.length - 1 - k = m := by omega
      have hmb : m < xs.length := by omega
      obtain ⟨fn, tmps, assign, body, hy, hR⟩ := HY.out (bwd xs.length k) ⟨m, hmb⟩ Y hJs (by rw [bwd_len (by omega)]; exact hlt)
      dsimp only at hy
      have Hm1 := Lib.hid hm1
      have Hmk := Lib.hid hmk
      rw [hm1]
      clear hm1 hmk hrd
      gi_wp2
      refine hR.mono ?_
      rintro e W3 (⟨rfl, hJ3, hk3⟩ | ⟨rfl, hJx3⟩)
      · have HJ3 : Hid (J (bwd xs.length (k + 1)) W3) := by show J _ _; rw [bwd_succ hlt]; have e : (⟨xs.length - 1 - k, by omega⟩ : Pl xs.length) = ⟨m, hmb⟩ := Subtype.ext Hmk.out; rw [e]; exact hJ3
        have HK3 := Lib.hid (hnx.trans hk3)
        clear hJ3 hk3 hJs hnx
        gi_wp2
        go_roundw
        case rel => exact ⟨k + 1, by omega, by congr 1; have := Hm1.out; omega, HJ3.out, HK3.out⟩
        case measure => simp [intOf]
      · gi_wp2
        (try simp only [Exit.inBlock, Exit.then])
        refine bodyPost_ret (results_none rfl _ _ _) rfl ?_
        exact ⟨⟨_, rfl⟩, .inr ⟨_, trivial, hJx3⟩⟩
    · obtain rfl : k = xs.length := by omega
      have e : (xs.length : Int) - 1 - (xs.length : Int) = -1 := by omega
      rw [e]
      have HJs := Lib.hid hJs
      clear hJs hnx e
      gi_wp2
      go_end0
      exact ⟨⟨_, rfl⟩, .inl ⟨_, rfl, HJs.out⟩⟩
theorem backward_stops (xs : List Int) (A : Option Addr) (n c Bn n₀ B N : Nat) (X : Nat → Prop) (w : World) (hN : 1 ≤ N) (hn : n = xs.length) (hm : n ≤ 1000) (hBn : Bn < n₀) (hB : B ≤ n₀) (hq : ¬ X Bn) (hBq : ∀ k, k < B → ¬ X k) (hn₀ : n₀ ≤ w.heap.size)
    (hc : w.cell? ⟨Bn, 0, none⟩ = some (.slice A n c)) (hx : Rd w B 1 A n (rI xs)) :
    SeqStopsK Fence.wide N Try.prog 110 #[.pointer (some ⟨Bn, 0, none⟩)] (fun x : Pl n => #[.int .i64 (x.1 : Int), I (at0 xs x.1)]) (KpS n₀ X) (fun ys => ys = bwd n n) (fun _ => True) n w := fun l J Jx W hW _ _ hY h0 =>
  backward_in xs A n c l Bn n₀ B N X hN hn hm hBn hB hq hBq J Jx W hY ((hW.cell (p := ⟨Bn, 0, none⟩) (by show Bn < _; omega)).trans hc) (hx.below (hW.mono (Nat.le_trans hB hn₀))) h0
end Go.Proofs.Ytmadlmmfbpmebaa
