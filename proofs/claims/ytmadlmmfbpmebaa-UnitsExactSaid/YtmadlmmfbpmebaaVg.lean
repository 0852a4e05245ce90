/- The iterator over the pieces of a table, of package units. -/
import Derived.Test.YtmadlmmfbpmebaaVf
import Derived.Test.YtmadlmmfbpmebaaSqf
import Derived.RangeFuncNested
import Derived.RangeFuncBound
import Derived.RangeFuncCalls
import Derived.RangeFuncLeaves
import Derived.Shelf.Abstract
import Derived.Shelf.RegionOpen
import Derived.OwnWalkIn
import Derived.TacticsInMore
import Derived.LoopNIn
import Derived.LoopIn
namespace Go.Proofs.Ytmadlmmfbpmebaa
open Go.RowKit
attribute [local go_sem] Oper.semAt_some
/-- A piece, by its first knot. -/
abbrev Pc (t : List Rng) : Type := { k : Nat // k + 1 < t.length }
def pcs (t : List Rng) : Nat → List (Pc t)
  | 0 => [] | k + 1 => if h : k + 1 < t.length then pcs t k ++ [⟨k, h⟩] else pcs t k
theorem pcs_succ {t : List Rng} {k : Nat} (h : k + 1 < t.length) : pcs t (k + 1) = pcs t k ++ [⟨k, h⟩] := by rw [pcs, dif_pos h]
theorem pcs_len {t : List Rng} : ∀ {k : Nat}, k < t.length → (pcs t k).length = k
  | 0, _ => rfl
  | k + 1, h => by rw [pcs_succ h, List.length_append, pcs_len (by omega)]; rfl
abbrev pcV {t : List Rng} (x : Pc t) : Value := lnV (at0 t x.1) (at0 t (x.1 + 1))
/-- Of the first n blocks only q may change. -/
def KpX (n q : Nat) (W W' : World) : Prop := ∀ k, k < n → k ≠ q → W'.heap[k]? = W.heap[k]?
theorem KpX.refl {n q : Nat} (W : World) : KpX n q W W := fun _ _ _ => rfl
theorem KpX.trans {n q : Nat} {A B C : World} (h : KpX n q A B) (h' : KpX n q B C) : KpX n q A C := fun k hk hq => (h' k hk hq).trans (h k hk hq)
theorem KpX.of_below {n q m : Nat} {A B : World} (h : Below m A B) (hm : n ≤ m) : KpX n q A B := fun k hk _ => h.block k (by omega)
theorem KpX.cell {n q b o : Nat} {A B : World} (h : KpX n q A B) (hb : b < n) (hq : b ≠ q) : B.cell? ⟨b, o, none⟩ = A.cell? ⟨b, o, none⟩ := by
  unfold World.cell?
  rw [h b hb hq]
set_option maxRecDepth 100000 in
set_option maxHeartbeats 4000000 in
theorem lines1_in (t : List Rng) (A : Option Addr) (n c l Bn n₀ q B N : Nat) (hN : 1 ≤ N) (hn : n = t.length) (h2 : 2 ≤ n) (hm : n ≤ 1000) (hBn : Bn < n₀) (hB : B ≤ n₀) (hq : Bn ≠ q) (hBq : B ≤ q) (J Jx : List (Pc t) → World → Prop) (W : World) (hJ : AbidesFrom W.heap.size J) (hn₀ : n₀ ≤ W.heap.size)
    (hY : ∀ pre x W1, J pre W1 → pre.length < n - 1 → YieldAt Fence.wide (N - 1) Try.prog l #[pcV x] W1 fun e W' =>
      (e = .returned (.bool true) ∧ J (pre ++ [x]) W' ∧ KpX n₀ q W1 W' ∧ W1.heap.size ≤ W'.heap.size) ∨ (e = .returned (.bool false) ∧ Jx (pre ++ [x]) W'))
    (hc : W.cell? ⟨Bn, 0, none⟩ = some (.slice A n c)) (hx : Rd W B 2 A n (rR t)) (h0 : J [] W) :
    CallsIn Fence.wide N Try.prog 116 #[.func (.yield l) #[] #[], .pointer (some ⟨Bn, 0, none⟩)] W fun e W' => (∃ v, e = .returned v) ∧
      ((∃ ys, ys = pcs t (t.length - 1) ∧ J ys W') ∨ (∃ pre, True ∧ Jx pre W')) := by
  subst hn
  have HX : Hid (∀ W', KpX n₀ q W W' → Rd W' B 2 A t.length (rR t) ∧ W'.cell? ⟨Bn, 0, none⟩ = some (.slice A t.length c)) := fun W' h => ⟨hx.keep fun b o hb => h.cell (by omega) (by omega), (h.cell hBn hq).trans hc⟩
  have HJ := Lib.hid hJ
  have HY := Lib.hid hY
  have H0 := Lib.hid h0
  clear hx hJ hY h0
  refine callsIn_of_wp Try.func116 rfl trivial ?_ rfl
  simp only [Try.ntmps116, List.size_toArray, List.length_cons, List.length_nil, Nat.reduceAdd, Nat.reduceSub, Array.replicate_succ, Array.replicate_zero, List.push_toArray, List.append_toArray, List.nil_append, List.cons_append]
  gi_wp2
  clear hc
  gi_loopw [7] (fun i wr => ∃ k : Nat, k ≤ t.length - 1 ∧ i = .int .i64 k ∧ J (pcs t k) wr ∧ KpX n₀ q W wr ∧ W.heap.size ≤ wr.heap.size)
    (fun i _ => t.length - (intOf i).toNat)
  case atStart => exact ⟨0, Nat.zero_le _, rfl, H0.out, KpX.refl _, Nat.le_refl _⟩
  case round =>
    obtain ⟨k, hk, rfl, hJs, hnx, hsz⟩ := hrel
    by_cases hlt : k + 1 < t.length
    · rename World => X
      have hF := Wd.wide
      obtain ⟨hrd, hbc⟩ := HX.out X hnx
      obtain ⟨b, o, rfl, hcc⟩ := rng_all hrd (show 0 < t.length by omega)
      have y0 := ovr_cell hbc
      have e0 := ovr_cell (hcc k (by omega)).1
      have e1 := ovr_cell (hcc k (by omega)).2
      have e2 := ovr_cell (hcc (k + 1) (by omega)).1
      have e3 := ovr_cell (hcc (k + 1) (by omega)).2
      have Hnx := Lib.hid hnx
      have HJs := Lib.hid hJs
      have kb : decide ((k : Int) < (t.length : Int) - 1) = true := decide_eq_true (by omega)
      have n1 : IntKind.i64.wrap ((k : Int) + 1) = (k : Int) + 1 := IntWalk.i64_in _ (by omega)
      have n2 : (0 : Int) ≤ (k : Int) + 1 := by omega
      have n3 : ((k : Int) + 1).toNat = k + 1 := by omega
      have n4 : (k : Int) + 1 < (t.length : Int) := by omega
      have n5 : k < t.length := by omega
      clear hcc hrd hbc hnx hJs
      gi_wp2
      refine wpIn_region_seq 11 hF  (fun _ => none) (by kernel_rfl) (by kernel_rfl) (by kernel_rfl) (by kernel_rfl) (by kernel_rfl) ?_
      simp only [List.take_succ_cons, List.take_zero, List.drop_succ_cons, List.drop_zero]
      repeat (refine wpG_one rfl rfl rfl ?_; intro K hK; go_big_quiet_op; go_big_quiet_on)
      refine wpG_nil (fun w5 hw5 hG => ?_)
      clear hG
      have hb5 : Below X.heap.size X w5 := hw5.le
      have hJ5 : J (pcs t k) w5 := HJ.out _ X w5 none HJs.out ⟨hb5.os, hb5.tape, hb5.output, hb5.size, fun j hj _ => hb5.block j hj⟩ (fun r e => by cases e)
      obtain ⟨fn, tmps, assign, body, hy, hR⟩ := HY.out (pcs t k) ⟨k, hlt⟩ w5 hJ5 (by rw [pcs_len (by omega)]; omega)
      have Hb5 : Hid (KpX n₀ q W w5 ∧ W.heap.size ≤ w5.heap.size) := ⟨Hnx.out.trans (KpX.of_below hb5 (by omega)), Nat.le_trans hsz hb5.size⟩
      clear hb5 hJ5 hw5 n1 n2 n3 n4 e0 e1 e2 e3 y0
      dsimp only [pcV, lnV] at hy
      show Oper.wpIn _ _ _ _ _ _ _ _
      refine ⟨fun _ _ => trivial, ?_⟩
      go_simp
      refine hR.mono ?_
      rintro e W3 (⟨rfl, hJ3, hk3⟩ | ⟨rfl, hJx3⟩)
      · refine wpTailIn_cons hF (by intro c h; cases h) ?_
        unfold Oper.wp
        go_simp
        refine wpTailIn_nil ?_
        gi_wp2
        go_roundw
        case rel => exact ⟨k + 1, by omega, by go_num, by rw [pcs_succ hlt]; exact hJ3, Hb5.out.1.trans hk3.1, Nat.le_trans Hb5.out.2 hk3.2⟩
        case measure => simp [intOf]; omega
      · refine wpTailIn_cons hF (by intro c h; cases h) ?_
        unfold Oper.wp
        go_simp
        refine wpTailIn_nil ?_
        gi_wp2
        (try simp only [Exit.inBlock, Exit.then])
        refine bodyPost_ret (results_none rfl _ _ _) rfl ?_
        exact ⟨⟨_, rfl⟩, .inr ⟨_, trivial, hJx3⟩⟩
    · obtain rfl : k = t.length - 1 := by omega
      have kb : decide (((t.length - 1 : Nat) : Int) < (t.length : Int) - 1) = false := decide_eq_false (by omega)
      have HJs := Lib.hid hJs
      clear hJs hnx
      gi_wp2
      go_end0
      exact ⟨⟨_, rfl⟩, .inl ⟨_, rfl, HJs.out⟩⟩
/-- What a round keeps: the table, and where it lies; and nothing goes away. -/
def KpL (n q : Nat) (W W' : World) : Prop := KpX n q W W' ∧ W.heap.size ≤ W'.heap.size
theorem lines_stops (t : List Rng) (A : Option Addr) (n c Bn n₀ q B N : Nat) (w : World) (hN : 1 ≤ N) (hn : n = t.length) (h2 : 2 ≤ n) (hm : n ≤ 1000) (hBn : Bn < n₀) (hB : B ≤ n₀) (hq : Bn ≠ q) (hBq : B ≤ q) (hn₀ : n₀ ≤ w.heap.size)
    (hc : w.cell? ⟨Bn, 0, none⟩ = some (.slice A n c)) (hx : Rd w B 2 A n (rR t)) :
    SeqStopsK Fence.wide N Try.prog 116 #[.pointer (some ⟨Bn, 0, none⟩)] (fun x : Pc t => #[pcV x]) (KpL n₀ q) (fun ys => ys = pcs t (t.length - 1)) (fun _ => True) (n - 1) w := fun l J Jx W hW hJ hJx hY h0 =>
  lines1_in t A n c l Bn n₀ q B N hN hn h2 hm hBn hB hq hBq J Jx W hJ (Nat.le_trans hn₀ hW.size) hY ((hW.cell (p := ⟨Bn, 0, none⟩) (by show Bn < _; omega)).trans hc) (hx.below (hW.mono (Nat.le_trans hB hn₀))) h0
theorem lines_any (A : Option Addr) (n c : Nat) (w : World) : Calls Try.prog 88 #[.slice A n c] w fun e w' => e = .returned (.func (.func 116) #[] #[.pointer (some ⟨w.heap.size, 0, none⟩)]) ∧ w' = w.alloc (.cells #[.slice A n c] 44) := by
  go_enter Try.func88, Try.ntmps88
  go_wp2
  go_ret
  exact ⟨rfl, rfl⟩
end Go.Proofs.Ytmadlmmfbpmebaa
