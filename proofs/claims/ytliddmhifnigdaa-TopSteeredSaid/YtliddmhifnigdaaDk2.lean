/- The sort of any list of one's own, also of none. -/
import Derived.Test.YtliddmhifnigdaaDk1
namespace Go.Proofs.Ytliddmhifnigdaa.Un
open Go.RowKit
set_option maxRecDepth 100000 in
set_option maxHeartbeats 1000000 in
theorem insert_nil (F : Value) (w : World) : Calls Try.prog 71 #[.slice none 0 0, I 0, I 0, F] w fun e w' => e = .returned (.tuple #[]) ∧ Go.RowKit.Below w.heap.size w w' := by
  go_enter Try.func71, Try.ntmps71
  go_wp2_with fail
  go_loopw [8] (fun i wr => i = .int .i64 1 ∧ wr = w) (fun _ _ => 0)
  case atStart => exact ⟨rfl, rfl⟩
  case round =>
    obtain ⟨rfl, rfl⟩ := hrel
    go_wp2_with fail
    go_end0
    exact ⟨rfl, Below.refl _ _⟩
set_option maxRecDepth 100000 in
set_option maxHeartbeats 1000000 in
theorem pdq_nil (F : Value) (w : World) : Calls Try.prog 50 #[.slice none 0 0, I 0, I 0, I 0, F] w fun e w' => e = .returned (.tuple #[]) ∧ Go.RowKit.Below w.heap.size w w' := by
  have ci := Lib.hid fun W => insert_nil F W
  go_enter Try.func50, Try.ntmps50
  go_wp2_with fail
  go_loopw [1, 2] (fun a b wr => a = I 0 ∧ b = I 0 ∧ wr = w) (fun _ _ _ => 0)
  case atStart => exact ⟨rfl, rfl, rfl⟩
  case round =>
    obtain ⟨rfl, rfl, rfl⟩ := hrel
    go_wp2_with fail
    refine (ci.out _).mono ?_
    rintro e w1 ⟨rfl, hb⟩
    have HB := Lib.hid hb
    clear hb
    go_wp2_with fail
    refine bodyPost_ret (results_none rfl _ _ _) rfl ?_
    exact ⟨rfl, HB.out⟩
set_option maxRecDepth 100000 in
set_option maxHeartbeats 1000000 in
theorem len_nil (w : World) : Calls Try.prog 51 #[.int .u64 0] w fun e w' => e = .returned (I 0) ∧ Go.RowKit.Below w.heap.size w w' := by
  have ci := len64_any 0 w (by decide)
  have h0 : Lib.bitLen 0 = 0 := by decide
  rw [h0] at ci
  have CI := Lib.hid ci
  clear ci h0
  go_enter Try.func51, Try.ntmps51
  go_wp2_with fail
  refine CI.out.mono ?_
  rintro e w1 ⟨rfl, rfl⟩
  go_wp2_with fail
  go_ret
  exact ⟨rfl, Below.refl _ _⟩
set_option maxRecDepth 100000 in
set_option maxHeartbeats 1000000 in
theorem sort_nil (F : Value) (w : World) : Calls Try.prog 24 #[.slice none 0 0, F] w fun e w' => e = .returned (.tuple #[]) ∧ Go.RowKit.Below w.heap.size w w' := by
  have c1 := Lib.hid fun W => len_nil W
  have c2 := Lib.hid fun W => pdq_nil F W
  go_enter Try.func24, Try.ntmps24
  go_wp2_with fail
  refine (c1.out _).mono ?_
  rintro e w1 ⟨rfl, hb⟩
  have HB := Lib.hid hb
  clear hb
  go_wp2_with fail
  refine (c2.out _).mono ?_
  rintro e w2 ⟨rfl, hb⟩
  have HB2 := Lib.hid (HB.out.trans (hb.mono HB.out.size))
  clear hb
  go_wp2_with fail
  go_end0
  exact ⟨rfl, HB2.out⟩
/-- The sort of a list of one's own. -/
theorem sort_any (V : Value) (l : List Rng) (w : World) (base : Nat) (e : TypeId) (hl : l.length ≤ 1000000) (hB : base ≤ w.heap.size) (hx : w.ownsRow base e 2 V l.length (rc l)) :
    Calls Try.prog 24 #[V, .func (Fn.func 25) #[] #[]] w fun e' w' => e' = .returned (.tuple #[]) ∧ ∃ l', l'.length = l.length ∧ l'.Perm l ∧ l'.Pairwise (fun x y => x.lo ≤ y.lo) ∧ w'.ownsRow base e 2 V l.length (rc l') ∧ Go.RowKit.Below base w w' := by
  rcases hx.2 with ⟨h1, h2⟩ | ⟨b, cap, cur, rfl, _⟩
  · obtain rfl : l = [] := by
      rcases l with _ | ⟨x, l⟩
      · rfl
      · exact absurd h2 (by simp)
    subst h1
    refine (sort_nil _ w).mono ?_
    rintro e' w' ⟨rfl, hb⟩
    exact ⟨rfl, [], rfl, List.Perm.refl _, List.Pairwise.nil, own_below hx hb, hb.mono hB⟩
  · exact sort_some b cap l w base e hl hx
end Go.Proofs.Ytliddmhifnigdaa.Un
