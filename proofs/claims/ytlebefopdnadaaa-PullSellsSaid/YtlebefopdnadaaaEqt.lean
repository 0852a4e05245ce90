/- Arrays of six numbers, held equal to themselves. -/
import Derived.Test.YtlebefopdnadaaaMg
import Derived.DeepKeys
namespace Go.Proofs.Ytlebefopdnadaaa
open Go.RowKit
theorem eq_one (xs ys : Array Value) (i : Nat) (a : Int) (hx : xs[i]? = some (I a)) (hy : ys[i]? = some (I a)) (rest : List Nat) (W : World) :
    (Op.eqItems 9998 3 1 xs ys (i :: rest)).run Try.prog W = (Op.eqItems 9998 3 1 xs ys rest).run Try.prog W := by
  have hp : Program.plainKey Try.prog 3 = true := by kernel_rfl
  have h1 := run_part_plain (P := Try.prog) W hp (off := i * 1) (by rw [Nat.mul_one]; exact hx)
  have h2 := run_part_plain (P := Try.prog) W hp (off := i * 1) (by rw [Nat.mul_one]; exact hy)
  have h3 := run_equalIn_int (P := Try.prog) W 9997 3 .i64 .i64 a a Try.underlying3
  simp only [Op.eqItems, Sem.run_bind, h1, h2, h3, Result.andThen_ok]
  simp
theorem eq6 (a b c d e f : Int) (W : World) : (Op.equalIn 9999 25 (.agg #[I a, I b, I c, I d, I e, I f]) (.agg #[I a, I b, I c, I d, I e, I f])).run Try.prog W = .ok true W := by
  have hinfo : (Try.prog.info? 3).map (fun i => i.size) = some 1 := by kernel_rfl
  obtain ⟨i, hi, hs⟩ := Option.map_eq_some_iff.1 hinfo
  rw [run_equalIn_array (P := Try.prog) W 9998 _ _ Try.underlying25 hi]
  have hc : Try.prog.cellsOf 3 = 1 := by unfold Program.cellsOf; rw [hi]; exact hs
  simp only [hc, show List.range 6 = [0, 1, 2, 3, 4, 5] from rfl]
  rw [eq_one _ _ 0 a rfl rfl, eq_one _ _ 1 b rfl rfl, eq_one _ _ 2 c rfl rfl, eq_one _ _ 3 d rfl rfl, eq_one _ _ 4 e rfl rfl, eq_one _ _ 5 f rfl rfl]
  rfl
end Go.Proofs.Ytlebefopdnadaaa
