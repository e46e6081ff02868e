/-
  How arrays of integers are compared in a walk of this seat. Conditions: none.
-/
import Derived.Test.YtcmmjikkoebboaaMeths
namespace Go.Proofs.Ytcmmjikkoebboaa
open Go.RowKit Kit
theorem Try.info2' : Try.prog.info? 2 = some (Try.prog.types.getD 2 default) := by kernel_rfl
theorem Try.cells2 : Try.prog.cellsOf 2 = 1 := by kernel_rfl
@[go_sem] theorem eq24 (d : Nat) (xs ys : Array Value) (w : World) : (Op.equalIn (d + 1) 24 (.agg xs) (.agg ys)).run Try.prog w = (Op.eqItems d 2 1 xs ys [0, 1, 2, 3]).run Try.prog w := by
  have := run_equalIn_array (P := Try.prog) (w := w) d xs ys Try.underlying24 Try.info2'
  rw [Try.cells2] at this
  exact this
attribute [go_sem] Op.eqItems
@[go_sem] theorem eq23 (d : Nat) (xs ys : Array Value) (w : World) : (Op.equalIn (d + 1) 23 (.agg xs) (.agg ys)).run Try.prog w = (Op.eqItems d 2 1 xs ys [0, 1, 2]).run Try.prog w := by
  have := run_equalIn_array (P := Try.prog) (w := w) d xs ys Try.underlying23 Try.info2'
  rw [Try.cells2] at this
  exact this
end Go.Proofs.Ytcmmjikkoebboaa
