/-
  Encode of too long a message, and what Score says of it. Conditions: more than 1100 bytes.
-/
import Derived.Test.YtbfgpjpfhbbdfaaRscore
namespace Go.Proofs.Ytbfgpjpfhbbdfaa
open Go.RowKit Kit
set_option linter.unusedVariables false
theorem encode_long (d : ByteArray) (hd : 1100 < d.size) (w : World) :
    Calls Try.prog 32 #[.string d] w fun e w' => e = .returned (.tuple #[.string ⟨#[]⟩, .int .i64 3]) ∧ w = w' := by
  have h : (1100 : Int) < (d.size : Int) := by omega
  clear hd
  go_enter Try.func32, Try.ntmps32
  go_wp2_with (fail)
  go_ret2
  exact ⟨rfl, rfl⟩
set_option maxHeartbeats 400000 in
theorem score_long (d : ByteArray) (hd : 1100 < d.size) (v : Value) (w : World) :
    Calls Try.prog 14 #[v, .string d] w fun e w' => e = .returned (.tuple #[.int .i64 0, .int .i64 2]) ∧ w = w' := by
  have E := Lib.hid (encode_long d hd w)
  clear hd
  go_enter Try.func14, Try.ntmps14
  go_wp2_with (fail)
  refine E.out.mono ?_
  rintro e _ ⟨rfl, rfl⟩
  go_wp2_with (fail)
  go_ret2
  exact ⟨rfl, rfl⟩
end Go.Proofs.Ytbfgpjpfhbbdfaa
