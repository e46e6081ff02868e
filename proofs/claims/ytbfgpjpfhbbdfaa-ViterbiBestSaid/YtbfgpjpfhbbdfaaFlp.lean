/-
  The walks of Pick and Flip. Conditions: those that each names.
-/
import Derived.Test.YtbfgpjpfhbbdfaaLawp
import Derived.Lib.ConvBytes
namespace Go.Proofs.Ytbfgpjpfhbbdfaa
open Go.RowKit Kit
set_option linter.unusedVariables false
def pickN (k : Int) (n : Nat) : Nat := (k % (n : Int)).toNat
theorem pickN_lt (k : Int) (n : Nat) (h : 0 < n) : pickN k n < n := by
  unfold pickN
  have h1 := Int.emod_nonneg k (show (n : Int) ≠ 0 by omega)
  have h2 := Int.emod_lt_of_pos k (show (0 : Int) < n by omega)
  omega
set_option maxHeartbeats 800000 in
theorem pick_any (k : Int) (n : Nat) (hn : 0 < n) (hn2 : n ≤ 100000) (w : World) : Calls Try.prog 22 #[.int .i64 k, .int .i64 (n : Int)] w fun e w' => e = .returned (.int .i64 (pickN k n : Int)) ∧ w = w' := by
  have h0 : ¬ (n : Int) = 0 := by omega
  have h0' : ¬ n = 0 := by omega
  have e1 := Int.emod_nonneg k (show (n : Int) ≠ 0 by omega)
  have e2 := Int.emod_lt_of_pos k (show (0 : Int) < n by omega)
  have PK : Hid ((pickN k n : Int) = k % (n : Int)) := Lib.hid (by unfold pickN; omega)
  obtain ⟨r, hr⟩ : ∃ r, k.tmod (n : Int) = r := ⟨_, rfl⟩
  have h1 : r < n := by rw [← hr]; exact Int.tmod_lt_of_pos k (by omega)
  have h2 : -(n : Int) < r := by rw [← hr]; exact Int.lt_tmod_of_pos k (by omega)
  have h3 : k % (n : Int) = if r < 0 then r + n else r := by
    have := Int.tmod_eq_emod (a := k) (b := (n : Int))
    rw [hr] at this
    split
    · split at this <;> omega
    · split at this <;> omega
  have H3 := Lib.hid h3
  have W1 : wrap64 r = r := IntWalk.wrap64_in _ (by omega)
  have W2 : IntKind.i64.wrap r = r := IntWalk.i64_in _ (by omega)
  clear h3 e1 e2
  by_cases h : r < 0
  · have d : decide (r < 0) = true := by simpa using h
    have K : Hid ((pickN k n : Int) = r + n) := Lib.hid (by rw [PK.out, H3.out, if_pos h])
    clear h
    go_enter Try.func22, Try.ntmps22
    go_wp2_with (fail)
    go_ret
    exact ⟨ret_int (by rw [K.out]), rfl⟩
  · have d : decide (r < 0) = false := by simpa using h
    have K : Hid ((pickN k n : Int) = r) := Lib.hid (by rw [PK.out, H3.out, if_neg h])
    clear h
    go_enter Try.func22, Try.ntmps22
    go_wp2_with (fail)
    go_ret
    exact ⟨ret_int (by rw [K.out]), rfl⟩
end Go.Proofs.Ytbfgpjpfhbbdfaa
