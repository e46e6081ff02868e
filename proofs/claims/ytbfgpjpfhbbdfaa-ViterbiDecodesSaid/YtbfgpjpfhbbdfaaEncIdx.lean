/-
  Encode by index: the symbol at each place. Conditions: messages of at most 1100 bytes.
-/
import Derived.Test.YtbfgpjpfhbbdfaaSoften
namespace Go.Proofs.Ytbfgpjpfhbbdfaa
open Go.RowKit Kit
set_option linter.unusedVariables false
def strF (f : Nat → Nat) (n : Nat) : ByteArray := strOfNums ((List.range n).map fun i => ((f i : Nat) : Int))
theorem strF_size (f : Nat → Nat) (n : Nat) : (strF f n).size = n := by simp [strF, strOfNums_size]
theorem strF_at (f : Nat → Nat) (n i : Nat) (h : f i < 256) : byteAt (strF f n) i = if i < n then f i else 0 := by
  unfold byteAt strF
  rw [strOfNums_data]
  by_cases hi : i < n
  · simp [List.getD_eq_getElem?_getD, hi, Nat.mod_eq_of_lt h]
  · simp [List.getD_eq_getElem?_getD, hi]
def stS (f : Nat → Nat) : Nat → Nat
  | 0 => 0
  | k + 1 => nx (stS f k) (f k)
def outF (f : Nat → Nat) (i : Nat) : Nat := if i % 2 = 0 then o1 (stS f (i / 2)) (f (i / 2)) else o2 (stS f (i / 2)) (f (i / 2))
theorem outF_lt (f : Nat → Nat) (i : Nat) : outF f i < 2 := by
  unfold outF; split
  · exact par_lt _
  · unfold o2; omega
theorem encS_idx (d : ByteArray) (k : Nat) : (encS (bitL d k)).1 = stS (bitAt d) k ∧ (encS (bitL d k)).2 = (List.range (2 * k)).map fun i => ((outF (bitAt d) i : Nat) : Int) := by
  induction k with
  | zero => exact ⟨rfl, rfl⟩
  | succ k ih =>
    rw [bitL_succ, encS_snoc]
    refine ⟨by simp only [stS, ih.1], ?_⟩
    rw [show 2 * (k + 1) = 2 * k + 1 + 1 by omega, List.range_succ, List.range_succ, ih.1]
    simp only [List.map_append, List.map_cons, List.map_nil, ih.2, List.append_assoc, List.cons_append, List.nil_append]
    have e1 : outF (bitAt d) (2 * k) = o1 (stS (bitAt d) k) (bitAt d k) := by
      unfold outF; rw [if_pos (by omega), show 2 * k / 2 = k by omega]
    have e2 : outF (bitAt d) (2 * k + 1) = o2 (stS (bitAt d) k) (bitAt d k) := by
      unfold outF; rw [if_neg (by omega), show (2 * k + 1) / 2 = k by omega]
    rw [e1, e2]
theorem encode_idx (d : ByteArray) (n : Nat) (hd : d.size = n) (hn : n ≤ 1100) (w : World) :
    Calls Try.prog 32 #[.string d] w fun e w' => e = .returned (.tuple #[.string (strF (outF (bitAt d)) (16 * n + 12)), .int .i64 0]) ∧ Below w.heap.size w w' := by
  have := encode_any d (by omega) w
  rw [(encS_idx d _).2, hd, show 2 * (8 * n + 6) = 16 * n + 12 by omega] at this
  exact this
theorem refencode_idx (d : ByteArray) (n : Nat) (hd : d.size = n) (hn : n ≤ 1100) (w : World) :
    Calls Try.prog 21 #[.string d] w fun e w' => e = .returned (.tuple #[.string (strF (outF (bitAt d)) (16 * n + 12)), .int .i64 0]) ∧ Below w.heap.size w w' := by
  have := refencode_any d (by omega) w
  rw [(encS_idx d _).2, hd, show 2 * (8 * n + 6) = 16 * n + 12 by omega] at this
  exact this
end Go.Proofs.Ytbfgpjpfhbbdfaa
