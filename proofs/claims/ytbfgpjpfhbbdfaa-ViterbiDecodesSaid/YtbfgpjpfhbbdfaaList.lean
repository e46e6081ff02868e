/-
  The walk of the specification's List: is a string a symbol list? Conditions: none.
-/
import Derived.Test.YtbfgpjpfhbbdfaaRsoft
namespace Go.Proofs.Ytbfgpjpfhbbdfaa
open Go.RowKit Kit
set_option linter.unusedVariables false
def byteAt (d : ByteArray) (i : Nat) : Nat := (d.data.toList.getD i 0).toNat
theorem byteAt_lt (d : ByteArray) (i : Nat) : byteAt d i < 256 := UInt8.toNat_lt _
theorem byte_get (d : ByteArray) (i : Nat) (h : i < d.size) : ((d[i]'h).toNat : Int) = ((byteAt d i : Nat) : Int) := by
  unfold byteAt
  rw [List.getD_eq_getElem?_getD, List.getElem?_eq_getElem (by simpa using h)]
  rfl
/-- Symbols alone. -/
def symL (d : ByteArray) : Bool := (List.range d.size).all fun i => decide (byteAt d i ≤ 1)
theorem symL_no {d : ByteArray} {k : Nat} (hk : k < d.size) (h : 1 < byteAt d k) : symL d = false := by
  unfold symL
  rw [List.all_eq_false]
  exact ⟨k, by simpa using hk, by simpa using h⟩
theorem symL_yes {d : ByteArray} (h : ∀ i, i < d.size → byteAt d i ≤ 1) : symL d = true := by
  unfold symL
  rw [List.all_eq_true]
  intro x hx
  simpa using h x (by simpa using hx)
set_option maxHeartbeats 800000 in
theorem list_any (d : ByteArray) (hd : d.size ≤ maxLen) (w : World) : Calls Try.prog 33 #[.string d] w fun e w' => e = .returned (.bool (symL d)) ∧ w = w' := by
  obtain ⟨R, hR⟩ : ∃ R, Hid (R = symL d) := ⟨_, Lib.hid rfl⟩
  rw [← hR.out]
  unfold maxLen at hd
  go_enter Try.func33, Try.ntmps33
  go_wp2_with (fail)
  go_loop [3] (fun i => ∃ k : Nat, k ≤ d.size ∧ i = .int .i64 k ∧ ∀ i, i < k → byteAt d i ≤ 1) (fun i => d.size - (intOf i).toNat)
  case atStart => exact ⟨0, by omega, rfl, fun i hi => by omega⟩
  case round =>
    obtain ⟨k, hk, rfl, hall⟩ := hrel
    have HA := Lib.hid hall
    clear hall
    by_cases hlt : k < d.size
    · have BG := Lib.hid (byte_get d k hlt)
      by_cases h1 : 1 < byteAt d k
      · have e : Hid (R = false) := Lib.hid (by rw [hR.out]; exact symL_no hlt h1)
        have g1 : decide ((1 : Int) < ((d[k]'hlt).toNat : Int)) = true := by rw [BG.out]; simp; omega
        have g2 : decide (1 < (d[k]'hlt).toNat) = true := by have := BG.out; simp; omega
        clear h1
        go_wp2_with (fail)
        go_ret
        exact ⟨by rw [e.out]; rfl, rfl⟩
      · have g1 : decide ((1 : Int) < ((d[k]'hlt).toNat : Int)) = false := by rw [BG.out]; simp; omega
        have g2 : decide (1 < (d[k]'hlt).toNat) = false := by have := BG.out; simp; omega
        have H1 := Lib.hid h1
        clear h1
        go_wp2_with (fail)
        go_round
        case rel => exact ⟨k + 1, by omega, by simp, fun i hi => by
          rcases Nat.lt_succ_iff_lt_or_eq.1 hi with h | rfl
          · exact HA.out i h
          · have := H1.out; omega⟩
        case measure => simp [intOf]; omega
    · have e : k = d.size := by omega
      have SY : Hid (R = true) := Lib.hid (by rw [hR.out]; exact symL_yes (fun i hi => HA.out i (by omega)))
      go_wp2_with (fail)
      go_ret
      exact ⟨by rw [SY.out]; rfl, rfl⟩
end Go.Proofs.Ytbfgpjpfhbbdfaa
