/-
  The walk of the specification's Soft. Conditions: slices of ints.
-/
import Derived.Test.YtbfgpjpfhbbdfaaSoft
namespace Go.Proofs.Ytbfgpjpfhbbdfaa
open Go.RowKit Kit
set_option linter.unusedVariables false
set_option maxHeartbeats 800000 in
theorem rsoft_any (X : List Int) (a : Option Addr) (n c : Nat) (w : World) (hX : NS w a n c X) :
    Calls Try.prog 29 #[.slice a n c] w fun e w' => e = .returned (.bool (softL X)) ∧ w = w' := by
  have HX := Lib.hid hX
  have N := Lib.hid hX.1
  have hcap := hX.2.1
  have hcap2 := hX.2.2.1
  unfold maxLen at hcap2
  obtain ⟨R, hR⟩ : ∃ R, Hid (R = softL X) := ⟨_, Lib.hid rfl⟩
  rw [← hR.out]
  clear hX
  go_enter Try.func29, Try.ntmps29
  go_wp2_with (fail)
  go_loop [3] (fun i => ∃ k : Nat, k ≤ n ∧ i = .int .i64 k ∧ ∀ i, i < k → sOk (pv X i) = true) (fun i => n - (intOf i).toNat)
  case atStart => exact ⟨0, by omega, rfl, fun i hi => by omega⟩
  case round =>
    obtain ⟨k, hk, rfl, hall⟩ := hrel
    have HA := Lib.hid hall
    clear hall
    by_cases hlt : k < n
    · obtain ⟨bb, off, rfl, hb, d1⟩ := HX.out.2.2.2 k hlt
      have SN := Lib.hid (softL_no (X := X) (k := k) (by rw [← N.out]; exact hlt))
      obtain ⟨v, hv⟩ : ∃ v, Hid (v = pv X k) := ⟨_, Lib.hid rfl⟩
      rw [← hv.out] at d1 SN
      by_cases h1 : v < -8
      · have e : Hid (R = false) := Lib.hid (by rw [hR.out]; exact SN.out (by unfold sOk; simp; omega))
        have g1 : decide (v < -8) = true := by simpa using h1
        go_wp2_with (fail)
        go_ret
        exact ⟨by rw [e.out]; rfl, rfl⟩
      · have g1 : decide (v < -8) = false := by simpa using h1
        by_cases h2 : 7 < v
        · have e : Hid (R = false) := Lib.hid (by rw [hR.out]; exact SN.out (by unfold sOk; simp; omega))
          have g2 : decide (7 < v) = true := by simpa using h2
          go_wp2_with (fail)
          go_ret
          exact ⟨by rw [e.out]; rfl, rfl⟩
        · have g2 : decide (7 < v) = false := by simpa using h2
          have e : Hid (sOk v = true) := Lib.hid (by unfold sOk; simp; omega)
          go_wp2_with (fail)
          go_round
          case rel => exact ⟨k + 1, by omega, by simp, fun i hi => by
            rcases Nat.lt_succ_iff_lt_or_eq.1 hi with h | rfl
            · exact HA.out i h
            · rw [← hv.out]; exact e.out⟩
          case measure => simp [intOf]; omega
    · have e : k = n := by omega
      have SY : Hid (R = true) := Lib.hid (by rw [hR.out]; exact softL_yes (fun i hi => HA.out i (by have := N.out; omega)))
      go_wp2_with (fail)
      go_ret
      exact ⟨by rw [SY.out]; rfl, rfl⟩
end Go.Proofs.Ytbfgpjpfhbbdfaa
