/-
  The walks of soft, the program's and the specification's. Conditions: slices of ints.
-/
import Derived.Test.YtbfgpjpfhbbdfaaInts
namespace Go.Proofs.Ytbfgpjpfhbbdfaa
open Go.RowKit Kit
set_option linter.unusedVariables false
/-- A soft value. -/
def sOk (v : Int) : Bool := decide (-8 ≤ v) && decide (v ≤ 7)
def softL (X : List Int) : Bool := X.all sOk
theorem softL_no {X : List Int} {k : Nat} (hk : k < X.length) (h : sOk (pv X k) = false) : softL X = false := by
  unfold softL
  rw [List.all_eq_false]
  refine ⟨X[k], List.getElem_mem hk, ?_⟩
  have e : pv X k = X[k] := by unfold pv; rw [List.getD_eq_getElem?_getD, List.getElem?_eq_getElem hk]; rfl
  rw [← e, h]; simp
theorem softL_yes {X : List Int} (h : ∀ i, i < X.length → sOk (pv X i) = true) : softL X = true := by
  unfold softL
  rw [List.all_eq_true]
  intro x hx
  obtain ⟨k, hk, rfl⟩ := List.getElem_of_mem hx
  have := h k hk
  unfold pv at this
  rwa [List.getD_eq_getElem?_getD, List.getElem?_eq_getElem hk] at this
theorem soft1_any (v : Int) (w : World) : Calls Try.prog 36 #[.int .i64 v] w fun e w' => e = .returned (.bool (!sOk v)) ∧ w = w' := by
  by_cases h1 : v < -8
  · have e : (!sOk v) = true := by unfold sOk; simp; omega
    rw [e]
    have d1 : decide (v < -8) = true := by simpa using h1
    go_enter Try.func36, Try.ntmps36
    go_wp2_with (fail)
    go_ret
    exact ⟨rfl, rfl⟩
  · have d1 : decide (v < -8) = false := by simpa using h1
    by_cases h2 : 7 < v
    · have e : (!sOk v) = true := by unfold sOk; simp; omega
      rw [e]
      have d2 : decide (7 < v) = true := by simpa using h2
      go_enter Try.func36, Try.ntmps36
      go_wp2_with (fail)
      go_ret
      exact ⟨rfl, rfl⟩
    · have e : (!sOk v) = false := by unfold sOk; simp; omega
      rw [e]
      have d2 : decide (7 < v) = false := by simpa using h2
      go_enter Try.func36, Try.ntmps36
      go_wp2_with (fail)
      go_ret
      exact ⟨rfl, rfl⟩
set_option maxHeartbeats 800000 in
theorem indexf_any (X : List Int) (a : Option Addr) (n c : Nat) (w : World) (hX : NS w a n c X) :
    Calls Try.prog 43 #[.slice a n c, .func (.func 36) #[] #[]] w fun e w' => (∃ R : Int, e = .returned (.int .i64 R) ∧ decide (0 ≤ R) = !softL X) ∧ w = w' := by
  have HX := Lib.hid hX
  have N := Lib.hid hX.1
  have hcap := hX.2.1
  have hcap2 := hX.2.2.1
  unfold maxLen at hcap2
  clear hX
  go_enter Try.func43, Try.ntmps43
  go_wp2_with (fail)
  go_loop [5, 8] (fun _ i => ∃ k : Nat, k ≤ n ∧ i = .int .i64 k ∧ ∀ i, i < k → sOk (pv X i) = true) (fun _ i => n - (intOf i).toNat)
  case atStart => exact ⟨0, by omega, rfl, fun i hi => by omega⟩
  case round =>
    obtain ⟨k, hk, rfl, hall⟩ := hrel
    have HA := Lib.hid hall
    clear hall
    by_cases hlt : k < n
    · obtain ⟨bb, off, rfl, hb, d1⟩ := HX.out.2.2.2 k hlt
      have SN := Lib.hid (softL_no (X := X) (k := k) (by rw [← N.out]; exact hlt))
      obtain ⟨v, hv⟩ : ∃ v, Hid (v = pv X k) := ⟨_, Lib.hid rfl⟩
      rw [← hv.out] at d1 SN
      obtain ⟨T, hT⟩ : ∃ T, Hid (T = sOk v) := ⟨_, Lib.hid rfl⟩
      have S1 := Lib.hid (fun W => soft1_any v W)
      rw [← hT.out] at S1 SN
      cases T with
      | true =>
        go_wp2_with (fail)
        refine (S1.out _).mono ?_
        rintro e _ ⟨rfl, rfl⟩
        go_wp2_with (fail)
        go_round
        case rel => exact ⟨k + 1, by omega, by simp, fun i hi => by
          rcases Nat.lt_succ_iff_lt_or_eq.1 hi with h | rfl
          · exact HA.out i h
          · rw [← hv.out, ← hT.out]⟩
        case measure => simp [intOf]; omega
      | false =>
        go_wp2_with (fail)
        refine (S1.out _).mono ?_
        rintro e _ ⟨rfl, rfl⟩
        go_wp2_with (fail)
        go_ret
        exact ⟨⟨k, rfl, by rw [SN.out (by simp)]; simp⟩, rfl⟩
    · have e : k = n := by omega
      have SY : Hid (softL X = true) := Lib.hid (softL_yes (fun i hi => HA.out i (by have := N.out; omega)))
      go_wp2_with (fail)
      go_ret
      exact ⟨⟨-1, rfl, by rw [SY.out]; rfl⟩, rfl⟩
theorem soft_any (X : List Int) (a : Option Addr) (n c : Nat) (w : World) (hX : NS w a n c X) :
    Calls Try.prog 24 #[.slice a n c] w fun e w' => e = .returned (.bool (softL X)) ∧ w = w' := by
  have C : Hid (Calls Try.prog 35 #[.slice a n c, .func (.func 36) #[] #[]] w fun e w' => e = .returned (.bool (!softL X)) ∧ w = w') := Lib.hid (by
    have I := Lib.hid (indexf_any X a n c w hX)
    generalize (!softL X) = T at I ⊢
    clear hX
    go_enter Try.func35, Try.ntmps35
    go_wp2_with (fail)
    refine I.out.mono ?_
    rintro e _ ⟨⟨R, rfl, hR⟩, rfl⟩
    subst hR
    go_wp2_with (fail)
    go_ret
    exact ⟨rfl, rfl⟩)
  obtain ⟨T, hT⟩ : ∃ T, Hid (T = softL X) := ⟨_, Lib.hid rfl⟩
  rw [← hT.out] at C ⊢
  clear hX hT
  cases T <;>
  · go_enter Try.func24, Try.ntmps24
    go_wp2_with (fail)
    refine C.out.mono ?_
    rintro e _ ⟨rfl, rfl⟩
    go_wp2_with (fail)
    go_ret
    exact ⟨rfl, rfl⟩
end Go.Proofs.Ytbfgpjpfhbbdfaa
