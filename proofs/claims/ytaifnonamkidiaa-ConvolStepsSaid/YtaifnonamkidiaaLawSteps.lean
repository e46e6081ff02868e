/-
  The walk of the law ConvolSteps. Conditions: none.
-/
import Derived.Test.YtaifnonamkidiaaAwk
namespace Go.Proofs.Ytaifnonamkidiaa
open Go.RowKit Kit
set_option linter.unusedVariables false
theorem wf64 {a : Int} (h : (Lit.int .i64 a).wf = true) : -9223372036854775808 ≤ a ∧ a ≤ 9223372036854775807 := by
  simpa [Lit.wf, IntKind.min, IntKind.max, IntKind.signed, IntKind.bits] using h
def stX (s b : Int) : Int := if inR s b then nx s.toNat b.toNat else 0
def stY (s b : Int) : Int := if inR s b then o1 s.toNat b.toNat else 0
def stZ (s b : Int) : Int := if inR s b then o2 s.toNat b.toNat else 0
theorem step_any (s b : Int) (w : World) (h : -9223372036854775808 ≤ b ∧ b ≤ 9223372036854775807) :
    Calls Try.prog 9 #[.int .i64 s, .int .i64 b] w fun e w' => e = .returned (.tuple #[.int .i64 (stX s b), .int .i64 (stY s b), .int .i64 (stZ s b)]) ∧ w = w' := by
  unfold stX stY stZ
  by_cases hr : inR s b
  · rw [if_pos hr, if_pos hr, if_pos hr]
    unfold inR at hr
    have := step_in s.toNat b.toNat (by omega) (by omega) w
    rwa [Int.toNat_of_nonneg hr.1, Int.toNat_of_nonneg hr.2.2.1] at this
  · rw [if_neg hr, if_neg hr, if_neg hr]
    exact step_out s b hr h.1 h.2 w
theorem refstep_any (s b : Int) (w : World) :
    Calls Try.prog 10 #[.int .i64 s, .int .i64 b] w fun e w' => e = .returned (.tuple #[.int .i64 (stX s b), .int .i64 (stY s b), .int .i64 (stZ s b)]) ∧ w = w' := by
  unfold stX stY stZ
  by_cases hr : inR s b
  · rw [if_pos hr, if_pos hr, if_pos hr]
    unfold inR at hr
    have := refstep_in s.toNat b.toNat (by omega) (by omega) w
    rwa [Int.toNat_of_nonneg hr.1, Int.toNat_of_nonneg hr.2.2.1] at this
  · rw [if_neg hr, if_neg hr, if_neg hr]
    exact refstep_out s b hr w
set_option maxHeartbeats 800000 in
theorem ConvolSteps_walk (a0 : Int) (a1 : Int) (a2 : Int) (w : World) (w0 : (Lit.int .i64 a0).wf = true) (w1 : (Lit.int .i64 a1).wf = true) (w2 : (Lit.int .i64 a2).wf = true) :
    Calls Try.prog 3 #[.int .i64 a0, .int .i64 a1, .int .i64 a2] w fun e w' => e = .returned (.bool true) ∧ Below w.heap.size w w' := by
  have b1 := wf64 w1
  clear w0 w1 w2
  go_enter Try.func3, Try.ntmps3
  go_wp2_with (fail)
  refine (step_any _ _ _ b1).mono ?_
  rintro e _ ⟨rfl, rfl⟩
  obtain ⟨X, hX⟩ : ∃ X, Hid (X = stX a0 a1) := ⟨_, Lib.hid rfl⟩
  obtain ⟨Y, hY⟩ : ∃ X, Hid (X = stY a0 a1) := ⟨_, Lib.hid rfl⟩
  obtain ⟨Z, hZ⟩ : ∃ X, Hid (X = stZ a0 a1) := ⟨_, Lib.hid rfl⟩
  rw [← hX.out, ← hY.out, ← hZ.out]
  go_wp2_with (fail)
  refine (refstep_any _ _ _).mono ?_
  rw [← hX.out, ← hY.out, ← hZ.out]
  rintro e _ ⟨rfl, rfl⟩
  go_wp2_with (fail)
  refine (symbols_any _ _).mono ?_
  rintro e _ ⟨rfl, rfl⟩
  obtain ⟨S, hS⟩ : ∃ X, Hid (X = symN a2) := ⟨_, Lib.hid rfl⟩
  rw [← hS.out]
  go_wp2_with (fail)
  refine (refsymbols_any _ _).mono ?_
  rw [← hS.out]
  rintro e _ ⟨rfl, rfl⟩
  go_wp2_with (fail)
  refine (awake_any _).mono ?_
  rintro e w1 ⟨rfl, hb1⟩
  have HB := Lib.hid hb1; clear hb1
  go_wp2_with (fail)
  go_ret
  exact ⟨rfl, HB.out⟩
end Go.Proofs.Ytaifnonamkidiaa
