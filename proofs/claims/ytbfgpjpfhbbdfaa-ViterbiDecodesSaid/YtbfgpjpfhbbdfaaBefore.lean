/-
  The walk of survivor.before. Conditions: none.
-/
import Derived.Test.YtbfgpjpfhbbdfaaInts
namespace Go.Proofs.Ytbfgpjpfhbbdfaa
open Go.RowKit Kit
set_option linter.unusedVariables false
/-- Is a survivor worse? -/
def worse (x y : Int × Int) : Bool := decide (x.1 < y.1) || (decide (x.1 = y.1) && decide (y.2 < x.2))
set_option maxHeartbeats 800000 in
theorem before_any (s r t q : Int) (w : World) : Calls Try.prog 26 #[.agg #[.int .i64 s, .int .i64 r], .agg #[.int .i64 t, .int .i64 q]] w fun e w' => e = .returned (.bool (worse (s, r) (t, q))) ∧ Below w.heap.size w w' := by
  have B0 := Lib.hid (bl_alloc (bl_alloc (Below.refl w.heap.size w) (.cells #[.int .i64 s, .int .i64 r] 57)) (.cells #[.int .i64 t, .int .i64 q] 57))
  obtain ⟨R, hR⟩ : ∃ R, Hid (R = worse (s, r) (t, q)) := ⟨_, Lib.hid rfl⟩
  rw [← hR.out]
  by_cases h1 : s < t
  · have e := Lib.hid (show R = true by rw [hR.out]; unfold worse; simp [h1])
    have g1 : decide (s < t) = true := by simpa using h1
    go_enter Try.func26, Try.ntmps26
    go_wp2_with (fail)
    go_ret
    exact ⟨by rw [e.out]; rfl, B0.out⟩
  · have g1 : decide (s < t) = false := by simpa using h1
    by_cases h2 : s = t
    · subst h2
      by_cases h3 : q < r
      · have e := Lib.hid (show R = true by rw [hR.out]; unfold worse; simp [h3])
        have g3 : decide (q < r) = true := by simpa using h3
        go_enter Try.func26, Try.ntmps26
        go_wp2_with (fail)
        go_ret
        exact ⟨by rw [e.out]; rfl, B0.out⟩
      · have e := Lib.hid (show R = false by rw [hR.out]; unfold worse; simp; omega)
        have g3 : decide (q < r) = false := by simpa using h3
        go_enter Try.func26, Try.ntmps26
        go_wp2_with (fail)
        go_ret
        exact ⟨by rw [e.out]; rfl, B0.out⟩
    · have e := Lib.hid (show R = false by rw [hR.out]; unfold worse; simp; omega)
      have g2 : (s == t) = false := by simpa using h2
      clear h2
      go_enter Try.func26, Try.ntmps26
      go_wp2_with (fail)
      go_ret
      exact ⟨by rw [e.out]; rfl, B0.out⟩
end Go.Proofs.Ytbfgpjpfhbbdfaa
