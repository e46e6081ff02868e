/-
  The walk of the law ConvolEncodes. Conditions: none.
-/
import Derived.Test.YtaifnonamkidiaaRefEnc
namespace Go.Proofs.Ytaifnonamkidiaa
open Go.RowKit Kit
set_option linter.unusedVariables false
/-- What Encode returns. -/
def encStr (d : ByteArray) : ByteArray := if d.size ≤ 1100 then strOfNums (encS (bitL d (8 * d.size + 6))).2 else ⟨#[]⟩
def encErr (d : ByteArray) : Int := if d.size ≤ 1100 then 0 else 3
theorem encode_all (d : ByteArray) (w : World) :
    Calls Try.prog 14 #[.string d] w fun e w' => e = .returned (.tuple #[.string (encStr d), .int .i64 (encErr d)]) ∧ Below w.heap.size w w' := by
  unfold encStr encErr
  by_cases h : d.size ≤ 1100
  · rw [if_pos h, if_pos h]; exact encode_any d h w
  · rw [if_neg h, if_neg h]; exact (encode_long d (by omega) w).mono fun e w' ⟨h1, h2⟩ => ⟨h1, h2 ▸ Below.refl _ _⟩
theorem refencode_all (d : ByteArray) (w : World) :
    Calls Try.prog 15 #[.string d] w fun e w' => e = .returned (.tuple #[.string (encStr d), .int .i64 (encErr d)]) ∧ Below w.heap.size w w' := by
  unfold encStr encErr
  by_cases h : d.size ≤ 1100
  · rw [if_pos h, if_pos h]; exact refencode_any d h w
  · rw [if_neg h, if_neg h]; exact (refencode_long d (by omega) w).mono fun e w' ⟨h1, h2⟩ => ⟨h1, h2 ▸ Below.refl _ _⟩
theorem ConvolEncodes_walk (a0 : ByteArray) (w : World) (w0 : a0.size ≤ maxLen) :
    Calls Try.prog 4 #[.string a0] w fun e w' => e = .returned (.bool true) ∧ Below w.heap.size w w' := by
  unfold maxLen at w0
  by_cases h : (1200 : Int) < (a0.size : Int)
  · go_enter Try.func4, Try.ntmps4
    go_wp2_with (fail)
    refine (awake_any _).mono ?_
    rintro e w1 ⟨rfl, hb1⟩
    have HB := Lib.hid hb1; clear hb1
    go_wp2_with (fail)
    go_ret
    exact ⟨rfl, HB.out⟩
  · go_enter Try.func4, Try.ntmps4
    go_wp2_with (fail)
    refine (encode_all _ _).mono ?_
    rintro e w1 ⟨rfl, hb1⟩
    obtain ⟨X, hX⟩ : ∃ X, Hid (X = encStr a0) := ⟨_, Lib.hid rfl⟩
    obtain ⟨Y, hY⟩ : ∃ X, Hid (X = encErr a0) := ⟨_, Lib.hid rfl⟩
    rw [← hX.out, ← hY.out]
    have HB1 := Lib.hid hb1; clear hb1
    go_wp2_with (fail)
    refine (refencode_all _ _).mono ?_
    rintro e w2 ⟨rfl, hb2⟩
    rw [← hX.out, ← hY.out]
    have HB2 := Lib.hid hb2; clear hb2
    go_wp2_with (fail)
    refine (awake_any _).mono ?_
    rintro e w3 ⟨rfl, hb3⟩
    have HB3 := Lib.hid hb3; clear hb3
    go_wp2_with (fail)
    go_ret
    exact ⟨rfl, bl_step (bl_step HB1.out HB2.out) HB3.out⟩
end Go.Proofs.Ytaifnonamkidiaa
