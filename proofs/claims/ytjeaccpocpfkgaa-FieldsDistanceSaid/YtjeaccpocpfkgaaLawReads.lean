/-
  The law FieldsReads: its walk. Conditions: those of its arguments.
-/
import Derived.Test.YtjeaccpocpfkgaaAwk
namespace Go.Proofs.Ytjeaccpocpfkgaa
open Go.RowKit Kit
set_option linter.unusedVariables false
theorem getR_form (d : ByteArray) (a wd : Int) : ∃ x e, getR d a wd = .tuple #[.int .u64 x, .int .i64 e] := by unfold getR; split <;> exact ⟨_, _, rfl⟩
theorem sgnR_form (d : ByteArray) (a wd : Int) : ∃ x e, sgnR d a wd = .tuple #[.int .i64 x, .int .i64 e] := by unfold sgnR; split <;> exact ⟨_, _, rfl⟩
set_option maxRecDepth 100000 in
theorem FieldsReads_walk (a0 : ByteArray) (a1 : Int) (a2 : Int) (w : World) (w0 : a0.size ≤ maxLen) (w1 : (Lit.int .i64 a1).wf = true) (w2 : (Lit.int .i64 a2).wf = true) :
    Calls Try.prog 3 #[.string a0, .int .i64 a1, .int .i64 a2] w fun e w' => e = .returned (.bool true) ∧ Below w.heap.size w w' := by
  have W0 := Lib.hid w0
  unfold maxLen at w0
  by_cases hl : (70000 : Int) < (a0.size : Int)
  · go_enter Try.func3, Try.ntmps3
    go_wp2_with (fail)
    refine (awake_any _).mono ?_
    rintro e w9 ⟨rfl, b9⟩
    have B9 := Lib.hid b9
    clear b9
    go_wp2_with (fail)
    go_ret
    exact ⟨rfl, B9.out⟩
  · obtain ⟨x, e1, hG⟩ := getR_form a0 a1 a2
    obtain ⟨y, e2, hS⟩ := sgnR_form a0 a1 a2
    have HG := Lib.hid hG; have HS := Lib.hid hS
    clear hG hS
    go_enter Try.func3, Try.ntmps3
    go_wp2_with (fail)
    refine (get_any a0 a1 a2 _ W0.out).mono ?_
    rw [HG.out]
    rintro e w5 ⟨rfl, b5⟩
    have B5 := Lib.hid b5
    clear b5
    go_wp2_with (fail)
    refine (refget_any a0 a1 a2 _ W0.out).mono ?_
    rw [HG.out]
    rintro e _ ⟨rfl, rfl⟩
    go_wp2_with (fail)
    refine (signed_any a0 a1 a2 _ W0.out).mono ?_
    rw [HS.out]
    rintro e w6 ⟨rfl, b6⟩
    have B6 := Lib.hid (bl_step B5.out b6)
    clear b6
    go_wp2_with (fail)
    refine (refsigned_any a0 a1 a2 _ W0.out).mono ?_
    rw [HS.out]
    rintro e _ ⟨rfl, rfl⟩
    go_wp2_with (fail)
    refine (awake_any _).mono ?_
    rintro e w9 ⟨rfl, b9⟩
    have B9 := Lib.hid (bl_step B6.out b9)
    clear b9
    go_wp2_with (fail)
    go_ret
    exact ⟨rfl, B9.out⟩
end Go.Proofs.Ytjeaccpocpfkgaa
