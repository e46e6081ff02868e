/-
  The walks of the law's own small functions: the greatest absolute value, valid vectors, the sum. Conditions: the bounds that each names.
-/
import Derived.Test.YtcmmjikkoebboaaRefs
import Derived.Test.YtcmmjikkoebboaaMeths
namespace Go.Proofs.Ytcmmjikkoebboaa
open Go.RowKit Kit
theorem refsum_any (s0 s1 s2 s3 : Int) (w : World) (b1 : -16777216 ≤ s0) (b2 : s0 ≤ 16777216) (b3 : -16777216 ≤ s1) (b4 : s1 ≤ 16777216) (b5 : -16777216 ≤ s2) (b6 : s2 ≤ 16777216) (b7 : -16777216 ≤ s3) (b8 : s3 ≤ 16777216) :
    Calls Try.prog 34 #[.agg #[.int .i64 s0, .int .i64 s1, .int .i64 s2, .int .i64 s3]] w fun e w' => e = .returned (.agg #[.int .i64 (s0 + s3), .int .i64 (s1 + s3), .int .i64 (s2 + s3)]) ∧ Below w.heap.size w w' := by
  go_enter Try.func34, Try.ntmps34
  go_wp2_with (fail)
  go_returns
  exact ⟨rfl, by go_grown⟩
def absI (a : Int) : Int := max a (-a)
theorem size_any (a : Int) (w : World) (b1 : -9223372036854775808 < a) (b2 : a ≤ 9223372036854775807) :
    Calls Try.prog 15 #[.int .i64 a] w fun e w' => e = .returned (.int .i64 (absI a)) ∧ w = w' := by
  have gmx := fun w x y => run_max_mx Try.prog w #[2, 2] 2 .i64 .i64 x y
  go_enter Try.func15, Try.ntmps15
  go_wp2_with (fail)
  go_ret
  exact ⟨ret_int (by simp [absI, mx]), rfl⟩
def great (a b c d : Int) : Int := max (max (max (absI a) (absI b)) (absI c)) (absI d)
theorem greatest_any (a b c d : Int) (w : World) (b1 : -9223372036854775808 < a) (b2 : a ≤ 9223372036854775807) (b3 : -9223372036854775808 < b) (b4 : b ≤ 9223372036854775807) (b5 : -9223372036854775808 < c) (b6 : c ≤ 9223372036854775807) (b7 : -9223372036854775808 < d) (b8 : d ≤ 9223372036854775807) :
    Calls Try.prog 14 #[.agg #[.int .i64 a, .int .i64 b, .int .i64 c, .int .i64 d]] w fun e w' => e = .returned (.int .i64 (great a b c d)) ∧ Below w.heap.size w w' := by
  go_enter Try.func14, Try.ntmps14
  go_wp2_with (fail)
  go_quiet ((go_at_call 15; first | exact quiet_left (size_any _ _ (by omega) (by omega)) | exact quiet_add_left (size_any _ _ (by omega) (by omega))))
  go_wp2_with (fail)
  go_ret
  exact ⟨ret_int (by simp [great]; try omega), below_drewN (by go_grown) _⟩
theorem lawvalid_any (d0 d1 d2 : Int) (w : World) :
    Calls Try.prog 13 #[.agg #[.int .i64 d0, .int .i64 d1, .int .i64 d2]] w fun e w' => e = .returned (.bool (vld d0 d1 d2)) ∧ Below w.heap.size w w' := by
  go_enter Try.func13, Try.ntmps13
  go_wp2
  refine wp_loop_rounds 4 ?_
  repeat any_goals (rw [rounds_succ]; go_wp2)
  all_goals (go_ret; refine ⟨ret_bool ?_, by go_grown⟩)
  all_goals (rw [Bool.eq_iff_iff]; simp only [vld, inV, Bool.and_eq_true, decide_eq_true_eq, true_iff, Bool.false_eq_true, false_iff])
  all_goals omega
end Go.Proofs.Ytcmmjikkoebboaa
