/-
  The walk of the specification's New. Conditions: none.
-/
import Derived.Test.YtcmmjikkoebboaaMeths
namespace Go.Proofs.Ytcmmjikkoebboaa
open Go.RowKit Kit
def setV (s0 s1 s2 s3 f : Int) : Value := .agg #[.int .i64 s0, .int .i64 s1, .int .i64 s2, .int .i64 s3, .int .i64 f]
def refNewV (s0 s1 s2 s3 f : Int) : Value :=
  if okS s0 s1 s2 s3 f then .tuple #[.agg #[.int .i64 s0, .int .i64 s1, .int .i64 s2, .int .i64 s3, .int .i64 f], .int .i64 0] else .tuple #[.agg #[.int .i64 0, .int .i64 0, .int .i64 0, .int .i64 0, .int .i64 0], .int .i64 2]
set_option maxHeartbeats 16000000 in
theorem refnew_any (s0 s1 s2 s3 f : Int) (w : World) :
    Calls Try.prog 20 #[.agg #[.int .i64 s0, .int .i64 s1, .int .i64 s2, .int .i64 s3], .int .i64 f] w fun e w' =>
      e = .returned (refNewV s0 s1 s2 s3 f) ∧ Below w.heap.size w w' := by
  by_cases h2 : isB f = true
  · rcases isB_cases h2 with rfl | rfl | rfl | rfl | rfl
    all_goals
      clear h2
      go_enter Try.func20, Try.ntmps20
      go_wp2_with (fail)
      refine wp_loop_rounds 5 ?_
      repeat any_goals (rw [rounds_succ]; go_wp2_with (fail))
      all_goals go_returns
      all_goals (try simp only [bne_eq_false_iff_eq, bne_iff_ne] at *)
      all_goals refine ⟨?_, by go_grown⟩
      all_goals unfold refNewV
      all_goals first | (rw [if_pos (by unfold okS; omega)]) | (rw [if_neg (by unfold okS; omega)])
  · have h3 : f < -1 ∨ 3 < f := by simp only [isB, decide_eq_true_eq] at h2; omega
    have h4 : ¬ okS s0 s1 s2 s3 f := by unfold okS; omega
    have H : refNewV s0 s1 s2 s3 f = .tuple #[.agg #[.int .i64 0, .int .i64 0, .int .i64 0, .int .i64 0, .int .i64 0], .int .i64 2] := by unfold refNewV; rw [if_neg h4]
    rw [H]; clear H
    clear h4 h2
    rcases h3 with h3 | h3
    · go_enter Try.func20, Try.ntmps20
      go_wp2_with (fail)
      go_returns
      exact ⟨rfl, by go_grown⟩
    · have h5 : ¬ f < -1 := by omega
      go_enter Try.func20, Try.ntmps20
      go_wp2_with (fail)
      go_returns
      exact ⟨rfl, by go_grown⟩
end Go.Proofs.Ytcmmjikkoebboaa
