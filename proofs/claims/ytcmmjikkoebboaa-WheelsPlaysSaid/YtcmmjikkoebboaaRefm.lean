/-
  The walks of the specification's Step, Fail and Command. Conditions: the numbers are those that New lets.
-/
import Derived.Test.YtcmmjikkoebboaaMeths
namespace Go.Proofs.Ytcmmjikkoebboaa
open Go.RowKit Kit
theorem stepI_eq (s c : Int) : clampI (s - fric s + clampI c (-1048576) 1048576) (-16777216) 16777216 = stepI s c := by unfold stepI; congr 1; omega
set_option maxHeartbeats 1600000 in
theorem refstep_any (s0 s1 s2 s3 f c0 c1 c2 c3 : Int) (w : World) (ok : okS s0 s1 s2 s3 f) :
    Calls Try.prog 25 #[.agg #[.int .i64 s0, .int .i64 s1, .int .i64 s2, .int .i64 s3, .int .i64 f], .agg #[.int .i64 c0, .int .i64 c1, .int .i64 c2, .int .i64 c3]] w fun e w' =>
      e = .returned (.agg #[.int .i64 (if f = 0 then s0 else stepI s0 c0), .int .i64 (if f = 1 then s1 else stepI s1 c1), .int .i64 (if f = 2 then s2 else stepI s2 c2), .int .i64 (if f = 3 then s3 else stepI s3 c3), .int .i64 f]) ∧ Below w.heap.size w w' := by
  obtain ⟨b1, b2, b3, b4, b5, b6, b7, b8⟩ := okS_bd ok
  obtain ⟨p0, q0⟩ := fric_bd ⟨b1, b2⟩
  obtain ⟨p1, q1⟩ := fric_bd ⟨b3, b4⟩
  obtain ⟨p2, q2⟩ := fric_bd ⟨b5, b6⟩
  obtain ⟨p3, q3⟩ := fric_bd ⟨b7, b8⟩
  obtain ⟨k0, l0⟩ := clamp_bd c0 (-1048576) 1048576 (by omega)
  obtain ⟨k1, l1⟩ := clamp_bd c1 (-1048576) 1048576 (by omega)
  obtain ⟨k2, l2⟩ := clamp_bd c2 (-1048576) 1048576 (by omega)
  obtain ⟨k3, l3⟩ := clamp_bd c3 (-1048576) 1048576 (by omega)
  have hf := okS_f ok
  clear ok
  rcases hf with rfl | rfl | rfl | rfl | rfl
  all_goals
    go_enter Try.func25, Try.ntmps25
    go_wp2_with (fail)
    refine wp_loop_rounds 5 ?_
    iterate 4
      rw [rounds_succ]
      go_wp2_with (fail)
      try (go_quiet (first | (go_at_call 36; first | exact quiet_left (reffric_any _ _ (by omega) (by omega)) | exact quiet_add_left (reffric_any _ _ (by omega) (by omega))) | (go_at_call 35; first | exact quiet_left (refclamp_any _ _ _ _) | exact quiet_add_left (refclamp_any _ _ _ _))); go_wp2_with ((with_reducible refine (refclamp_any _ _ _ _).mono ?_); rintro e w' ⟨rfl, rfl⟩))
    rw [rounds_succ]
    go_wp2_with (fail)
    go_returns
    refine ⟨?_, below_drewN (by go_grown) _⟩
    simp [stepI_eq]
set_option maxHeartbeats 1600000 in
theorem reffail_any (s0 s1 s2 s3 f i : Int) (w : World) :
    Calls Try.prog 24 #[.agg #[.int .i64 s0, .int .i64 s1, .int .i64 s2, .int .i64 s3, .int .i64 f], .int .i64 i] w fun e w' =>
      e = .returned (if failE f i = 0 then .tuple #[.agg #[.int .i64 (if i = 0 then 0 else s0), .int .i64 (if i = 1 then 0 else s1), .int .i64 (if i = 2 then 0 else s2), .int .i64 (if i = 3 then 0 else s3), .int .i64 i], .int .i64 0]
        else .tuple #[.agg #[.int .i64 s0, .int .i64 s1, .int .i64 s2, .int .i64 s3, .int .i64 f], .int .i64 (failE f i)]) ∧ Below w.heap.size w w' := by
  by_cases h1 : i < 0
  · have H : failE f i = 2 := by unfold failE; rw [if_pos (Or.inl h1)]
    rw [H]; clear H
    go_enter Try.func24, Try.ntmps24
    go_wp2_with (fail)
    go_returns
    exact ⟨rfl, by go_grown⟩
  · by_cases h2 : 3 < i
    · have H : failE f i = 2 := by unfold failE; rw [if_pos (Or.inr h2)]
      rw [H]; clear H
      go_enter Try.func24, Try.ntmps24
      go_wp2_with (fail)
      go_returns
      exact ⟨rfl, by go_grown⟩
    · by_cases h3 : 0 ≤ f
      · have H : failE f i = 5 := by unfold failE; rw [if_neg (by omega), if_pos h3]
        rw [H]; clear H
        go_enter Try.func24, Try.ntmps24
        go_wp2_with (fail)
        go_returns
        exact ⟨rfl, by go_grown⟩
      · have H : failE f i = 0 := by unfold failE; rw [if_neg (by omega), if_neg h3]
        rw [H, if_pos rfl]
        have hi : i = 0 ∨ i = 1 ∨ i = 2 ∨ i = 3 := by omega
        clear H h1 h2
        rcases hi with rfl | rfl | rfl | rfl
        all_goals
          go_enter Try.func24, Try.ntmps24
          go_wp2_with (fail)
          go_returns
          exact ⟨by simp, by go_grown⟩
set_option maxHeartbeats 1600000 in
theorem refcommand_any (s0 s1 s2 s3 f c0 c1 c2 c3 : Int) (w : World) (ok : okS s0 s1 s2 s3 f) :
    Calls Try.prog 22 #[.agg #[.int .i64 s0, .int .i64 s1, .int .i64 s2, .int .i64 s3, .int .i64 f], .agg #[.int .i64 c0, .int .i64 c1, .int .i64 c2, .int .i64 c3]] w fun e w' =>
      e = .returned (four (if f = 0 then 0 else cmdI s0 c0) (if f = 1 then 0 else cmdI s1 c1) (if f = 2 then 0 else cmdI s2 c2) (if f = 3 then 0 else cmdI s3 c3)) ∧ Below w.heap.size w w' := by
  obtain ⟨b1, b2, b3, b4, b5, b6, b7, b8⟩ := okS_bd ok
  obtain ⟨p0, q0⟩ := fric_bd ⟨b1, b2⟩
  obtain ⟨p1, q1⟩ := fric_bd ⟨b3, b4⟩
  obtain ⟨p2, q2⟩ := fric_bd ⟨b5, b6⟩
  obtain ⟨p3, q3⟩ := fric_bd ⟨b7, b8⟩
  obtain ⟨k0, l0⟩ := clamp_bd c0 (-16777216) 16777216 (by omega)
  obtain ⟨k1, l1⟩ := clamp_bd c1 (-16777216) 16777216 (by omega)
  obtain ⟨k2, l2⟩ := clamp_bd c2 (-16777216) 16777216 (by omega)
  obtain ⟨k3, l3⟩ := clamp_bd c3 (-16777216) 16777216 (by omega)
  have hf := okS_f ok
  clear ok
  rcases hf with rfl | rfl | rfl | rfl | rfl
  all_goals
    go_enter Try.func22, Try.ntmps22
    go_wp2_with (fail)
    refine wp_loop_rounds 5 ?_
    iterate 4
      rw [rounds_succ]
      go_wp2_with (first | ((with_reducible refine (refclamp_any _ _ _ _).mono ?_); rintro e w' ⟨rfl, rfl⟩) | ((with_reducible refine (reffric_any _ _ (by omega) (by omega)).mono ?_); rintro e w' ⟨rfl, rfl⟩))
      try (refine region_still_tail 16 (by kernel_rfl) (by kernel_rfl) ?_; simp only [List.take_succ_cons, List.take_zero, List.drop_succ_cons, List.drop_zero]; repeat still_step)
      try (still_call (still_of (refclamp_any _ _ _ _)); repeat still_step)
      try (still_call (still_of (reffric_any _ _ (by omega) (by omega))); repeat still_step)
      try (refine wpStill_nil ?_; go_wp2_with (fail))
    rw [rounds_succ]
    go_wp2_with (fail)
    go_returns
    refine ⟨?_, by go_grown⟩
    simp [four, cmdI]
end Go.Proofs.Ytcmmjikkoebboaa
