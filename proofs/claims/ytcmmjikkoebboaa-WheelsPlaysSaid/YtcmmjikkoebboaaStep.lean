/-
  The walk of wheels.Set.Step. Conditions: the object lies at its block; its numbers are those that New lets.
-/
import Derived.Test.YtcmmjikkoebboaaMeths
namespace Go.Proofs.Ytcmmjikkoebboaa
open Go.RowKit Kit
set_option maxHeartbeats 1600000 in
theorem step_any (b : Nat) (s0 s1 s2 s3 f c0 c1 c2 c3 : Int) (w : World) (ok : okS s0 s1 s2 s3 f) (h : w.heap[b]? = some (setO s0 s1 s2 s3 f)) :
    Calls Try.prog 17 #[.pointer (some ⟨b, 0, none⟩), .agg #[.int .i64 c0, .int .i64 c1, .int .i64 c2, .int .i64 c3]] w fun e w' => e = .returned (.int .i64 0) ∧
      w'.heap[b]? = some (setO (if f = 0 then s0 else stepI s0 c0) (if f = 1 then s1 else stepI s1 c1) (if f = 2 then s2 else stepI s2 c2) (if f = 3 then s3 else stepI s3 c3) f) ∧ Mod (· = b) w w' := by
  have hb : b < w.heap.size := by
    rcases Nat.lt_or_ge b w.heap.size with h' | h'
    · exact h'
    · rw [Array.getElem?_eq_none h'] at h; cases h
  have x0 : w.cell? ⟨b, 0, none⟩ = some (.int .i64 s0) := cell_of h rfl
  have x1 : w.cell? ⟨b, 1, none⟩ = some (.int .i64 s1) := cell_of h rfl
  have x2 : w.cell? ⟨b, 2, none⟩ = some (.int .i64 s2) := cell_of h rfl
  have x3 : w.cell? ⟨b, 3, none⟩ = some (.int .i64 s3) := cell_of h rfl
  have x4 : w.cell? ⟨b, 4, none⟩ = some (.int .i64 f) := cell_of h rfl
  have x5 : w.cell? ⟨b, 5, none⟩ = some (.bool true) := cell_of h rfl
  have y0 : w.frozen? ⟨b, 0, none⟩ = false := free_of h
  have y1 : w.frozen? ⟨b, 1, none⟩ = false := free_of h
  have y2 : w.frozen? ⟨b, 2, none⟩ = false := free_of h
  have y3 : w.frozen? ⟨b, 3, none⟩ = false := free_of h
  obtain ⟨⟨b1, b2⟩, ⟨b3, b4⟩, ⟨b5, b6⟩, ⟨b7, b8⟩, ⟨b9, b10⟩, z0, z1, z2, z3⟩ := ok
  clear z0 z1 z2 z3
  obtain ⟨p0, q0⟩ := fric_bd ⟨b1, b2⟩
  obtain ⟨p1, q1⟩ := fric_bd ⟨b3, b4⟩
  obtain ⟨p2, q2⟩ := fric_bd ⟨b5, b6⟩
  obtain ⟨p3, q3⟩ := fric_bd ⟨b7, b8⟩
  obtain ⟨k0, l0⟩ := clamp_bd c0 (-1048576) 1048576 (by omega)
  obtain ⟨k1, l1⟩ := clamp_bd c1 (-1048576) 1048576 (by omega)
  obtain ⟨k2, l2⟩ := clamp_bd c2 (-1048576) 1048576 (by omega)
  obtain ⟨k3, l3⟩ := clamp_bd c3 (-1048576) 1048576 (by omega)
  have H := Lib.hid h; clear h
  obtain rfl | rfl | rfl | rfl | rfl : f = -1 ∨ f = 0 ∨ f = 1 ∨ f = 2 ∨ f = 3 := by omega
  all_goals
    go_enter Try.func17, Try.ntmps17
    go_wp2_with (first | ((with_reducible refine (none_any _ _ (by go_simp)).mono ?_); rintro e w' ⟨rfl, rfl⟩))
    refine wp_loop_rounds 5 ?_
    iterate 4
      rw [rounds_succ]
      go_wp2_with (first | ((with_reducible refine (clamp_any _ _ _ _).mono ?_); rintro e w' ⟨rfl, rfl⟩) | ((with_reducible refine (fric_any _ _ (by omega) (by omega)).mono ?_); rintro e w' ⟨rfl, rfl⟩))
      try (refine region_still_tail 8 (by kernel_rfl) (by kernel_rfl) ?_; simp only [List.take_succ_cons, List.take_zero, List.drop_succ_cons, List.drop_zero]; repeat still_step)
      try (still_call (still_of (clamp_any _ _ _ _)); repeat still_step)
      try (refine wpStill_nil ?_; go_wp2_with (fail))
    rw [rounds_succ]
    go_wp2_with (fail)
    go_ret
    refine ⟨rfl, ?_, ?_⟩
    · apply hp_as
      focus
        repeat' (first | (with_reducible apply hp_drew) | (with_reducible apply hp_old) | (with_reducible apply hp_set))
        exact H.out
      simp [setO, stepI]
    · repeat' (first | (with_reducible exact Mod.refl _ _) | (with_reducible apply Mod.drew) | (with_reducible apply Mod.alloc) | (with_reducible apply mod_at))
end Go.Proofs.Ytcmmjikkoebboaa
