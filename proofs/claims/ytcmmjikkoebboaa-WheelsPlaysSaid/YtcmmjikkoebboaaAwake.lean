/-
  The walk of the law's own awake, and New's contract in two parts. Conditions: none.
-/
import Derived.Test.YtcmmjikkoebboaaStep
import Derived.Test.YtcmmjikkoebboaaSmall
import Derived.Test.YtcmmjikkoebboaaEqs
namespace Go.Proofs.Ytcmmjikkoebboaa
open Go.RowKit Kit
theorem new_ok {s0 s1 s2 s3 f : Int} (ok : okS s0 s1 s2 s3 f) (w : World) :
    Calls Try.prog 16 #[.agg #[.int .i64 s0, .int .i64 s1, .int .i64 s2, .int .i64 s3], .int .i64 f] w fun e w' =>
      e = .returned (.tuple #[.pointer (some ⟨w.heap.size + 1, 0, none⟩), .int .i64 0]) ∧ w'.heap[w.heap.size + 1]? = some (setO s0 s1 s2 s3 f) ∧ w.heap.size + 1 < w'.heap.size ∧ Below w.heap.size w w' :=
  (new_any s0 s1 s2 s3 f w).mono fun e w' h => by
    rcases h with ⟨_, rfl, rfl⟩ | ⟨h, _⟩
    · refine ⟨rfl, ?_, by simp, ((Below.refl _ _).alloc (Nat.le_refl _) _).alloc (by simp) _⟩
      have := hp_new (w.alloc (.cells #[.int .i64 s0, .int .i64 s1, .int .i64 s2, .int .i64 s3] 24)) (setO s0 s1 s2 s3 f)
      simpa using this
    · exact (h ok).elim
theorem new_bad {s0 s1 s2 s3 f : Int} (ok : ¬ okS s0 s1 s2 s3 f) (w : World) :
    Calls Try.prog 16 #[.agg #[.int .i64 s0, .int .i64 s1, .int .i64 s2, .int .i64 s3], .int .i64 f] w fun e w' =>
      e = .returned (.tuple #[.pointer none, .int .i64 2]) ∧ Below w.heap.size w w' :=
  (new_any s0 s1 s2 s3 f w).mono fun e w' h => by
    rcases h with ⟨h, _⟩ | ⟨_, rfl, rfl⟩
    · exact (ok h).elim
    · exact ⟨rfl, (Below.refl _ _).alloc (Nat.le_refl _) _⟩

theorem awake_alloc : allocV 10 (-4) 6 (-1) = .tuple #[.agg #[.int .i64 7, .int .i64 (-7), .int .i64 3, .int .i64 3], .int .i64 0] := by kernel_rfl
theorem awake_step : (if (-1 : Int) = 0 then 2048 else stepI 2048 5) = 2051 ∧ (if (-1 : Int) = 1 then 0 else stepI 0 0) = 0 ∧ (if (-1 : Int) = 2 then 0 else stepI 0 0) = 0 ∧ (if (-1 : Int) = 3 then 0 else stepI 0 0) = 0 := by decide
set_option maxHeartbeats 1600000 in
theorem awake_any (w : World) : Calls Try.prog 12 #[] w fun e w' => e = .returned (.bool true) ∧ Below w.heap.size w w' := by
  go_enter Try.func12, Try.ntmps12
  go_wp2_with (fail)
  refine (alloc_any _ _ _ _ _).mono ?_
  rw [awake_alloc]
  rintro e w1 ⟨rfl, hb1⟩
  have hz1 := hb1.size
  go_wp2_with (fail)
  refine (new_ok (s0 := 2048) (s1 := 0) (s2 := 0) (s3 := 0) (f := -1) (by decide) _).mono ?_
  rintro e w2 ⟨rfl, hs2, hz2, hb2⟩
  simp only [World.size_alloc] at hs2 hz2 hb2
  obtain ⟨hc2, hf2⟩ := bcell hb2
  have H2 := Lib.hid hs2; clear hs2
  go_wp2_with (fail)
  refine (step_any _ 2048 0 0 0 (-1) 5 0 0 0 _ (by decide) H2.out).mono ?_
  rintro e w3 ⟨rfl, hs3, hm3⟩
  rw [awake_step.1, awake_step.2.1, awake_step.2.2.1, awake_step.2.2.2] at hs3
  obtain ⟨hc3, hf3⟩ := mcell hm3
  have H3 := Lib.hid hs3; clear hs3
  have hz3 := hm3.size
  go_wp2_with (fail)
  refine (speeds_any _ _ _ _ _ _ _ H3.out).mono ?_
  unfold four
  rintro e w4 ⟨rfl, hb4⟩
  have H4 := Lib.hid (below_keeps hb4 H3.out (lt_of_obj H3.out))
  go_wp2_with (fail)
  refine (failed_any _ _ _ _ _ _ _ H4.out).mono ?_
  rintro e w5 ⟨rfl, rfl⟩
  go_wp2_with (fail)
  go_ret
  refine ⟨rfl, ?_⟩
  have g1 := bl_alloc hb1 (.cells #[.int .i64 7, .int .i64 (-7), .int .i64 3, .int .i64 3] 24)
  have g2 := g1.trans (hb2.mono (by omega))
  exact bl_step (bl_mod g2 hm3 (by omega)) hb4
end Go.Proofs.Ytcmmjikkoebboaa
