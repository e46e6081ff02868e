/-
  The walk of the law WheelsAllocates: it returns true and leaves old memory as it was. Conditions: none.
-/
import Derived.Test.YtcmmjikkoebboaaAwake
namespace Go.Proofs.Ytcmmjikkoebboaa
open Go.RowKit Kit
set_option linter.unusedVariables false
set_option maxHeartbeats 800000 in
theorem WheelsAllocates_walk (a0_0 : Int) (a0_1 : Int) (a0_2 : Int) (a1 : Int) (w : World) (w0_0 : (Lit.int .i64 a0_0).wf = true) (w0_1 : (Lit.int .i64 a0_1).wf = true) (w0_2 : (Lit.int .i64 a0_2).wf = true) (w1 : (Lit.int .i64 a1).wf = true) :
    Calls Try.prog 3 #[.agg #[.int .i64 a0_0, .int .i64 a0_1, .int .i64 a0_2], .int .i64 a1] w fun e w' => e = .returned (.bool true) ∧ Below w.heap.size w w' := by
  clear w0_0 w0_1 w0_2 w1
  obtain ⟨a, b, c, d, er, hv⟩ := allocV_form a0_0 a0_1 a0_2 a1
  have HA := Lib.hid (alloc_any a0_0 a0_1 a0_2 a1)
  have HR := Lib.hid (refalloc_any a0_0 a0_1 a0_2 a1)
  rw [hv] at HA HR
  clear hv
  go_enter Try.func3, Try.ntmps3
  go_wp2_with (fail)
  refine (HA.out _).mono ?_
  rintro e w1 ⟨rfl, hb1⟩
  obtain ⟨hc1, hf1⟩ := bcell hb1
  have hz1 := hb1.size
  simp only [World.size_alloc] at hz1 hc1 hf1
  have B1 := Lib.hid hb1; clear hb1
  have q1 : w.heap.size < w1.heap.size := by omega
  have q2 : w.heap.size < w1.heap.size + 1 := by omega
  have q3 : w.heap.size ≤ w1.heap.size := by omega
  go_wp2_with (fail)
  refine (HR.out _).mono ?_
  rintro e w2 ⟨rfl, hb2⟩
  obtain ⟨hc2, hf2⟩ := bcell hb2
  have hz2 := hb2.size
  simp only [World.size_alloc] at hz2 hc2 hf2
  have B2 := Lib.hid hb2; clear hb2
  have q4 : w.heap.size < w2.heap.size := by omega
  have q5 : w1.heap.size < w2.heap.size := by omega
  go_wp2_with (fail)
  refine (awake_any _).mono ?_
  rintro e w3 ⟨rfl, hb3⟩
  go_wp2_with (fail)
  go_ret
  refine ⟨rfl, ?_⟩
  exact bl_step (bl_alloc (bl_step (bl_alloc (bl_step (bl_alloc (Below.refl _ _) _) B1.out) _) B2.out) _) hb3
end Go.Proofs.Ytcmmjikkoebboaa
