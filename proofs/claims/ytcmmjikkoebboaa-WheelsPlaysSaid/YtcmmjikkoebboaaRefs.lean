/-
  The walk of the specification's Allocate: it returns what the program's does. Conditions: none.
-/
import Derived.Test.YtcmmjikkoebboaaPure
namespace Go.Proofs.Ytcmmjikkoebboaa
open Go.RowKit Kit

def mn (x y : Int) : Int := min x y
def mx (x y : Int) : Int := max x y
theorem run_max_mx (P : Program) (w : World) (ts : Array TypeId) (t : TypeId) (k k' : IntKind) (x y : Int) : (Builtin.max_ ts t #[.int k x, .int k' y]).run P w = .ok (.int k (mx x y)) w := by
  simp [Builtin.max_, Builtin.max2, mx]; omega
theorem run_min_mn (P : Program) (w : World) (ts : Array TypeId) (t : TypeId) (k k' : IntKind) (x y : Int) : (Builtin.min_ ts t #[.int k x, .int k' y]).run P w = .ok (.int k (mn x y)) w := by
  simp [Builtin.min_, Builtin.min2, mn]; omega

set_option maxHeartbeats 800000 in
theorem refalloc_ok (d0 d1 d2 f : Int) (w : World) (h1 : vld d0 d1 d2 = true) (h2 : isB f = true) :
    Calls Try.prog 11 #[.agg #[.int .i64 d0, .int .i64 d1, .int .i64 d2], .int .i64 f] w fun e w' => e = .returned (allocV d0 d1 d2 f) ∧ Below w.heap.size w w' := by
  obtain ⟨b1, b2, b3, b4, b5, b6⟩ := vld_bd h1
  have H : Hid ((vld d0 d1 d2 && isB f) = true) := by simp [Hid, h1, h2]
  have m1 : -1099511627776 ≤ mn (mn (mn 0 d0) d1) d2 ∧ mn (mn (mn 0 d0) d1) d2 ≤ 0 := by simp only [mn]; omega
  have m2 : 0 ≤ mx (mx (mx 0 d0) d1) d2 ∧ mx (mx (mx 0 d0) d1) d2 ≤ 1099511627776 := by simp only [mx]; omega
  obtain ⟨m11, m12⟩ := m1
  obtain ⟨m21, m22⟩ := m2
  have T := Lib.hid (tdiv_eq_if (mn (mn (mn 0 d0) d1) d2 + mx (mx (mx 0 d0) d1) d2) 2)
  have t1 : -1099511627776 ≤ (mn (mn (mn 0 d0) d1) d2 + mx (mx (mx 0 d0) d1) d2).tdiv 2 ∧ (mn (mn (mn 0 d0) d1) d2 + mx (mx (mx 0 d0) d1) d2).tdiv 2 ≤ 1099511627776 := by
    have := T.out; split at this <;> omega
  obtain ⟨t1, t2⟩ := t1
  have gmn := fun w x y => run_min_mn Try.prog w #[2, 2] 2 .i64 .i64 x y
  have gmx := fun w x y => run_max_mx Try.prog w #[2, 2] 2 .i64 .i64 x y
  rcases isB_cases h2 with rfl | rfl | rfl | rfl | rfl
  all_goals
    go_enter Try.func11, Try.ntmps11
    go_wp2_with (first | (with_reducible refine (refvalid_any _ _ _ _).mono ?_; rintro e w' ⟨rfl, rfl⟩))
  · refine wp_loop_rounds 4 ?_
    repeat any_goals (rw [rounds_succ]; go_wp2_with (fail))
    all_goals
      go_returns
      refine ⟨?_, by go_grown⟩
      rw [allocV, if_pos H.out]
      refine ret_alloc ?_
      have T' := T.out
      clear T H h1 h2
      simp only [zOf, if_true]
      generalize hs : (mn (mn (mn 0 d0) d1) d2 + mx (mx (mx 0 d0) d1) d2).tdiv 2 = q at *
      have e1 : max (max (max d0 d1) d2) 0 = mx (mx (mx 0 d0) d1) d2 := by simp only [mx]; omega
      have e2 : min (min (min d0 d1) d2) 0 = mn (mn (mn 0 d0) d1) d2 := by simp only [mn]; omega
      rw [e1, e2]
      clear e1 e2 hs
      generalize mx (mx (mx 0 d0) d1) d2 = hi at *
      generalize mn (mn (mn 0 d0) d1) d2 = lo at *
      refine ⟨?_, ?_, ?_, ?_⟩ <;> split at T' <;> omega
  all_goals
    go_returns
    refine ⟨?_, by go_grown⟩
    rw [allocV, if_pos H.out]
    refine ret_alloc ?_
    simp only [zOf]
    refine ⟨?_, ?_, ?_, ?_⟩ <;> simp

set_option maxHeartbeats 400000 in
theorem refalloc_bad (d0 d1 d2 f : Int) (w : World) (h : (vld d0 d1 d2 && isB f) = false) :
    Calls Try.prog 11 #[.agg #[.int .i64 d0, .int .i64 d1, .int .i64 d2], .int .i64 f] w fun e w' => e = .returned (allocV d0 d1 d2 f) ∧ Below w.heap.size w w' := by
  have H := Lib.hid h; clear h
  cases h1 : vld d0 d1 d2
  · go_enter Try.func11, Try.ntmps11
    go_wp2_with (first | (with_reducible refine (refvalid_any _ _ _ _).mono ?_; rintro e w' ⟨rfl, rfl⟩))
    go_returns
    refine ⟨by rw [allocV, H.out]; rfl, by go_grown⟩
  · have h2 : isB f = false := by have := H.out; rw [h1] at this; simpa using this
    have h3 : f < -1 ∨ 3 < f := by simp only [isB, decide_eq_false_iff_not] at h2; omega
    clear h2
    rcases h3 with h3 | h3
    · go_enter Try.func11, Try.ntmps11
      go_wp2_with (first | (with_reducible refine (refvalid_any _ _ _ _).mono ?_; rintro e w' ⟨rfl, rfl⟩))
      go_returns
      refine ⟨by rw [allocV, H.out]; rfl, by go_grown⟩
    · have h4 : ¬ f < -1 := by omega
      go_enter Try.func11, Try.ntmps11
      go_wp2_with (first | (with_reducible refine (refvalid_any _ _ _ _).mono ?_; rintro e w' ⟨rfl, rfl⟩))
      go_returns
      refine ⟨by rw [allocV, H.out]; rfl, by go_grown⟩

theorem refalloc_any (d0 d1 d2 f : Int) (w : World) :
    Calls Try.prog 11 #[.agg #[.int .i64 d0, .int .i64 d1, .int .i64 d2], .int .i64 f] w fun e w' => e = .returned (allocV d0 d1 d2 f) ∧ Below w.heap.size w w' := by
  cases h1 : vld d0 d1 d2
  · exact refalloc_bad d0 d1 d2 f w (by simp [h1])
  · cases h2 : isB f
    · exact refalloc_bad d0 d1 d2 f w (by simp [h2])
    · exact refalloc_ok d0 d1 d2 f w h1 h2
theorem allocV_form (d0 d1 d2 f : Int) : ∃ a b c d e, allocV d0 d1 d2 f = .tuple #[.agg #[.int .i64 a, .int .i64 b, .int .i64 c, .int .i64 d], .int .i64 e] := by
  unfold allocV; split <;> exact ⟨_, _, _, _, _, rfl⟩
end Go.Proofs.Ytcmmjikkoebboaa
