/-
  The walks of the functions of package wheels and of its specification that only compute: Valid, is, Clamp, friction, Allocate. Conditions: none but the bounds that each names.
-/
import Derived.Test.YtcmmjikkoebboaaKit
import Derived.Test.YtcmmjikkoebboaaRows
namespace Go.Proofs.Ytcmmjikkoebboaa
open Go.RowKit Kit

@[go_sem] theorem run_max_int4 (P : Program) (w : World) (ts : Array TypeId) (t : TypeId) (k k' k'' k3 : IntKind) (x y z u : Int) :
    (Builtin.max_ ts t #[.int k x, .int k' y, .int k'' z, .int k3 u]).run P w = .ok (.int k (max (max (max x y) z) u)) w := by
  simp [Builtin.max_, Builtin.max2]; omega
@[go_sem] theorem run_min_int4 (P : Program) (w : World) (ts : Array TypeId) (t : TypeId) (k k' k'' k3 : IntKind) (x y z u : Int) :
    (Builtin.min_ ts t #[.int k x, .int k' y, .int k'' z, .int k3 u]).run P w = .ok (.int k (min (min (min x y) z) u)) w := by
  simp [Builtin.min_, Builtin.min2]; omega

def inV (a : Int) : Bool := decide (-1099511627776 ≤ a ∧ a ≤ 1099511627776)
def vld (d0 d1 d2 : Int) : Bool := inV d0 && inV d1 && inV d2
def isB (f : Int) : Bool := decide (-1 ≤ f ∧ f ≤ 3)

theorem vld_bd {d0 d1 d2 : Int} (h : vld d0 d1 d2 = true) : -1099511627776 ≤ d0 ∧ d0 ≤ 1099511627776 ∧ -1099511627776 ≤ d1 ∧ d1 ≤ 1099511627776 ∧ -1099511627776 ≤ d2 ∧ d2 ≤ 1099511627776 := by
  simp only [vld, inV, Bool.and_eq_true, decide_eq_true_eq] at h; omega
theorem isB_cases {f : Int} (h : isB f = true) : f = -1 ∨ f = 0 ∨ f = 1 ∨ f = 2 ∨ f = 3 := by
  simp only [isB, decide_eq_true_eq] at h; omega

theorem within_any (a : Int) (w : World) :
    Calls Try.prog 37 #[.int .i64 a] w fun e w' => e = .returned (.bool (inV a)) ∧ w = w' := by
  go_enter Try.func37, Try.ntmps37
  go_wp2
  all_goals (go_ret; exact ⟨ret_bool (by rw [Bool.eq_iff_iff]; simp [inV]; omega), rfl⟩)

set_option maxHeartbeats 400000 in
theorem valid_any (d0 d1 d2 : Int) (w : World) :
    Calls Try.prog 28 #[.agg #[.int .i64 d0, .int .i64 d1, .int .i64 d2]] w fun e w' => e = .returned (.bool (vld d0 d1 d2)) ∧ w.alloc (.cells #[.int .i64 d0, .int .i64 d1, .int .i64 d2] 23) = w' := by
  go_enter Try.func28, Try.ntmps28
  go_wp2_with (with_reducible refine (within_any _ _).mono ?_; rintro e w' ⟨rfl, rfl⟩)
  all_goals (go_ret; exact ⟨ret_bool (by simp [vld, *]), rfl⟩)

set_option maxHeartbeats 400000 in
theorem refvalid_any (d0 d1 d2 : Int) (w : World) :
    Calls Try.prog 30 #[.agg #[.int .i64 d0, .int .i64 d1, .int .i64 d2]] w fun e w' => e = .returned (.bool (vld d0 d1 d2)) ∧ w.alloc (.cells #[.int .i64 d0, .int .i64 d1, .int .i64 d2] 23) = w' := by
  go_enter Try.func30, Try.ntmps30
  go_wp2
  refine wp_loop_rounds 4 ?_
  repeat any_goals (rw [rounds_succ]; go_wp2)
  all_goals (go_ret; refine ⟨ret_bool ?_, rfl⟩)
  all_goals (rw [Bool.eq_iff_iff]; simp only [vld, inV, Bool.and_eq_true, decide_eq_true_eq, true_iff, Bool.false_eq_true, false_iff])
  all_goals omega

theorem is_any (f : Int) (w : World) :
    Calls Try.prog 29 #[.int .i64 f] w fun e w' => e = .returned (.bool (isB f)) ∧ w = w' := by
  go_enter Try.func29, Try.ntmps29
  go_wp2
  all_goals (go_ret; exact ⟨ret_bool (by rw [Bool.eq_iff_iff]; simp [isB]; omega), rfl⟩)

def zOf (d0 d1 d2 f : Int) : Int :=
  if f = -1 then (max (max (max d0 d1) d2) 0 + min (min (min d0 d1) d2) 0) / 2
  else if f = 0 then d0 else if f = 1 then d1 else if f = 2 then d2 else 0

def four (a b c d : Int) : Value := .agg #[.int .i64 a, .int .i64 b, .int .i64 c, .int .i64 d]
def allocV (d0 d1 d2 f : Int) : Value :=
  if vld d0 d1 d2 && isB f then .tuple #[four (d0 - zOf d0 d1 d2 f) (d1 - zOf d0 d1 d2 f) (d2 - zOf d0 d1 d2 f) (zOf d0 d1 d2 f), .int .i64 0]
  else .tuple #[four 0 0 0 0, .int .i64 2]

theorem ret_alloc {a b c d a' b' c' d' : Int} (h : a = a' ∧ b = b' ∧ c = c' ∧ d = d') :
    Ending.returned (.tuple #[.agg #[.int .i64 a, .int .i64 b, .int .i64 c, .int .i64 d], .int .i64 0]) = .returned (.tuple #[four a' b' c' d', .int .i64 0]) := by
  obtain ⟨rfl, rfl, rfl, rfl⟩ := h; rfl

set_option maxHeartbeats 400000 in
theorem alloc_bad (d0 d1 d2 f : Int) (w : World) (h : (vld d0 d1 d2 && isB f) = false) :
    Calls Try.prog 10 #[.agg #[.int .i64 d0, .int .i64 d1, .int .i64 d2], .int .i64 f] w fun e w' => e = .returned (allocV d0 d1 d2 f) ∧ Below w.heap.size w w' := by
  have H := Lib.hid h; clear h
  cases h1 : vld d0 d1 d2
  · go_enter Try.func10, Try.ntmps10
    go_wp2_with (first | (with_reducible refine (valid_any _ _ _ _).mono ?_; rintro e w' ⟨rfl, rfl⟩) | (with_reducible refine (is_any _ _).mono ?_; rintro e w' ⟨rfl, rfl⟩))
    go_returns
    refine ⟨by rw [allocV, H.out]; rfl, by go_grown⟩
  · have h2 : isB f = false := by have := H.out; rw [h1] at this; simpa using this
    go_enter Try.func10, Try.ntmps10
    go_wp2_with (first | (with_reducible refine (valid_any _ _ _ _).mono ?_; rintro e w' ⟨rfl, rfl⟩) | (with_reducible refine (is_any _ _).mono ?_; rintro e w' ⟨rfl, rfl⟩))
    go_returns
    refine ⟨by rw [allocV, H.out]; rfl, by go_grown⟩

set_option maxHeartbeats 800000 in
theorem alloc_ok (d0 d1 d2 f : Int) (w : World) (h1 : vld d0 d1 d2 = true) (h2 : isB f = true) :
    Calls Try.prog 10 #[.agg #[.int .i64 d0, .int .i64 d1, .int .i64 d2], .int .i64 f] w fun e w' => e = .returned (allocV d0 d1 d2 f) ∧ Below w.heap.size w w' := by
  obtain ⟨b1, b2, b3, b4, b5, b6⟩ := vld_bd h1
  have H : Hid ((vld d0 d1 d2 && isB f) = true) := by simp [Hid, h1, h2]
  rcases isB_cases h2 with rfl | rfl | rfl | rfl | rfl
  all_goals
    go_enter Try.func10, Try.ntmps10
    go_wp2_with (first | (with_reducible refine (valid_any _ _ _ _).mono ?_; rintro e w' ⟨rfl, rfl⟩) | (with_reducible refine (is_any _ _).mono ?_; rintro e w' ⟨rfl, rfl⟩))
    go_returns
    refine ⟨?_, by go_grown⟩
    rw [allocV, if_pos H.out]
    refine ret_alloc ?_
    simp only [zOf]
    refine ⟨?_, ?_, ?_, ?_⟩ <;> simp <;> omega

theorem alloc_any (d0 d1 d2 f : Int) (w : World) :
    Calls Try.prog 10 #[.agg #[.int .i64 d0, .int .i64 d1, .int .i64 d2], .int .i64 f] w fun e w' => e = .returned (allocV d0 d1 d2 f) ∧ Below w.heap.size w w' := by
  cases h1 : vld d0 d1 d2
  · exact alloc_bad d0 d1 d2 f w (by simp [h1])
  · cases h2 : isB f
    · exact alloc_bad d0 d1 d2 f w (by simp [h2])
    · exact alloc_ok d0 d1 d2 f w h1 h2
end Go.Proofs.Ytcmmjikkoebboaa
