/-
  The walks of package wheels: Clamp, friction, New, and the worlds that a method may leave. Conditions: the bounds that each names.
-/
import Derived.Test.YtcmmjikkoebboaaRefs
namespace Go.Proofs.Ytcmmjikkoebboaa
open Go.RowKit Kit
@[go_sem] theorem index24_0 (a b c d : Int) (w : World) : (Instr.index 24 (.agg #[.int .i64 a, .int .i64 b, .int .i64 c, .int .i64 d]) (.int .i64 0)).run Try.prog w = .ok (.int .i64 a) w := by kernel_rfl
@[go_sem] theorem index24_1 (a b c d : Int) (w : World) : (Instr.index 24 (.agg #[.int .i64 a, .int .i64 b, .int .i64 c, .int .i64 d]) (.int .i64 1)).run Try.prog w = .ok (.int .i64 b) w := by kernel_rfl
@[go_sem] theorem index24_2 (a b c d : Int) (w : World) : (Instr.index 24 (.agg #[.int .i64 a, .int .i64 b, .int .i64 c, .int .i64 d]) (.int .i64 2)).run Try.prog w = .ok (.int .i64 c) w := by kernel_rfl
@[go_sem] theorem index24_3 (a b c d : Int) (w : World) : (Instr.index 24 (.agg #[.int .i64 a, .int .i64 b, .int .i64 c, .int .i64 d]) (.int .i64 3)).run Try.prog w = .ok (.int .i64 d) w := by kernel_rfl

def clampI (a lo hi : Int) : Int := min (max a lo) hi
theorem clamp_any (a lo hi : Int) (w : World) :
    Calls Try.prog 32 #[.int .i64 a, .int .i64 lo, .int .i64 hi] w fun e w' => e = .returned (.int .i64 (clampI a lo hi)) ∧ w = w' := by
  have gmn := fun w x y => run_min_mn Try.prog w #[2, 2] 2 .i64 .i64 x y
  have gmx := fun w x y => run_max_mx Try.prog w #[2, 2] 2 .i64 .i64 x y
  go_enter Try.func32, Try.ntmps32
  go_wp2
  all_goals (go_ret; exact ⟨ret_int rfl, rfl⟩)
theorem refclamp_any (a lo hi : Int) (w : World) :
    Calls Try.prog 35 #[.int .i64 a, .int .i64 lo, .int .i64 hi] w fun e w' => e = .returned (.int .i64 (clampI a lo hi)) ∧ w = w' := by
  go_enter Try.func35, Try.ntmps35
  go_wp2
  all_goals (go_ret; exact ⟨ret_int (by simp only [clampI]; omega), rfl⟩)
def fric (h : Int) : Int := if 0 ≤ h then h / 1024 else -(-h / 1024)
theorem fric_any (h : Int) (w : World) (b1 : -16777216 ≤ h) (b2 : h ≤ 16777216) :
    Calls Try.prog 33 #[.int .i64 h] w fun e w' => e = .returned (.int .i64 (fric h)) ∧ w = w' := by
  go_enter Try.func33, Try.ntmps33
  go_wp2
  go_ret
  exact ⟨ret_int (by simp only [fric, tdiv_eq_if]), rfl⟩
theorem reffric_any (h : Int) (w : World) (b1 : -16777216 ≤ h) (b2 : h ≤ 16777216) :
    Calls Try.prog 36 #[.int .i64 h] w fun e w' => e = .returned (.int .i64 (fric h)) ∧ w = w' := by
  have p : ∀ (h : Int) (w : World), 0 ≤ h → h ≤ 16777216 → Calls Try.prog 36 #[.int .i64 h] w fun e w' => e = .returned (.int .i64 (h / 1024)) ∧ w = w' := by
    intro h w h0 h1
    go_enter Try.func36, Try.ntmps36
    go_wp2_with fail
    go_ret
    exact ⟨ret_int (by omega), rfl⟩
  by_cases h0 : 0 ≤ h
  · simpa [fric, h0] using p h w h0 b2
  · go_enter Try.func36, Try.ntmps36
    go_wp2_with ((with_reducible refine (p _ _ (by omega) (by omega)).mono ?_); rintro e w' ⟨rfl, rfl⟩)
    go_ret
    exact ⟨ret_int (by simp only [fric]; rw [if_neg (by omega)]), rfl⟩

def setO (s0 s1 s2 s3 f : Int) : Obj := .cells #[.int .i64 s0, .int .i64 s1, .int .i64 s2, .int .i64 s3, .int .i64 f, .bool true] 58
def okS (s0 s1 s2 s3 f : Int) : Prop := (-16777216 ≤ s0 ∧ s0 ≤ 16777216) ∧ (-16777216 ≤ s1 ∧ s1 ≤ 16777216) ∧ (-16777216 ≤ s2 ∧ s2 ≤ 16777216) ∧ (-16777216 ≤ s3 ∧ s3 ≤ 16777216) ∧
  (-1 ≤ f ∧ f ≤ 3) ∧ (f = 0 → s0 = 0) ∧ (f = 1 → s1 = 0) ∧ (f = 2 → s2 = 0) ∧ (f = 3 → s3 = 0)
instance (s0 s1 s2 s3 f : Int) : Decidable (okS s0 s1 s2 s3 f) := by unfold okS; infer_instance
def NewPost (s0 s1 s2 s3 f : Int) (w : World) (e : Ending) (w' : World) : Prop :=
  (okS s0 s1 s2 s3 f ∧ e = .returned (.tuple #[.pointer (some ⟨w.heap.size + 1, 0, none⟩), .int .i64 0]) ∧ w' = (w.alloc (.cells #[.int .i64 s0, .int .i64 s1, .int .i64 s2, .int .i64 s3] 24)).alloc (setO s0 s1 s2 s3 f)) ∨
  (¬ okS s0 s1 s2 s3 f ∧ e = .returned (.tuple #[.pointer none, .int .i64 2]) ∧ w' = w.alloc (.cells #[.int .i64 s0, .int .i64 s1, .int .i64 s2, .int .i64 s3] 24))

set_option maxHeartbeats 800000 in
theorem new_any (s0 s1 s2 s3 f : Int) (w : World) :
    Calls Try.prog 16 #[.agg #[.int .i64 s0, .int .i64 s1, .int .i64 s2, .int .i64 s3], .int .i64 f] w (NewPost s0 s1 s2 s3 f w) := by
  by_cases h2 : isB f = true
  · rcases isB_cases h2 with rfl | rfl | rfl | rfl | rfl
    all_goals
      go_enter Try.func16, Try.ntmps16
      go_wp2_with (first | (with_reducible refine (is_any _ _).mono ?_; rintro e w' ⟨rfl, rfl⟩))
      refine wp_loop_rounds 5 ?_
      repeat any_goals (rw [rounds_succ]; go_wp2_with (fail))
      all_goals go_ret2
      all_goals (try simp only [bne_eq_false_iff_eq, bne_iff_ne] at *)
      all_goals first | exact Or.inl ⟨by unfold okS; omega, rfl, rfl⟩ | exact Or.inr ⟨by unfold okS; omega, rfl, rfl⟩
  · have h3 : isB f = false := by simpa using h2
    have h4 : ¬ okS s0 s1 s2 s3 f := by simp only [isB, decide_eq_false_iff_not] at h3; unfold okS; omega
    have H4 := Lib.hid h4; clear h4 h2
    go_enter Try.func16, Try.ntmps16
    go_wp2_with (first | (with_reducible refine (is_any _ _).mono ?_; rintro e w' ⟨rfl, rfl⟩))
    go_ret2
    exact Or.inr ⟨H4.out, rfl, rfl⟩

theorem none_any (b : Nat) (w : World) (h : w.cell? ⟨b, 5, none⟩ = some (.bool true)) :
    Calls Try.prog 31 #[.pointer (some ⟨b, 0, none⟩)] w fun e w' => e = .returned (.bool false) ∧ w = w' := by
  go_enter Try.func31, Try.ntmps31
  go_wp2
  go_ret
  exact ⟨rfl, rfl⟩
end Go.Proofs.Ytcmmjikkoebboaa
