/-
  The walks of the laws on Panel and Lasts. Conditions: none.
-/
import Derived.Test.YtbdobcmblbojfaaShnb
namespace Go.Proofs.Ytbdobcmblbojfaa
open Go.RowKit Kit Go.Shelf
set_option linter.unusedVariables false
theorem panP_nonneg (p q : Int) : 0 ≤ panP p q ∧ panP p q ≤ 1073741824 := by
  unfold panP
  split
  · omega
  · rename_i h
    have hx := mn_in (x := p) (by omega)
    have hy := mn_in (x := q) (by omega)
    have hm := mul_in hx hy
    have h1 : mn p 1073741824 * mn q 1073741824 ≤ 1073741824 * 1073741824 := by omega
    omega
theorem mul_mono {x y y' : Int} (h : 0 ≤ x) (hy : y ≤ y') : x * y ≤ x * y' := Int.mul_le_mul_of_nonneg_left hy h
theorem mn_mono {x y : Int} (h : x ≤ y) : mn x 1073741824 ≤ mn y 1073741824 := by unfold mn; omega
theorem panP_right {p q q' : Int} (h : q ≤ q') : panP p q ≤ panP p q' := by
  by_cases h1 : p ≤ 0 ∨ q ≤ 0
  · rw [panP_no h1]; exact (panP_nonneg p q').1
  · rw [panP_pos (by omega) (by omega), panP_pos (by omega) (by omega)]
    have hx := mn_in (x := p) (by omega)
    have := mul_mono (x := mn p 1073741824) (by omega) (mn_mono h)
    omega
theorem panP_left {p p' q : Int} (h : p ≤ p') : panP p q ≤ panP p' q := by
  by_cases h1 : p ≤ 0 ∨ q ≤ 0
  · rw [panP_no h1]; exact (panP_nonneg p' q).1
  · rw [panP_pos (by omega) (by omega), panP_pos (by omega) (by omega)]
    have hx := mn_in (x := q) (by omega)
    have := mul_mono (x := mn q 1073741824) (by omega) (mn_mono h)
    rw [Int.mul_comm (mn p _), Int.mul_comm (mn p' _)]
    omega
set_option maxRecDepth 100000 in
set_option maxHeartbeats 12800000 in
theorem PowerPanels_walk (a0 : Int) (a1 : Int) (a2 : Int) (w : World) (w0 : (Lit.int .i64 a0).wf = true) (w1 : (Lit.int .i64 a1).wf = true) (w2 : (Lit.int .i64 a2).wf = true) :
    Calls Try.prog 4 #[.int .i64 a0, .int .i64 a1, .int .i64 a2] w fun e w' => e = .returned (.bool true) ∧ Below w.heap.size w w' := by
  obtain ⟨p1, p2⟩ := panP_nonneg a0 a1
  have A := Lib.hid (panel_any a0 a1 false)
  have B := Lib.hid (panel_any a0 a2 false)
  have C := Lib.hid (panel_any a2 a1 false)
  have D := Lib.hid (refpanel_any a0 a1 false)
  have E := Lib.hid (panel_any a0 a1 true)
  simp only [Bool.false_eq_true, if_false, if_true] at A B C D E
  have f1 : a1 ≤ a2 → panP a0 a1 ≤ panP a0 a2 := panP_right
  have f2 : a2 ≤ a1 → panP a0 a2 ≤ panP a0 a1 := panP_right
  have f3 : a0 ≤ a2 → panP a0 a1 ≤ panP a2 a1 := panP_left
  have f4 : a2 ≤ a0 → panP a2 a1 ≤ panP a0 a1 := panP_left
  generalize panP a0 a1 = x at *
  generalize panP a0 a2 = y at *
  generalize panP a2 a1 = z at *
  have h1 := wf64 w0
  have h2 := wf64 w1
  have h3 := wf64 w2
  have hne : (x != x) = false := by simp
  have Q1 := Lib.hid f1; have Q2 := Lib.hid f2; have Q3 := Lib.hid f3; have Q4 := Lib.hid f4
  clear f1 f2 f3 f4 w0 w1 w2
  go_enter Try.func4, Try.ntmps4
  go_wp2_with (fail)
  refine (shown_any _).mono ?_
  rintro e W1 ⟨rfl, b1⟩
  have B1 := Lib.hid b1
  clear b1
  go_wp2_with (fail)
  refine (A.out _).mono ?_
  rintro e _ ⟨rfl, rfl⟩
  go_wp2_with (fail)
  refine (B.out _).mono ?_
  rintro e _ ⟨rfl, rfl⟩
  go_wp2_with (fail)
  refine (C.out _).mono ?_
  rintro e _ ⟨rfl, rfl⟩
  go_wp2_with (fail)
  refine (D.out _).mono ?_
  rintro e _ ⟨rfl, rfl⟩
  go_wp2_with (fail)
  refine (E.out _).mono ?_
  rintro e _ ⟨rfl, rfl⟩
  (rcases Int.lt_trichotomy a1 a2 with h4 | h4 | h4) <;> (rcases Int.lt_trichotomy a0 a2 with h5 | h5 | h5)
  all_goals ((try have g1 := Q1.out (by omega)); (try have g2 := Q2.out (by omega)); (try have g3 := Q3.out (by omega)); (try have g4 := Q4.out (by omega)))
  all_goals (
    clear A B C D E Q1 Q2 Q3 Q4
    go_wp2_with (fail)
    go_ret
    exact ⟨rfl, B1.out⟩)
end Go.Proofs.Ytbdobcmblbojfaa
