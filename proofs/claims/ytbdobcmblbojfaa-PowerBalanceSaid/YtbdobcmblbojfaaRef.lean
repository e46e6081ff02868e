/-
  The walks of the reference's small functions and of both Panels. Conditions: those that each theorem names.
-/
import Derived.Test.YtbdobcmblbojfaaChkb
import Derived.Test.YtbdobcmblbojfaaKitf
namespace Go.Proofs.Ytbdobcmblbojfaa
open Go.RowKit Kit Go.Shelf
set_option linter.unusedVariables false
set_option linter.unusedSimpArgs false
/-- What Panel returns. -/
def panP (p q : Int) : Int := if p ≤ 0 ∨ q ≤ 0 then 0 else mn p 1073741824 * mn q 1073741824 / 1073741824
theorem panP_pos {p q : Int} (hp : ¬ p ≤ 0) (hq : ¬ q ≤ 0) : panP p q = mn p 1073741824 * mn q 1073741824 / 1073741824 := by unfold panP; rw [if_neg (by omega)]
theorem panP_no {p q : Int} (h : p ≤ 0 ∨ q ≤ 0) : panP p q = 0 := by unfold panP; rw [if_pos h]
theorem mn_in {x : Int} (h : ¬ x ≤ 0) : 1 ≤ mn x 1073741824 ∧ mn x 1073741824 ≤ 1073741824 := by unfold mn; omega
theorem mul_in {x y : Int} (h1 : 1 ≤ x ∧ x ≤ 1073741824) (h2 : 1 ≤ y ∧ y ≤ 1073741824) : 1 ≤ x * y ∧ x * y ≤ 1152921504606846976 := by
  have a := Int.mul_le_mul h1.1 h2.1 (by omega) (by omega)
  have b := Int.mul_le_mul h1.2 h2.2 (by omega) (by omega)
  omega
set_option maxHeartbeats 800000 in
theorem refpanel_any (p q : Int) (dark : Bool) (w : World) : Calls Try.prog 18 #[.int .i64 p, .int .i64 q, .bool dark] w fun e w' => e = .returned (.int .i64 (if dark then 0 else panP p q)) ∧ w = w' := by
  have gmn := fun w x y => run_min_mn Try.prog w #[2, 2] 2 .i64 .i64 x y
  cases dark with
  | true =>
    go_enter Try.func18, Try.ntmps18
    go_wp2_with (fail)
    go_ret
    exact ⟨rfl, rfl⟩
  | false =>
    by_cases hp : p ≤ 0
    · have e := panP_no (p := p) (q := q) (.inl hp)
      simp only [e]
      clear e
      go_enter Try.func18, Try.ntmps18
      go_wp2_with (fail)
      go_ret
      exact ⟨rfl, rfl⟩
    · by_cases hq : q ≤ 0
      · have e := panP_no (p := p) (q := q) (.inr hq)
        simp only [e]
        clear e
        go_enter Try.func18, Try.ntmps18
        go_wp2_with (fail)
        go_ret
        exact ⟨rfl, rfl⟩
      · have e := panP_pos hp hq
        have hx := mn_in hp
        have hy := mn_in hq
        have hm := mul_in hx hy
        obtain ⟨R, hR⟩ : ∃ R, R = panP p q := ⟨_, rfl⟩
        rw [← hR] at e ⊢
        have g1 := fun w => gmn w p 1073741824
        have g2 := fun w => gmn w q 1073741824
        generalize mn p 1073741824 = x at *
        generalize mn q 1073741824 = y at *
        obtain ⟨z, hz⟩ : ∃ z, z = x * y := ⟨_, rfl⟩
        rw [← hz] at hm e
        have HE := Lib.hid e
        have hw : IntKind.i64.wrap (x * y) = z := by rw [← hz]; exact IntWalk.i64_in _ (by omega)
        clear gmn e hz hR
        go_enter Try.func18, Try.ntmps18
        go_wp2_with (fail)
        go_ret
        exact ⟨by rw [HE.out]; rfl, rfl⟩
end Go.Proofs.Ytbdobcmblbojfaa
