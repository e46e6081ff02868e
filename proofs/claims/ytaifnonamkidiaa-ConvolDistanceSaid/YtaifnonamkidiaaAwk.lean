/-
  The walks of awake, filled, combined and differ, and of Encode at an over-long message. Conditions: none.
-/
import Derived.Test.YtaifnonamkidiaaEnc
import Derived.Lib.SlBytesConst
namespace Go.Proofs.Ytaifnonamkidiaa
open Go.RowKit Kit
set_option linter.unusedVariables false
theorem encode_long (d : ByteArray) (hd : 1100 < d.size) (w : World) :
    Calls Try.prog 14 #[.string d] w fun e w' => e = .returned (.tuple #[.string ⟨#[]⟩, .int .i64 3]) ∧ w = w' := by
  have h : (1100 : Int) < (d.size : Int) := by omega
  clear hd
  go_enter Try.func14, Try.ntmps14
  go_wp2_with (fail)
  go_ret2
  exact ⟨rfl, rfl⟩
theorem awk_enc : strOfNums (encS (bitL ⟨#[]⟩ 6)).2 = ⟨#[0, 1, 0, 1, 0, 1, 0, 1, 0, 1, 0, 1]⟩ := by decide +kernel
theorem awk_step : nx 0 1 = 32 ∧ o1 0 1 = 1 ∧ o2 0 1 = 0 ∧ nx 32 0 = 16 ∧ o1 32 0 = 1 ∧ o2 32 0 = 1 := by decide +kernel
theorem step01 (w : World) : Calls Try.prog 9 #[.int .i64 0, .int .i64 1] w fun e w' => e = .returned (.tuple #[.int .i64 32, .int .i64 1, .int .i64 0]) ∧ w = w' := by
  have := step_in 0 1 (by omega) (by omega) w; obtain ⟨h1, h2, h3, _⟩ := awk_step; rw [h1, h2, h3] at this; exact this
theorem step320 (w : World) : Calls Try.prog 9 #[.int .i64 32, .int .i64 0] w fun e w' => e = .returned (.tuple #[.int .i64 16, .int .i64 1, .int .i64 1]) ∧ w = w' := by
  have := step_in 32 0 (by omega) (by omega) w; obtain ⟨_, _, _, h1, h2, h3⟩ := awk_step; rw [h1, h2, h3] at this; exact this
theorem encode_empty (w : World) : Calls Try.prog 14 #[.string ⟨#[]⟩] w fun e w' => e = .returned (.tuple #[.string ⟨#[0, 1, 0, 1, 0, 1, 0, 1, 0, 1, 0, 1]⟩, .int .i64 0]) ∧ Below w.heap.size w w' := by
  have := encode_any ⟨#[]⟩ (by show (0:Nat) ≤ 1100; omega) w
  rw [show (8 * (⟨#[]⟩ : ByteArray).size + 6) = 6 from rfl, awk_enc] at this
  exact this
set_option maxHeartbeats 800000 in
theorem awake_any (w : World) : Calls Try.prog 13 #[] w fun e w' => e = .returned (.bool true) ∧ Below w.heap.size w w' := by
  have s1 : symN 1 = 28 := by decide
  go_enter Try.func13, Try.ntmps13
  go_wp2_with (fail)
  refine (step01 _).mono ?_
  rintro e _ ⟨rfl, rfl⟩
  go_wp2_with (fail)
  refine (step320 _).mono ?_
  rintro e _ ⟨rfl, rfl⟩
  go_wp2_with (fail)
  refine (encode_empty _).mono ?_
  rintro e w1 ⟨rfl, hb1⟩
  have HB := Lib.hid hb1; clear hb1
  go_wp2_with (fail)
  refine (symbols_any _ _).mono ?_
  rintro e _ ⟨rfl, rfl⟩
  rw [s1]
  go_wp2_with (fail)
  go_ret
  exact ⟨rfl, HB.out⟩
/-- In how many symbols. -/
def difI (a b : Int) : Int := (if a = 0 then 0 else 1) + (if b = 1 then 0 else 1)
theorem differ_any (a b : Int) (w : World) : Calls Try.prog 18 #[.int .i64 a, .int .i64 b] w fun e w' => e = .returned (.int .i64 (difI a b)) ∧ w = w' := by
  obtain ⟨n, hn⟩ : ∃ n, Hid (n = difI a b) := ⟨_, Lib.hid rfl⟩
  rw [← hn.out]
  rcases Decidable.em (a = 0) with h1 | h1 <;> rcases Decidable.em (b = 1) with h2 | h2
  · have K : Hid (n = 0) := Lib.hid (by rw [hn.out]; simp [difI, h1, h2])
    clear hn
    subst h1 h2
    go_enter Try.func18, Try.ntmps18
    go_wp2_with (fail)
    go_ret
    exact ⟨ret_int K.out.symm, rfl⟩
  · have K : Hid (n = 1) := Lib.hid (by rw [hn.out]; simp [difI, h1, h2])
    have g2 : (b != 1) = true := by simpa using h2
    clear hn h2
    subst h1
    go_enter Try.func18, Try.ntmps18
    go_wp2_with (fail)
    go_ret
    exact ⟨ret_int K.out.symm, rfl⟩
  · have K : Hid (n = 1) := Lib.hid (by rw [hn.out]; simp [difI, h1, h2])
    have g1 : (a != 0) = true := by simpa using h1
    clear hn h1
    subst h2
    go_enter Try.func18, Try.ntmps18
    go_wp2_with (fail)
    go_ret
    exact ⟨ret_int K.out.symm, rfl⟩
  · have K : Hid (n = 2) := Lib.hid (by rw [hn.out]; simp [difI, h1, h2])
    have g1 : (a != 0) = true := by simpa using h1
    have g2 : (b != 1) = true := by simpa using h2
    clear hn h1 h2
    go_enter Try.func18, Try.ntmps18
    go_wp2_with (fail)
    go_ret
    exact ⟨ret_int K.out.symm, rfl⟩
end Go.Proofs.Ytaifnonamkidiaa
