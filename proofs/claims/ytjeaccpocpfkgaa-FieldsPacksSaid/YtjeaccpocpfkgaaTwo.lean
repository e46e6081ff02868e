/-
  The walks of the reference's two and Signed; the law FieldsReads. Conditions: a string that fits into memory.
-/
import Derived.Test.YtjeaccpocpfkgaaReads
namespace Go.Proofs.Ytjeaccpocpfkgaa
open Go.RowKit Kit
set_option linter.unusedVariables false
theorem half_bd {wd : Nat} (h1 : 1 ≤ wd) (h2 : wd < 64) : ∃ q : Nat, q = 2 ^ (wd - 1) ∧ 2 ^ wd = 2 * q ∧ q ≤ 4611686018427387904 ∧ 0 < q := by
  refine ⟨_, rfl, ?_, ?_, Nat.pow_pos (by decide)⟩
  · rw [← Nat.pow_succ']; congr 1; omega
  · exact Nat.le_trans (Nat.pow_le_pow_right (n := 2) (by decide) (show wd - 1 ≤ 62 by omega)) (by decide)
theorem two_any (v wd : Nat) (h1 : 1 ≤ wd) (h2 : wd ≤ 64) (hv : v < 2 ^ wd) (w : World) : Calls Try.prog 34 #[.int .u64 (v : Int), .int .i64 wd] w fun e w' => e = .returned (.int .i64 (two v wd)) ∧ w = w' := by
  by_cases h64 : wd < 64
  · have hd : decide ((wd : Int) < 64) = true := by simp; omega
    obtain ⟨q, hq, h2q, hqb, hq0⟩ := half_bd h1 h64
    rw [h2q] at hv
    by_cases hc : v < q
    · have hR : Hid (two v wd = wrap64 (v : Int)) := Lib.hid (by
        unfold two
        rw [← hq, if_pos hc, IntWalk.wrap64_in _ ⟨by omega, by omega⟩])
      have ht : ((v : Int) / 2 ^ (wd - 1) == 1) = false := by
        rw [pow_two_int, ← hq, ← Int.natCast_ediv, Nat.div_eq_of_lt hc]; rfl
      clear hc hq h2q hv
      go_enter Try.func34, Try.ntmps34
      go_wp2_with (fail)
      go_ret
      exact ⟨ret_intv hR.out.symm, rfl⟩
    · have hR : Hid (two v wd = wrap64 (wrap64 (v : Int) - wrap64 (2 ^ wd))) := Lib.hid (by
        unfold two
        rw [← hq, if_neg hc, pow_two_int wd, h2q]
        unfold wrap64
        omega)
      have ht : ((v : Int) / 2 ^ (wd - 1) == 1) = true := by
        rw [pow_two_int, ← hq, ← Int.natCast_ediv]
        have : v / q = 1 := by
          have h1 : v / q < 2 := (Nat.div_lt_iff_lt_mul hq0).2 (by omega)
          have h2 : 1 ≤ v / q := (Nat.le_div_iff_mul_le hq0).2 (by omega)
          omega
        rw [this]; rfl
      clear hc hq h2q hv
      go_enter Try.func34, Try.ntmps34
      go_wp2_with (fail)
      go_ret
      exact ⟨ret_intv hR.out.symm, rfl⟩
  · obtain rfl : wd = 64 := by omega
    have hv' : v < 18446744073709551616 := Nat.lt_of_lt_of_le hv (by decide)
    have hR : Hid (two v 64 = wrap64 (v : Int)) := Lib.hid (by
      unfold two
      rw [pow_two_int, show (2 : Nat) ^ (64 - 1) = 9223372036854775808 by decide, show (2 : Nat) ^ 64 = 18446744073709551616 by decide]
      unfold wrap64
      split <;> omega)
    clear hv hv'
    go_enter Try.func34, Try.ntmps34
    go_wp2_with (fail)
    go_ret
    exact ⟨ret_intv hR.out.symm, rfl⟩
theorem refsigned_any (d : ByteArray) (a wd : Int) (w : World) (hb : d.size ≤ maxLen) : Calls Try.prog 13 #[.string d, .int .i64 a, .int .i64 wd] w fun e w' => e = .returned (sgnR d a wd) ∧ w = w' := by
  have G := Lib.hid (fun W => refget_any d a wd W hb)
  unfold getR at G
  unfold sgnR
  by_cases hc : chk d.size a wd = 0
  · rw [if_pos hc]
    rw [if_pos hc] at G
    obtain ⟨k1, k2, k3, k4, k5⟩ := chk_in hc
    obtain ⟨a, rfl⟩ := Int.eq_ofNat_of_zero_le k4
    obtain ⟨wd, rfl⟩ := Int.eq_ofNat_of_zero_le (show 0 ≤ wd by omega)
    simp only [Int.toNat_natCast] at G ⊢
    obtain ⟨v, hv⟩ : ∃ v, v = numB (lst d) a wd := ⟨_, rfl⟩
    have hlt : Hid (v < 2 ^ wd) := Lib.hid (by rw [hv]; exact numB_lt _ _ _)
    rw [← hv] at G ⊢
    clear hv hc
    go_enter Try.func13, Try.ntmps13
    go_wp2_with (fail)
    refine (G.out _).mono ?_
    rintro e _ ⟨rfl, rfl⟩
    go_wp2_with (fail)
    refine (two_any v wd (by omega) (by omega) hlt.out _).mono ?_
    rintro e _ ⟨rfl, rfl⟩
    go_wp2_with (fail)
    go_ret2
    exact ⟨rfl, rfl⟩
  · rw [if_neg hc]
    rw [if_neg hc] at G
    obtain ⟨E, hE⟩ : ∃ E, E = chk d.size a wd := ⟨_, rfl⟩
    rw [← hE] at hc G ⊢
    have hn : (E != 0) = true := by simpa using hc
    clear hc hE
    go_enter Try.func13, Try.ntmps13
    go_wp2_with (fail)
    refine (G.out _).mono ?_
    rintro e _ ⟨rfl, rfl⟩
    go_wp2_with (fail)
    go_ret2
    exact ⟨rfl, rfl⟩
end Go.Proofs.Ytjeaccpocpfkgaa
