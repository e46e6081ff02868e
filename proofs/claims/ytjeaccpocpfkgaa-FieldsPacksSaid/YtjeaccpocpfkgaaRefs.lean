/-
  The walks of the reference's Put, PutSigned and Flip. Conditions: a string that fits into memory.
-/
import Derived.Test.YtjeaccpocpfkgaaSet
namespace Go.Proofs.Ytjeaccpocpfkgaa
open Go.RowKit Kit
set_option linter.unusedVariables false
theorem refput_any (d : ByteArray) (a wd : Int) (v : Nat) (hv : v < 18446744073709551616) (w : World) (hb : d.size ≤ maxLen) : Calls Try.prog 15 #[.string d, .int .i64 a, .int .i64 wd, .int .u64 (v : Int)] w fun e w' => e = .returned (putR d a wd v) ∧ Below w.heap.size w w' := by
  by_cases hl : (65536 : Int) < (d.size : Int)
  · have hz : putR d a wd v = .tuple #[emp, .int .i64 3] := by unfold putR; rw [if_neg (by unfold chk; rw [if_pos hl]; decide)]; unfold chk; rw [if_pos hl]
    have hd : decide ((65536 : Int) < (d.size : Int)) = true := by simpa using hl
    rw [hz]
    go_enter Try.func15, Try.ntmps15
    go_wp2_with (fail)
    refine (long_any d _ hb).mono ?_
    rw [hd]
    rintro e _ ⟨rfl, rfl⟩
    go_wp2_with (fail)
    go_ret2
    exact ⟨rfl, Below.refl _ _⟩
  · have hd : decide ((65536 : Int) < (d.size : Int)) = false := by simpa using hl
    have FA := Lib.hid (fun W => field_any d a wd W hb hl)
    by_cases hc : chk d.size a wd = 0
    · obtain ⟨k1, k2, k3, k4, k5⟩ := chk_in hc
      have hdc : decide (chk d.size a wd = 0) = true := by simpa using hc
      have DC := Lib.hid hdc
      have VB := Lib.hid hv
      obtain ⟨a, rfl⟩ := Int.eq_ofNat_of_zero_le k4
      obtain ⟨wd, rfl⟩ := Int.eq_ofNat_of_zero_le (show 0 ≤ wd by omega)
      by_cases hf : v < 2 ^ wd
      · have hz : putR d a wd v = .tuple #[.string (strB (put (lst d) a wd v)), .int .i64 0] := by unfold putR; rw [if_pos hc, Int.toNat_natCast, Int.toNat_natCast, if_pos hf]
        have HF : Hid (decide (v < 2 ^ wd) = true) := Lib.hid (by simpa using hf)
        rw [hz]
        clear hz hf hc hdc hl
        go_enter Try.func15, Try.ntmps15
        go_wp2_with (fail)
        refine (long_any d _ hb).mono ?_
        rw [hd]
        rintro e _ ⟨rfl, rfl⟩
        go_wp2_with (fail)
        refine (FA.out _).mono ?_
        rw [DC.out]
        rintro e _ ⟨rfl, rfl⟩
        go_wp2_with (fail)
        refine (reffits_any v wd VB.out _).mono ?_
        rw [HF.out]
        rintro e _ ⟨rfl, rfl⟩
        go_wp2_with (fail)
        refine (set_any d (by omega) a wd v (by omega) (by omega) VB.out _).mono ?_
        rintro e w2 ⟨rfl, hb2⟩
        have B2 := Lib.hid hb2
        clear hb2
        go_wp2_with (fail)
        go_ret2
        exact ⟨rfl, B2.out⟩
      · have hz : putR d a wd v = .tuple #[emp, .int .i64 7] := by unfold putR; rw [if_pos hc, Int.toNat_natCast, if_neg hf]
        have HF : Hid (decide (v < 2 ^ wd) = false) := Lib.hid (by simpa using hf)
        rw [hz]
        clear hz hf hc hdc hl
        go_enter Try.func15, Try.ntmps15
        go_wp2_with (fail)
        refine (long_any d _ hb).mono ?_
        rw [hd]
        rintro e _ ⟨rfl, rfl⟩
        go_wp2_with (fail)
        refine (FA.out _).mono ?_
        rw [DC.out]
        rintro e _ ⟨rfl, rfl⟩
        go_wp2_with (fail)
        refine (reffits_any v wd VB.out _).mono ?_
        rw [HF.out]
        rintro e _ ⟨rfl, rfl⟩
        go_wp2_with (fail)
        go_ret2
        exact ⟨rfl, Below.refl _ _⟩
    · have h2 : chk d.size a wd = 2 := by unfold chk at hc ⊢; rw [if_neg hl] at hc ⊢; split at hc <;> simp_all
      have hz : putR d a wd v = .tuple #[emp, .int .i64 2] := by unfold putR; rw [h2]; rfl
      have hdc : decide (chk d.size a wd = 0) = false := by rw [h2]; rfl
      have DC := Lib.hid hdc
      rw [hz]
      clear hz hc hdc hl h2
      go_enter Try.func15, Try.ntmps15
      go_wp2_with (fail)
      refine (long_any d _ hb).mono ?_
      rw [hd]
      rintro e _ ⟨rfl, rfl⟩
      go_wp2_with (fail)
      refine (FA.out _).mono ?_
      rw [DC.out]
      rintro e _ ⟨rfl, rfl⟩
      go_wp2_with (fail)
      go_ret2
      exact ⟨rfl, Below.refl _ _⟩
theorem refflip_any (d : ByteArray) (a : Int) (w : World) (hb : d.size ≤ maxLen) : Calls Try.prog 19 #[.string d, .int .i64 a] w fun e w' => e = .returned (flipR d a) ∧ Below w.heap.size w w' := by
  by_cases hl : (65536 : Int) < (d.size : Int)
  · have hz : flipR d a = .tuple #[emp, .int .i64 3] := by unfold flipR; rw [if_neg (by unfold chk; rw [if_pos hl]; decide)]; unfold chk; rw [if_pos hl]
    have hd : decide ((65536 : Int) < (d.size : Int)) = true := by simpa using hl
    rw [hz]
    go_enter Try.func19, Try.ntmps19
    go_wp2_with (fail)
    refine (long_any d _ hb).mono ?_
    rw [hd]
    rintro e _ ⟨rfl, rfl⟩
    go_wp2_with (fail)
    go_ret2
    exact ⟨rfl, Below.refl _ _⟩
  · have hd : decide ((65536 : Int) < (d.size : Int)) = false := by simpa using hl
    have FA := Lib.hid (fun W => field_any d a 1 W hb hl)
    by_cases hc : chk d.size a 1 = 0
    · obtain ⟨k1, k2, k3, k4, k5⟩ := chk_in hc
      have hdc : decide (chk d.size a 1 = 0) = true := by simpa using hc
      have DC := Lib.hid hdc
      obtain ⟨a, rfl⟩ := Int.eq_ofNat_of_zero_le k4
      have hz : flipR d a = .tuple #[.string (strB (put (lst d) a 1 (1 - bitOf (lst d) a))), .int .i64 0] := by unfold flipR; rw [if_pos hc, Int.toNat_natCast]
      have BA := Lib.hid (fun W => bit_any d a W (by omega) (by omega))
      have hlt := bitOf_lt (lst d) a
      rw [hz]
      obtain ⟨x, hx⟩ : ∃ x, x = bitOf (lst d) a := ⟨_, rfl⟩
      rw [← hx] at BA hlt ⊢
      have HS : Hid ((1 - (x : Int)) = ((1 - x : Nat) : Int)) := Lib.hid (by omega)
      have VB : Hid (1 - x < 18446744073709551616) := Lib.hid (by omega)
      clear hz hc hdc hl hx
      go_enter Try.func19, Try.ntmps19
      go_wp2_with (fail)
      refine (long_any d _ hb).mono ?_
      rw [hd]
      rintro e _ ⟨rfl, rfl⟩
      go_wp2_with (fail)
      refine (FA.out _).mono ?_
      rw [DC.out]
      rintro e _ ⟨rfl, rfl⟩
      go_wp2_with (fail)
      refine (BA.out _).mono ?_
      rintro e _ ⟨rfl, rfl⟩
      go_wp2_with (fail)
      rw [HS.out]
      refine (set_any d (by omega) a 1 (1 - x) (by omega) (by omega) VB.out _).mono ?_
      rintro e w2 ⟨rfl, hb2⟩
      have B2 := Lib.hid hb2
      clear hb2
      go_wp2_with (fail)
      go_ret2
      exact ⟨rfl, B2.out⟩
    · have h2 : chk d.size a 1 = 2 := by unfold chk at hc ⊢; rw [if_neg hl] at hc ⊢; split at hc <;> simp_all
      have hz : flipR d a = .tuple #[emp, .int .i64 2] := by unfold flipR; rw [h2]; rfl
      have hdc : decide (chk d.size a 1 = 0) = false := by rw [h2]; rfl
      have DC := Lib.hid hdc
      rw [hz]
      clear hz hc hdc hl h2
      go_enter Try.func19, Try.ntmps19
      go_wp2_with (fail)
      refine (long_any d _ hb).mono ?_
      rw [hd]
      rintro e _ ⟨rfl, rfl⟩
      go_wp2_with (fail)
      refine (FA.out _).mono ?_
      rw [DC.out]
      rintro e _ ⟨rfl, rfl⟩
      go_wp2_with (fail)
      go_ret2
      exact ⟨rfl, Below.refl _ _⟩
theorem refpsigned_any (d : ByteArray) (a wd v : Int) (w : World) (hb : d.size ≤ maxLen) (hv : -9223372036854775808 ≤ v ∧ v ≤ 9223372036854775807) : Calls Try.prog 17 #[.string d, .int .i64 a, .int .i64 wd, .int .i64 v] w fun e w' => e = .returned (psR d a wd v) ∧ Below w.heap.size w w' := by
  by_cases hl : (65536 : Int) < (d.size : Int)
  · have hz : psR d a wd v = .tuple #[emp, .int .i64 3] := by unfold psR; rw [if_neg (by unfold chk; rw [if_pos hl]; decide)]; unfold chk; rw [if_pos hl]
    have hd : decide ((65536 : Int) < (d.size : Int)) = true := by simpa using hl
    rw [hz]
    go_enter Try.func17, Try.ntmps17
    go_wp2_with (fail)
    refine (long_any d _ hb).mono ?_
    rw [hd]
    rintro e _ ⟨rfl, rfl⟩
    go_wp2_with (fail)
    go_ret2
    exact ⟨rfl, Below.refl _ _⟩
  · have hd : decide ((65536 : Int) < (d.size : Int)) = false := by simpa using hl
    have FA := Lib.hid (fun W => field_any d a wd W hb hl)
    by_cases hc : chk d.size a wd = 0
    · obtain ⟨k1, k2, k3, k4, k5⟩ := chk_in hc
      have hdc : decide (chk d.size a wd = 0) = true := by simpa using hc
      have DC := Lib.hid hdc
      have VB := Lib.hid (uns_lt v)
      have HU : Hid (IntKind.u64.wrap v = (uns v : Int)) := Lib.hid (by rw [IntKind.wrap_u64]; unfold uns; omega)
      obtain ⟨a, rfl⟩ := Int.eq_ofNat_of_zero_le k4
      obtain ⟨wd, rfl⟩ := Int.eq_ofNat_of_zero_le (show 0 ≤ wd by omega)
      by_cases hw : wd = 64
      · subst hw
        have hz : psR d a (64 : Nat) v = .tuple #[.string (strB (put (lst d) a 64 (uns v))), .int .i64 0] := by unfold psR; rw [if_pos hc, Int.toNat_natCast, Int.toNat_natCast, if_pos ⟨by have : (2 : Nat) ^ (64 - 1) = 9223372036854775808 := rfl; rw [this]; omega, by have : (2 : Nat) ^ (64 - 1) = 9223372036854775808 := rfl; rw [this]; omega⟩]
        rw [hz]
        clear hz hc hdc hl
        go_enter Try.func17, Try.ntmps17
        go_wp2_with (fail)
        refine (long_any d _ hb).mono ?_
        rw [hd]
        rintro e _ ⟨rfl, rfl⟩
        go_wp2_with (fail)
        refine (FA.out _).mono ?_
        rw [DC.out]
        rintro e _ ⟨rfl, rfl⟩
        go_wp2_with (fail)
        rw [HU.out]
        refine (set_any d (by omega) a 64 (uns v) (by omega) (by omega) VB.out _).mono ?_
        rintro e w2 ⟨rfl, hb2⟩
        have B2 := Lib.hid hb2
        clear hb2
        go_wp2_with (fail)
        go_ret2
        exact ⟨rfl, B2.out⟩
      · obtain ⟨q, hq⟩ : ∃ q, q = 2 ^ (wd - 1) := ⟨_, rfl⟩
        have hw' : wd < 64 := by omega
        have hq0 : q ≤ 4611686018427387904 := by
          have := Nat.pow_le_pow_right (show 0 < 2 by decide) (show wd - 1 ≤ 62 by omega)
          rw [← hq] at this
          exact this
        have hq1 : 0 < q := by rw [hq]; exact Nat.pow_pos (by decide)
        have e1 : wrap64 (-2 ^ (wd - 1)) = -(q : Int) := by rw [show (-2 ^ (wd - 1) : Int) = -(q : Int) by rw [pow_two_int, ← hq]]; exact IntWalk.wrap64_in _ ⟨by omega, by omega⟩
        have e2 : wrap64 (2 ^ (wd - 1)) = (q : Int) := by rw [pow_two_int, ← hq]; exact IntWalk.wrap64_in _ ⟨by omega, by omega⟩
        have P : Hid (psR d a wd v = if -(q : Int) ≤ v ∧ v < (q : Int) then .tuple #[.string (strB (put (lst d) a wd (uns v))), .int .i64 0] else .tuple #[emp, .int .i64 7]) := Lib.hid (by unfold psR; rw [if_pos hc, Int.toNat_natCast, Int.toNat_natCast, ← hq])
        by_cases f1 : v < wrap64 (-2 ^ (wd - 1))
        · have hz : psR d a wd v = .tuple #[emp, .int .i64 7] := by rw [P.out, if_neg (by rw [e1] at f1; omega)]
          rw [hz]
          clear hz hc hdc hl hq hw e1 e2 hq0 hq1
          go_enter Try.func17, Try.ntmps17
          go_wp2_with (fail)
          refine (long_any d _ hb).mono ?_
          rw [hd]
          rintro e _ ⟨rfl, rfl⟩
          go_wp2_with (fail)
          refine (FA.out _).mono ?_
          rw [DC.out]
          rintro e _ ⟨rfl, rfl⟩
          go_wp2_with (fail)
          go_ret2
          exact ⟨rfl, Below.refl _ _⟩
        · by_cases f2 : wrap64 (2 ^ (wd - 1)) ≤ v
          · have hz : psR d a wd v = .tuple #[emp, .int .i64 7] := by rw [P.out, if_neg (by rw [e2] at f2; omega)]
            rw [hz]
            clear hz hc hdc hl hq hw e1 e2 hq0 hq1
            go_enter Try.func17, Try.ntmps17
            go_wp2_with (fail)
            refine (long_any d _ hb).mono ?_
            rw [hd]
            rintro e _ ⟨rfl, rfl⟩
            go_wp2_with (fail)
            refine (FA.out _).mono ?_
            rw [DC.out]
            rintro e _ ⟨rfl, rfl⟩
            go_wp2_with (fail)
            go_ret2
            exact ⟨rfl, Below.refl _ _⟩
          · have hz : psR d a wd v = .tuple #[.string (strB (put (lst d) a wd (uns v))), .int .i64 0] := by rw [P.out, if_pos (by rw [e1] at f1; rw [e2] at f2; omega)]
            rw [hz]
            clear hz hc hdc hl hq hw e1 e2 hq0 hq1
            go_enter Try.func17, Try.ntmps17
            go_wp2_with (fail)
            refine (long_any d _ hb).mono ?_
            rw [hd]
            rintro e _ ⟨rfl, rfl⟩
            go_wp2_with (fail)
            refine (FA.out _).mono ?_
            rw [DC.out]
            rintro e _ ⟨rfl, rfl⟩
            go_wp2_with (fail)
            rw [HU.out]
            refine (set_any d (by omega) a wd (uns v) (by omega) (by omega) VB.out _).mono ?_
            rintro e w2 ⟨rfl, hb2⟩
            have B2 := Lib.hid hb2
            clear hb2
            go_wp2_with (fail)
            go_ret2
            exact ⟨rfl, B2.out⟩
    · have h2 : chk d.size a wd = 2 := by unfold chk at hc ⊢; rw [if_neg hl] at hc ⊢; split at hc <;> simp_all
      have hz : psR d a wd v = .tuple #[emp, .int .i64 2] := by unfold psR; rw [h2]; rfl
      have hdc : decide (chk d.size a wd = 0) = false := by rw [h2]; rfl
      have DC := Lib.hid hdc
      rw [hz]
      clear hz hc hdc hl h2
      go_enter Try.func17, Try.ntmps17
      go_wp2_with (fail)
      refine (long_any d _ hb).mono ?_
      rw [hd]
      rintro e _ ⟨rfl, rfl⟩
      go_wp2_with (fail)
      refine (FA.out _).mono ?_
      rw [DC.out]
      rintro e _ ⟨rfl, rfl⟩
      go_wp2_with (fail)
      go_ret2
      exact ⟨rfl, Below.refl _ _⟩
end Go.Proofs.Ytjeaccpocpfkgaa
