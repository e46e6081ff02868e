/-
  The walks of fields.Put, PutSigned and Flip. Conditions: a string that fits into memory.
-/
import Derived.Test.YtjeaccpocpfkgaaPut
namespace Go.Proofs.Ytjeaccpocpfkgaa
open Go.RowKit Kit
set_option linter.unusedVariables false
def emp : Value := .string ⟨#[]⟩
def putR (d : ByteArray) (a wd : Int) (v : Nat) : Value :=
  if chk d.size a wd = 0 then (if v < 2 ^ wd.toNat then .tuple #[.string (strB (put (lst d) a.toNat wd.toNat v)), .int .i64 0] else .tuple #[emp, .int .i64 7]) else .tuple #[emp, .int .i64 (chk d.size a wd)]
set_option maxHeartbeats 800000 in
theorem put_any (d : ByteArray) (a wd : Int) (v : Nat) (hv : v < 18446744073709551616) (w : World) (hb : d.size ≤ maxLen) : Calls Try.prog 14 #[.string d, .int .i64 a, .int .i64 wd, .int .u64 (v : Int)] w fun e w' => e = .returned (putR d a wd v) ∧ Below w.heap.size w w' := by
  by_cases hc : chk d.size a wd = 0
  · obtain ⟨k1, k2, k3, k4, k5⟩ := chk_in hc
    obtain ⟨a, rfl⟩ := Int.eq_ofNat_of_zero_le k4
    obtain ⟨wd, rfl⟩ := Int.eq_ofNat_of_zero_le (show 0 ≤ wd by omega)
    have HC := Lib.hid hc
    by_cases hf : v < 2 ^ wd
    · have hz : putR d a wd v = .tuple #[.string (strB (put (lst d) a wd v)), .int .i64 0] := by unfold putR; rw [if_pos hc, Int.toNat_natCast, Int.toNat_natCast, if_pos hf]
      have HF : Hid (decide (v < 2 ^ wd) = true) := Lib.hid (by simpa using hf)
      rw [hz]
      clear hz hf hc
      go_enter Try.func14, Try.ntmps14
      go_wp2_with (fail)
      refine (check_any d a wd _ hb).mono ?_
      rw [HC.out]
      rintro e _ ⟨rfl, rfl⟩
      go_wp2_with (fail)
      refine (fits_any v wd hv (by omega) _).mono ?_
      rw [HF.out]
      rintro e _ ⟨rfl, rfl⟩
      go_wp2_with (fail)
      refine (replaced_any d (by omega) a wd v (by omega) (by omega) hv _).mono ?_
      rintro e w2 ⟨rfl, hb2⟩
      have B2 := Lib.hid hb2
      clear hb2
      go_wp2_with (fail)
      go_ret2
      exact ⟨rfl, B2.out⟩
    · have hz : putR d a wd v = .tuple #[emp, .int .i64 7] := by unfold putR; rw [if_pos hc, Int.toNat_natCast, if_neg hf]
      have HF : Hid (decide (v < 2 ^ wd) = false) := Lib.hid (by simpa using hf)
      rw [hz]
      clear hz hf hc
      go_enter Try.func14, Try.ntmps14
      go_wp2_with (fail)
      refine (check_any d a wd _ hb).mono ?_
      rw [HC.out]
      rintro e _ ⟨rfl, rfl⟩
      go_wp2_with (fail)
      refine (fits_any v wd hv (by omega) _).mono ?_
      rw [HF.out]
      rintro e _ ⟨rfl, rfl⟩
      go_wp2_with (fail)
      go_ret2
      exact ⟨rfl, Below.refl _ _⟩
  · have hz : putR d a wd v = .tuple #[emp, .int .i64 (chk d.size a wd)] := by unfold putR; rw [if_neg hc]
    rw [hz]
    have CK := Lib.hid (fun W => check_any d a wd W hb)
    obtain ⟨E, hE⟩ : ∃ E, E = chk d.size a wd := ⟨_, rfl⟩
    rw [← hE] at hc CK ⊢
    have hn : (E != 0) = true := by simpa using hc
    clear hc hE hz
    go_enter Try.func14, Try.ntmps14
    go_wp2_with (fail)
    refine (CK.out _).mono ?_
    rintro e _ ⟨rfl, rfl⟩
    go_wp2_with (fail)
    go_ret2
    exact ⟨rfl, Below.refl _ _⟩
/-- A number's bits as one without a sign. -/
def uns (v : Int) : Nat := (v % 18446744073709551616).toNat
theorem uns_lt (v : Int) : uns v < 18446744073709551616 := by unfold uns; omega
def psR (d : ByteArray) (a wd v : Int) : Value :=
  if chk d.size a wd = 0 then (if -(2 ^ (wd.toNat - 1) : Nat) ≤ v ∧ v < (2 ^ (wd.toNat - 1) : Nat) then .tuple #[.string (strB (put (lst d) a.toNat wd.toNat (uns v))), .int .i64 0] else .tuple #[emp, .int .i64 7]) else .tuple #[emp, .int .i64 (chk d.size a wd)]
theorem ps_arith (v : Int) (p q : Nat) (hp : 0 < p) (hpq : q * p = 9223372036854775808) : (wrap64 (v * (p : Int)) / (p : Int) == v) = decide (-(q : Int) ≤ v ∧ v < (q : Int)) := by
  have hQ : (q : Int) * (p : Int) = 9223372036854775808 := by rw [← Int.natCast_mul, hpq]; rfl
  have hp' : (0 : Int) < (p : Int) := by omega
  rw [Bool.eq_iff_iff, beq_iff_eq, decide_eq_true_eq]
  constructor
  · intro h
    rw [← h]
    have hb : -9223372036854775808 ≤ wrap64 (v * (p : Int)) ∧ wrap64 (v * (p : Int)) < 9223372036854775808 := by unfold wrap64; omega
    refine ⟨?_, ?_⟩
    · rw [Int.le_ediv_iff_mul_le hp', Int.neg_mul, hQ]; exact hb.1
    · rw [Int.ediv_lt_iff_lt_mul hp', hQ]; exact hb.2
  · rintro ⟨h1, h2⟩
    have e1 : -9223372036854775808 ≤ v * (p : Int) := by
      have := Int.mul_le_mul_of_nonneg_right h1 (Int.le_of_lt hp')
      rw [Int.neg_mul, hQ] at this; exact this
    have e2 : v * (p : Int) < 9223372036854775808 := by
      have := Int.mul_lt_mul_of_pos_right h2 hp'
      rw [hQ] at this; exact this
    rw [IntWalk.wrap64_in _ ⟨by omega, by omega⟩, Int.mul_ediv_cancel _ (by omega)]
theorem ps_in (v : Int) {wd : Nat} (h1 : 1 ≤ wd) (h2 : wd ≤ 64) : (wrap64 (v * 2 ^ (64 - wd)) / 2 ^ (64 - wd) == v) = decide (-(2 ^ (wd - 1) : Nat) ≤ v ∧ v < (2 ^ (wd - 1) : Nat)) := by
  have hpq : 2 ^ (wd - 1) * 2 ^ (64 - wd) = 9223372036854775808 := by
    rw [← Nat.pow_add, show wd - 1 + (64 - wd) = 63 by omega]
  rw [pow_two_int (64 - wd)]
  exact ps_arith v _ _ (Nat.pow_pos (by decide)) hpq
theorem psigned_good (d : ByteArray) (a wd : Nat) (v : Int) (w : World) (hb : d.size ≤ maxLen) (hv : -9223372036854775808 ≤ v ∧ v ≤ 9223372036854775807) (hc : chk d.size a wd = 0) (b : Bool) (hf : decide (-(2 ^ (wd - 1) : Nat) ≤ v ∧ v < (2 ^ (wd - 1) : Nat)) = b) :
    Calls Try.prog 16 #[.string d, .int .i64 a, .int .i64 wd, .int .i64 v] w fun e w' => e = .returned (if b then .tuple #[.string (strB (put (lst d) a wd (uns v))), .int .i64 0] else .tuple #[emp, .int .i64 7]) ∧ Below w.heap.size w w' := by
  obtain ⟨k1, k2, k3, k4, k5⟩ := chk_in hc
  have HC := Lib.hid hc
  have hq := ps_in v (wd := wd) (by omega) (by omega)
  rw [hf] at hq
  have HU : Hid (IntKind.u64.wrap v = (uns v : Int)) := Lib.hid (by rw [IntKind.wrap_u64]; unfold uns; omega)
  clear hf hc
  cases b with
  | true =>
    go_enter Try.func16, Try.ntmps16
    go_wp2_with (fail)
    refine (check_any d a wd _ hb).mono ?_
    rw [HC.out]
    rintro e _ ⟨rfl, rfl⟩
    go_wp2_with (fail)
    rw [HU.out]
    refine (replaced_any d (by omega) a wd (uns v) (by omega) (by omega) (uns_lt v) _).mono ?_
    rintro e w2 ⟨rfl, hb2⟩
    have B2 := Lib.hid hb2
    clear hb2
    go_wp2_with (fail)
    go_ret2
    exact ⟨rfl, B2.out⟩
  | false =>
    go_enter Try.func16, Try.ntmps16
    go_wp2_with (fail)
    refine (check_any d a wd _ hb).mono ?_
    rw [HC.out]
    rintro e _ ⟨rfl, rfl⟩
    go_wp2_with (fail)
    go_ret2
    exact ⟨rfl, Below.refl _ _⟩
theorem psigned_any (d : ByteArray) (a wd v : Int) (w : World) (hb : d.size ≤ maxLen) (hv : -9223372036854775808 ≤ v ∧ v ≤ 9223372036854775807) : Calls Try.prog 16 #[.string d, .int .i64 a, .int .i64 wd, .int .i64 v] w fun e w' => e = .returned (psR d a wd v) ∧ Below w.heap.size w w' := by
  by_cases hc : chk d.size a wd = 0
  · obtain ⟨k1, k2, k3, k4, k5⟩ := chk_in hc
    obtain ⟨a, rfl⟩ := Int.eq_ofNat_of_zero_le k4
    obtain ⟨wd, rfl⟩ := Int.eq_ofNat_of_zero_le (show 0 ≤ wd by omega)
    refine (psigned_good d a wd v w hb hv hc _ rfl).mono ?_
    rintro e w' ⟨rfl, h⟩
    refine ⟨?_, h⟩
    unfold psR
    rw [if_pos hc, Int.toNat_natCast, Int.toNat_natCast]
    by_cases hf : -(2 ^ (wd - 1) : Nat) ≤ v ∧ v < (2 ^ (wd - 1) : Nat)
    · rw [if_pos hf, decide_eq_true hf]; rfl
    · rw [if_neg hf, decide_eq_false hf]; rfl
  · have hz : psR d a wd v = .tuple #[emp, .int .i64 (chk d.size a wd)] := by unfold psR; rw [if_neg hc]
    rw [hz]
    have CK := Lib.hid (fun W => check_any d a wd W hb)
    obtain ⟨E, hE⟩ : ∃ E, E = chk d.size a wd := ⟨_, rfl⟩
    rw [← hE] at hc CK ⊢
    have hn : (E != 0) = true := by simpa using hc
    clear hc hE hz
    go_enter Try.func16, Try.ntmps16
    go_wp2_with (fail)
    refine (CK.out _).mono ?_
    rintro e _ ⟨rfl, rfl⟩
    go_wp2_with (fail)
    go_ret2
    exact ⟨rfl, Below.refl _ _⟩
def flipR (d : ByteArray) (a : Int) : Value :=
  if chk d.size a 1 = 0 then .tuple #[.string (strB (put (lst d) a.toNat 1 (1 - bitOf (lst d) a.toNat))), .int .i64 0] else .tuple #[emp, .int .i64 (chk d.size a 1)]
theorem flip_any (d : ByteArray) (a : Int) (w : World) (hb : d.size ≤ maxLen) : Calls Try.prog 18 #[.string d, .int .i64 a] w fun e w' => e = .returned (flipR d a) ∧ Below w.heap.size w w' := by
  by_cases hc : chk d.size a 1 = 0
  · obtain ⟨k1, k2, k3, k4, k5⟩ := chk_in hc
    obtain ⟨a, rfl⟩ := Int.eq_ofNat_of_zero_le k4
    have hz : flipR d a = .tuple #[.string (strB (put (lst d) a 1 (1 - bitOf (lst d) a))), .int .i64 0] := by unfold flipR; rw [if_pos hc, Int.toNat_natCast]
    rw [hz]
    have GG := Lib.hid (fun W => get_good d a 1 W hb hc)
    have hnb : numB (lst d) a 1 = bitOf (lst d) a := by simp [numB]
    have hlt := bitOf_lt (lst d) a
    rw [hnb] at GG
    obtain ⟨x, hx⟩ : ∃ x, x = bitOf (lst d) a := ⟨_, rfl⟩
    rw [← hx] at GG hlt ⊢
    have HS : Hid ((1 - (x : Int)) = ((1 - x : Nat) : Int)) := Lib.hid (by omega)
    clear hz hc hnb hx
    go_enter Try.func18, Try.ntmps18
    go_wp2_with (fail)
    refine (GG.out _).mono ?_
    rintro e w1 ⟨rfl, hb1⟩
    have B1 := Lib.hid hb1
    clear hb1
    go_wp2_with (fail)
    rw [HS.out]
    refine (replaced_any d (by omega) a 1 (1 - x) (by omega) (by omega) (by omega) _).mono ?_
    rintro e w2 ⟨rfl, hb2⟩
    have B2 := Lib.hid (bl_step B1.out hb2)
    clear hb2
    go_wp2_with (fail)
    go_ret2
    exact ⟨rfl, B2.out⟩
  · have hz : flipR d a = .tuple #[emp, .int .i64 (chk d.size a 1)] := by unfold flipR; rw [if_neg hc]
    rw [hz]
    have GB := Lib.hid (fun W => get_bad d a 1 W hb hc)
    obtain ⟨E, hE⟩ : ∃ E, E = chk d.size a 1 := ⟨_, rfl⟩
    rw [← hE] at hc GB ⊢
    have hn : (E != 0) = true := by simpa using hc
    clear hc hE hz
    go_enter Try.func18, Try.ntmps18
    go_wp2_with (fail)
    refine (GB.out _).mono ?_
    rintro e _ ⟨rfl, rfl⟩
    go_wp2_with (fail)
    go_ret2
    exact ⟨rfl, Below.refl _ _⟩
end Go.Proofs.Ytjeaccpocpfkgaa
