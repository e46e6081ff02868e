/-
  The walks of parity, Step and Symbols, the program's and the specification's. Conditions: the bounds that each names.
-/
import Derived.Test.YtbfgpjpfhbbdfaaKitb
import Derived.Test.YtbfgpjpfhbbdfaaRows
import Derived.Laws.BitsAllLaws
namespace Go.Proofs.Ytbfgpjpfhbbdfaa
open Go.RowKit Kit
set_option linter.unusedVariables false
/-- The number of bits 1 modulo 2, of numbers below 128. -/
def par (n : Nat) : Nat := (n % 2 + n / 2 % 2 + n / 4 % 2 + n / 8 % 2 + n / 16 % 2 + n / 32 % 2 + n / 64 % 2) % 2
theorem par_step : ∀ n : Fin 128, 0 < n.val → bits BinOp.and IntKind.i64 (n.val : Int) ((n.val : Int) - 1) = ((n.val &&& (n.val - 1) : Nat) : Int) ∧ n.val &&& (n.val - 1) < n.val ∧ par (n.val &&& (n.val - 1)) + par n.val = 1 := by decide +kernel
theorem par_half : ∀ n : Fin 128, par n.val = (par (n.val / 2) + n.val % 2) % 2 := by decide +kernel
theorem par_lt (n : Nat) : par n < 2 := by unfold par; omega
theorem xor1 : bits BinOp.xor IntKind.i64 0 1 = 1 ∧ bits BinOp.xor IntKind.i64 1 1 = 0 ∧ bits BinOp.xor IntKind.i64 0 0 = 0 ∧ bits BinOp.xor IntKind.i64 1 0 = 1 := by decide +kernel
set_option maxHeartbeats 800000 in
theorem parity_any (n : Nat) (hn : n < 128) (w : World) :
    Calls Try.prog 44 #[.int .i64 n] w fun e w' => e = .returned (.int .i64 (par n)) ∧ w = w' := by
  go_enter Try.func44, Try.ntmps44
  go_wp2_with (fail)
  go_loop [0, 3] (fun a k => ∃ m j : Nat, m < 128 ∧ j < 2 ∧ a = .int .i64 m ∧ k = .int .i64 j ∧ (j + par m) % 2 = par n) (fun a _ => (intOf a).toNat)
  case atStart => exact ⟨n, 0, hn, by omega, rfl, rfl, by have := par_lt n; omega⟩
  case round =>
    obtain ⟨m, j, hm, hj, rfl, rfl, hp⟩ := hrel
    have P := Lib.hid hp; clear hp
    by_cases h0 : m = 0
    · subst h0
      go_wp2_with (fail)
      go_ret
      exact ⟨ret_int (by have := P.out; have e0 : par 0 = 0 := rfl; rw [e0] at this; omega), rfl⟩
    · obtain ⟨e1, e2, e3⟩ := par_step ⟨m, hm⟩ (by simp; omega)
      simp only at e1 e2 e3
      have hb : ((m : Int) != 0) = true := by simp; omega
      have E3 := Lib.hid e3; clear e3
      have hm1 : 1 ≤ m := by omega
      obtain ⟨x0, x1, _⟩ := xor1
      have hj' : j = 0 ∨ j = 1 := by omega
      clear h0
      rcases hj' with rfl | rfl
      · go_wp2_with (fail)
        go_round
        case rel => exact ⟨m &&& (m - 1), 1, by omega, by omega, rfl, rfl, by have := E3.out; have := P.out; have := par_lt m; omega⟩
        case measure => simp [intOf]; omega
      · go_wp2_with (fail)
        go_round
        case rel => exact ⟨m &&& (m - 1), 0, by omega, by omega, rfl, rfl, by have := E3.out; have := P.out; have := par_lt m; omega⟩
        case measure => simp [intOf]; omega

set_option maxHeartbeats 800000 in
theorem refparity_any (n : Nat) (hn : n < 128) (w : World) :
    Calls Try.prog 40 #[.int .i64 n] w fun e w' => e = .returned (.int .i64 (par n)) ∧ w = w' := by
  go_enter Try.func40, Try.ntmps40
  go_wp2_with (fail)
  go_loop [0, 3] (fun a k => ∃ m j : Nat, m < 128 ∧ j < 2 ∧ a = .int .i64 m ∧ k = .int .i64 j ∧ (j + par m) % 2 = par n) (fun a _ => (intOf a).toNat)
  case atStart => exact ⟨n, 0, hn, by omega, rfl, rfl, by have := par_lt n; omega⟩
  case round =>
    obtain ⟨m, j, hm, hj, rfl, rfl, hp⟩ := hrel
    have P := Lib.hid hp; clear hp
    by_cases h0 : m = 0
    · subst h0
      go_wp2_with (fail)
      go_ret
      exact ⟨ret_int (by have := P.out; have e0 : par 0 = 0 := rfl; rw [e0] at this; omega), rfl⟩
    · have E3 := Lib.hid (par_half ⟨m, hm⟩)
      have hb : (0 : Int) < (m : Int) := by omega
      obtain ⟨x0, x1, x2, x3⟩ := xor1
      have hj' : j = 0 ∨ j = 1 := by omega
      have hr : (m : Int) % 2 = 0 ∨ (m : Int) % 2 = 1 := by omega
      clear h0
      have hh : ((m : Int) / 2) = ((m / 2 : Nat) : Int) := by omega
      have HH := Lib.hid hh; clear hh
      rcases hj' with rfl | rfl <;> rcases hr with hr | hr
      · have M := Lib.hid hr
        go_wp2_with (fail)
        go_round
        case rel => exact ⟨m / 2, 0, by omega, by omega, by rw [HH.out], rfl, by have := E3.out; have := P.out; have := M.out; have := par_lt m; simp only at *; omega⟩
        case measure => simp [intOf]; omega
      · have M := Lib.hid hr
        go_wp2_with (fail)
        go_round
        case rel => exact ⟨m / 2, 1, by omega, by omega, by rw [HH.out], rfl, by have := E3.out; have := P.out; have := M.out; have := par_lt m; simp only at *; omega⟩
        case measure => simp [intOf]; omega
      · have M := Lib.hid hr
        go_wp2_with (fail)
        go_round
        case rel => exact ⟨m / 2, 1, by omega, by omega, by rw [HH.out], rfl, by have := E3.out; have := P.out; have := M.out; have := par_lt m; simp only at *; omega⟩
        case measure => simp [intOf]; omega
      · have M := Lib.hid hr
        go_wp2_with (fail)
        go_round
        case rel => exact ⟨m / 2, 0, by omega, by omega, by rw [HH.out], rfl, by have := E3.out; have := P.out; have := M.out; have := par_lt m; simp only at *; omega⟩
        case measure => simp [intOf]; omega

/-! Step -/
def nx (s b : Nat) : Nat := (64 * b + s) / 2
def o1 (s b : Nat) : Nat := par ((64 * b + s) &&& 121)
def o2 (s b : Nat) : Nat := 1 - par ((64 * b + s) &&& 91)
def inR (s b : Int) : Prop := 0 ≤ s ∧ s ≤ 63 ∧ 0 ≤ b ∧ b ≤ 1
instance (s b : Int) : Decidable (inR s b) := by unfold inR; infer_instance
def stepV (s b : Int) : Value :=
  if inR s b then .tuple #[.int .i64 (nx s.toNat b.toNat), .int .i64 (o1 s.toNat b.toNat), .int .i64 (o2 s.toNat b.toNat)] else .tuple #[.int .i64 0, .int .i64 0, .int .i64 0]
theorem or_ok : ∀ s : Fin 64, ∀ b : Fin 2, bits BinOp.or IntKind.i64 ((b.val : Int) * 64) (s.val : Int) = ((64 * b.val + s.val : Nat) : Int) := by decide +kernel
theorem and_ok : ∀ n : Fin 128, bits BinOp.and IntKind.i64 (n.val : Int) 121 = ((n.val &&& 121 : Nat) : Int) ∧ bits BinOp.and IntKind.i64 (n.val : Int) 91 = ((n.val &&& 91 : Nat) : Int) ∧ n.val &&& 121 < 128 ∧ n.val &&& 91 < 128 := by decide +kernel
theorem xor_one : ∀ n : Fin 2, bits BinOp.xor IntKind.i64 1 (n.val : Int) = ((1 - n.val : Nat) : Int) := by decide +kernel
theorem andNot_one : ∀ b : Fin 2, bits BinOp.andNot IntKind.i64 (b.val : Int) 1 = 0 := by decide +kernel
theorem nat_hi (a : Nat) (ha : a < 18446744073709551616) (h : a &&& 18446744073709551614 = 0) : a < 2 := by
  have key : ∀ i, 1 ≤ i → a.testBit i = false := by
    intro i hi
    rcases Nat.lt_or_ge i 64 with h64 | h64
    · have h1 : (a &&& 18446744073709551614).testBit i = false := by rw [h]; simp
      rw [Nat.testBit_and] at h1
      have h2 : (18446744073709551614 : Nat).testBit i = true := by
        have : ∀ j : Fin 64, 1 ≤ j.val → (18446744073709551614 : Nat).testBit j.val = true := by decide +kernel
        exact this ⟨i, h64⟩ hi
      rw [h2] at h1
      simpa using h1
    · exact Nat.testBit_lt_two_pow (Nat.lt_of_lt_of_le ha (Nat.pow_le_pow_right (by omega) h64 : (2:Nat)^64 ≤ 2^i))
  have : a / 2 = 0 := by
    apply Nat.eq_of_testBit_eq
    intro i
    rw [Nat.testBit_div_two, key (i + 1) (by omega)]
    simp
  omega
theorem andNot_ne (a : Int) (h1 : -9223372036854775808 ≤ a) (h2 : a ≤ 9223372036854775807) (h : a < 0 ∨ 1 < a) : bits BinOp.andNot IntKind.i64 a 1 ≠ 0 := by
  intro h0
  have e0 : bits BinOp.andNot IntKind.i64 a 1 = IntKind.i64.wrap ((BitVec.ofInt 64 a &&& ~~~BitVec.ofInt 64 1).toNat : Int) := rfl
  rw [e0, BitVec.toNat_and] at h0
  have e1 : (~~~BitVec.ofInt 64 1).toNat = 18446744073709551614 := by decide
  have e2 : (BitVec.ofInt 64 a).toNat = (a % 18446744073709551616).toNat := by simp [BitVec.toNat_ofInt]
  rw [e1, e2, IntKind.wrap_i64] at h0
  have hlt : (a % 18446744073709551616).toNat < 18446744073709551616 := by omega
  have hx : (a % 18446744073709551616).toNat &&& 18446744073709551614 < 2 ^ 64 := Nat.and_lt_two_pow _ (by omega)
  generalize hy : (a % 18446744073709551616).toNat &&& 18446744073709551614 = y at *
  have hz : y = 0 := by omega
  subst hz
  have := nat_hi _ hlt hy
  omega


theorem step_facts (s b : Nat) (hs : s < 64) (hb : b < 2) : ∃ r m1 m2 : Nat, bits BinOp.or IntKind.i64 ((b : Int) * 64) (s : Int) = (r : Int) ∧ (64 : Int) * (b : Int) + (s : Int) = (r : Int) ∧ r < 128 ∧
    bits BinOp.and IntKind.i64 (r : Int) 121 = (m1 : Int) ∧ bits BinOp.and IntKind.i64 (r : Int) 91 = (m2 : Int) ∧ m1 < 128 ∧ m2 < 128 ∧ Hid (nx s b = r / 2 ∧ o1 s b = par m1 ∧ o2 s b = 1 - par m2) := by
  have h1 := or_ok ⟨s, hs⟩ ⟨b, hb⟩
  obtain ⟨h2, h3, h4, h5⟩ := and_ok ⟨64 * b + s, by omega⟩
  exact ⟨64 * b + s, (64 * b + s) &&& 121, (64 * b + s) &&& 91, h1, by omega, by omega, h2, h3, h4, h5, rfl, rfl, rfl⟩
set_option maxHeartbeats 800000 in
theorem step_in (s b : Nat) (hs : s < 64) (hb : b < 2) (w : World) :
    Calls Try.prog 37 #[.int .i64 s, .int .i64 b] w fun e w' => e = .returned (.tuple #[.int .i64 (nx s b), .int .i64 (o1 s b), .int .i64 (o2 s b)]) ∧ w = w' := by
  obtain ⟨r, m1, m2, h1, h2, h3, h4, h5, h6, h7, H⟩ := step_facts s b hs hb
  have h8 := andNot_one ⟨b, hb⟩
  have h9 := xor_one ⟨par m2, par_lt _⟩
  simp only at h8 h9
  have p2 := par_lt m2
  obtain ⟨q, hq⟩ : ∃ q : Nat, q = 1 - par m2 := ⟨_, rfl⟩
  rw [← hq] at h9
  have Q := Lib.hid hq
  clear h2 hq
  go_enter Try.func37, Try.ntmps37
  go_wp2_with ((with_reducible refine (parity_any _ (by assumption) _).mono ?_); rintro e w' ⟨rfl, rfl⟩)
  refine bodyPost_ret (results_tmp3 rfl _ _ _) rfl ?_
  refine ⟨?_, rfl⟩
  rw [H.out.1, H.out.2.1, H.out.2.2, ← Q.out]
  rfl
set_option maxHeartbeats 800000 in
theorem refstep_in (s b : Nat) (hs : s < 64) (hb : b < 2) (w : World) :
    Calls Try.prog 30 #[.int .i64 s, .int .i64 b] w fun e w' => e = .returned (.tuple #[.int .i64 (nx s b), .int .i64 (o1 s b), .int .i64 (o2 s b)]) ∧ w = w' := by
  obtain ⟨r, m1, m2, h1, h2, h3, h4, h5, h6, h7, H⟩ := step_facts s b hs hb
  have p2 := par_lt m2
  clear h1
  go_enter Try.func30, Try.ntmps30
  go_wp2_with ((with_reducible refine (refparity_any _ (by assumption) _).mono ?_); rintro e w' ⟨rfl, rfl⟩)
  refine bodyPost_ret (results_tmp3 rfl _ _ _) rfl ?_
  refine ⟨?_, rfl⟩
  rw [H.out.1, H.out.2.1, H.out.2.2]
  have e : ((1 : Int) - (par m2 : Int)) = ((1 - par m2 : Nat) : Int) := by omega
  show Ending.returned (.tuple #[.int .i64 ((r : Int) / 2), .int .i64 (par m1), .int .i64 (1 - (par m2 : Int))]) = _
  rw [e]
  rfl
theorem step_out (s b : Int) (h : ¬ inR s b) (b1 : -9223372036854775808 ≤ b) (b2 : b ≤ 9223372036854775807) (w : World) :
    Calls Try.prog 37 #[.int .i64 s, .int .i64 b] w fun e w' => e = .returned (.tuple #[.int .i64 0, .int .i64 0, .int .i64 0]) ∧ w = w' := by
  by_cases h1 : s < 0
  · clear h
    go_enter Try.func37, Try.ntmps37
    go_wp2_with (fail)
    refine bodyPost_ret (results_tmp3 rfl _ _ _) rfl ?_
    exact ⟨rfl, rfl⟩
  · by_cases h2 : 64 ≤ s
    · clear h
      go_enter Try.func37, Try.ntmps37
      go_wp2_with (fail)
      refine bodyPost_ret (results_tmp3 rfl _ _ _) rfl ?_
      exact ⟨rfl, rfl⟩
    · have h3 := andNot_ne b b1 b2 (by unfold inR at h; omega)
      have h4 : (bits BinOp.andNot IntKind.i64 b 1 != 0) = true := by simp [h3]
      clear h h3
      go_enter Try.func37, Try.ntmps37
      go_wp2_with (fail)
      refine bodyPost_ret (results_tmp3 rfl _ _ _) rfl ?_
      exact ⟨rfl, rfl⟩
theorem refstep_out (s b : Int) (h : ¬ inR s b) (w : World) :
    Calls Try.prog 30 #[.int .i64 s, .int .i64 b] w fun e w' => e = .returned (.tuple #[.int .i64 0, .int .i64 0, .int .i64 0]) ∧ w = w' := by
  by_cases h1 : s < 0
  · clear h
    go_enter Try.func30, Try.ntmps30
    go_wp2_with (fail)
    refine bodyPost_ret (results_tmp3 rfl _ _ _) rfl ?_
    exact ⟨rfl, rfl⟩
  · by_cases h2 : 63 < s
    · clear h
      go_enter Try.func30, Try.ntmps30
      go_wp2_with (fail)
      refine bodyPost_ret (results_tmp3 rfl _ _ _) rfl ?_
      exact ⟨rfl, rfl⟩
    · by_cases h3 : b < 0
      · clear h
        go_enter Try.func30, Try.ntmps30
        go_wp2_with (fail)
        refine bodyPost_ret (results_tmp3 rfl _ _ _) rfl ?_
        exact ⟨rfl, rfl⟩
      · have h4 : 1 < b := by unfold inR at h; omega
        clear h
        go_enter Try.func30, Try.ntmps30
        go_wp2_with (fail)
        refine bodyPost_ret (results_tmp3 rfl _ _ _) rfl ?_
        exact ⟨rfl, rfl⟩
def symN (n : Int) : Int := if 0 ≤ n ∧ n ≤ 1100 then 16 * n + 12 else 0
theorem symbols_any (n : Int) (w : World) :
    Calls Try.prog 23 #[.int .i64 n] w fun e w' => e = .returned (.int .i64 (symN n)) ∧ w = w' := by
  go_enter Try.func23, Try.ntmps23
  go_wp2
  all_goals (go_ret; exact ⟨ret_int (by unfold symN; split <;> omega), rfl⟩)
theorem refsymbols_any (n : Int) (w : World) :
    Calls Try.prog 28 #[.int .i64 n] w fun e w' => e = .returned (.int .i64 (symN n)) ∧ w = w' := by
  go_enter Try.func28, Try.ntmps28
  go_wp2
  all_goals (go_ret; exact ⟨ret_int (by unfold symN; split <;> omega), rfl⟩)
end Go.Proofs.Ytbfgpjpfhbbdfaa
