/-
  The walks of fixed.size, root and Hypot, and of quats.Valid. Conditions: numbers of 64 bits.
-/
import Derived.Test.YtfjhlgmdkkdooaaKitc
import Derived.Test.YtfjhlgmdkkdooaaRows
import Derived.Test.YtfjhlgmdkkdooaaShelf
import Derived.Laws.BitsAllLaws
namespace Go.Proofs.Ytfjhlgmdkkdooaa
open Go.RowKit Kit
set_option linter.unusedVariables false
theorem size_any (a : Int) (h : -9223372036854775808 ≤ a ∧ a ≤ 9223372036854775807) (w : World) :
    Calls Try.prog 33 #[.int .i64 a] w fun e w' => e = .returned (.int .u64 (a.natAbs : Int)) ∧ w = w' := by
  obtain ⟨n, hn⟩ : ∃ n, Hid (n = a.natAbs) := ⟨_, Lib.hid rfl⟩
  rw [← hn.out]
  by_cases h0 : a < 0
  · go_enter Try.func33, Try.ntmps33
    go_wp2_with (fail)
    go_ret
    refine ⟨ret_int ?_, rfl⟩
    show IntKind.u64.wrap (-IntKind.u64.wrap a) = (n : Int)
    rw [hn.out]
    simp only [IntKind.wrap, IntKind.bits, IntKind.signed]
    simp
    omega
  · go_enter Try.func33, Try.ntmps33
    go_wp2_with (fail)
    go_ret
    refine ⟨ret_int ?_, rfl⟩
    show a = (n : Int)
    rw [hn.out]
    omega
def isRoot (V n : Nat) : Prop := n * n ≤ V ∧ V < (n + 1) * (n + 1)
theorem root_step (V n m c : Nat) (hc : c = n + 2 ^ m) (h1 : n * n ≤ V) (h2 : V < (n + 2 ^ (m + 1)) * (n + 2 ^ (m + 1))) :
    (c * c ≤ V → V < (c + 2 ^ m) * (c + 2 ^ m)) := by
  intro _
  have : c + 2 ^ m = n + 2 ^ (m + 1) := by rw [hc, Nat.pow_succ]; omega
  rw [this]; exact h2
def RT (V : Nat) (e : Ending) (w w' : World) : Prop := ∃ n : Nat, e = .returned (.int .u64 n) ∧ isRoot V n ∧ n < 9223372036854775808 ∧ w = w'
theorem two_lt (m k : Nat) (h : m ≤ k) : 2 ^ m ≤ 2 ^ k := Nat.pow_le_pow_right (by omega) h
set_option maxHeartbeats 3200000 in
theorem root_any (hi lo : Nat) (h1 : hi < 4611686018427387904) (h2 : lo < 18446744073709551616) (w : World) :
    Calls Try.prog 35 #[.int .u64 hi, .int .u64 lo] w fun e w' => RT (hi * 18446744073709551616 + lo) e w w' := by
  obtain ⟨V, hV⟩ : ∃ V, V = hi * 18446744073709551616 + lo := ⟨_, rfl⟩
  rw [← hV]
  have HV := Lib.hid hV; clear hV
  go_enter Try.func35, Try.ntmps35
  go_wp2_with (fail)
  go_loop [5, 6] (fun a b => ∃ m n : Nat, m ≤ 63 ∧ a = .int .u64 n ∧ b = .int .u64 ((2 ^ m / 2 : Nat) : Int) ∧ n % 2 ^ m = 0 ∧ n + 2 ^ m ≤ 9223372036854775808 ∧ n * n ≤ V ∧ V < (n + 2 ^ m) * (n + 2 ^ m)) (fun _ b => (intOf b).toNat)
  case atStart => exact ⟨63, 0, by omega, rfl, rfl, rfl, by decide, by omega, by have := HV.out; show V < 9223372036854775808 * 9223372036854775808; omega⟩
  case round =>
    obtain ⟨m, n, hm, rfl, rfl, q1, q2, q3, q4⟩ := hrel
    have Q1 := Lib.hid q1; have Q2 := Lib.hid q2; have Q3 := Lib.hid q3; have Q4 := Lib.hid q4
    clear q1 q2 q3 q4
    cases m with
    | zero =>
      have R : Hid (RT V (.returned (.int .u64 n)) w w) := Lib.hid ⟨n, rfl, ⟨Q3.out, Q4.out⟩, by have := Q2.out; omega, rfl⟩
      rw [show (2 ^ 0 / 2 : Nat) = 0 from rfl]
      clear Q1 Q2 Q3 Q4
      go_wp2_with (fail)
      go_ret
      exact R.out
    | succ m =>
      rw [show (2 ^ (m + 1) / 2 : Nat) = 2 ^ m by rw [Nat.pow_succ]; omega]
      obtain ⟨b, hb⟩ : ∃ b, b = 2 ^ m := ⟨_, rfl⟩
      have hb0 : 0 < b := by rw [hb]; exact Nat.two_pow_pos m
      have hm2 : 2 ^ (m + 1) = b + b := by rw [Nat.pow_succ, ← hb]; omega
      rw [← hb]
      have hh : b / 2 = 2 ^ m / 2 := by rw [hb]
      have HB := Lib.hid hb
      have HM := Lib.hid hm2
      have HH := Lib.hid hh
      have q2 := Q2.out
      rw [hm2] at q2
      obtain ⟨c, hc⟩ : ∃ c, c = n + b := ⟨_, rfl⟩
      have O : bits BinOp.or IntKind.u64 (n : Int) (b : Int) = (c : Int) := by
        rw [u64_or_nat n b (by omega) (by omega), nat_join (m + 1) n b Q1.out (by rw [hm2]; omega), hc]
      have hc2 : c < 9223372036854775808 := by omega
      obtain ⟨X, hX⟩ : ∃ X, X = c * c / 18446744073709551616 := ⟨_, rfl⟩
      obtain ⟨Y, hY⟩ : ∃ X, X = c * c % 18446744073709551616 := ⟨_, rfl⟩
      have hcc : c * c = X * 18446744073709551616 + Y := by rw [hX, hY]; omega
      have hY2 : Y < 18446744073709551616 := by rw [hY]; omega
      have MU : Hid (∀ w, Calls Try.prog 32 #[.int .u64 c, .int .u64 c] w fun e w' => e = .returned (.tuple #[.int .u64 X, .int .u64 Y]) ∧ w = w') := Lib.hid (fun w => by
        refine (Try.bits_Mul64 c c (by omega) (by omega) w).mono ?_
        rintro e w' ⟨rfl, rfl⟩
        rw [hX, hY]; exact ⟨rfl, rfl⟩)
      have yes : Hid (c * c ≤ V → ∃ m' n' : Nat, m' ≤ 63 ∧ (Value.int .u64 c) = .int .u64 n' ∧ Value.int .u64 ((b / 2 : Nat) : Int) = .int .u64 ((2 ^ m' / 2 : Nat) : Int) ∧ n' % 2 ^ m' = 0 ∧ n' + 2 ^ m' ≤ 9223372036854775808 ∧ n' * n' ≤ V ∧ V < (n' + 2 ^ m') * (n' + 2 ^ m')) := Lib.hid (fun h => by
        have q4 := Q4.out
        have q1 := Q1.out
        refine ⟨m, c, by omega, rfl, by rw [hh], ?_, by rw [← hb]; omega, h, ?_⟩
        · rw [hc, ← hb]
          rw [hm2] at q1
          have : n % b = 0 := by
            have h1 : b ∣ b + b := ⟨2, by omega⟩
            exact Nat.mod_eq_zero_of_dvd (Nat.dvd_trans h1 (Nat.dvd_of_mod_eq_zero q1))
          rw [Nat.add_mod, this, Nat.mod_self]; simp
        · rw [← hb]
          have : c + b = n + 2 ^ (m + 1) := by omega
          rw [this]; exact q4)
      have no : Hid (V < c * c → ∃ m' n' : Nat, m' ≤ 63 ∧ (Value.int .u64 n) = .int .u64 n' ∧ Value.int .u64 ((b / 2 : Nat) : Int) = .int .u64 ((2 ^ m' / 2 : Nat) : Int) ∧ n' % 2 ^ m' = 0 ∧ n' + 2 ^ m' ≤ 9223372036854775808 ∧ n' * n' ≤ V ∧ V < (n' + 2 ^ m') * (n' + 2 ^ m')) := Lib.hid (fun h => by
        have q1 := Q1.out
        refine ⟨m, n, by omega, rfl, by rw [hh], ?_, by rw [← hb]; omega, Q3.out, ?_⟩
        · rw [← hb]
          rw [hm2] at q1
          have h1 : b ∣ b + b := ⟨2, by omega⟩
          exact Nat.mod_eq_zero_of_dvd (Nat.dvd_trans h1 (Nat.dvd_of_mod_eq_zero q1))
        · rw [← hb, ← hc]; exact h)
      have cs : (X < hi ∨ X = hi ∧ Y ≤ lo) ∧ c * c ≤ V ∨ (hi < X ∨ X = hi ∧ lo < Y) ∧ V < c * c := by
        have := HV.out
        rcases Nat.lt_trichotomy X hi with h | h | h
        · left; exact ⟨.inl h, by rw [hcc, this]; omega⟩
        · rcases Nat.lt_or_ge lo Y with h' | h'
          · right; exact ⟨.inr ⟨h, h'⟩, by rw [hcc, this]; omega⟩
          · left; exact ⟨.inr ⟨h, h'⟩, by rw [hcc, this]; omega⟩
        · right; exact ⟨.inl h, by rw [hcc, this]; omega⟩
      have hn2 : n < 9223372036854775808 := by omega
      clear hb hm2 hh q2 hc hX hY hcc Q1 Q2 Q3 Q4 hm
      rcases cs with ⟨(h | ⟨rfl, h⟩), hle⟩ | ⟨(h | ⟨rfl, h⟩), hle⟩
      · have K := Lib.hid (yes.out hle)
        clear yes no hle
        go_wp2_with ((with_reducible refine (MU.out _).mono ?_); rintro e w' ⟨rfl, rfl⟩)
        go_round
        case rel => exact K.out
        case measure => simp [intOf]; omega
      · have K := Lib.hid (yes.out hle)
        clear yes no hle
        go_wp2_with ((with_reducible refine (MU.out _).mono ?_); rintro e w' ⟨rfl, rfl⟩)
        go_round
        case rel => exact K.out
        case measure => simp [intOf]; omega
      · have K := Lib.hid (no.out hle)
        have hd : ((X : Int) == (hi : Int)) = false := by simp; omega
        clear yes no hle
        go_wp2_with ((with_reducible refine (MU.out _).mono ?_); rintro e w' ⟨rfl, rfl⟩)
        go_round
        case rel => exact K.out
        case measure => simp [intOf]; omega
      · have K := Lib.hid (no.out hle)
        clear yes no hle
        go_wp2_with ((with_reducible refine (MU.out _).mono ?_); rintro e w' ⟨rfl, rfl⟩)
        go_round
        case rel => exact K.out
        case measure => simp [intOf]; omega
end Go.Proofs.Ytfjhlgmdkkdooaa
