/-
  The walks of the reference's Get and of Signed. Conditions: a string that fits into memory.
-/
import Derived.Test.YtjeaccpocpfkgaaGet
namespace Go.Proofs.Ytjeaccpocpfkgaa
open Go.RowKit Kit
set_option linter.unusedVariables false
theorem ret_intv {k : IntKind} {a b : Int} (h : a = b) : Ending.returned (.int k a) = .returned (.int k b) := by rw [h]
theorem get_any (d : ByteArray) (a wd : Int) (w : World) (hb : d.size ≤ maxLen) : Calls Try.prog 10 #[.string d, .int .i64 a, .int .i64 wd] w fun e w' => e = .returned (getR d a wd) ∧ Below w.heap.size w w' := by
  unfold getR
  by_cases hc : chk d.size a wd = 0
  · rw [if_pos hc]
    obtain ⟨k1, k2, k3, k4, k5⟩ := chk_in hc
    obtain ⟨a, rfl⟩ := Int.eq_ofNat_of_zero_le k4
    obtain ⟨wd, rfl⟩ := Int.eq_ofNat_of_zero_le (show 0 ≤ wd by omega)
    exact get_good d a wd w hb hc
  · rw [if_neg hc]
    exact (get_bad d a wd w hb hc).mono fun e w' ⟨h1, h2⟩ => ⟨h1, h2 ▸ Below.refl _ _⟩
theorem long_any (d : ByteArray) (w : World) (hb : d.size ≤ maxLen) : Calls Try.prog 31 #[.string d] w fun e w' => e = .returned (.bool (decide ((65536 : Int) < (d.size : Int)))) ∧ w = w' := by
  unfold maxLen at hb
  go_enter Try.func31, Try.ntmps31
  go_wp2_with (fail)
  go_ret
  exact ⟨rfl, rfl⟩
theorem field_any (d : ByteArray) (a wd : Int) (w : World) (hb : d.size ≤ maxLen) (hl : ¬ (65536 : Int) < (d.size : Int)) : Calls Try.prog 32 #[.string d, .int .i64 a, .int .i64 wd] w fun e w' => e = .returned (.bool (decide (chk d.size a wd = 0))) ∧ w = w' := by
  unfold maxLen at hb
  obtain ⟨R, hR⟩ : ∃ R, Hid (decide (chk d.size a wd = 0) = R) := ⟨_, Lib.hid rfl⟩
  rw [hR.out]
  have key : Hid (∀ B : Bool, (B = true ↔ ¬ (wd < 1 ∨ 64 < wd ∨ a < 0 ∨ 8 * (d.size : Int) - wd < a)) → R = B) := Lib.hid (fun B hB => by
    rw [← hR.out, Bool.eq_iff_iff, hB, decide_eq_true_eq]; unfold chk; rw [if_neg hl]; split <;> omega)
  by_cases c1 : 1 ≤ wd
  · by_cases c2 : wd ≤ 64
    · by_cases c3 : 0 ≤ a
      · by_cases c4 : a ≤ 8 * (d.size : Int) - wd
        · have hz : R = true := key.out true (by simp; omega)
          subst hz
          go_enter Try.func32, Try.ntmps32
          go_wp2_with (fail)
          go_ret
          exact ⟨rfl, rfl⟩
        · have hz : R = false := key.out false (by simp; omega)
          subst hz
          have hd : decide (a ≤ 8 * (d.size : Int) - wd) = false := by rw [decide_eq_false_iff_not]; exact c4
          clear c4
          go_enter Try.func32, Try.ntmps32
          go_wp2_with (fail)
          go_ret
          exact ⟨rfl, rfl⟩
      · have hz : R = false := key.out false (by simp; omega)
        subst hz
        have hd : decide (0 ≤ a) = false := by rw [decide_eq_false_iff_not]; exact c3
        clear c3
        go_enter Try.func32, Try.ntmps32
        go_wp2_with (fail)
        go_ret
        exact ⟨rfl, rfl⟩
    · have hz : R = false := key.out false (by simp; omega)
      subst hz
      have hd : decide (wd ≤ 64) = false := by rw [decide_eq_false_iff_not]; exact c2
      clear c2
      go_enter Try.func32, Try.ntmps32
      go_wp2_with (fail)
      go_ret
      exact ⟨rfl, rfl⟩
  · have hz : R = false := key.out false (by simp; omega)
    subst hz
    have hd : decide (1 ≤ wd) = false := by rw [decide_eq_false_iff_not]; exact c1
    clear c1
    go_enter Try.func32, Try.ntmps32
    go_wp2_with (fail)
    go_ret
    exact ⟨rfl, rfl⟩
theorem bit_any (d : ByteArray) (i : Nat) (w : World) (hd : d.size ≤ 65536) (hi : i < 8 * d.size) : Calls Try.prog 39 #[.string d, .int .i64 (i : Int)] w fun e w' => e = .returned (.int .u64 (bitOf (lst d) i : Nat)) ∧ w = w' := by
  have hb : i / 8 < d.size := by omega
  have hlt : (d[i / 8]'hb).toNat < 256 := UInt8.toNat_lt _
  have e1 : Hid (bitOf (lst d) i = (d[i / 8]'hb).toNat / 2 ^ (7 - i % 8) % 2) := Lib.hid (by unfold bitOf; rw [lst_get d _ hb])
  go_enter Try.func39, Try.ntmps39
  go_wp2_with (fail)
  go_ret
  refine ⟨ret_intv ?_, rfl⟩
  rw [e1.out]
  have e2 : (((d[i / 8]'hb).toNat : Int) / 2 ^ (7 - i % 8)) = (((d[i / 8]'hb).toNat / 2 ^ (7 - i % 8) : Nat) : Int) := by
    rw [Int.natCast_ediv]; simp
  rw [e2, Int.tmod_eq_emod_of_nonneg (Int.natCast_nonneg _)]
  omega
theorem pow_two_int (n : Nat) : (2 : Int) ^ n = ((2 ^ n : Nat) : Int) := by simp
theorem sgn_arith (v p q : Nat) (hp : 0 < p) (hpq : q * p = 9223372036854775808) (hv : v < 2 * q) : wrap64 (IntKind.u64.wrap ((v : Int) * (p : Int))) / (p : Int) = if v < q then (v : Int) else (v : Int) - 2 * (q : Int) := by
  obtain ⟨m, hm⟩ : ∃ m, m = v * p := ⟨_, rfl⟩
  have hm2 : m < 18446744073709551616 := by
    have := Nat.mul_lt_mul_of_pos_right hv hp
    rw [Nat.mul_assoc, hpq] at this
    omega
  rw [← Int.natCast_mul, ← hm, show IntKind.u64.wrap (m : Int) = (m : Int) by rw [IntKind.wrap_u64]; omega]
  by_cases h : v < q
  · rw [if_pos h]
    have hm3 : m < 9223372036854775808 := by
      have := Nat.mul_lt_mul_of_pos_right h hp
      rw [hpq] at this
      omega
    rw [IntWalk.wrap64_in _ ⟨by omega, by omega⟩, hm, Int.natCast_mul, Int.mul_ediv_cancel _ (by omega)]
  · rw [if_neg h]
    have hm3 : 9223372036854775808 ≤ m := by
      have := Nat.mul_le_mul_right p (show q ≤ v by omega)
      rw [hpq] at this
      omega
    have e : wrap64 (m : Int) = ((v : Int) - 2 * (q : Int)) * (p : Int) := by
      have h1 : wrap64 (m : Int) = (m : Int) - 18446744073709551616 := by unfold wrap64; omega
      have h2 : (2 : Int) * (q : Int) * (p : Int) = 18446744073709551616 := by
        have : (q : Int) * (p : Int) = 9223372036854775808 := by rw [← Int.natCast_mul, hpq]; rfl
        rw [Int.mul_assoc, this]; rfl
      rw [h1, Int.sub_mul, h2, hm, Int.natCast_mul]
    rw [e, Int.mul_ediv_cancel _ (by omega)]
def two (v wd : Nat) : Int := if v < 2 ^ (wd - 1) then (v : Int) else (v : Int) - 2 ^ wd
theorem two_in {v wd : Nat} (h1 : 1 ≤ wd) (h2 : wd ≤ 64) (hv : v < 2 ^ wd) : wrap64 (IntKind.u64.wrap ((v : Int) * 2 ^ (64 - wd))) / 2 ^ (64 - wd) = two v wd := by
  have e : 2 ^ wd = 2 * 2 ^ (wd - 1) := by rw [← Nat.pow_succ']; congr 1; omega
  have hpq : 2 ^ (wd - 1) * 2 ^ (64 - wd) = 9223372036854775808 := by
    rw [← Nat.pow_add, show wd - 1 + (64 - wd) = 63 by omega]
  have := sgn_arith v (2 ^ (64 - wd)) (2 ^ (wd - 1)) (Nat.pow_pos (by decide)) hpq (by rw [← e]; exact hv)
  rw [pow_two_int, this]
  unfold two
  rw [pow_two_int, e]
  split
  · rfl
  · rw [Int.natCast_mul]; rfl
theorem signed_good (d : ByteArray) (a wd : Nat) (w : World) (hb : d.size ≤ maxLen) (hc : chk d.size a wd = 0) : Calls Try.prog 12 #[.string d, .int .i64 a, .int .i64 wd] w fun e w' => e = .returned (.tuple #[.int .i64 (two (numB (lst d) a wd) wd), .int .i64 0]) ∧ Below w.heap.size w w' := by
  obtain ⟨k1, k2, k3, k4, k5⟩ := chk_in hc
  obtain ⟨v, hv⟩ : ∃ v, v = numB (lst d) a wd := ⟨_, rfl⟩
  have G : Hid (∀ W, Calls Try.prog 10 #[.string d, .int .i64 a, .int .i64 wd] W fun e w' => e = .returned (.tuple #[.int .u64 (v : Int), .int .i64 0]) ∧ Below W.heap.size W w') := Lib.hid (fun W => by rw [hv]; exact get_good d a wd W hb hc)
  have hlt : Hid (v < 2 ^ wd) := Lib.hid (by rw [hv]; exact numB_lt _ _ _)
  rw [← hv]
  clear hv hc
  go_enter Try.func12, Try.ntmps12
  go_wp2_with (fail)
  refine (G.out _).mono ?_
  rintro e w1 ⟨rfl, hb1⟩
  have B1 := Lib.hid hb1
  clear hb1
  go_wp2_with (fail)
  go_ret2
  refine ⟨?_, B1.out⟩
  rw [two_in (by omega) (by omega) hlt.out]
  rfl
theorem signed_bad (d : ByteArray) (a wd : Int) (w : World) (hb : d.size ≤ maxLen) (hc : chk d.size a wd ≠ 0) : Calls Try.prog 12 #[.string d, .int .i64 a, .int .i64 wd] w fun e w' => e = .returned (.tuple #[.int .i64 0, .int .i64 (chk d.size a wd)]) ∧ w = w' := by
  have G := Lib.hid (fun W => get_bad d a wd W hb hc)
  obtain ⟨E, hE⟩ : ∃ E, E = chk d.size a wd := ⟨_, rfl⟩
  rw [← hE] at hc G ⊢
  have hn : (E != 0) = true := by simpa using hc
  clear hc hE
  go_enter Try.func12, Try.ntmps12
  go_wp2_with (fail)
  refine (G.out _).mono ?_
  rintro e _ ⟨rfl, rfl⟩
  go_wp2_with (fail)
  go_ret2
  exact ⟨rfl, rfl⟩
def sgnR (d : ByteArray) (a wd : Int) : Value := if chk d.size a wd = 0 then .tuple #[.int .i64 (two (numB (lst d) a.toNat wd.toNat) wd.toNat), .int .i64 0] else .tuple #[.int .i64 0, .int .i64 (chk d.size a wd)]
theorem signed_any (d : ByteArray) (a wd : Int) (w : World) (hb : d.size ≤ maxLen) : Calls Try.prog 12 #[.string d, .int .i64 a, .int .i64 wd] w fun e w' => e = .returned (sgnR d a wd) ∧ Below w.heap.size w w' := by
  unfold sgnR
  by_cases hc : chk d.size a wd = 0
  · rw [if_pos hc]
    obtain ⟨k1, k2, k3, k4, k5⟩ := chk_in hc
    obtain ⟨a, rfl⟩ := Int.eq_ofNat_of_zero_le k4
    obtain ⟨wd, rfl⟩ := Int.eq_ofNat_of_zero_le (show 0 ≤ wd by omega)
    exact signed_good d a wd w hb hc
  · rw [if_neg hc]
    exact (signed_bad d a wd w hb hc).mono fun e w' ⟨h1, h2⟩ => ⟨h1, h2 ▸ Below.refl _ _⟩
set_option maxHeartbeats 800000 in
theorem number_any (d : ByteArray) (a wd : Nat) (w : World) (hd : d.size ≤ 65536) (h : a + wd ≤ 8 * d.size) (hw : wd ≤ 64) : Calls Try.prog 33 #[.string d, .int .i64 a, .int .i64 wd] w fun e w' => e = .returned (.int .u64 (numB (lst d) a wd : Nat)) ∧ w = w' := by
  go_enter Try.func33, Try.ntmps33
  go_wp2_with (fail)
  go_loop [7, 8] (fun v i => ∃ k : Nat, k ≤ wd ∧ i = .int .i64 k ∧ v = .int .u64 (numB (lst d) a k : Nat)) (fun _ i => wd - (intOf i).toNat)
  case atStart => exact ⟨0, by omega, rfl, rfl⟩
  case round =>
    obtain ⟨k, hk, rfl, rfl⟩ := hrel
    by_cases hlt : k < wd
    · have B : Hid (∀ W, Calls Try.prog 39 #[.string d, .int .i64 ((a : Int) + (k : Int))] W fun e w' => e = .returned (.int .u64 (bitOf (lst d) (a + k) : Nat)) ∧ W = w') := Lib.hid (fun W => bit_any d (a + k) W hd (by omega))
      obtain ⟨v, hv⟩ : ∃ v, v = numB (lst d) a k := ⟨_, rfl⟩
      obtain ⟨b, hbb⟩ : ∃ b, b = bitOf (lst d) (a + k) := ⟨_, rfl⟩
      have hv63 : v < 9223372036854775808 := by rw [hv]; exact Nat.lt_of_lt_of_le (numB_lt _ _ _) (pow63 (by omega))
      have hb2 : b < 2 := by rw [hbb]; exact bitOf_lt _ _
      have S : Hid (numB (lst d) a (k + 1) = 2 * v + b) := Lib.hid (by rw [numB, ← hv, ← hbb])
      rw [← hbb] at B
      rw [← hv]
      clear hv hbb
      go_wp2_with (fail)
      refine (B.out _).mono ?_
      rintro e _ ⟨rfl, rfl⟩
      go_wp2_with (fail)
      go_round
      case rel => exact ⟨k + 1, by omega, by go_num, by rw [S.out]; go_num⟩
      case measure => simp [intOf]; omega
    · obtain rfl : k = wd := by omega
      go_wp2_with (fail)
      go_ret
      exact ⟨rfl, rfl⟩
theorem refget_any (d : ByteArray) (a wd : Int) (w : World) (hb : d.size ≤ maxLen) : Calls Try.prog 11 #[.string d, .int .i64 a, .int .i64 wd] w fun e w' => e = .returned (getR d a wd) ∧ w = w' := by
  by_cases hl : (65536 : Int) < (d.size : Int)
  · have hz : getR d a wd = .tuple #[.int .u64 0, .int .i64 3] := by unfold getR; rw [show chk d.size a wd = 3 by unfold chk; rw [if_pos hl]]; rfl
    have hd : decide ((65536 : Int) < (d.size : Int)) = true := by simpa using hl
    rw [hz]
    go_enter Try.func11, Try.ntmps11
    go_wp2_with (fail)
    refine (long_any d _ hb).mono ?_
    rw [hd]
    rintro e _ ⟨rfl, rfl⟩
    go_wp2_with (fail)
    go_ret2
    exact ⟨rfl, rfl⟩
  · have hd : decide ((65536 : Int) < (d.size : Int)) = false := by simpa using hl
    have FA := Lib.hid (fun W => field_any d a wd W hb hl)
    by_cases hc : chk d.size a wd = 0
    · obtain ⟨k1, k2, k3, k4, k5⟩ := chk_in hc
      have hz : getR d a wd = .tuple #[.int .u64 (numB (lst d) a.toNat wd.toNat : Nat), .int .i64 0] := by unfold getR; rw [if_pos hc]
      have hdc : decide (chk d.size a wd = 0) = true := by simpa using hc
      have DC := Lib.hid hdc
      rw [hz]
      obtain ⟨a, rfl⟩ := Int.eq_ofNat_of_zero_le k4
      obtain ⟨wd, rfl⟩ := Int.eq_ofNat_of_zero_le (show 0 ≤ wd by omega)
      clear hz hc hdc hl
      go_enter Try.func11, Try.ntmps11
      go_wp2_with (fail)
      refine (long_any d _ hb).mono ?_
      rw [hd]
      rintro e _ ⟨rfl, rfl⟩
      go_wp2_with (fail)
      refine (FA.out _).mono ?_
      rw [DC.out]
      rintro e _ ⟨rfl, rfl⟩
      go_wp2_with (fail)
      refine (number_any d a wd _ (by omega) (by omega) (by omega)).mono ?_
      rintro e _ ⟨rfl, rfl⟩
      go_wp2_with (fail)
      go_ret2
      exact ⟨rfl, rfl⟩
    · have h2 : chk d.size a wd = 2 := by unfold chk at hc ⊢; rw [if_neg hl] at hc ⊢; split at hc <;> simp_all
      have hz : getR d a wd = .tuple #[.int .u64 0, .int .i64 2] := by unfold getR; rw [h2]; rfl
      have hdc : decide (chk d.size a wd = 0) = false := by rw [h2]; rfl
      have DC := Lib.hid hdc
      rw [hz]
      clear hz hc hdc hl h2
      go_enter Try.func11, Try.ntmps11
      go_wp2_with (fail)
      refine (long_any d _ hb).mono ?_
      rw [hd]
      rintro e _ ⟨rfl, rfl⟩
      go_wp2_with (fail)
      refine (FA.out _).mono ?_
      rw [DC.out]
      rintro e _ ⟨rfl, rfl⟩
      go_wp2_with (fail)
      go_ret2
      exact ⟨rfl, rfl⟩
end Go.Proofs.Ytjeaccpocpfkgaa
