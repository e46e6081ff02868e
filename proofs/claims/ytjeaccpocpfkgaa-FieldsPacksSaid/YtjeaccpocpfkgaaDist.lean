/-
  The walks of fields.Distance and of the reference's. Conditions: strings that fit into memory.
-/
import Derived.Test.YtjeaccpocpfkgaaRefs
namespace Go.Proofs.Ytjeaccpocpfkgaa
open Go.RowKit Kit
set_option linter.unusedVariables false
def df (a b : Nat) : Nat := if a = b then 0 else 1
/-- In how many of the first bits two lists differ. -/
def distB (L M : List Nat) : Nat → Nat
  | 0 => 0
  | k + 1 => distB L M k + df (bitOf L k) (bitOf M k)
theorem distB_le (L M : List Nat) : ∀ k, distB L M k ≤ k
  | 0 => Nat.le_refl _
  | k + 1 => by have := distB_le L M k; rw [distB]; unfold df; split <;> omega
theorem ones_fin : ∀ x : Fin 256, Lib.onesCount x.val = x.val / 2 ^ 7 % 2 + x.val / 2 ^ 6 % 2 + x.val / 2 ^ 5 % 2 + x.val / 2 ^ 4 % 2 + x.val / 2 ^ 3 % 2 + x.val / 2 ^ 2 % 2 + x.val / 2 ^ 1 % 2 + x.val / 2 ^ 0 % 2 := by decide +kernel
theorem xor_bit (a b j : Nat) : (a ^^^ b) / 2 ^ j % 2 = df (a / 2 ^ j % 2) (b / 2 ^ j % 2) := by
  have h := Nat.testBit_xor a b j
  simp only [Nat.testBit_eq_decide_div_mod_eq] at h
  have h1 := Nat.mod_two_eq_zero_or_one ((a ^^^ b) / 2 ^ j)
  have h2 := Nat.mod_two_eq_zero_or_one (a / 2 ^ j)
  have h3 := Nat.mod_two_eq_zero_or_one (b / 2 ^ j)
  unfold df
  rcases h1 with h1 | h1 <;> rcases h2 with h2 | h2 <;> rcases h3 with h3 | h3 <;> rw [h1, h2, h3] at h <;> rw [h1, h2, h3] <;> simp_all
theorem ones_xor {a b : Nat} (ha : a < 256) (hb : b < 256) : Lib.onesCount (a ^^^ b) = df (a / 2 ^ 7 % 2) (b / 2 ^ 7 % 2) + df (a / 2 ^ 6 % 2) (b / 2 ^ 6 % 2) + df (a / 2 ^ 5 % 2) (b / 2 ^ 5 % 2) + df (a / 2 ^ 4 % 2) (b / 2 ^ 4 % 2) + df (a / 2 ^ 3 % 2) (b / 2 ^ 3 % 2) + df (a / 2 ^ 2 % 2) (b / 2 ^ 2 % 2) + df (a / 2 ^ 1 % 2) (b / 2 ^ 1 % 2) + df (a / 2 ^ 0 % 2) (b / 2 ^ 0 % 2) := by
  have := ones_fin ⟨a ^^^ b, Nat.xor_lt_two_pow (n := 8) ha hb⟩
  rw [this]
  simp only [xor_bit]
theorem distB_byte (L M : List Nat) (h1 : okL L) (h2 : okL M) (i : Nat) : distB L M (8 * (i + 1)) = distB L M (8 * i) + Lib.onesCount (L.getD i 0 ^^^ M.getD i 0) := by
  rw [ones_xor (okL_get h1 i) (okL_get h2 i), show 8 * (i + 1) = 8 * i + 1 + 1 + 1 + 1 + 1 + 1 + 1 + 1 by omega]
  simp only [distB]
  unfold bitOf
  rw [show (8 * i) / 8 = i by omega, show (8 * i + 1) / 8 = i by omega, show (8 * i + 1 + 1) / 8 = i by omega, show (8 * i + 1 + 1 + 1) / 8 = i by omega, show (8 * i + 1 + 1 + 1 + 1) / 8 = i by omega, show (8 * i + 1 + 1 + 1 + 1 + 1) / 8 = i by omega, show (8 * i + 1 + 1 + 1 + 1 + 1 + 1) / 8 = i by omega, show (8 * i + 1 + 1 + 1 + 1 + 1 + 1 + 1) / 8 = i by omega,
    show 7 - (8 * i) % 8 = 7 by omega, show 7 - (8 * i + 1) % 8 = 6 by omega, show 7 - (8 * i + 1 + 1) % 8 = 5 by omega, show 7 - (8 * i + 1 + 1 + 1) % 8 = 4 by omega, show 7 - (8 * i + 1 + 1 + 1 + 1) % 8 = 3 by omega, show 7 - (8 * i + 1 + 1 + 1 + 1 + 1) % 8 = 2 by omega, show 7 - (8 * i + 1 + 1 + 1 + 1 + 1 + 1) % 8 = 1 by omega, show 7 - (8 * i + 1 + 1 + 1 + 1 + 1 + 1 + 1) % 8 = 0 by omega]
  simp only [Nat.add_assoc]
theorem ones_le {x : Nat} (h : x < 256) : Lib.onesCount x ≤ 8 := Lib.onesCount_le8 ⟨x, h⟩
theorem xor_u8 {a b : Nat} (ha : a < 256) (hb : b < 256) : bits BinOp.xor IntKind.u8 (a : Int) (b : Int) = ((a ^^^ b : Nat) : Int) := by
  exact u8_xor_nat a b ha hb
def distR (a b : ByteArray) : Value :=
  if 65536 < a.size ∨ 65536 < b.size then .tuple #[.int .i64 0, .int .i64 3] else if a.size = b.size then .tuple #[.int .i64 (distB (lst a) (lst b) (8 * a.size) : Nat), .int .i64 0] else .tuple #[.int .i64 0, .int .i64 2]
theorem onesb (x : Nat) (h : x < 256) (w : World) : Calls Try.prog 40 #[.int .u8 (x : Int)] w fun e w' => e = .returned (.int .i64 (Lib.onesCount x : Nat)) ∧ w = w' := by
  refine (Try.bits_OnesCount8 (x : Int) w (by omega) (by omega)).mono ?_
  rintro e _ ⟨rfl, rfl⟩
  exact ⟨by rw [Int.toNat_natCast], rfl⟩
set_option maxHeartbeats 800000 in
theorem dist_any (a b : ByteArray) (w : World) (ha : a.size ≤ maxLen) (hb : b.size ≤ maxLen) : Calls Try.prog 20 #[.string a, .string b] w fun e w' => e = .returned (distR a b) ∧ ∃ n, w' = w.drewN n := by
  unfold maxLen at ha hb
  by_cases h1 : (65536 : Int) < (a.size : Int)
  · have hz : distR a b = .tuple #[.int .i64 0, .int .i64 3] := by unfold distR; rw [if_pos (.inl (by omega))]
    rw [hz]
    go_enter Try.func20, Try.ntmps20
    go_wp2_with (fail)
    go_ret2
    exact ⟨rfl, 0, rfl⟩
  · by_cases h2 : (65536 : Int) < (b.size : Int)
    · have hz : distR a b = .tuple #[.int .i64 0, .int .i64 3] := by unfold distR; rw [if_pos (.inr (by omega))]
      rw [hz]
      go_enter Try.func20, Try.ntmps20
      go_wp2_with (fail)
      go_ret2
      exact ⟨rfl, 0, rfl⟩
    · by_cases h3 : a.size = b.size
      · have hz : distR a b = .tuple #[.int .i64 (distB (lst a) (lst b) (8 * a.size) : Nat), .int .i64 0] := by unfold distR; rw [if_neg (by omega), if_pos h3]
        rw [hz]
        have h4 : ((a.size : Int) != (b.size : Int)) = false := by simp; omega
        clear hz
        go_enter Try.func20, Try.ntmps20
        go_wp2_with (fail)
        go_loopw [6, 7, 25] (fun n _ i wr => ∃ k : Nat, k ≤ a.size ∧ i = .int .i64 k ∧ n = .int .i64 (distB (lst a) (lst b) (8 * k) : Nat) ∧ ∃ n, wr = w.drewN n) (fun _ _ i _ => a.size - (intOf i).toNat)
        case atStart => exact ⟨0, by omega, rfl, rfl, 0, rfl⟩
        case round =>
          obtain ⟨k, hk, rfl, rfl, m, rfl⟩ := hrel
          by_cases hlt : k < a.size
          · have hkb : k < b.size := by omega
            obtain ⟨s, hs⟩ : ∃ s, s = distB (lst a) (lst b) (8 * k) := ⟨_, rfl⟩
            have hsl : s ≤ 524288 := by rw [hs]; have := distB_le (lst a) (lst b) (8 * k); omega
            have hst := distB_byte (lst a) (lst b) (lst_ok a) (lst_ok b) k
            rw [lst_get a k hlt, lst_get b k hkb, ← hs] at hst
            rw [← hs]
            have hx := xor_u8 (a := (a[k]'hlt).toNat) (b := (b[k]'hkb).toNat) (UInt8.toNat_lt _) (UInt8.toNat_lt _)
            have hx256 : (a[k]'hlt).toNat ^^^ (b[k]'hkb).toNat < 256 := Nat.xor_lt_two_pow (n := 8) (UInt8.toNat_lt _) (UInt8.toNat_lt _)
            have hol := ones_le hx256
            obtain ⟨x, hxx⟩ : ∃ x, x = (a[k]'hlt).toNat ^^^ (b[k]'hkb).toNat := ⟨_, rfl⟩
            rw [← hxx] at hx hx256 hst hol
            obtain ⟨o, ho⟩ : ∃ o, o = Lib.onesCount x := ⟨_, rfl⟩
            have OB := Lib.hid (fun W => onesb x hx256 W)
            rw [← ho] at hst hol OB
            have HST := Lib.hid hst
            clear hs hst hxx ho
            go_wp2_with (fail)
            go_quiet ((go_at_call 40; first | exact quiet_left (OB.out _) | exact quiet_add_left (OB.out _)))
            go_wp2_with (fail)
            exact ⟨⟨k + 1, by omega, by simp, by rw [HST.out]; simp, m + nq, rfl⟩, by simp [intOf]; omega⟩
          · obtain rfl : k = a.size := by omega
            go_wp2_with (fail)
            go_ret2
            exact ⟨rfl, m, rfl⟩
      · have hz : distR a b = .tuple #[.int .i64 0, .int .i64 2] := by unfold distR; rw [if_neg (by omega), if_neg h3]
        rw [hz]
        have h4 : ((a.size : Int) != (b.size : Int)) = true := by simp; omega
        go_enter Try.func20, Try.ntmps20
        go_wp2_with (fail)
        go_ret2
        exact ⟨rfl, 0, rfl⟩
set_option maxHeartbeats 800000 in
theorem refdist_any (a b : ByteArray) (w : World) (ha : a.size ≤ maxLen) (hb : b.size ≤ maxLen) : Calls Try.prog 21 #[.string a, .string b] w fun e w' => e = .returned (distR a b) ∧ w = w' := by
  by_cases h1 : (65536 : Int) < (a.size : Int)
  · have hz : distR a b = .tuple #[.int .i64 0, .int .i64 3] := by unfold distR; rw [if_pos (.inl (by omega))]
    have hd : decide ((65536 : Int) < (a.size : Int)) = true := by simpa using h1
    rw [hz]
    go_enter Try.func21, Try.ntmps21
    go_wp2_with (fail)
    refine (long_any a _ ha).mono ?_
    rw [hd]
    rintro e _ ⟨rfl, rfl⟩
    go_wp2_with (fail)
    go_ret2
    exact ⟨rfl, rfl⟩
  · have hd : decide ((65536 : Int) < (a.size : Int)) = false := by simpa using h1
    by_cases h2 : (65536 : Int) < (b.size : Int)
    · have hz : distR a b = .tuple #[.int .i64 0, .int .i64 3] := by unfold distR; rw [if_pos (.inr (by omega))]
      have hd2 : decide ((65536 : Int) < (b.size : Int)) = true := by simpa using h2
      rw [hz]
      go_enter Try.func21, Try.ntmps21
      go_wp2_with (fail)
      refine (long_any a _ ha).mono ?_
      rw [hd]
      rintro e _ ⟨rfl, rfl⟩
      go_wp2_with (fail)
      refine (long_any b _ hb).mono ?_
      rw [hd2]
      rintro e _ ⟨rfl, rfl⟩
      go_wp2_with (fail)
      go_ret2
      exact ⟨rfl, rfl⟩
    · have hd2 : decide ((65536 : Int) < (b.size : Int)) = false := by simpa using h2
      unfold maxLen at ha hb
      by_cases h3 : a.size = b.size
      · have hz : distR a b = .tuple #[.int .i64 (distB (lst a) (lst b) (8 * a.size) : Nat), .int .i64 0] := by unfold distR; rw [if_neg (by omega), if_pos h3]
        rw [hz]
        have h4 : ((a.size : Int) != (b.size : Int)) = false := by simp; omega
        clear hz
        go_enter Try.func21, Try.ntmps21
        go_wp2_with (fail)
        refine (long_any a _ ha).mono ?_
        rw [hd]
        rintro e _ ⟨rfl, rfl⟩
        go_wp2_with (fail)
        refine (long_any b _ hb).mono ?_
        rw [hd2]
        rintro e _ ⟨rfl, rfl⟩
        go_wp2_with (fail)
        go_loopw [6, 7] (fun n i wr => ∃ k : Nat, k ≤ 8 * a.size ∧ i = .int .i64 k ∧ n = .int .i64 (distB (lst a) (lst b) k : Nat) ∧ wr = w) (fun _ i _ => 8 * a.size - (intOf i).toNat)
        case atStart => exact ⟨0, by omega, rfl, rfl, rfl⟩
        case round =>
          obtain ⟨k, hk, rfl, rfl, rfl⟩ := hrel
          by_cases hlt : k < 8 * a.size
          · have hlt' : (k : Int) < 8 * (a.size : Int) := by omega
            obtain ⟨s, hs⟩ : ∃ s, s = distB (lst a) (lst b) k := ⟨_, rfl⟩
            have hsl : s ≤ 524288 := by rw [hs]; have := distB_le (lst a) (lst b) k; omega
            have hst : distB (lst a) (lst b) (k + 1) = s + df (bitOf (lst a) k) (bitOf (lst b) k) := by rw [distB, hs]
            have BA := Lib.hid (fun W => bit_any a k W (by omega) (by omega))
            have BB := Lib.hid (fun W => bit_any b k W (by omega) (by omega))
            rw [← hs]
            obtain ⟨x, hx⟩ : ∃ x, x = bitOf (lst a) k := ⟨_, rfl⟩
            obtain ⟨y, hy⟩ : ∃ x, x = bitOf (lst b) k := ⟨_, rfl⟩
            rw [← hx] at BA hst
            rw [← hy] at BB hst
            clear hs hx hy
            by_cases hxy : x = y
            · have HST : Hid (distB (lst a) (lst b) (k + 1) = s) := Lib.hid (by rw [hst]; unfold df; rw [if_pos hxy, Nat.add_zero])
              have hne : ((x : Int) != (y : Int)) = false := by simp; omega
              clear hst hxy
              go_wp2_with (fail)
              refine (BA.out _).mono ?_
              rintro e _ ⟨rfl, rfl⟩
              go_wp2_with (fail)
              refine (BB.out _).mono ?_
              rintro e _ ⟨rfl, rfl⟩
              go_wp2_with (fail)
              go_roundw
              case rel => exact ⟨k + 1, by omega, by simp, by rw [HST.out], by first | rfl | trivial⟩
              case measure => simp [intOf]; omega
            · have HST : Hid (distB (lst a) (lst b) (k + 1) = s + 1) := Lib.hid (by rw [hst]; unfold df; rw [if_neg hxy])
              have hne : ((x : Int) != (y : Int)) = true := by simp; omega
              clear hst hxy
              go_wp2_with (fail)
              refine (BA.out _).mono ?_
              rintro e _ ⟨rfl, rfl⟩
              go_wp2_with (fail)
              refine (BB.out _).mono ?_
              rintro e _ ⟨rfl, rfl⟩
              go_wp2_with (fail)
              go_roundw
              case rel => exact ⟨k + 1, by omega, by simp, by rw [HST.out]; simp, by first | rfl | trivial⟩
              case measure => simp [intOf]; omega
          · obtain rfl : k = 8 * a.size := by omega
            go_wp2_with (fail)
            go_ret2
            exact ⟨rfl, rfl⟩
      · have hz : distR a b = .tuple #[.int .i64 0, .int .i64 2] := by unfold distR; rw [if_neg (by omega), if_neg h3]
        rw [hz]
        have h4 : ((a.size : Int) != (b.size : Int)) = true := by simp; omega
        clear hz
        go_enter Try.func21, Try.ntmps21
        go_wp2_with (fail)
        refine (long_any a _ ha).mono ?_
        rw [hd]
        rintro e _ ⟨rfl, rfl⟩
        go_wp2_with (fail)
        refine (long_any b _ hb).mono ?_
        rw [hd2]
        rintro e _ ⟨rfl, rfl⟩
        go_wp2_with (fail)
        go_ret2
        exact ⟨rfl, rfl⟩
end Go.Proofs.Ytjeaccpocpfkgaa
