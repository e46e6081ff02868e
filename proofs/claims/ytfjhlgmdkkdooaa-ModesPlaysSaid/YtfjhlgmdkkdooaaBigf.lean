/-
  The walk of the reference's Signed. Conditions: those that the theorem names.
-/
import Derived.Test.YtfjhlgmdkkdooaaBigb
namespace Go.Proofs.Ytfjhlgmdkkdooaa
open Go.RowKit Kit
set_option linter.unusedVariables false
theorem val4 {L : List Nat} (h : val L < 9223372036854775808) : val L = L.getD 0 0 + L.getD 1 0 * 65536 + L.getD 2 0 * 4294967296 + L.getD 3 0 * 281474976710656 ∧ ∀ j, 4 ≤ j → j < 17 → L.getD j 0 = 0 := by
  have h4 : val L < 65536 ^ 4 := Nat.lt_trans h (by decide)
  refine ⟨?_, fun j h1 h2 => ?_⟩
  · rw [pv_small (by decide) h4]
    have e0 : (65536 : Nat) ^ 0 = 1 := rfl
    have e1 : (65536 : Nat) ^ 1 = 65536 := rfl
    have e2 : (65536 : Nat) ^ 2 = 4294967296 := by decide
    have e3 : (65536 : Nat) ^ 3 = 281474976710656 := by decide
    rw [pv, pv, pv, pv, pv, e0, e1, e2, e3]
    omega
  · have h3 := pv_dig L 17 j h2
    rcases hg : L.getD j 0 with _ | g
    · rfl
    · rw [hg] at h3
      exact (small_arith h4 h3 (Nat.pow_le_pow_right (by decide) h1)).elim
set_option maxHeartbeats 1600000 in
theorem signed_any (L : List Nat) (hL : okB L) (hv : val L < 9223372036854775808) (w : World) : Calls Try.prog 30 #[.bool false, .agg (big L)] w fun e w' => e = .returned (.tuple #[.int .i64 (val L : Nat), .int .i64 0]) ∧ Below w.heap.size w w' := by
  obtain ⟨e0, e4⟩ := val4 hv
  obtain ⟨V, hV⟩ : ∃ V, V = val L := ⟨_, rfl⟩
  rw [← hV] at e0 hv ⊢
  have HL := Lib.hid hL; have H4 := Lib.hid e4; have HV := Lib.hid hV
  clear hL e4 hV
  obtain ⟨x0, h0⟩ : ∃ x, x = L.getD 0 0 := ⟨_, rfl⟩
  obtain ⟨x1, h1⟩ : ∃ x, x = L.getD 1 0 := ⟨_, rfl⟩
  obtain ⟨x2, h2⟩ : ∃ x, x = L.getD 2 0 := ⟨_, rfl⟩
  obtain ⟨x3, h3⟩ : ∃ x, x = L.getD 3 0 := ⟨_, rfl⟩
  have PB := BB.new w L
  have y0 := PB.cell HL.out (i := 0) (by omega)
  have y1 := PB.cell HL.out (i := 1) (by omega)
  have y2 := PB.cell HL.out (i := 2) (by omega)
  have y3 := PB.cell HL.out (i := 3) (by omega)
  have b0 : x0 < 65536 := by rw [h0]; exact HL.out.lt 0
  have b1 : x1 < 65536 := by rw [h1]; exact HL.out.lt 1
  have b2 : x2 < 65536 := by rw [h2]; exact HL.out.lt 2
  have b3 : x3 < 65536 := by rw [h3]; exact HL.out.lt 3
  rw [← h0] at y0
  rw [← h1] at y1
  rw [← h2] at y2
  rw [← h3] at y3
  rw [← h0, ← h1, ← h2, ← h3] at e0
  have E0 := Lib.hid e0
  have HP := Lib.hid PB
  clear h0 h1 h2 h3 e0 PB
  obtain ⟨W, hW⟩ : ∃ W, W = w.alloc (.cells (big L) 63) := ⟨_, rfl⟩
  have BL : Hid (Below w.heap.size w W) := Lib.hid (by rw [hW]; exact bl_alloc (Below.refl _ _) _)
  go_enter Try.func30, Try.ntmps30
  go_wp2_with (fail)
  rw [← hW] at y0 y1 y2 y3 HP ⊢
  clear hW
  go_wp2_with (fail)
  have ev : ((x0 : Int) + (x1 : Int) * 65536 + (x2 : Int) * 65536 * 65536 + (x3 : Int) * 65536 * 65536 * 65536) = (V : Int) := by have := E0.out; omega
  rw [ev]
  clear ev y0 y1 y2 y3
  go_loop [7] (fun i => ∃ k : Nat, 4 ≤ k ∧ k ≤ 17 ∧ i = .int .i64 k) (fun i => 17 - (intOf i).toNat)
  case atStart => exact ⟨4, by omega, by omega, rfl⟩
  case round =>
    obtain ⟨k, hk4, hk, rfl⟩ := hrel
    by_cases hlt : k < 17
    · have y := HP.out.cell HL.out (i := k) hlt
      rw [H4.out k hk4 hlt] at y
      have h0 : (0 : Int) ≤ (k : Int) := by omega
      have h1 : (k : Int) < 17 := by omega
      go_wp2_with (fail)
      go_round
      case rel => exact ⟨k + 1, by omega, by omega, by go_num⟩
      case measure => simp [intOf]; omega
    · obtain rfl : k = 17 := by omega
      have d1 : decide ((9223372036854775808 : Int) < (V : Int)) = false := by rw [decide_eq_false_iff_not]; omega
      have d2 : ((V : Int) == 9223372036854775808) = false := by rw [beq_eq_false_iff_ne]; omega
      go_wp2_with (fail)
      go_ret2
      exact ⟨rfl, BL.out⟩
end Go.Proofs.Ytfjhlgmdkkdooaa
