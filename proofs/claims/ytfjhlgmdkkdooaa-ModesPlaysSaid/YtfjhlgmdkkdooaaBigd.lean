/-
  The walk of the reference's Times. Conditions: those that the theorem names.
-/
import Derived.Test.YtfjhlgmdkkdooaaBigb
namespace Go.Proofs.Ytfjhlgmdkkdooaa
open Go.RowKit Kit
set_option linter.unusedVariables false
/-- What the loops of Times keep. -/
structure TM (w : World) (A B X : List Nat) (wr : World) : Prop where
  a : BB wr w.heap.size A
  b : BB wr (w.heap.size + 1) B
  z : BB wr (w.heap.size + 1 + 1) zeros
  x : BB wr (w.heap.size + 1 + 1 + 1) X
  ok : okB X
  below : Below w.heap.size w wr
set_option maxRecDepth 100000 in
set_option maxHeartbeats 3200000 in
theorem times_any (A B : List Nat) (hA : okB A) (hB : okB B) (h8 : val A < 65536 ^ 8) (h9 : val B < 65536 ^ 8) (w : World) : Calls Try.prog 28 #[.agg (big A), .agg (big B)] w fun e w' => RB (val A * val B) w e w' := by
  have HA := Lib.hid hA; have HB := Lib.hid hB; have H8 := Lib.hid h8; have H9 := Lib.hid h9
  clear hA hB h8 h9
  go_enter Try.func28, Try.ntmps28
  go_wp2_with (fail)
  obtain ⟨W0, hW⟩ : ∃ W0, W0 = (((w.alloc (.cells (big A) 63)).alloc (.cells (big B) 63)).alloc (.cells #[.int .u64 0, .int .u64 0, .int .u64 0, .int .u64 0, .int .u64 0, .int .u64 0, .int .u64 0, .int .u64 0, .int .u64 0, .int .u64 0, .int .u64 0, .int .u64 0, .int .u64 0, .int .u64 0, .int .u64 0, .int .u64 0, .int .u64 0] 63)).alloc (.cells #[.int .u64 0, .int .u64 0, .int .u64 0, .int .u64 0, .int .u64 0, .int .u64 0, .int .u64 0, .int .u64 0, .int .u64 0, .int .u64 0, .int .u64 0, .int .u64 0, .int .u64 0, .int .u64 0, .int .u64 0, .int .u64 0, .int .u64 0] 63) := ⟨_, rfl⟩
  have P : Hid (TM w A B zeros W0) := Lib.hid (by
    rw [hW]
    refine ⟨(((BB.new w A).old _).old _).old _, ?_, ?_, ?_, zeros_ok, bl_alloc (bl_alloc (bl_alloc (bl_alloc (Below.refl _ _) _) _) _) _⟩
    · have := ((BB.new (w.alloc (.cells (big A) 63)) B).old (.cells #[.int .u64 0, .int .u64 0, .int .u64 0, .int .u64 0, .int .u64 0, .int .u64 0, .int .u64 0, .int .u64 0, .int .u64 0, .int .u64 0, .int .u64 0, .int .u64 0, .int .u64 0, .int .u64 0, .int .u64 0, .int .u64 0, .int .u64 0] 63)).old (.cells #[.int .u64 0, .int .u64 0, .int .u64 0, .int .u64 0, .int .u64 0, .int .u64 0, .int .u64 0, .int .u64 0, .int .u64 0, .int .u64 0, .int .u64 0, .int .u64 0, .int .u64 0, .int .u64 0, .int .u64 0, .int .u64 0, .int .u64 0] 63); simpa using this
    · rw [← zlit]; have := (BB.new ((w.alloc (.cells (big A) 63)).alloc (.cells (big B) 63)) zeros).old (.cells (big zeros) 63); simpa using this
    · rw [← zlit]; simpa using BB.new (((w.alloc (.cells (big A) 63)).alloc (.cells (big B) 63)).alloc (.cells (big zeros) 63)) zeros)
  rw [← hW]
  clear hW
  go_loopw [6] (fun i wr => ∃ (n : Nat) (X : List Nat), n ≤ 8 ∧ i = .int .i64 n ∧ pv X 17 = pv A n * pv B 9 ∧ TM w A B X wr) (fun i _ => 8 - (intOf i).toNat)
  case atStart => exact ⟨0, zeros, by omega, rfl, by rw [pv_zeros, pv0, Nat.zero_mul], P.out⟩
  case round =>
    clear P
    obtain ⟨n, X, hn, rfl, hv, hT⟩ := hrel
    have HV := Lib.hid hv; have HT := Lib.hid hT
    clear hv hT
    obtain ⟨wo, rfl⟩ : ∃ wo : World, wo = wr := ⟨_, rfl⟩
    by_cases hlt : n < 8
    · go_wp2_with (fail)
      go_loopw [7, 8] (fun c j wr => ∃ (k cc : Nat) (X' : List Nat), k ≤ 9 ∧ j = .int .i64 k ∧ c = .int .u64 cc ∧ cc ≤ 65535 ∧ pv X' 17 + cc * 65536 ^ (n + k) = pv A n * pv B 9 + A.getD n 0 * pv B k * 65536 ^ n ∧ TM w A B X' wr) (fun _ j _ => 9 - (intOf j).toNat)
      case atStart => exact ⟨0, 0, X, by omega, rfl, rfl, by omega, by rw [HV.out, pv0, Nat.zero_mul, Nat.mul_zero, Nat.zero_mul], HT.out⟩
      case round =>
        clear HV HT
        obtain ⟨k, cc, X', hk, rfl, rfl, hc, hv, hT⟩ := hrel
        have HV := Lib.hid hv; have HT := Lib.hid hT
        clear hv hT
        have lX := HT.out.x.lt
        by_cases hlt9 : k < 9
        · have b0 : (0 : Int) ≤ (n : Int) := by omega
          have b1 : (n : Int) < 17 := by omega
          have b2 : (0 : Int) ≤ (k : Int) := by omega
          have b3 : (k : Int) < 17 := by omega
          have b4 : (0 : Int) ≤ (n : Int) + (k : Int) := by omega
          have b5 : (n : Int) + (k : Int) < 17 := by omega
          have b6 : ((n : Int) + (k : Int)).toNat = n + k := by omega
          have y1 := HT.out.a.cell HA.out (i := n) (by omega)
          have y2 := HT.out.b.cell HB.out (i := k) (by omega)
          have y3 := HT.out.x.cell HT.out.ok (i := n + k) (by omega)
          have f3 : ∀ j, wr.frozen? ⟨w.heap.size + 1 + 1 + 1, j, none⟩ = false := fun j => HT.out.x.free j
          obtain ⟨a, ha⟩ : ∃ a, a = A.getD n 0 := ⟨_, rfl⟩
          obtain ⟨b, hb⟩ : ∃ b, b = B.getD k 0 := ⟨_, rfl⟩
          obtain ⟨x, hx⟩ : ∃ x, x = X'.getD (n + k) 0 := ⟨_, rfl⟩
          have ba : a < 65536 := by rw [ha]; exact HA.out.lt n
          have bb : b < 65536 := by rw [hb]; exact HB.out.lt k
          have bx : x < 65536 := by rw [hx]; exact HT.out.ok.lt _
          obtain ⟨m, hm⟩ : ∃ m : Nat, m = a * b := ⟨_, rfl⟩
          have bm : m ≤ 4294836225 := by rw [hm]; exact Nat.mul_le_mul (show a ≤ 65535 by omega) (show b ≤ 65535 by omega)
          rw [← ha] at y1
          rw [← hb] at y2
          rw [← hx] at y3
          have KE := Lib.hid (mul_step (X := X') (X' := X'.set (n + k) ((cc + x + m) % 65536)) (i := n) (k := k) (c := cc) (a := a) (b := b) (V := pv A n * pv B 9) (T := pv B k) HT.out.ok.len (by omega) (by have := HV.out; rw [← ha] at this; exact this) (by rw [← hx, ← hm]))
          have KA := Lib.hid ha; have KB := Lib.hid hb; have KX := Lib.hid hx; have KM := Lib.hid hm
          have em : IntKind.u64.wrap ((a : Int) * (b : Int)) = (m : Int) := by rw [← Int.natCast_mul, ← hm]; exact u64_small m (by omega)
          clear ha hb hx hm
          go_wp2_with (fail)
          go_quiet (fail)
          clear em
          go_wp2_with (fail)
          obtain ⟨z, hz⟩ : ∃ z, z = (cc + x + m) % 65536 := ⟨_, rfl⟩
          have e1 : ((cc : Int) + (x : Int) + (m : Int)) % 65536 = (z : Int) := by omega
          have e2 : ((cc : Int) + (x : Int) + (m : Int)) / 65536 = (((cc + x + m) / 65536 : Nat) : Int) := by omega
          have bz : z < 65536 := by omega
          rw [e1, e2]
          rw [← hz] at KE
          go_roundw
          case rel =>
            refine ⟨k + 1, (cc + x + m) / 65536, X'.set (n + k) z, by omega, by go_num, rfl, by omega, ?_, ⟨(HT.out.a.apart (by omega) _ _).drewN nq, (HT.out.b.apart (by omega) _ _).drewN nq, (HT.out.z.apart (by omega) _ _).drewN nq, (HT.out.x.set _ _).drewN nq, HT.out.ok.set _ _ bz, below_drewN (bl_set (k := w.heap.size + 1 + 1 + 1) HT.out.below (by omega) _) nq⟩⟩
            have := KE.out
            rw [← KX.out, ← KM.out] at this
            rw [show pv B (k + 1) = pv B k + B.getD k 0 * 65536 ^ k from rfl, ← KA.out, ← KB.out]
            exact this
          case measure => simp [intOf]; omega
        · obtain rfl : k = 9 := by omega
          have KN := Lib.hid (times_end HA.out HB.out H9.out HV.out)
          go_wp2_with (fail)
          go_roundw
          case rel => exact ⟨n + 1, X', by omega, by go_num, KN.out, HT.out⟩
          case measure => simp [intOf]; omega
    · obtain rfl : n = 8 := by omega
      have hf : val X = val A * val B := by
        rw [pv_small (by decide) H8.out, pv_small (i := 9) (by decide) (Nat.lt_trans H9.out (Nat.pow_lt_pow_right (by decide) (by decide)))]
        exact HV.out
      have HF := Lib.hid hf; clear hf
      go_wp2_with (first | refine big_load (o := ⟨some 40, .load 63 (.tmp 5), _, _, _, _⟩) rfl (.tmp 5) rfl (w.heap.size + 1 + 1 + 1) X rfl HT.out.x HT.out.ok ?_ | refine big_store (o := ⟨none, .store 63 (.tmp 4) (.tmp 40), _, _, _, _⟩) rfl (.tmp 4) (.tmp 40) rfl (w.heap.size + 1 + 1) X zeros rfl rfl HT.out.z zeros_ok HT.out.ok ?_)
      exact big_ret rfl rfl rfl (HT.out.z.put X) HT.out.ok HF.out (bl_row HT.out.below (by omega) _)
end Go.Proofs.Ytfjhlgmdkkdooaa
