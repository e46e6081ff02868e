/-
  The walk of the reference's Abs. Conditions: those that the theorem names.
-/
import Derived.Test.YtfjhlgmdkkdooaaBigb
namespace Go.Proofs.Ytfjhlgmdkkdooaa
open Go.RowKit Kit
set_option linter.unusedVariables false
theorem abs_step {X : List Nat} {k m z q n0 : Nat} (hv : pv X k + m * 65536 ^ k = n0) (hz : z = m % 65536) (hq : q = m / 65536) (hX : okB X) (hk : k < 17) : pv (X.set k z) (k + 1) + q * 65536 ^ (k + 1) = n0 := by
  rw [pv, pv_set _ (Nat.le_refl _), set_get _ _ _ _ (by have := hX.len; omega), if_pos rfl, Nat.pow_succ, ← hv]
  have e : m = 65536 * q + z := by omega
  rw [Nat.add_assoc]
  congr 1
  rw [e, Nat.add_mul, Nat.mul_comm (65536 ^ k) 65536, ← Nat.mul_assoc, Nat.mul_comm q 65536, Nat.add_comm]
theorem abs_end {X : List Nat} {m n0 : Nat} (he : ∀ j, 4 ≤ j → X.getD j 0 = 0) (hv : pv X 4 + m * 65536 ^ 4 = n0) (hn : n0 < 18446744073709551616) : val X = n0 := by
  have h1 : val X = pv X 4 := pv_zero (by omega) (fun j h _ => he j h)
  rw [h1]
  have : (65536 : Nat) ^ 4 = 18446744073709551616 := by decide
  rw [this] at hv
  omega
set_option maxHeartbeats 1600000 in
theorem abs_any (a : Int) (h : -9223372036854775808 ≤ a ∧ a ≤ 9223372036854775807) (w : World) : Calls Try.prog 29 #[.int .i64 a] w fun e w' => RB a.natAbs w e w' := by
  obtain ⟨n0, hn⟩ : ∃ n0, Hid (n0 = a.natAbs) := ⟨_, Lib.hid rfl⟩
  have hn0 : n0 < 18446744073709551616 := by have := hn.out; omega
  rw [← hn.out]
  by_cases h0 : a < 0
  · have hneg : IntKind.u64.wrap (-IntKind.u64.wrap a) = (n0 : Int) := by
      rw [hn.out]
      simp only [IntKind.wrap, IntKind.bits, IntKind.signed]
      simp
      omega
    have HG := Lib.hid hneg
    clear hneg
    go_enter Try.func29, Try.ntmps29
    go_wp2_with (fail)
    obtain ⟨W0, hW⟩ : ∃ W0, W0 = (w.alloc (.cells #[.int .u64 0, .int .u64 0, .int .u64 0, .int .u64 0, .int .u64 0, .int .u64 0, .int .u64 0, .int .u64 0, .int .u64 0, .int .u64 0, .int .u64 0, .int .u64 0, .int .u64 0, .int .u64 0, .int .u64 0, .int .u64 0, .int .u64 0] 63)).alloc (.cells #[.int .u64 0, .int .u64 0, .int .u64 0, .int .u64 0, .int .u64 0, .int .u64 0, .int .u64 0, .int .u64 0, .int .u64 0, .int .u64 0, .int .u64 0, .int .u64 0, .int .u64 0, .int .u64 0, .int .u64 0, .int .u64 0, .int .u64 0] 63) := ⟨_, rfl⟩
    have PZ : Hid (BB W0 w.heap.size zeros) := Lib.hid (by rw [hW, ← zlit]; exact (BB.new w zeros).old _)
    have PX : Hid (BB W0 (w.heap.size + 1) zeros) := Lib.hid (by rw [hW, ← zlit]; simpa using BB.new (w.alloc (.cells (big zeros) 63)) zeros)
    have BL : Hid (Below w.heap.size w W0) := Lib.hid (by rw [hW]; exact bl_alloc (bl_alloc (Below.refl _ _) _) _)
    rw [← hW]
    clear hW
    rw [HG.out]
    go_loopw [3, 5] (fun c i wr => ∃ (k m : Nat) (X : List Nat), k ≤ 4 ∧ i = .int .i64 k ∧ c = .int .u64 m ∧ m < 18446744073709551616 ∧ okB X ∧ (∀ j, k ≤ j → X.getD j 0 = 0) ∧ pv X k + m * 65536 ^ k = n0 ∧ BB wr w.heap.size zeros ∧ BB wr (w.heap.size + 1) X ∧ Below w.heap.size w wr) (fun _ i _ => 4 - (intOf i).toNat)
    case atStart => exact ⟨0, n0, zeros, by omega, rfl, rfl, by omega, zeros_ok, fun j _ => zeros_get j, by rw [pv0]; simp, PZ.out, PX.out, BL.out⟩
    case round =>
      clear PZ PX BL
      obtain ⟨k, m, X, hk, rfl, rfl, hm, hX, he, hv, hPZ, hPX, hBL⟩ := hrel
      have HE := Lib.hid he; have HX := Lib.hid hX; have HV := Lib.hid hv; have QX := Lib.hid hPX; have QZ := Lib.hid hPZ; have BL := Lib.hid hBL
      clear he hX hv hPX hPZ hBL
      have lX := QX.out.lt
      by_cases hlt : k < 4
      · have f1 : ∀ j, wr.frozen? ⟨w.heap.size + 1, j, none⟩ = false := fun j => QX.out.free j
        have y1 := QX.out.cell HX.out (i := k) (by omega)
        have h0 : (0 : Int) ≤ (k : Int) := by omega
        have h1 : (k : Int) < 17 := by omega
        go_wp2_with (fail)
        obtain ⟨z, hz⟩ : ∃ z, z = m % 65536 := ⟨_, rfl⟩
        obtain ⟨q, hq⟩ : ∃ q, q = m / 65536 := ⟨_, rfl⟩
        have e1 : (m : Int) % 65536 = (z : Int) := by omega
        have e2 : (m : Int) / 65536 = (q : Int) := by omega
        have bz : z < 65536 := by omega
        have bq : q < 18446744073709551616 := by omega
        have ST := Lib.hid (abs_step HV.out hz hq HX.out (by omega))
        rw [e1, e2]
        clear hz hq e1 e2
        go_roundw
        case rel =>
          refine ⟨k + 1, q, X.set k z, by omega, by go_num, rfl, by omega, HX.out.set _ _ bz, fun j hj => ?_, ST.out, QZ.out.apart (by omega) _ _, QX.out.set _ _, bl_set (k := w.heap.size + 1) BL.out (by omega) _⟩
          rw [set_get _ _ _ _ (by have := HX.out.len; omega), if_neg (by omega)]; exact HE.out j (by omega)
        case measure => simp [intOf]; omega
      · obtain rfl : k = 4 := by omega
        have HF := Lib.hid (abs_end HE.out HV.out hn0)
        go_wp2_with (first | refine big_load (o := ⟨some 22, .load 63 (.tmp 4), _, _, _, _⟩) rfl (.tmp 4) rfl (w.heap.size + 1) X rfl QX.out HX.out ?_ | refine big_store (o := ⟨none, .store 63 (.tmp 2) (.tmp 22), _, _, _, _⟩) rfl (.tmp 2) (.tmp 22) rfl w.heap.size X zeros rfl rfl QZ.out zeros_ok HX.out ?_)
        exact big_ret rfl rfl rfl (QZ.out.put X) HX.out HF.out (bl_row BL.out (by omega) _)
  · have hp : a = (n0 : Int) := by rw [hn.out]; omega
    subst hp
    go_enter Try.func29, Try.ntmps29
    go_wp2_with (fail)
    obtain ⟨W0, hW⟩ : ∃ W0, W0 = (w.alloc (.cells #[.int .u64 0, .int .u64 0, .int .u64 0, .int .u64 0, .int .u64 0, .int .u64 0, .int .u64 0, .int .u64 0, .int .u64 0, .int .u64 0, .int .u64 0, .int .u64 0, .int .u64 0, .int .u64 0, .int .u64 0, .int .u64 0, .int .u64 0] 63)).alloc (.cells #[.int .u64 0, .int .u64 0, .int .u64 0, .int .u64 0, .int .u64 0, .int .u64 0, .int .u64 0, .int .u64 0, .int .u64 0, .int .u64 0, .int .u64 0, .int .u64 0, .int .u64 0, .int .u64 0, .int .u64 0, .int .u64 0, .int .u64 0] 63) := ⟨_, rfl⟩
    have PZ : Hid (BB W0 w.heap.size zeros) := Lib.hid (by rw [hW, ← zlit]; exact (BB.new w zeros).old _)
    have PX : Hid (BB W0 (w.heap.size + 1) zeros) := Lib.hid (by rw [hW, ← zlit]; simpa using BB.new (w.alloc (.cells (big zeros) 63)) zeros)
    have BL : Hid (Below w.heap.size w W0) := Lib.hid (by rw [hW]; exact bl_alloc (bl_alloc (Below.refl _ _) _) _)
    rw [← hW]
    clear hW
    go_loopw [3, 5] (fun c i wr => ∃ (k m : Nat) (X : List Nat), k ≤ 4 ∧ i = .int .i64 k ∧ c = .int .u64 m ∧ m < 18446744073709551616 ∧ okB X ∧ (∀ j, k ≤ j → X.getD j 0 = 0) ∧ pv X k + m * 65536 ^ k = n0 ∧ BB wr w.heap.size zeros ∧ BB wr (w.heap.size + 1) X ∧ Below w.heap.size w wr) (fun _ i _ => 4 - (intOf i).toNat)
    case atStart => exact ⟨0, n0, zeros, by omega, rfl, rfl, by omega, zeros_ok, fun j _ => zeros_get j, by rw [pv0]; simp, PZ.out, PX.out, BL.out⟩
    case round =>
      clear PZ PX BL
      obtain ⟨k, m, X, hk, rfl, rfl, hm, hX, he, hv, hPZ, hPX, hBL⟩ := hrel
      have HE := Lib.hid he; have HX := Lib.hid hX; have HV := Lib.hid hv; have QX := Lib.hid hPX; have QZ := Lib.hid hPZ; have BL := Lib.hid hBL
      clear he hX hv hPX hPZ hBL
      have lX := QX.out.lt
      by_cases hlt : k < 4
      · have f1 : ∀ j, wr.frozen? ⟨w.heap.size + 1, j, none⟩ = false := fun j => QX.out.free j
        have y1 := QX.out.cell HX.out (i := k) (by omega)
        have h0 : (0 : Int) ≤ (k : Int) := by omega
        have h1 : (k : Int) < 17 := by omega
        go_wp2_with (fail)
        obtain ⟨z, hz⟩ : ∃ z, z = m % 65536 := ⟨_, rfl⟩
        obtain ⟨q, hq⟩ : ∃ q, q = m / 65536 := ⟨_, rfl⟩
        have e1 : (m : Int) % 65536 = (z : Int) := by omega
        have e2 : (m : Int) / 65536 = (q : Int) := by omega
        have bz : z < 65536 := by omega
        have bq : q < 18446744073709551616 := by omega
        have ST := Lib.hid (abs_step HV.out hz hq HX.out (by omega))
        rw [e1, e2]
        clear hz hq e1 e2
        go_roundw
        case rel =>
          refine ⟨k + 1, q, X.set k z, by omega, by go_num, rfl, by omega, HX.out.set _ _ bz, fun j hj => ?_, ST.out, QZ.out.apart (by omega) _ _, QX.out.set _ _, bl_set (k := w.heap.size + 1) BL.out (by omega) _⟩
          rw [set_get _ _ _ _ (by have := HX.out.len; omega), if_neg (by omega)]; exact HE.out j (by omega)
        case measure => simp [intOf]; omega
      · obtain rfl : k = 4 := by omega
        have HF := Lib.hid (abs_end HE.out HV.out hn0)
        go_wp2_with (first | refine big_load (o := ⟨some 22, .load 63 (.tmp 4), _, _, _, _⟩) rfl (.tmp 4) rfl (w.heap.size + 1) X rfl QX.out HX.out ?_ | refine big_store (o := ⟨none, .store 63 (.tmp 2) (.tmp 22), _, _, _, _⟩) rfl (.tmp 2) (.tmp 22) rfl w.heap.size X zeros rfl rfl QZ.out zeros_ok HX.out ?_)
        exact big_ret rfl rfl rfl (QZ.out.put X) HX.out HF.out (bl_row BL.out (by omega) _)
end Go.Proofs.Ytfjhlgmdkkdooaa
