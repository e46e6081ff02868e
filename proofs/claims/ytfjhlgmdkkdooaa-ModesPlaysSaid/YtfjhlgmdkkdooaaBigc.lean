/-
  The walk of the reference's Half. Conditions: those that the theorem names.
-/
import Derived.Test.YtfjhlgmdkkdooaaBigb
namespace Go.Proofs.Ytfjhlgmdkkdooaa
open Go.RowKit Kit
set_option linter.unusedVariables false
set_option maxHeartbeats 1600000 in
theorem half_any (A : List Nat) (hA : okB A) (w : World) : Calls Try.prog 37 #[.agg (big A)] w fun e w' => RB (val A / 2) w e w' := by
  have HA := Lib.hid hA
  clear hA
  go_enter Try.func37, Try.ntmps37
  go_wp2_with (fail)
  obtain ⟨W0, hW⟩ : ∃ W0, W0 = (w.alloc (.cells (big A) 63)).alloc (.cells #[.int .u64 0, .int .u64 0, .int .u64 0, .int .u64 0, .int .u64 0, .int .u64 0, .int .u64 0, .int .u64 0, .int .u64 0, .int .u64 0, .int .u64 0, .int .u64 0, .int .u64 0, .int .u64 0, .int .u64 0, .int .u64 0, .int .u64 0] 63) := ⟨_, rfl⟩
  have PA : Hid (BB W0 w.heap.size A) := Lib.hid (by rw [hW]; exact (BB.new w A).old _)
  have PZ : Hid (BB W0 (w.heap.size + 1) zeros) := Lib.hid (by rw [hW, ← zlit]; simpa using BB.new (w.alloc (.cells (big A) 63)) zeros)
  have BL : Hid (Below w.heap.size w W0) := Lib.hid (by rw [hW]; exact bl_alloc (bl_alloc (Below.refl _ _) _) _)
  rw [← hW]
  clear hW
  go_loopw [3] (fun i wr => ∃ (k : Nat) (D : List Nat), k ≤ 17 ∧ i = .int .i64 k ∧ okB D ∧ (∀ j, k ≤ j → D.getD j 0 = A.getD j 0) ∧ pv A k + (A.getD k 0 % 2) * 65536 ^ k = 2 * pv D k + A.getD 0 0 % 2 ∧ BB wr w.heap.size D ∧ BB wr (w.heap.size + 1) zeros ∧ Below w.heap.size w wr) (fun i _ => 17 - (intOf i).toNat)
  case atStart => exact ⟨0, A, by omega, rfl, HA.out, fun j _ => rfl, by simp [pv], PA.out, PZ.out, BL.out⟩
  case round =>
    clear PA PZ BL
    obtain ⟨k, D, hk, rfl, hD, he, hv, hPA, hPZ, hBL⟩ := hrel
    have HE := Lib.hid he; have HD := Lib.hid hD; have HV := Lib.hid hv; have QA := Lib.hid hPA; have QZ := Lib.hid hPZ; have BL := Lib.hid hBL
    clear he hD hv hPA hPZ hBL
    have hlA := QA.out.lt
    by_cases hlt : k < 17
    · have h0 : (0 : Int) ≤ (k : Int) := by omega
      have h1 : (k : Int) < 17 := by omega
      have y1 := QA.out.cell HD.out (i := k) hlt
      have f1 : ∀ j, wr.frozen? ⟨w.heap.size, j, none⟩ = false := fun j => QA.out.free j
      rw [HE.out k (Nat.le_refl _)] at y1
      obtain ⟨x, hx⟩ : ∃ x, x = A.getD k 0 := ⟨_, rfl⟩
      obtain ⟨y, hy⟩ : ∃ y, y = A.getD (k + 1) 0 := ⟨_, rfl⟩
      have bx : x < 65536 := by rw [hx]; exact HA.out.lt k
      have by' : y < 65536 := by rw [hy]; exact HA.out.lt _
      have FIN : Hid (∀ n, n = (x + y % 2 * 65536) / 2 → n < 65536 ∧ (∀ j, k + 1 ≤ j → (D.set k n).getD j 0 = A.getD j 0) ∧ pv A (k + 1) + (A.getD (k + 1) 0 % 2) * 65536 ^ (k + 1) = 2 * pv (D.set k n) (k + 1) + A.getD 0 0 % 2) := Lib.hid (by
        rintro n rfl
        refine ⟨by omega, fun j hj => ?_, ?_⟩
        · rw [set_get _ _ _ _ (by have := HD.out.len; omega), if_neg (by omega)]; exact HE.out j (by omega)
        · have hp : pv A k + (A.getD k 0 % 2) * 65536 ^ k = 2 * pv (D.set k ((x + y % 2 * 65536) / 2)) k + A.getD 0 0 % 2 := by rw [pv_set _ (Nat.le_refl _)]; exact HV.out
          exact half_step hp (by rw [set_get _ _ _ _ (by have := HD.out.len; omega), if_pos rfl, hx, hy]))
      rw [← hx] at y1
      by_cases h16 : k < 16
      · have y2 := QA.out.cell HD.out (i := k + 1) (by omega)
        rw [HE.out (k + 1) (by omega), ← hy] at y2
        clear hx hy
        obtain ⟨t, ht⟩ : ∃ t : Nat, t = y % 2 := ⟨_, rfl⟩
        obtain ⟨q, hq⟩ : ∃ q : Nat, q = t * 65536 := ⟨_, rfl⟩
        obtain ⟨z, hz⟩ : ∃ z : Nat, z = x + q := ⟨_, rfl⟩
        obtain ⟨n, hn⟩ : ∃ n : Nat, n = (x + y % 2 * 65536) / 2 := ⟨_, rfl⟩
        have m1 : (y : Int).tmod 2 = (t : Int) := by rw [Int.tmod_eq_emod_of_nonneg (by omega)]; omega
        have m2 : IntKind.u64.wrap ((t : Int) * 65536) = (q : Int) := by rw [IntKind.wrap_u64]; omega
        have m3 : IntKind.u64.wrap ((x : Int) + (q : Int)) = (z : Int) := by rw [IntKind.wrap_u64]; omega
        have s1 : IntKind.i64.wrap ((k : Int) + 1) = (k : Int) + 1 := IntWalk.i64_in _ (by omega)
        have s2 : (0 : Int) ≤ (k : Int) + 1 := by omega
        have s3 : ((k : Int) + 1).toNat = k + 1 := by omega
        have s4 : (k : Int) + 1 < 17 := by omega
        have en : ((z : Int)) / 2 = ((n : Nat) : Int) := by omega
        obtain ⟨k1, k2, k3⟩ := FIN.out n hn
        have K2 := Lib.hid k2; have K3 := Lib.hid k3; have EN := Lib.hid en
        clear ht hq hz hn k2 k3 en
        go_wp2_with (fail)
        refine region_still_tail 12 (by kernel_rfl) (by kernel_rfl) ?_
        simp only [List.take_succ_cons, List.take_zero, List.drop_succ_cons, List.drop_zero]
        repeat still_step
        refine wpStill_nil ?_
        clear m1 m2 m3 s1 s2 s3 s4
        go_wp2_with (fail)
        rw [EN.out, u64_small n (by omega)]
        go_roundw
        case rel => exact ⟨k + 1, D.set k n, by omega, by go_num, HD.out.set _ _ k1, K2.out, K3.out, by have := ((QA.out.set k z).set k n).drewN 1; rw [List.set_set] at this; exact this, ((QZ.out.apart (by omega) _ _).apart (by omega) _ _).drewN 1, ((BL.out.setCell (Nat.le_refl _) _).setCell (Nat.le_refl _) _).drew⟩
        case measure => simp [intOf]; omega
      · have hy0 : y = 0 := by rw [hy, List.getD_eq_getElem?_getD, List.getElem?_eq_none (by have := HA.out.len; omega)]; rfl
        clear hx hy
        go_wp2_with (fail)
        obtain ⟨n, hn⟩ : ∃ n, n = (x + y % 2 * 65536) / 2 := ⟨_, rfl⟩
        have e1 : ((x : Int)) / 2 = ((n : Nat) : Int) := by omega
        rw [e1]
        obtain ⟨k1, k2, k3⟩ := FIN.out n hn
        go_roundw
        case rel => exact ⟨k + 1, D.set k n, by omega, by go_num, HD.out.set _ _ k1, k2, k3, QA.out.set k n, QZ.out.apart (by omega) _ _, BL.out.setCell (Nat.le_refl _) _⟩
        case measure => simp [intOf]; omega
    · obtain rfl : k = 17 := by omega
      have HF := Lib.hid (half_end HA.out.len HV.out)
      go_wp2_with (first | refine big_load (o := ⟨some 29, .load 63 (.tmp 1), _, _, _, _⟩) rfl (.tmp 1) rfl w.heap.size D rfl QA.out HD.out ?_ | refine big_store (o := ⟨none, .store 63 (.tmp 2) (.tmp 29), _, _, _, _⟩) rfl (.tmp 2) (.tmp 29) rfl (w.heap.size + 1) D zeros rfl rfl QZ.out zeros_ok HD.out ?_)
      exact big_ret rfl rfl rfl (QZ.out.put D) HD.out HF.out (bl_row BL.out (by omega) _)
end Go.Proofs.Ytfjhlgmdkkdooaa
