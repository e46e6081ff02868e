/-
  The walks of the reference's fits, set, Put, PutSigned and Flip. Conditions: a string that fits into memory.
-/
import Derived.Test.YtjeaccpocpfkgaaPuts
namespace Go.Proofs.Ytjeaccpocpfkgaa
open Go.RowKit Kit
set_option linter.unusedVariables false
theorem div_zero {v p : Nat} (hp : 0 < p) : (v / p = 0) ↔ v < p := by
  rw [Nat.div_eq_zero_iff]; omega
theorem reffits_any (v wd : Nat) (hv : v < 18446744073709551616) (w : World) : Calls Try.prog 37 #[.int .u64 (v : Int), .int .i64 wd] w fun e w' => e = .returned (.bool (decide (v < 2 ^ wd))) ∧ w = w' := by
  by_cases h : 64 ≤ wd
  · have hd : decide (v < 2 ^ wd) = true := by
      have := Nat.pow_le_pow_right (show 0 < 2 by decide) h
      have e : 2 ^ 64 = 18446744073709551616 := rfl
      rw [decide_eq_true_eq]; omega
    rw [hd]
    have hz : decide ((64 : Int) ≤ (wd : Int)) = true := by simpa using (show (64 : Int) ≤ (wd : Int) by omega)
    clear h hd
    go_enter Try.func37, Try.ntmps37
    go_wp2_with (fail)
    go_ret
    exact ⟨rfl, rfl⟩
  · have hz : decide ((64 : Int) ≤ (wd : Int)) = false := by simpa using (show ¬ (64 : Int) ≤ (wd : Int) by omega)
    have he : ((v : Int) / 2 ^ wd == 0) = decide (v < 2 ^ wd) := by
      rw [pow_two_int, ← Int.natCast_ediv, Bool.eq_iff_iff, beq_iff_eq, decide_eq_true_eq, ← div_zero (Nat.pow_pos (by decide))]
      omega
    rw [← he]
    obtain ⟨wd', hw⟩ : ∃ wd', Hid (wd' = wd) := ⟨_, Lib.hid rfl⟩
    clear he
    go_enter Try.func37, Try.ntmps37
    go_wp2_with (fail)
    go_ret
    exact ⟨rfl, rfl⟩
theorem or_fin : ∀ (c : Fin 256) (j : Fin 8), bits BinOp.or IntKind.u8 (c.val : Int) (2 ^ (7 - j.val) % 256) = ((byteB c (7 - j.val) 1 : Nat) : Int) ∧ bits BinOp.xor IntKind.u8 ((byteB c (7 - j.val) 1 : Nat) : Int) (2 ^ (7 - j.val) % 256) = ((byteB c (7 - j.val) 0 : Nat) : Int) := by decide +kernel
theorem orb_in {c j : Nat} (hc : c < 256) (hj : j < 8) : bits BinOp.or IntKind.u8 (c : Int) (2 ^ (7 - j) % 256) = ((byteB c (7 - j) 1 : Nat) : Int) := (or_fin ⟨c, hc⟩ ⟨j, hj⟩).1
theorem xor_in {c j : Nat} (hc : c < 256) (hj : j < 8) : bits BinOp.xor IntKind.u8 ((byteB c (7 - j) 1 : Nat) : Int) (2 ^ (7 - j) % 256) = ((byteB c (7 - j) 0 : Nat) : Int) := (or_fin ⟨c, hc⟩ ⟨j, hj⟩).2
set_option maxRecDepth 100000 in
set_option maxHeartbeats 1600000 in
theorem set_any (d : ByteArray) (hd : d.size ≤ 65536) (a wd v : Nat) (hw : wd ≤ 64) (h : a + wd ≤ 8 * d.size) (hv : v < 18446744073709551616) (w : World) : Calls Try.prog 38 #[.string d, .int .i64 a, .int .i64 wd, .int .u64 (v : Int)] w fun e w' => e = .returned (.string (strB (put (lst d) a wd v))) ∧ Below w.heap.size w w' := by
  have cv := Lib.run_convert_string_bytes (P := Try.prog) w 9 64 5 d Try.underlying9 Try.underlying64 Try.underlying5
  go_enter Try.func38, Try.ntmps38
  go_wp2_with (fail)
  obtain ⟨W1, hW1⟩ : ∃ W1, W1 = Lib.bytesWorld w 5 d := ⟨_, rfl⟩
  obtain ⟨cap, hcap⟩ : ∃ cap, cap = grownCap w d.size 0 5 := ⟨_, rfl⟩
  have B1 : Hid (Below w.heap.size w W1) := Lib.hid (by rw [hW1]; exact bytesWorld_below w d)
  have R1 : Hid (RowB W1 w.heap.size (lst d)) := Lib.hid (by rw [hW1]; exact bytesWorld_row w d)
  obtain ⟨B, hB⟩ : ∃ B, B = w.heap.size := ⟨_, rfl⟩
  rw [← hW1, ← hcap]
  rw [← hB] at R1 ⊢
  have XB := Lib.hid hB
  clear hW1 hcap cv hB
  go_loopw [10, 11, 12] (fun i _ _ wr => ∃ (k : Nat), k ≤ wd ∧ i = .int .i64 k ∧ RowB wr B (sfB (lst d) a wd v k) ∧ Mod (fun k => k = B) W1 wr) (fun i _ _ _ => wd - (intOf i).toNat)
  case atStart => exact ⟨0, by omega, rfl, R1.out, Mod.refl _ _⟩
  case round =>
    clear R1
    obtain ⟨k, hk, rfl, hr, hm⟩ := hrel
    have HR := Lib.hid hr; have HM := Lib.hid hm
    clear hr hm
    by_cases hlt : k < wd
    · obtain ⟨m, hme⟩ : ∃ m : Nat, m = a + k := ⟨_, rfl⟩
      obtain ⟨x, hx⟩ : ∃ x, x = v / 2 ^ (wd - 1 - k) := ⟨_, rfl⟩
      obtain ⟨M, hM⟩ : ∃ M, M = sfB (lst d) a wd v k := ⟨_, rfl⟩
      have hMl : M.length = d.size := by rw [hM, sfB_len, lst_len]
      have hMok : okL M := by rw [hM]; exact sfB_ok (lst_ok d) _ _ _ _
      obtain ⟨c, hc⟩ : ∃ c, c = M.getD (m / 8) 0 := ⟨_, rfl⟩
      have hc256 : c < 256 := by rw [hc]; exact okL_get hMok _
      have ST : Hid (∀ y, y = x % 2 → sfB (lst d) a wd v (k + 1) = M.set (m / 8) (byteB c (7 - m % 8) y)) := Lib.hid (by
        rintro y rfl
        rw [sfB, setB, ← hM, ← hme, ← hc, hx])
      rw [← hM] at HR
      have hcell := HR.out.cell (m / 8) (by omega)
      rw [← hc] at hcell
      have hfr := HR.out.free (m / 8) (by omega)
      have hBl : B < wr.heap.size := World.block_lt_of_cell? wr _ hcell
      have se := orb_in hc256 (show m % 8 < 8 by omega)
      have cl := xor_in hc256 (show m % 8 < 8 by omega)
      subst hme
      have XD : Hid (x = v / 2 ^ (wd - 1 - k)) := Lib.hid hx
      have b1 : ((a : Int) + (k : Int)) / 8 < (d.size : Int) := by omega
      have m8 : (a + k) / 8 < M.length := by omega
      have hq0 : ((v : Int) / 2 ^ (wd - 1 - k)).tmod 2 = ((x % 2 : Nat) : Int) := by
        rw [pow_two_int, ← Int.natCast_ediv, ← hx, Int.tmod_eq_emod_of_nonneg (Int.natCast_nonneg _)]; omega
      clear hx hM hc
      rcases Nat.mod_two_eq_zero_or_one x with h2 | h2
      · have S2 := Lib.hid (ST.out 0 h2.symm)
        rw [h2] at hq0
        have hq : (((v : Int) / 2 ^ (wd - 1 - k)).tmod 2 == 0) = true := by rw [hq0]; rfl
        clear h2 hq0
        go_wp2_with (fail)
        go_roundw
        case rel => exact ⟨k + 1, by omega, by congr 1, by
          rw [S2.out]
          have := (HR.out.set m8 (byteB c (7 - (a + k) % 8) 1)).set (i := (a + k) / 8) (by rw [List.length_set]; exact m8) (byteB c (7 - (a + k) % 8) 0)
          rw [List.set_set] at this
          exact this, mod_at (mod_at HM.out _) _⟩
        case measure => simp [intOf]; omega
      · have S2 := Lib.hid (ST.out 1 h2.symm)
        rw [h2] at hq0
        have hq : (((v : Int) / 2 ^ (wd - 1 - k)).tmod 2 == 0) = false := by rw [hq0]; rfl
        clear h2 hq0
        go_wp2_with (fail)
        go_roundw
        case rel => exact ⟨k + 1, by omega, by congr 1, by rw [S2.out]; exact HR.out.set m8 _, mod_at HM.out _⟩
        case measure => simp [intOf]; omega
    · obtain rfl : k = wd := by omega
      have hpl : (put (lst d) a k v).length = d.size := by rw [put_len, lst_len]
      rw [sf_put (lst_ok d) v (by rw [lst_len]; omega)] at HR
      have hcv := run_convert_bytes_arg wr 64 5 Try.underlying64 Try.underlying5 B 0 d.size cap ((put (lst d) a k v).map fun c : Nat => (c : Int)) (by rw [List.length_map, hpl]) (fun i hi => by
        rw [Nat.zero_add, HR.out.cell i (by rw [hpl]; exact hi)]
        simp [List.getD, hpl, hi]) 9 Try.underlying9
      rw [strB_nums] at hcv
      have B2 : Hid (Below w.heap.size w wr) := Lib.hid (bl_mod B1.out HM.out (by rw [XB.out]; exact Nat.le_refl _))
      clear hpl
      go_wp2_with (fail)
      go_ret
      exact ⟨rfl, B2.out⟩
end Go.Proofs.Ytjeaccpocpfkgaa
