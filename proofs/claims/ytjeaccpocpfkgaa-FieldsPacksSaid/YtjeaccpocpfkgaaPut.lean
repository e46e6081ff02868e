/-
  The walks of fields.fits, replaced, Put, PutSigned and Flip. Conditions: a string that fits into memory.
-/
import Derived.Test.YtjeaccpocpfkgaaWrite
import Derived.Test.YtjeaccpocpfkgaaShelf
import Derived.Lib.ConvBytes
import Derived.Laws.BytesArg
namespace Go.Proofs.Ytjeaccpocpfkgaa
open Go.RowKit Kit
set_option linter.unusedVariables false
/-- The string of some bytes. -/
def strB (L : List Nat) : ByteArray := ⟨(L.map UInt8.ofNat).toArray⟩
theorem strB_nums (L : List Nat) : strOfNums (L.map fun c : Nat => (c : Int)) = strB L := by
  unfold strOfNums strB; simp
theorem lst_strB {L : List Nat} (h : okL L) : lst (strB L) = L := by
  unfold lst strB
  simp only [List.map_map]
  conv => rhs; rw [← List.map_id L]
  apply List.map_congr_left
  intro c hc
  simp [Nat.mod_eq_of_lt (h c hc)]
theorem strB_lst (d : ByteArray) : strB (lst d) = d := by
  unfold lst strB
  rw [List.map_map]
  have : (UInt8.ofNat ∘ UInt8.toNat) = id := by funext x; simp
  rw [this, List.map_id]
theorem strB_size (L : List Nat) : (strB L).size = L.length := by show (strB L).data.size = _; simp [strB]
theorem bitLenAux_iff : ∀ (f x w : Nat), x < 2 ^ f → (Lib.bitLenAux f x ≤ w ↔ x < 2 ^ w)
  | 0, x, w, h => by
    have : x = 0 := by simpa using h
    subst this
    exact ⟨fun _ => Nat.pow_pos (by decide), fun _ => Nat.zero_le _⟩
  | f + 1, x, w, h => by
    rw [Lib.bitLenAux]
    by_cases h0 : x = 0
    · rw [if_pos h0, h0]; exact ⟨fun _ => Nat.pow_pos (by decide), fun _ => Nat.zero_le _⟩
    · rw [if_neg h0]
      cases w with
      | zero => rw [Nat.pow_zero]; omega
      | succ w =>
        have ih := bitLenAux_iff f (x / 2) w (by rw [Nat.pow_succ] at h; omega)
        rw [Nat.pow_succ]
        omega
theorem fits_iff {x : Nat} (hx : x < 18446744073709551616) (w : Nat) : decide (Lib.bitLen x ≤ w) = decide (x < 2 ^ w) := by
  rw [decide_eq_decide]
  exact bitLenAux_iff 64 x w (Nat.lt_of_lt_of_le hx (by decide))
theorem fits_any (v wd : Nat) (hv : v < 18446744073709551616) (hw : wd ≤ 64) (w : World) : Calls Try.prog 35 #[.int .u64 (v : Int), .int .i64 wd] w fun e w' => e = .returned (.bool (decide (v < 2 ^ wd))) ∧ w = w' := by
  rw [← fits_iff hv]
  go_enter Try.func35, Try.ntmps35
  go_wp2_with (fail)
  refine (Try.bits_Len64 (v : Int) _ (by omega) (by omega)).mono ?_
  rintro e _ ⟨rfl, rfl⟩
  rw [Int.toNat_natCast]
  go_wp2_with (fail)
  go_ret
  exact ⟨rfl, rfl⟩
theorem bytesWorld_below (w : World) (s : ByteArray) : Below w.heap.size w (Lib.bytesWorld w 5 s) :=
  ⟨rfl, rfl, rfl, by rw [Lib.bytesWorld_size]; omega, fun j hj => Lib.bytesWorld_at_old w 5 s j hj⟩
theorem bytesWorld_row (w : World) (d : ByteArray) : RowB (Lib.bytesWorld w 5 d) w.heap.size (lst d) := by
  refine ⟨fun i hi => ?_, fun i hi => ?_⟩
  · rw [lst_len] at hi
    rw [Lib.bytesWorld_cell w 5 d i hi]
    congr 2
    unfold lst
    rw [List.getD_eq_getElem?_getD, List.getD_eq_getElem?_getD, List.getElem?_map, List.getElem?_eq_getElem (by simpa using hi)]
    rfl
  · rw [lst_len] at hi
    have hs : d.size ≤ (Lib.bytesCells w 5 d).size := by unfold Lib.bytesCells; rw [Array.size_append, Array.size_map]; exact Nat.le_add_right _ _
    simp [World.frozen?, Lib.bytesWorld_at_new]
    omega
set_option maxHeartbeats 800000 in
theorem replaced_any (d : ByteArray) (hd : d.size ≤ 65536) (a wd v : Nat) (hw : wd ≤ 64) (h : a + wd ≤ 8 * d.size) (hv : v < 18446744073709551616) (w : World) : Calls Try.prog 36 #[.string d, .int .i64 a, .int .i64 wd, .int .u64 (v : Int)] w fun e w' => e = .returned (.string (strB (put (lst d) a wd v))) ∧ Below w.heap.size w w' := by
  have cv := Lib.run_convert_string_bytes (P := Try.prog) w 9 64 5 d Try.underlying9 Try.underlying64 Try.underlying5
  go_enter Try.func36, Try.ntmps36
  go_wp2_with (fail)
  obtain ⟨W1, hW1⟩ : ∃ W1, W1 = Lib.bytesWorld w 5 d := ⟨_, rfl⟩
  obtain ⟨cap, hcap⟩ : ∃ cap, cap = grownCap w d.size 0 5 := ⟨_, rfl⟩
  have B1 : Hid (Below w.heap.size w W1) := Lib.hid (by rw [hW1]; exact bytesWorld_below w d)
  have R1 : Hid (RowB W1 w.heap.size (lst d)) := Lib.hid (by rw [hW1]; exact bytesWorld_row w d)
  rw [← hW1, ← hcap]
  clear hW1 hcap cv
  refine (write_any (lst d) (lst_ok d) w.heap.size cap d.size (lst_len d).symm hd a wd v hw h hv W1 R1.out).mono ?_
  rintro e w2 ⟨⟨u, rfl⟩, hr, hm⟩
  have hpl : (put (lst d) a wd v).length = d.size := by rw [put_len, lst_len]
  have hcv := run_convert_bytes_arg w2 64 5 Try.underlying64 Try.underlying5 w.heap.size 0 d.size cap ((put (lst d) a wd v).map fun c : Nat => (c : Int)) (by rw [List.length_map, hpl]) (fun i hi => by
    rw [Nat.zero_add, hr.cell i (by rw [hpl]; exact hi)]
    simp [List.getD, hpl, hi]) 9 Try.underlying9
  rw [strB_nums] at hcv
  have B2 : Hid (Below w.heap.size w w2) := Lib.hid (bl_mod B1.out hm (Nat.le_refl _))
  clear hr hm hpl
  go_wp2_with (fail)
  go_ret
  exact ⟨rfl, B2.out⟩
end Go.Proofs.Ytjeaccpocpfkgaa
