/-
  Score's ways to the error, the program's and the specification's. Conditions: those that each names.
-/
import Derived.Test.YtbfgpjpfhbbdfaaEncLong
namespace Go.Proofs.Ytbfgpjpfhbbdfaa
open Go.RowKit Kit
set_option linter.unusedVariables false
set_option maxHeartbeats 400000 in
theorem score_len (d : ByteArray) (X : List Int) (a : Option Addr) (n c : Nat) (w : World) (hX : NS w a n c X) (hd : d.size ≤ 1100) (hn : n ≠ 16 * d.size + 12) :
    Calls Try.prog 14 #[.slice a n c, .string d] w fun e w' => e = .returned (.tuple #[.int .i64 0, .int .i64 2]) ∧ Below w.heap.size w w' := by
  have EA := Lib.hid (encode_idx d d.size rfl hd w)
  obtain ⟨S, hS⟩ : ∃ S, S = strF (outF (bitAt d)) (16 * d.size + 12) := ⟨_, rfl⟩
  have hSs : S.size = 16 * d.size + 12 := by rw [hS, strF_size]
  rw [← hS] at EA
  have l1 : ((S.size : Int) != (n : Int)) = true := by simp; omega
  have l2 : (S.size != n) = true := by simp; omega
  clear hX hd hn hS hSs
  go_enter Try.func14, Try.ntmps14
  go_wp2_with (fail)
  refine EA.out.mono ?_
  rintro e w1 ⟨rfl, b1⟩
  have B1 := Lib.hid b1
  clear b1 EA
  go_wp2_with (fail)
  go_ret2
  exact ⟨rfl, B1.out⟩
set_option maxHeartbeats 400000 in
theorem score_soft (d : ByteArray) (X : List Int) (a : Option Addr) (n c : Nat) (w : World) (hX : NS w a n c X) (hd : d.size ≤ 1100) (hn : n = 16 * d.size + 12) (hs : softL X = false) :
    Calls Try.prog 14 #[.slice a n c, .string d] w fun e w' => e = .returned (.tuple #[.int .i64 0, .int .i64 2]) ∧ Below w.heap.size w w' := by
  have HX := Lib.hid hX
  have EA := Lib.hid (encode_idx d d.size rfl hd w)
  have SA := Lib.hid (fun W (h : NS W a n c X) => soft_any X a n c W h)
  rw [hs] at SA
  obtain ⟨S, hS⟩ : ∃ S, S = strF (outF (bitAt d)) (16 * d.size + 12) := ⟨_, rfl⟩
  have hSs : S.size = n := by rw [hS, strF_size, hn]
  rw [← hS] at EA
  have l1 : ((S.size : Int) != (n : Int)) = false := by simp [hSs]
  have l2 : (S.size != n) = false := by simp [hSs]
  clear hX hd hn hs hS hSs
  go_enter Try.func14, Try.ntmps14
  go_wp2_with (fail)
  refine EA.out.mono ?_
  rintro e w1 ⟨rfl, b1⟩
  have B1 := Lib.hid b1
  have H1 := Lib.hid (HX.out.below b1)
  clear b1 EA HX
  go_wp2_with (fail)
  refine (SA.out _ H1.out).mono ?_
  rintro e _ ⟨rfl, rfl⟩
  clear SA
  go_wp2_with (fail)
  go_ret2
  exact ⟨rfl, B1.out⟩
set_option maxHeartbeats 400000 in
theorem rscore_len (d : ByteArray) (X : List Int) (a : Option Addr) (n c : Nat) (w : World) (hX : NS w a n c X) (hd : d.size ≤ 1100) (hn : n ≠ 16 * d.size + 12) :
    Calls Try.prog 15 #[.slice a n c, .string d] w fun e w' => e = .returned (.tuple #[.int .i64 0, .int .i64 2]) ∧ Below w.heap.size w w' := by
  have EA := Lib.hid (refencode_idx d d.size rfl hd w)
  obtain ⟨S, hS⟩ : ∃ S, S = strF (outF (bitAt d)) (16 * d.size + 12) := ⟨_, rfl⟩
  have hSs : S.size = 16 * d.size + 12 := by rw [hS, strF_size]
  rw [← hS] at EA
  have l1 : ((n : Int) != (S.size : Int)) = true := by simp; omega
  have l2 : (n != S.size) = true := by simp; omega
  clear hX hd hn hS hSs
  go_enter Try.func15, Try.ntmps15
  go_wp2_with (fail)
  refine EA.out.mono ?_
  rintro e w1 ⟨rfl, b1⟩
  have B1 := Lib.hid b1
  clear b1 EA
  go_wp2_with (fail)
  go_ret2
  exact ⟨rfl, B1.out⟩
set_option maxHeartbeats 400000 in
theorem rscore_soft (d : ByteArray) (X : List Int) (a : Option Addr) (n c : Nat) (w : World) (hX : NS w a n c X) (hd : d.size ≤ 1100) (hn : n = 16 * d.size + 12) (hs : softL X = false) :
    Calls Try.prog 15 #[.slice a n c, .string d] w fun e w' => e = .returned (.tuple #[.int .i64 0, .int .i64 2]) ∧ Below w.heap.size w w' := by
  have HX := Lib.hid hX
  have EA := Lib.hid (refencode_idx d d.size rfl hd w)
  have SA := Lib.hid (fun W (h : NS W a n c X) => rsoft_any X a n c W h)
  rw [hs] at SA
  obtain ⟨S, hS⟩ : ∃ S, S = strF (outF (bitAt d)) (16 * d.size + 12) := ⟨_, rfl⟩
  have hSs : S.size = n := by rw [hS, strF_size, hn]
  rw [← hS] at EA
  have l1 : ((n : Int) != (S.size : Int)) = false := by simp [hSs]
  have l2 : (n != S.size) = false := by simp [hSs]
  clear hX hd hn hs hS hSs
  go_enter Try.func15, Try.ntmps15
  go_wp2_with (fail)
  refine EA.out.mono ?_
  rintro e w1 ⟨rfl, b1⟩
  have B1 := Lib.hid b1
  have H1 := Lib.hid (HX.out.below b1)
  clear b1 EA HX
  go_wp2_with (fail)
  refine (SA.out _ H1.out).mono ?_
  rintro e _ ⟨rfl, rfl⟩
  clear SA
  go_wp2_with (fail)
  go_ret2
  exact ⟨rfl, B1.out⟩
end Go.Proofs.Ytbfgpjpfhbbdfaa
