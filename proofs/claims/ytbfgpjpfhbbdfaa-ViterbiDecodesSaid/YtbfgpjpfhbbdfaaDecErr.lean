/-
  Decode's ways to the error. Conditions: those that each names.
-/
import Derived.Test.YtbfgpjpfhbbdfaaSoft
import Derived.Test.YtbfgpjpfhbbdfaaRsoft
import Derived.Test.YtbfgpjpfhbbdfaaEdges
import Derived.OwnWalk
namespace Go.Proofs.Ytbfgpjpfhbbdfaa
open Go.RowKit Kit
set_option linter.unusedVariables false
def decE : Value := .tuple #[.string ⟨#[]⟩, .int .i64 0, .int .i64 2]
theorem symN_out {k : Int} (h : k < 0 ∨ 1100 < k) : symN k = 0 := by unfold symN; rw [if_neg (by omega)]
set_option maxRecDepth 100000 in
set_option maxHeartbeats 400000 in
theorem dec_neg (v : Value) (k : Int) (w : World) (h : k < 0) : Calls Try.prog 11 #[v, .int .i64 k] w fun e w' => e = .returned decE ∧ w = w' := by
  go_enter Try.func11, Try.ntmps11
  go_wp2_with (fail)
  go_ret3
  exact ⟨rfl, rfl⟩
set_option maxRecDepth 100000 in
set_option maxHeartbeats 400000 in
theorem dec_big (v : Value) (k : Int) (w : World) (h : 1100 < k) : Calls Try.prog 11 #[v, .int .i64 k] w fun e w' => e = .returned decE ∧ w = w' := by
  have h0 : ¬ k < 0 := by omega
  go_enter Try.func11, Try.ntmps11
  go_wp2_with (fail)
  go_ret3
  exact ⟨rfl, rfl⟩
set_option maxRecDepth 100000 in
set_option maxHeartbeats 400000 in
theorem dec_len (a : Option Addr) (n c : Nat) (k : Int) (w : World) (h0 : 0 ≤ k) (h1 : k ≤ 1100) (hn : (n : Int) ≠ 16 * k + 12) : Calls Try.prog 11 #[.slice a n c, .int .i64 k] w fun e w' => e = .returned decE ∧ w = w' := by
  have SY := Lib.hid (symbols_any k)
  have e0 : symN k = 16 * k + 12 := by unfold symN; rw [if_pos ⟨h0, h1⟩]
  rw [e0] at SY
  generalize 16 * k + 12 = q at *
  have g0 : ¬ k < 0 := by omega
  have g1 : ¬ (1100 : Int) < k := by omega
  have g2 : ((n : Int) != q) = true := by simpa using hn
  clear e0 h0 h1 hn
  go_enter Try.func11, Try.ntmps11
  go_wp2_with (fail)
  refine (SY.out _).mono ?_
  rintro e _ ⟨rfl, rfl⟩
  go_wp2_with (fail)
  go_ret3
  exact ⟨rfl, rfl⟩
set_option maxRecDepth 100000 in
set_option maxHeartbeats 400000 in
theorem dec_soft (X : List Int) (a : Option Addr) (n c : Nat) (k : Int) (w : World) (hX : NS w a n c X) (h0 : 0 ≤ k) (h1 : k ≤ 1100) (hn : (n : Int) = 16 * k + 12) (hs : softL X = false) : Calls Try.prog 11 #[.slice a n c, .int .i64 k] w fun e w' => e = .returned decE ∧ w = w' := by
  have SY := Lib.hid (symbols_any k)
  have SA := Lib.hid (fun W (h : NS W a n c X) => soft_any X a n c W h)
  rw [hs] at SA
  have HX := Lib.hid hX
  have e0 : symN k = 16 * k + 12 := by unfold symN; rw [if_pos ⟨h0, h1⟩]
  rw [e0, ← hn] at SY
  have g0 : ¬ k < 0 := by omega
  have g1 : ¬ (1100 : Int) < k := by omega
  have g2 : ((n : Int) != (n : Int)) = false := by simp
  clear e0 h0 h1 hn hX
  go_enter Try.func11, Try.ntmps11
  go_wp2_with (fail)
  refine (SY.out _).mono ?_
  rintro e _ ⟨rfl, rfl⟩
  go_wp2_with (fail)
  refine (SA.out _ HX.out).mono ?_
  rintro e _ ⟨rfl, rfl⟩
  go_wp2_with (fail)
  go_ret3
  exact ⟨rfl, rfl⟩
end Go.Proofs.Ytbfgpjpfhbbdfaa
