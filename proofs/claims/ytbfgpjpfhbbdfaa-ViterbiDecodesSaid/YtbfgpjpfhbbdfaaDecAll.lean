/-
  Decode whatever it is asked, the program's and the specification's: the same answer. Conditions: none.
-/
import Derived.Test.YtbfgpjpfhbbdfaaRdec
import Derived.Test.YtbfgpjpfhbbdfaaDec
import Derived.Test.YtbfgpjpfhbbdfaaDecErr
import Derived.Test.YtbfgpjpfhbbdfaaAwk
import Derived.OwnWalk
namespace Go.Proofs.Ytbfgpjpfhbbdfaa
open Go.RowKit Kit
set_option linter.unusedVariables false
set_option maxRecDepth 100000 in
set_option maxHeartbeats 400000 in
theorem rdec_neg (v : Value) (k : Int) (w : World) (h : k < 0) : Calls Try.prog 12 #[v, .int .i64 k] w fun e w' => e = .returned decE ∧ w = w' := by
  go_enter Try.func12, Try.ntmps12
  go_wp2_with (fail)
  go_ret3
  exact ⟨rfl, rfl⟩
set_option maxRecDepth 100000 in
set_option maxHeartbeats 400000 in
theorem rdec_big (v : Value) (k : Int) (w : World) (h : 1100 < k) : Calls Try.prog 12 #[v, .int .i64 k] w fun e w' => e = .returned decE ∧ w = w' := by
  have h0 : ¬ k < 0 := by omega
  go_enter Try.func12, Try.ntmps12
  go_wp2_with (fail)
  go_ret3
  exact ⟨rfl, rfl⟩
set_option maxRecDepth 100000 in
set_option maxHeartbeats 400000 in
theorem rdec_len (a : Option Addr) (n c : Nat) (k : Int) (w : World) (h0 : 0 ≤ k) (h1 : k ≤ 1100) (hn : (n : Int) ≠ 16 * k + 12) : Calls Try.prog 12 #[.slice a n c, .int .i64 k] w fun e w' => e = .returned decE ∧ w = w' := by
  have SY := Lib.hid (refsymbols_any k)
  have e0 : symN k = 16 * k + 12 := by unfold symN; rw [if_pos ⟨h0, h1⟩]
  rw [e0] at SY
  generalize 16 * k + 12 = q at *
  have g0 : ¬ k < 0 := by omega
  have g1 : ¬ (1100 : Int) < k := by omega
  have g2 : ((n : Int) != q) = true := by simpa using hn
  clear e0 h0 h1 hn
  go_enter Try.func12, Try.ntmps12
  go_wp2_with (fail)
  refine (SY.out _).mono ?_
  rintro e _ ⟨rfl, rfl⟩
  go_wp2_with (fail)
  go_ret3
  exact ⟨rfl, rfl⟩
set_option maxRecDepth 100000 in
set_option maxHeartbeats 400000 in
theorem rdec_soft (X : List Int) (a : Option Addr) (n c : Nat) (k : Int) (w : World) (hX : NS w a n c X) (h0 : 0 ≤ k) (h1 : k ≤ 1100) (hn : (n : Int) = 16 * k + 12) (hs : softL X = false) : Calls Try.prog 12 #[.slice a n c, .int .i64 k] w fun e w' => e = .returned decE ∧ w = w' := by
  have SY := Lib.hid (refsymbols_any k)
  have SA := Lib.hid (fun W (h : NS W a n c X) => rsoft_any X a n c W h)
  rw [hs] at SA
  have HX := Lib.hid hX
  have e0 : symN k = 16 * k + 12 := by unfold symN; rw [if_pos ⟨h0, h1⟩]
  rw [e0, ← hn] at SY
  have g0 : ¬ k < 0 := by omega
  have g1 : ¬ (1100 : Int) < k := by omega
  have g2 : ((n : Int) != (n : Int)) = false := by simp
  clear e0 h0 h1 hn hX
  go_enter Try.func12, Try.ntmps12
  go_wp2_with (fail)
  refine (SY.out _).mono ?_
  rintro e _ ⟨rfl, rfl⟩
  go_wp2_with (fail)
  refine (SA.out _ HX.out).mono ?_
  rintro e _ ⟨rfl, rfl⟩
  go_wp2_with (fail)
  go_ret3
  exact ⟨rfl, rfl⟩
theorem below_eqW {w w' : World} (h : w = w') : Below w.heap.size w w' := by subst h; exact Below.refl _ _
theorem dec_both (X : List Int) (n : Nat) (k : Int) : ∃ (S : ByteArray) (v e : Int),
    (∀ a c w, NS w a n c X → Calls Try.prog 11 #[.slice a n c, .int .i64 k] w fun en w' => en = .returned (.tuple #[.string S, .int .i64 v, .int .i64 e]) ∧ Below w.heap.size w w') ∧
    (∀ a c w, NS w a n c X → Calls Try.prog 12 #[.slice a n c, .int .i64 k] w fun en w' => en = .returned (.tuple #[.string S, .int .i64 v, .int .i64 e]) ∧ Below w.heap.size w w') := by
  rcases Int.lt_or_le k 0 with h0 | h0
  · exact ⟨⟨#[]⟩, 0, 2, fun a c w h => (dec_neg _ k w h0).mono fun en w' ⟨he, hw⟩ => ⟨he, below_eqW hw⟩, fun a c w h => (rdec_neg _ k w h0).mono fun en w' ⟨he, hw⟩ => ⟨he, below_eqW hw⟩⟩
  rcases Int.lt_or_le 1100 k with h1 | h1
  · exact ⟨⟨#[]⟩, 0, 2, fun a c w h => (dec_big _ k w h1).mono fun en w' ⟨he, hw⟩ => ⟨he, below_eqW hw⟩, fun a c w h => (rdec_big _ k w h1).mono fun en w' ⟨he, hw⟩ => ⟨he, below_eqW hw⟩⟩
  by_cases hn : (n : Int) = 16 * k + 12
  · cases hs : softL X with
    | false => exact ⟨⟨#[]⟩, 0, 2, fun a c w h => (dec_soft X a n c k w h h0 h1 hn hs).mono fun en w' ⟨he, hw⟩ => ⟨he, below_eqW hw⟩, fun a c w h => (rdec_soft X a n c k w h h0 h1 hn hs).mono fun en w' ⟨he, hw⟩ => ⟨he, below_eqW hw⟩⟩
    | true =>
      obtain ⟨j, rfl⟩ : ∃ j : Nat, k = j := ⟨k.toNat, by omega⟩
      obtain ⟨v, M, hP⟩ := dec_ex X j
      exact ⟨msg j M, v, 0, fun a c w h => dec_ok X a n c j w h (by omega) (by omega) hs v M hP, fun a c w h => refdec_ok X a n c j w h (by omega) (by omega) hs v M hP⟩
  · exact ⟨⟨#[]⟩, 0, 2, fun a c w h => (dec_len a n c k w h0 h1 hn).mono fun en w' ⟨he, hw⟩ => ⟨he, below_eqW hw⟩, fun a c w h => (rdec_len a n c k w h0 h1 hn).mono fun en w' ⟨he, hw⟩ => ⟨he, below_eqW hw⟩⟩
end Go.Proofs.Ytbfgpjpfhbbdfaa
