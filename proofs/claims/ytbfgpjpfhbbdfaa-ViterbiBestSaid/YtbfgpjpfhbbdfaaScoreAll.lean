/-
  Score whatever it is asked, the program's and the specification's. Conditions: none.
-/
import Derived.Test.YtbfgpjpfhbbdfaaScoreErr
namespace Go.Proofs.Ytbfgpjpfhbbdfaa
open Go.RowKit Kit
set_option linter.unusedVariables false
set_option maxHeartbeats 400000 in
theorem rscore_long (d : ByteArray) (hd : 1100 < d.size) (v : Value) (w : World) :
    Calls Try.prog 15 #[v, .string d] w fun e w' => e = .returned (.tuple #[.int .i64 0, .int .i64 2]) ∧ w = w' := by
  have E := Lib.hid (refencode_long d hd w)
  clear hd
  go_enter Try.func15, Try.ntmps15
  go_wp2_with (fail)
  refine E.out.mono ?_
  rintro e _ ⟨rfl, rfl⟩
  go_wp2_with (fail)
  go_ret2
  exact ⟨rfl, rfl⟩
/-- What Score returns. -/
def scV (d : ByteArray) (X : List Int) (n : Nat) : Int × Int := if d.size ≤ 1100 ∧ n = 16 * d.size + 12 ∧ softL X = true then (sc (outF (bitAt d)) X n, 0) else (0, 2)
theorem below_of_eq {w w' : World} (h : w = w') : Below w.heap.size w w' := by subst h; exact Below.refl _ _
theorem score_all (d : ByteArray) (X : List Int) (a : Option Addr) (n c : Nat) (w : World) (hX : NS w a n c X) :
    Calls Try.prog 14 #[.slice a n c, .string d] w fun e w' => e = .returned (.tuple #[.int .i64 (scV d X n).1, .int .i64 (scV d X n).2]) ∧ Below w.heap.size w w' := by
  unfold scV
  rcases Nat.lt_or_ge 1100 d.size with h1 | h1
  · rw [if_neg (by omega)]
    exact (score_long d h1 _ w).mono fun e w' ⟨he, hw⟩ => ⟨he, below_of_eq hw⟩
  · by_cases h2 : n = 16 * d.size + 12
    · cases h3 : softL X with
      | true => rw [if_pos ⟨h1, h2, rfl⟩]; exact score_ok d X a n c w hX h1 h2 h3
      | false => rw [if_neg (by simp)]; exact score_soft d X a n c w hX h1 h2 h3
    · rw [if_neg (fun h => h2 h.2.1)]; exact score_len d X a n c w hX h1 h2
theorem rscore_all (d : ByteArray) (X : List Int) (a : Option Addr) (n c : Nat) (w : World) (hX : NS w a n c X) :
    Calls Try.prog 15 #[.slice a n c, .string d] w fun e w' => e = .returned (.tuple #[.int .i64 (scV d X n).1, .int .i64 (scV d X n).2]) ∧ Below w.heap.size w w' := by
  unfold scV
  rcases Nat.lt_or_ge 1100 d.size with h1 | h1
  · rw [if_neg (by omega)]
    exact (rscore_long d h1 _ w).mono fun e w' ⟨he, hw⟩ => ⟨he, below_of_eq hw⟩
  · by_cases h2 : n = 16 * d.size + 12
    · cases h3 : softL X with
      | true => rw [if_pos ⟨h1, h2, rfl⟩]; exact rscore_ok d X a n c w hX h1 h2 h3
      | false => rw [if_neg (by simp)]; exact rscore_soft d X a n c w hX h1 h2 h3
    · rw [if_neg (fun h => h2 h.2.1)]; exact rscore_len d X a n c w hX h1 h2
/-- What Soften returns: a slice, and an error number. -/
def symE (d : ByteArray) : Int := if symL d = true then 0 else 6
def symX (d : ByteArray) : List Int := if symL d = true then sf d d.size else []
theorem sym_yes {d : ByteArray} (h : symL d = true) : symE d = 0 ∧ symX d = sf d d.size := ⟨if_pos h, if_pos h⟩
theorem sym_no {d : ByteArray} (h : symL d = false) : symE d = 6 ∧ symX d = [] := ⟨if_neg (by rw [h]; simp), if_neg (by rw [h]; simp)⟩
def SofR (d : ByteArray) (e : Ending) (w' : World) : Prop := ∃ a n c, e = .returned (.tuple #[.slice a n c, .int .i64 (symE d)]) ∧ n ≤ 100000 ∧ NS w' a n c (symX d)
theorem ns_nil (w : World) : NS w none 0 0 [] := ⟨rfl, Nat.le_refl _, by simp [maxLen], fun i hi => by omega⟩
theorem soften_r (d : ByteArray) (hd : d.size ≤ 100000) (w : World) : Calls Try.prog 16 #[.string d] w fun e w' => SofR d e w' ∧ Below w.heap.size w w' := by
  refine (soften_any d hd w).mono ?_
  rintro e w' ⟨h, hb⟩
  refine ⟨?_, hb⟩
  rcases h with ⟨hs, v, rfl, hown⟩ | ⟨hs, rfl⟩
  · obtain ⟨a, c, rfl, hn⟩ := own_ns hown
    exact ⟨a, _, c, by rw [(sym_yes hs).1], hd, by rw [(sym_yes hs).2]; exact hn⟩
  · exact ⟨none, 0, 0, by rw [(sym_no hs).1], by omega, by rw [(sym_no hs).2]; exact ns_nil _⟩
theorem rsoften_r (d : ByteArray) (hd : d.size ≤ 100000) (w : World) : Calls Try.prog 17 #[.string d] w fun e w' => SofR d e w' ∧ Below w.heap.size w w' := by
  cases hs : symL d with
  | true =>
    refine (rsoften_ok d hd hs w).mono ?_
    rintro e w' ⟨v, rfl, hown, hb⟩
    obtain ⟨a, c, rfl, hn⟩ := own_ns hown
    exact ⟨⟨a, _, c, by rw [(sym_yes hs).1], hd, by rw [(sym_yes hs).2]; exact hn⟩, hb⟩
  | false =>
    refine (rsoften_err d hd hs w).mono ?_
    rintro e w' ⟨rfl, hb⟩
    exact ⟨⟨none, 0, 0, by rw [(sym_no hs).1], by omega, by rw [(sym_no hs).2]; exact ns_nil _⟩, hb⟩
end Go.Proofs.Ytbfgpjpfhbbdfaa
