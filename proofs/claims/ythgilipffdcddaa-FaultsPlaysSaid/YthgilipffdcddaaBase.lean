/-
  The walks of the small functions of faults: valid, none, Pick, and the specification's Valid. Conditions: none.
-/
import Derived.Test.YthgilipffdcddaaKitc
import Derived.Test.YthgilipffdcddaaRows
namespace Go.Proofs.Ythgilipffdcddaa
open Go.RowKit Kit
set_option linter.unusedVariables false
/-- A monitor and its watch. -/
structure E where
  par : Int
  lo : Int
  hi : Int
  per : Int
  tier : Int
  seq : Int
  on : Bool
  cnt : Int
  tr : Bool
def mc (e : E) : List Value := [.int .i64 e.par, .int .i64 e.lo, .int .i64 e.hi, .int .i64 e.per, .int .i64 e.tier, .int .i64 e.seq, .bool e.on]
def wc (e : E) : List Value := [.int .i64 e.cnt, .bool e.tr]
def ec (e : E) : List Value := [.int .i64 e.par, .int .i64 e.lo, .int .i64 e.hi, .int .i64 e.per, .int .i64 e.tier, .int .i64 e.seq, .bool e.on, .int .i64 e.cnt, .bool e.tr]
theorem mc_len (e : E) : (mc e).length = 7 := rfl
theorem wc_len (e : E) : (wc e).length = 2 := rfl
theorem ec_len (e : E) : (ec e).length = 9 := rfl
def inB (n a b : Int) : Bool := decide (a ≤ n ∧ n ≤ b)
theorem within_any (n a b : Int) (w : World) : Calls Try.prog 40 #[.int .i64 n, .int .i64 a, .int .i64 b] w fun e w' => e = .returned (.bool (inB n a b)) ∧ w = w' := by
  by_cases h1 : a ≤ n <;> by_cases h2 : n ≤ b
  all_goals
    obtain ⟨B, hB⟩ : ∃ B, Hid (B = inB n a b) := ⟨_, Lib.hid rfl⟩
    have K : Hid (B = decide (a ≤ n ∧ n ≤ b)) := Lib.hid hB.out
    rw [← hB.out]
    go_enter Try.func40, Try.ntmps40
    go_wp2_with (fail)
    go_ret
    exact ⟨ret_bool (by rw [K.out]; simp [h1, h2]), rfl⟩
def validB (p lo hi per t s : Int) : Bool := decide (0 ≤ p ∧ p ≤ 63 ∧ lo ≤ hi ∧ 1 ≤ per ∧ per ≤ 255 ∧ 1 ≤ t ∧ t ≤ 3 ∧ 0 ≤ s ∧ s ≤ 255 ∧ (t < 3 ∨ s = 0))
theorem none_nil (w : World) : Calls Try.prog 28 #[.pointer none] w fun e w' => e = .returned (.bool true) ∧ w = w' := by
  go_enter Try.func28, Try.ntmps28
  go_wp2_with (fail)
  go_ret
  exact ⟨rfl, rfl⟩
theorem none_any (f : Nat) (b : Bool) (w : World) (hc : w.cell? ⟨f, 0, none⟩ = some (.bool b)) : Calls Try.prog 28 #[.pointer (some ⟨f, 0, none⟩)] w fun e w' => e = .returned (.bool !b) ∧ w = w' := by
  go_enter Try.func28, Try.ntmps28
  go_wp2_with (fail)
  go_ret
  exact ⟨rfl, rfl⟩
def pick (n : Int) : Int := if n.tmod 255 < 0 then n.tmod 255 + 255 else n.tmod 255
theorem pick_bd (n : Int) : 0 ≤ pick n ∧ pick n ≤ 254 := by
  unfold pick
  have h1 : n.tmod 255 < 255 := Int.tmod_lt_of_pos n (by omega)
  have h2 : -255 < n.tmod 255 := Int.lt_tmod_of_pos n (by omega)
  split <;> omega
theorem pick_any (n : Int) (w : World) : Calls Try.prog 9 #[.int .i64 n, .int .i64 255] w fun e w' => e = .returned (.int .i64 (pick n)) ∧ w = w' := by
  have h1 : n.tmod 255 < 255 := Int.tmod_lt_of_pos n (by omega)
  have h2 : -255 < n.tmod 255 := Int.lt_tmod_of_pos n (by omega)
  by_cases h : n.tmod 255 < 0
  · have K : Hid (pick n = n.tmod 255 + 255) := Lib.hid (by unfold pick; rw [if_pos h])
    go_enter Try.func9, Try.ntmps9
    go_wp2_with (fail)
    go_ret
    exact ⟨ret_int K.out.symm, rfl⟩
  · have K : Hid (pick n = n.tmod 255) := Lib.hid (by unfold pick; rw [if_neg h])
    go_enter Try.func9, Try.ntmps9
    go_wp2_with (fail)
    go_ret
    exact ⟨ret_int K.out.symm, rfl⟩
theorem inB_iff {n a b : Int} : inB n a b = true ↔ a ≤ n ∧ n ≤ b := by unfold inB; simp
theorem inB_no {n a b : Int} : inB n a b = false ↔ ¬ (a ≤ n ∧ n ≤ b) := by unfold inB; simp
theorem validB_iff {p lo hi per t s : Int} : validB p lo hi per t s = true ↔ (0 ≤ p ∧ p ≤ 63 ∧ lo ≤ hi ∧ 1 ≤ per ∧ per ≤ 255 ∧ 1 ≤ t ∧ t ≤ 3 ∧ 0 ≤ s ∧ s ≤ 255 ∧ (t < 3 ∨ s = 0)) := by unfold validB; simp
theorem validB_no {p lo hi per t s : Int} (h : ¬ (0 ≤ p ∧ p ≤ 63 ∧ lo ≤ hi ∧ 1 ≤ per ∧ per ≤ 255 ∧ 1 ≤ t ∧ t ≤ 3 ∧ 0 ≤ s ∧ s ≤ 255 ∧ (t < 3 ∨ s = 0))) : false = validB p lo hi per t s := by
  unfold validB; rw [eq_comm, decide_eq_false_iff_not]; exact h
set_option maxHeartbeats 1600000 in
theorem valid_any (p lo hi per t s : Int) (on : Bool) (w : World) :
    Calls Try.prog 27 #[.agg #[.int .i64 p, .int .i64 lo, .int .i64 hi, .int .i64 per, .int .i64 t, .int .i64 s, .bool on]] w fun e w' => e = .returned (.bool (validB p lo hi per t s)) ∧ w' = w.alloc (.cells #[.int .i64 p, .int .i64 lo, .int .i64 hi, .int .i64 per, .int .i64 t, .int .i64 s, .bool on] 30) := by
  obtain ⟨V, hV⟩ : ∃ V, Hid (V = validB p lo hi per t s) := ⟨_, Lib.hid rfl⟩
  rw [← hV.out]
  by_cases ht : t = 3
  · subst ht
    go_enter Try.func27, Try.ntmps27
    go_wp2_with ((with_reducible refine (within_any _ _ _ _).mono ?_); rintro e w' ⟨rfl, rfl⟩)
    all_goals
      go_ret
      refine ⟨ret_bool ?_, rfl⟩
      rw [hV.out]
      first
      | (apply validB_no; simp only [inB_iff] at *; omega)
      | (rw [Bool.eq_iff_iff, validB_iff]; simp only [inB_iff] at *; omega)
  · have ht' : (t == 3) = false := by simpa using ht
    have HT := Lib.hid ht
    clear ht
    go_enter Try.func27, Try.ntmps27
    go_wp2_with ((with_reducible refine (within_any _ _ _ _).mono ?_); rintro e w' ⟨rfl, rfl⟩)
    all_goals
      have ht := HT.out
      go_ret
      refine ⟨ret_bool ?_, rfl⟩
      rw [hV.out]
      first
      | (apply validB_no; simp only [inB_iff] at *; omega)
      | (rw [Bool.eq_iff_iff, validB_iff]; simp only [inB_iff] at *; omega)
set_option maxHeartbeats 1600000 in
theorem refvalid_any (p lo hi per t s : Int) (on : Bool) (w : World) :
    Calls Try.prog 26 #[.agg #[.int .i64 p, .int .i64 lo, .int .i64 hi, .int .i64 per, .int .i64 t, .int .i64 s, .bool on]] w fun e w' => e = .returned (.bool (validB p lo hi per t s)) ∧ w' = w.alloc (.cells #[.int .i64 p, .int .i64 lo, .int .i64 hi, .int .i64 per, .int .i64 t, .int .i64 s, .bool on] 30) := by
  obtain ⟨V, hV⟩ : ∃ V, Hid (V = validB p lo hi per t s) := ⟨_, Lib.hid rfl⟩
  rw [← hV.out]
  go_enter Try.func26, Try.ntmps26
  go_wp2_with (fail)
  all_goals
    go_ret
    refine ⟨ret_bool ?_, rfl⟩
    rw [hV.out]
    first
    | (apply validB_no; omega)
    | (rw [Bool.eq_iff_iff, validB_iff]; omega)
    | (rw [Bool.eq_iff_iff, validB_iff]; simp; omega)
    | (rw [eq_comm, validB_iff]; simp at *; omega)
    | (trace_state; sorry)
end Go.Proofs.Ythgilipffdcddaa
