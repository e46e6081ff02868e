/-
  The walks of the methods of modes on an object that New has made. Conditions: numbers of 64 bits.
-/
import Derived.Test.YtfjhlgmdkkdooaaHyp
import Derived.Laws.StructEq
namespace Go.Proofs.Ytfjhlgmdkkdooaa
open Go.RowKit Kit
set_option linter.unusedVariables false
def goodB (c l : Int) (t : Bool) : Bool := !t && decide (l ≤ c)
theorem none_nil (w : World) : Calls Try.prog 19 #[.pointer none] w fun e w' => e = .returned (.bool true) ∧ w = w' := by
  go_enter Try.func19, Try.ntmps19
  go_wp2_with (fail)
  go_ret
  exact ⟨rfl, rfl⟩
theorem none_any (f : Nat) (b : Bool) (w : World) (hc : w.cell? ⟨f, 0, none⟩ = some (.bool b)) : Calls Try.prog 19 #[.pointer (some ⟨f, 0, none⟩)] w fun e w' => e = .returned (.bool !b) ∧ w = w' := by
  go_enter Try.func19, Try.ntmps19
  go_wp2_with (fail)
  go_ret
  exact ⟨rfl, rfl⟩
def GD (c l : Int) (t : Bool) (e : Ending) (w w' : World) : Prop := e = .returned (.bool (goodB c l t)) ∧ w' = w.alloc (.cells #[.int .i64 c, .int .i64 l, .bool t] 32)
theorem good_any (c l : Int) (t : Bool) (w : World) : Calls Try.prog 21 #[.agg #[.int .i64 c, .int .i64 l, .bool t]] w fun e w' => GD c l t e w w' := by
  have R : Hid (∀ B, goodB c l t = B → GD c l t (.returned (.bool B)) w (w.alloc (.cells #[.int .i64 c, .int .i64 l, .bool t] 32))) := Lib.hid (fun B hB => ⟨by rw [hB], rfl⟩)
  cases t with
  | true =>
    have k := Lib.hid (R.out false rfl)
    clear R
    go_enter Try.func21, Try.ntmps21
    go_wp2_with (fail)
    go_ret
    exact k.out
  | false =>
    have k := Lib.hid (R.out (decide (l ≤ c)) (by unfold goodB; simp))
    clear R
    go_enter Try.func21, Try.ntmps21
    go_wp2_with (fail)
    go_ret
    exact k.out
def NWM (w : World) (e : Ending) (w' : World) : Prop := e = .returned (.pointer (some ⟨w.heap.size, 0, none⟩)) ∧ w' = w.alloc (.cells #[.bool true, .int .i64 0, .int .i64 0, .int .i64 0, .int .i64 0, .int .i64 0] 43)
theorem new_any (w : World) : Calls Try.prog 9 #[] w fun e w' => NWM w e w' := by
  go_enter Try.func9, Try.ntmps9
  go_wp2_with (fail)
  go_ret
  exact ⟨rfl, rfl⟩
theorem level_any (w : World) : Calls Try.prog 17 #[] w fun e w' => e = .returned (.agg #[.int .i64 1073741824, .int .i64 0, .int .i64 0, .int .i64 0]) ∧ Below w.heap.size w w' := by
  go_enter Try.func17, Try.ntmps17
  go_wp2_with (fail)
  exact bodyPost_ret (v := .agg #[.int .i64 1073741824, .int .i64 0, .int .i64 0, .int .i64 0]) (by simp [results, Try.results17, go_sem]) rfl ⟨rfl, bl_alloc (Below.refl _ _) _⟩
theorem refused_any (w : World) : Calls Try.prog 22 #[] w fun e w' => e = .returned (.agg #[.int .i64 0, .int .i64 2]) ∧ Below w.heap.size w w' := by
  go_enter Try.func22, Try.ntmps22
  go_wp2_with (fail)
  exact bodyPost_ret (v := .agg #[.int .i64 0, .int .i64 2]) (by simp [results, Try.results22, go_sem]) rfl ⟨rfl, bl_alloc (Below.refl _ _) _⟩
/-- The object's cells. -/
def MC (m a b c d : Int) : Obj := .cells #[.bool true, .int .i64 m, .int .i64 a, .int .i64 b, .int .i64 c, .int .i64 d] 43
theorem mode_any (f : Nat) (m a b c d : Int) (w : World) (h : w.heap[f]? = some (MC m a b c d)) : Calls Try.prog 14 #[.pointer (some ⟨f, 0, none⟩)] w fun e w' => e = .returned (.int .i64 m) ∧ w = w' := by
  have c0 := cell_of (i := 0) h rfl
  have c1 := cell_of (i := 1) h rfl
  clear h
  go_enter Try.func14, Try.ntmps14
  go_wp2_with (fail)
  refine (none_any f true _ c0).mono ?_
  rintro e _ ⟨rfl, rfl⟩
  go_wp2_with (fail)
  go_ret
  exact ⟨rfl, rfl⟩
def allowB (m r : Int) : Bool := decide (8 ≤ r) || !decide (m = 0)
theorem allows_any (f : Nat) (r m a b c d : Int) (w : World) (h : w.heap[f]? = some (MC m a b c d)) : Calls Try.prog 15 #[.pointer (some ⟨f, 0, none⟩), .int .i64 r] w fun e w' => e = .returned (.bool (allowB m r)) ∧ w = w' := by
  have c0 := cell_of (i := 0) h rfl
  have c1 := cell_of (i := 1) h rfl
  clear h
  obtain ⟨A, hA⟩ : ∃ A, Hid (A = allowB m r) := ⟨_, Lib.hid rfl⟩
  rw [← hA.out]
  by_cases h8 : 8 ≤ r
  · go_enter Try.func15, Try.ntmps15
    go_wp2_with (fail)
    refine (none_any f true _ c0).mono ?_
    rintro e _ ⟨rfl, rfl⟩
    go_wp2_with (fail)
    go_ret
    exact ⟨ret_bool (by rw [hA.out]; unfold allowB; simp [h8]), rfl⟩
  · have hd : decide (8 ≤ r) = false := by simpa using h8
    have H8 := Lib.hid h8
    clear h8
    rcases Decidable.em (m = 0) with rfl | hm
    · go_enter Try.func15, Try.ntmps15
      go_wp2_with (fail)
      refine (none_any f true _ c0).mono ?_
      rintro e _ ⟨rfl, rfl⟩
      go_wp2_with (fail)
      go_ret
      exact ⟨ret_bool (by rw [hA.out]; unfold allowB; simp [H8.out]), rfl⟩
    · have hb : (m != 0) = true := by simpa using hm
      have HM := Lib.hid hm
      clear hm
      go_enter Try.func15, Try.ntmps15
      go_wp2_with (fail)
      refine (none_any f true _ c0).mono ?_
      rintro e _ ⟨rfl, rfl⟩
      go_wp2_with (fail)
      go_ret
      exact ⟨ret_bool (by rw [hA.out]; unfold allowB; simp [HM.out]), rfl⟩
end Go.Proofs.Ytfjhlgmdkkdooaa
