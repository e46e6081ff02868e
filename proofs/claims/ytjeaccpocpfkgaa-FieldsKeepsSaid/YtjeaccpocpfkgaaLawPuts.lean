/-
  The law FieldsPuts: its walk. Conditions: those of its arguments.
-/
import Derived.Test.YtjeaccpocpfkgaaLawReads
namespace Go.Proofs.Ytjeaccpocpfkgaa
open Go.RowKit Kit
set_option linter.unusedVariables false
theorem putR_form (d : ByteArray) (a wd : Int) (v : Nat) : ∃ x e, putR d a wd v = .tuple #[.string x, .int .i64 e] := by unfold putR emp; split <;> (try split) <;> exact ⟨_, _, rfl⟩
theorem psR_form (d : ByteArray) (a wd v : Int) : ∃ x e, psR d a wd v = .tuple #[.string x, .int .i64 e] := by unfold psR emp; split <;> (try split) <;> exact ⟨_, _, rfl⟩
/-- A change lies in a block. -/
structure Chg (w : World) (B : Nat) (d : ByteArray) (a wd v : Int) : Prop where
  c0 : w.cell? ⟨B, 0, none⟩ = some (.string d)
  c1 : w.cell? ⟨B, 1, none⟩ = some (.int .i64 a)
  c2 : w.cell? ⟨B, 2, none⟩ = some (.int .i64 wd)
  c3 : w.cell? ⟨B, 3, none⟩ = some (.int .u64 v)
theorem Chg.new (w : World) (t : TypeId) (d : ByteArray) (a wd v : Int) : Chg (w.alloc (.cells #[.string d, .int .i64 a, .int .i64 wd, .int .u64 v] t)) w.heap.size d a wd v :=
  ⟨cell_of (hp_new w _) rfl, cell_of (hp_new w _) rfl, cell_of (hp_new w _) rfl, cell_of (hp_new w _) rfl⟩
theorem Chg.below {w w' : World} {B : Nat} {d : ByteArray} {a wd v : Int} (h : Chg w B d a wd v) (hB : B < w.heap.size) (hb : Below w.heap.size w w') : Chg w' B d a wd v :=
  ⟨(hb.cell (p := ⟨B, 0, none⟩) hB).trans h.c0, (hb.cell (p := ⟨B, 1, none⟩) hB).trans h.c1, (hb.cell (p := ⟨B, 2, none⟩) hB).trans h.c2, (hb.cell (p := ⟨B, 3, none⟩) hB).trans h.c3⟩
/-- A change lies in a block made since. -/
structure ChgI (w0 : World) (B : Nat) (d : ByteArray) (a wd v : Int) (w : World) : Prop where
  chg : Chg w B d a wd v
  lt : B < w.heap.size
  below : Below w0.heap.size w0 w
theorem ChgI.step {w0 w w' : World} {B : Nat} {d : ByteArray} {a wd v : Int} (h : ChgI w0 B d a wd v w) (hb : Below w.heap.size w w') : ChgI w0 B d a wd v w' :=
  ⟨h.chg.below h.lt hb, Nat.lt_of_lt_of_le h.lt hb.size, bl_step h.below hb⟩
theorem ChgI.new (w : World) (t : TypeId) (d : ByteArray) (a wd v : Int) : ChgI w w.heap.size d a wd v (w.alloc (.cells #[.string d, .int .i64 a, .int .i64 wd, .int .u64 v] t)) :=
  ⟨Chg.new w t d a wd v, by simp, bl_alloc (Below.refl _ _) _⟩
set_option maxRecDepth 100000 in
set_option maxHeartbeats 1600000 in
theorem FieldsPuts_walk (a0_0 : ByteArray) (a0_1 : Int) (a0_2 : Int) (a0_3 : Int) (w : World) (w0_0 : a0_0.size ≤ maxLen) (w0_1 : (Lit.int .i64 a0_1).wf = true) (w0_2 : (Lit.int .i64 a0_2).wf = true) (w0_3 : (Lit.int .u64 a0_3).wf = true) :
    Calls Try.prog 4 #[.agg #[.string a0_0, .int .i64 a0_1, .int .i64 a0_2, .int .u64 a0_3]] w fun e w' => e = .returned (.bool true) ∧ Below w.heap.size w w' := by
  have W0 := Lib.hid w0_0
  have hv := wfu64 w0_3
  obtain ⟨v, rfl⟩ := Int.eq_ofNat_of_zero_le hv.1
  have V64 : Hid (v < 18446744073709551616) := Lib.hid (by omega)
  have VS : Hid (-9223372036854775808 ≤ wrap64 (v : Int) ∧ wrap64 (v : Int) ≤ 9223372036854775807) := Lib.hid (by unfold wrap64; omega)
  unfold maxLen at w0_0
  clear hv w0_3
  by_cases hl : (70000 : Int) < (a0_0.size : Int)
  · go_enter Try.func4, Try.ntmps4
    go_wp2_with (fail)
    refine (awake_any _).mono ?_
    rintro e w9 ⟨rfl, b9⟩
    have B9 := Lib.hid b9
    clear b9
    go_wp2_with (fail)
    go_ret
    exact ⟨rfl, bl_step (bl_alloc (Below.refl _ _) _) B9.out⟩
  · obtain ⟨x, e1, hG⟩ := putR_form a0_0 a0_1 a0_2 v
    obtain ⟨y, e2, hS⟩ := psR_form a0_0 a0_1 a0_2 (wrap64 v)
    have HG := Lib.hid hG; have HS := Lib.hid hS
    clear hG hS
    go_enter Try.func4, Try.ntmps4
    go_wp2_with (fail)
    obtain ⟨W, hW⟩ : ∃ W, W = w.alloc (.cells #[.string a0_0, .int .i64 a0_1, .int .i64 a0_2, .int .u64 (v : Int)] 31) := ⟨_, rfl⟩
    have C1 : Hid (ChgI w w.heap.size a0_0 a0_1 a0_2 v W) := Lib.hid (by rw [hW]; exact ChgI.new w 31 _ _ _ _)
    obtain ⟨B, hB⟩ : ∃ B, B = w.heap.size := ⟨_, rfl⟩
    rw [← hB] at C1
    try rw [← hW, ← hB]
    clear hW hB
    refine (put_any a0_0 a0_1 a0_2 v V64.out _ W0.out).mono ?_
    rw [HG.out]
    rintro e w5 ⟨rfl, b5⟩
    have C5 := Lib.hid (C1.out.step b5)
    clear b5 C1
    have d0 := C5.out.chg.c0; have d1 := C5.out.chg.c1; have d2 := C5.out.chg.c2; have d3 := C5.out.chg.c3; have dl := C5.out.lt
    go_wp2_with (fail)
    clear d0 d1 d2 d3 dl
    refine (refput_any a0_0 a0_1 a0_2 v V64.out _ W0.out).mono ?_
    rw [HG.out]
    rintro e w6 ⟨rfl, b6⟩
    have C6 := Lib.hid (C5.out.step b6)
    clear b6 C5
    have d0 := C6.out.chg.c0; have d1 := C6.out.chg.c1; have d2 := C6.out.chg.c2; have d3 := C6.out.chg.c3; have dl := C6.out.lt
    go_wp2_with (fail)
    clear d0 d1 d2 d3 dl
    refine (psigned_any a0_0 a0_1 a0_2 (wrap64 v) _ W0.out VS.out).mono ?_
    rw [HS.out]
    rintro e w7 ⟨rfl, b7⟩
    have C7 := Lib.hid (C6.out.step b7)
    clear b7 C6
    have d0 := C7.out.chg.c0; have d1 := C7.out.chg.c1; have d2 := C7.out.chg.c2; have d3 := C7.out.chg.c3; have dl := C7.out.lt
    go_wp2_with (fail)
    clear d0 d1 d2 d3 dl
    refine (refpsigned_any a0_0 a0_1 a0_2 (wrap64 v) _ W0.out VS.out).mono ?_
    rw [HS.out]
    rintro e w8 ⟨rfl, b8⟩
    have B8 := Lib.hid (C7.out.step b8).below
    clear b8 C7
    go_wp2_with (fail)
    refine (awake_any _).mono ?_
    rintro e w9 ⟨rfl, b9⟩
    have B9 := Lib.hid (bl_step B8.out b9)
    clear b9
    go_wp2_with (fail)
    go_ret
    exact ⟨rfl, B9.out⟩
end Go.Proofs.Ytjeaccpocpfkgaa
