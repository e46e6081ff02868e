/-
  The walk of the law ModesNone. Conditions: none.
-/
import Derived.Test.YtfjhlgmdkkdooaaShown
namespace Go.Proofs.Ytfjhlgmdkkdooaa
open Go.RowKit Kit
set_option linter.unusedVariables false
/-- A pointer to an object that is none. -/
def NoneP (w : World) (p : Option Addr) : Prop := p = none ∨ ∃ f, p = some ⟨f, 0, none⟩ ∧ w.cell? ⟨f, 0, none⟩ = some (.bool false)
theorem NoneP.below {w w' : World} {p : Option Addr} (h : NoneP w p) (hb : Below w.heap.size w w') : NoneP w' p := by
  rcases h with h | ⟨f, rfl, h⟩
  · exact .inl h
  · have hlt := World.block_lt_of_cell? w _ h
    exact .inr ⟨f, rfl, by rw [hb.cell hlt]; exact h⟩
theorem none_all {w : World} {p : Option Addr} (h : NoneP w p) : Calls Try.prog 19 #[.pointer p] w fun e w' => e = .returned (.bool true) ∧ w = w' := by
  rcases h with rfl | ⟨f, rfl, h⟩
  · exact none_nil w
  · exact none_any f false w h
theorem ask_none {w : World} {p : Option Addr} (h : NoneP w p) (mode a b c d ch le : Int) (tr : Bool) : Calls Try.prog 10 #[.pointer p, .int .i64 mode, .agg #[.int .i64 a, .int .i64 b, .int .i64 c, .int .i64 d], .agg #[.int .i64 ch, .int .i64 le, .bool tr]] w fun e w' => e = .returned (.int .i64 1) ∧ Below w.heap.size w w' := by
  have H := Lib.hid h; clear h
  go_enter Try.func10, Try.ntmps10
  go_wp2_with (fail)
  refine (none_all (H.out.below (by first | exact bl_alloc (bl_alloc (Below.refl _ _) _) _ | exact bl_alloc (Below.refl _ _) _))).mono ?_
  rintro e _ ⟨rfl, rfl⟩
  go_wp2_with (fail)
  go_ret
  exact ⟨rfl, bl_alloc (bl_alloc (Below.refl _ _) _) _⟩
theorem tick_none {w : World} {p : Option Addr} (h : NoneP w p) (ch le : Int) (tr : Bool) : Calls Try.prog 12 #[.pointer p, .agg #[.int .i64 ch, .int .i64 le, .bool tr]] w fun e w' => e = .returned (.tuple #[.int .i64 0, .agg #[.int .i64 0, .int .i64 0, .int .i64 0, .int .i64 0]]) ∧ Below w.heap.size w w' := by
  have H := Lib.hid h; clear h
  go_enter Try.func12, Try.ntmps12
  go_wp2_with (fail)
  refine (none_all (H.out.below (bl_alloc (bl_alloc (Below.refl _ _) _) _))).mono ?_
  rintro e _ ⟨rfl, rfl⟩
  go_wp2_with (fail)
  refine bodyPost_ret (v := .tuple #[.int .i64 0, .agg #[.int .i64 0, .int .i64 0, .int .i64 0, .int .i64 0]]) (by simp [results, Try.results12]; go_simp) rfl ?_
  exact ⟨rfl, bl_alloc (bl_alloc (Below.refl _ _) _) _⟩
theorem mode_none {w : World} {p : Option Addr} (h : NoneP w p) : Calls Try.prog 14 #[.pointer p] w fun e w' => e = .returned (.int .i64 0) ∧ w = w' := by
  have H := Lib.hid h; clear h
  go_enter Try.func14, Try.ntmps14
  go_wp2_with (fail)
  refine (none_all H.out).mono ?_
  rintro e _ ⟨rfl, rfl⟩
  go_wp2_with (fail)
  go_ret
  exact ⟨rfl, rfl⟩
theorem allows_none {w : World} {p : Option Addr} (h : NoneP w p) (r : Int) : Calls Try.prog 15 #[.pointer p, .int .i64 r] w fun e w' => e = .returned (.bool false) ∧ w = w' := by
  have H := Lib.hid h; clear h
  go_enter Try.func15, Try.ntmps15
  go_wp2_with (fail)
  refine (none_all H.out).mono ?_
  rintro e _ ⟨rfl, rfl⟩
  go_wp2_with (fail)
  go_ret
  exact ⟨rfl, rfl⟩
def PO (a b : Int) (c : Bool) : Obj := .cells #[.int .i64 a, .int .i64 b, .bool c] 32
set_option maxRecDepth 100000 in
set_option maxHeartbeats 3200000 in
theorem ModesNone_walk (a0 : Int) (a1 : Int) (a2_0 : Int) (a2_1 : Int) (a2_2 : Bool) (w : World) (w0 : (Lit.int .i64 a0).wf = true) (w1 : (Lit.int .i64 a1).wf = true) (w2_0 : (Lit.int .i64 a2_0).wf = true) (w2_1 : (Lit.int .i64 a2_1).wf = true) :
    Calls Try.prog 4 #[.int .i64 a0, .int .i64 a1, .agg #[.int .i64 a2_0, .int .i64 a2_1, .bool a2_2]] w fun e w' => e = .returned (.bool true) ∧ Below w.heap.size w w' := by
  clear w0 w1 w2_0 w2_1
  go_enter Try.func4, Try.ntmps4
  go_wp2_with (fail)
  obtain ⟨w0, hw0⟩ : ∃ w0, w0 = w.alloc (.cells #[.int .i64 a2_0, .int .i64 a2_1, .bool a2_2] 32) := ⟨_, rfl⟩
  have P0 : Hid (w0.heap[w.heap.size]? = some (PO a2_0 a2_1 a2_2)) := Lib.hid (by rw [hw0]; exact hp_new w _)
  have B0 : Hid (Below w.heap.size w w0) := Lib.hid (by rw [hw0]; exact bl_alloc (Below.refl _ _) _)
  rw [← hw0]
  clear hw0
  refine (shown_any _).mono ?_
  rintro e w1 ⟨rfl, hb1⟩
  have P1 : Hid ((w1.alloc (.cells #[.bool false, .int .i64 0, .int .i64 0, .int .i64 0, .int .i64 0, .int .i64 0] 43)).heap[w.heap.size]? = some (PO a2_0 a2_1 a2_2)) := Lib.hid (hp_old (below_keeps hb1 P0.out (lt_of_obj P0.out)) _)
  have B1 := Lib.hid (bl_step B0.out hb1); clear hb1
  go_wp2_with (fail)
  have i0 : ∀ w, (Instr.index 44 (.agg #[.pointer none, .pointer (some ⟨w1.heap.size, 0, none⟩)]) (.int .i64 0)).run Try.prog w = .ok (.pointer none) w := fun _ => by kernel_rfl
  have i1 : ∀ w, (Instr.index 44 (.agg #[.pointer none, .pointer (some ⟨w1.heap.size, 0, none⟩)]) (.int .i64 1)).run Try.prog w = .ok (.pointer (some ⟨w1.heap.size, 0, none⟩)) w := fun _ => by kernel_rfl
  have N2 : Hid (∀ w', Below (w1.alloc (.cells #[.bool false, .int .i64 0, .int .i64 0, .int .i64 0, .int .i64 0, .int .i64 0] 43)).heap.size (w1.alloc (.cells #[.bool false, .int .i64 0, .int .i64 0, .int .i64 0, .int .i64 0, .int .i64 0] 43)) w' → NoneP w' (some ⟨w1.heap.size, 0, none⟩)) := Lib.hid (fun w' hb =>
    (show NoneP (w1.alloc (.cells #[.bool false, .int .i64 0, .int .i64 0, .int .i64 0, .int .i64 0, .int .i64 0] 43)) _ from .inr ⟨_, rfl, cell_of (i := 0) (hp_new w1 _) rfl⟩).below hb)
  have B2 : Hid (Below w.heap.size w (w1.alloc (.cells #[.bool false, .int .i64 0, .int .i64 0, .int .i64 0, .int .i64 0, .int .i64 0] 43))) := Lib.hid (bl_alloc B1.out _)
  obtain ⟨w2, hw2⟩ : ∃ w2, w1.alloc (.cells #[.bool false, .int .i64 0, .int .i64 0, .int .i64 0, .int .i64 0, .int .i64 0] 43) = w2 := ⟨_, rfl⟩
  rw [hw2] at N2 P1 B2 ⊢
  clear hw2 B1
  have hl2 : w.heap.size < w2.heap.size := lt_of_obj P1.out
  have c0 : w2.cell? ⟨w.heap.size, 0, none⟩ = some (.int .i64 a2_0) := cell_of (i := 0) P1.out rfl
  have c1 : w2.cell? ⟨w.heap.size, 1, none⟩ = some (.int .i64 a2_1) := cell_of (i := 1) P1.out rfl
  have c2 : w2.cell? ⟨w.heap.size, 2, none⟩ = some (.bool a2_2) := cell_of (i := 2) P1.out rfl
  refine wp_loop_rounds 3 ?_
  rw [rounds_succ]
  go_wp2_with (fail)
  refine (tick_none (.inl rfl) _ _ _).mono ?_
  rintro e w3 ⟨rfl, hb3⟩
  have P3 := Lib.hid (below_keeps hb3 P1.out (lt_of_obj P1.out))
  have B3 := Lib.hid hb3; clear hb3
  have hl3 : w.heap.size < w3.heap.size := lt_of_obj P3.out
  have d0 : w3.cell? ⟨w.heap.size, 0, none⟩ = some (.int .i64 a2_0) := cell_of (i := 0) P3.out rfl
  have d1 : w3.cell? ⟨w.heap.size, 1, none⟩ = some (.int .i64 a2_1) := cell_of (i := 1) P3.out rfl
  have d2 : w3.cell? ⟨w.heap.size, 2, none⟩ = some (.bool a2_2) := cell_of (i := 2) P3.out rfl
  go_wp2_with (fail)
  refine region_calm (by kernel_rfl) (by kernel_rfl) ?_
  repeat (quiet_step ((first | (go_at_call 17; exact calm_of (level_any _)) | (go_at_call 10; exact calm_of (ask_none (.inl rfl) _ _ _ _ _ _ _ _)) | (go_at_call 14; exact calm_same (mode_none (.inl rfl))) | (go_at_call 15; exact calm_same (allows_none (.inl rfl) _)))))
  refine wpQuiet_nil ?_
  intro w4 hw'
  have hb4 := below_of_ext hw'
  clear hw'
  have P4 := Lib.hid (below_keeps hb4 (hp_old P3.out _) (lt_of_obj (hp_old P3.out _)))
  have B4 := Lib.hid (bl_step (bl_alloc B3.out _) hb4)
  have hl4 : w.heap.size < w4.heap.size := lt_of_obj P4.out
  have e0 : w4.cell? ⟨w.heap.size, 0, none⟩ = some (.int .i64 a2_0) := cell_of (i := 0) P4.out rfl
  have e1 : w4.cell? ⟨w.heap.size, 1, none⟩ = some (.int .i64 a2_1) := cell_of (i := 1) P4.out rfl
  have e2 : w4.cell? ⟨w.heap.size, 2, none⟩ = some (.bool a2_2) := cell_of (i := 2) P4.out rfl
  clear hb4 d0 d1 d2 c0 c1 c2
  go_wp2_with (fail)
  rw [rounds_succ]
  go_wp2_with (fail)
  refine (tick_none (N2.out w4 B4.out) _ _ _).mono ?_
  rintro e w5 ⟨rfl, hb5⟩
  have P5 := Lib.hid (below_keeps hb5 P4.out (lt_of_obj P4.out))
  have B5 := Lib.hid (bl_step B4.out hb5); clear hb5
  have hl5 : w.heap.size < w5.heap.size := lt_of_obj P5.out
  have f0 : w5.cell? ⟨w.heap.size, 0, none⟩ = some (.int .i64 a2_0) := cell_of (i := 0) P5.out rfl
  have f1 : w5.cell? ⟨w.heap.size, 1, none⟩ = some (.int .i64 a2_1) := cell_of (i := 1) P5.out rfl
  have f2 : w5.cell? ⟨w.heap.size, 2, none⟩ = some (.bool a2_2) := cell_of (i := 2) P5.out rfl
  go_wp2_with (fail)
  have N6 : Hid (∀ x : Ext, NoneP (ext (w5.alloc (.cells #[.int .i64 0, .int .i64 0, .int .i64 0, .int .i64 0] 28)) x) (some ⟨w1.heap.size, 0, none⟩)) := Lib.hid (fun x => N2.out _ (bl_step (bl_alloc B5.out _) (below_ext _ x)))
  refine region_calm (by kernel_rfl) (by kernel_rfl) ?_
  repeat (quiet_step ((first | (go_at_call 17; exact calm_of (level_any _)) | (go_at_call 10; exact calm_of (ask_none (N6.out _) _ _ _ _ _ _ _ _)) | (go_at_call 14; exact calm_same (mode_none (N6.out _))) | (go_at_call 15; exact calm_same (allows_none (N6.out _) _)))))
  refine wpQuiet_nil ?_
  intro w6 hw'
  have hb6 := below_of_ext hw'
  clear hw'
  have B6 := Lib.hid (bl_step B2.out (bl_step (bl_alloc B5.out _) hb6))
  clear hb6
  go_wp2_with (fail)
  rw [rounds_succ]
  go_wp2_with (fail)
  go_ret
  exact ⟨rfl, B6.out⟩
end Go.Proofs.Ytfjhlgmdkkdooaa
