/-
  modes.Ask: the ways that set the mode.
-/
import Derived.Test.YtfjhlgmdkkdooaaAsk
namespace Go.Proofs.Ytfjhlgmdkkdooaa
open Go.RowKit Kit
set_option linter.unusedVariables false
section
variable (f : Nat) (m A B C D mode a b c d ch le : Int) (tr : Bool) (w : World)
set_option maxHeartbeats 3200000 in
theorem ask_to0 (h : w.heap[f]? = some (MC m A B C D)) : Calls Try.prog 10 #[.pointer (some ⟨f, 0, none⟩), .int .i64 0, .agg #[.int .i64 a, .int .i64 b, .int .i64 c, .int .i64 d], .agg #[.int .i64 ch, .int .i64 le, .bool tr]] w fun e w' => AskR f m A B C D 0 a b c d ch le tr w e w' := by
  have c0 : w.cell? ⟨f, 0, none⟩ = some (.bool true) := cell_of (i := 0) h rfl
  have hfl := lt_of_obj h
  have H := Lib.hid h
  have HN : Hid (askErr m 0 a b c d ch le tr = 0) := Lib.hid (by unfold askErr; rw [if_neg (by simp), if_neg (by simp), if_neg (by simp)])
  have i0 := ix0
  clear h
  rcases Decidable.em (m = 0) with rfl | hm
  · go_enter Try.func10, Try.ntmps10
    go_wp2_with (fail)
    refine (none_any f true _ (by go_simp)).mono ?_
    rintro e _ ⟨rfl, rfl⟩
    go_wp2_with (fail)
    refine (refused_any _).mono ?_
    rintro e w5 ⟨rfl, hb5⟩
    have hW : Below w.heap.size w w5 := bl_step (bl_alloc (bl_alloc (Below.refl w.heap.size w) _) _) hb5
    have hf5 := below_keeps hW H.out hfl
    have hq5 : w5.heap[w.heap.size]? = some (.cells #[.int .i64 a, .int .i64 b, .int .i64 c, .int .i64 d] 28) := below_keeps hb5 (hp_old (hp_new w _) _) (by simp; omega)
    have hfl5 := lt_of_obj hf5
    have hql5 := lt_of_obj hq5
    have d1 : w5.cell? ⟨f, 1, none⟩ = some (.int .i64 0) := cell_of (i := 1) hf5 rfl
    have d2 : w5.cell? ⟨f, 2, none⟩ = some (.int .i64 A) := cell_of (i := 2) hf5 rfl
    have d3 : w5.cell? ⟨f, 3, none⟩ = some (.int .i64 B) := cell_of (i := 3) hf5 rfl
    have d4 : w5.cell? ⟨f, 4, none⟩ = some (.int .i64 C) := cell_of (i := 4) hf5 rfl
    have d5 : w5.cell? ⟨f, 5, none⟩ = some (.int .i64 D) := cell_of (i := 5) hf5 rfl
    have e0 : w5.cell? ⟨w.heap.size, 0, none⟩ = some (.int .i64 a) := cell_of (i := 0) hq5 rfl
    have e1 : w5.cell? ⟨w.heap.size, 1, none⟩ = some (.int .i64 b) := cell_of (i := 1) hq5 rfl
    have e2 : w5.cell? ⟨w.heap.size, 2, none⟩ = some (.int .i64 c) := cell_of (i := 2) hq5 rfl
    have e3 : w5.cell? ⟨w.heap.size, 3, none⟩ = some (.int .i64 d) := cell_of (i := 3) hq5 rfl
    have g : ∀ j, w5.frozen? ⟨f, j, none⟩ = false := fun j => free_of hf5
    have HF5 := Lib.hid hf5
    have HW := Lib.hid hW
    clear hb5 hf5 hq5 hW c0
    go_wp2_with (fail)
    refine wp_loop_rounds 2 ?_
    rw [rounds_succ]
    go_wp2_with (fail)
    go_quiet (fail)
    go_wp2_with (fail)
    rw [rounds_succ]
    go_wp2_with (fail)
    go_ret
    exact ask_set f 0 A B C D 0 a b c d ch le tr w _ _ H.out HW.out HN.out (by decide)
  · have hm2 : ¬ (0 : Int) = m := fun e => hm e.symm
    go_enter Try.func10, Try.ntmps10
    go_wp2_with (fail)
    refine (none_any f true _ (by go_simp)).mono ?_
    rintro e _ ⟨rfl, rfl⟩
    go_wp2_with (fail)
    refine (refused_any _).mono ?_
    rintro e w5 ⟨rfl, hb5⟩
    have hW : Below w.heap.size w w5 := bl_step (bl_alloc (bl_alloc (Below.refl w.heap.size w) _) _) hb5
    have hf5 := below_keeps hW H.out hfl
    have hq5 : w5.heap[w.heap.size]? = some (.cells #[.int .i64 a, .int .i64 b, .int .i64 c, .int .i64 d] 28) := below_keeps hb5 (hp_old (hp_new w _) _) (by simp; omega)
    have hfl5 := lt_of_obj hf5
    have hql5 := lt_of_obj hq5
    have d1 : w5.cell? ⟨f, 1, none⟩ = some (.int .i64 m) := cell_of (i := 1) hf5 rfl
    have d2 : w5.cell? ⟨f, 2, none⟩ = some (.int .i64 A) := cell_of (i := 2) hf5 rfl
    have d3 : w5.cell? ⟨f, 3, none⟩ = some (.int .i64 B) := cell_of (i := 3) hf5 rfl
    have d4 : w5.cell? ⟨f, 4, none⟩ = some (.int .i64 C) := cell_of (i := 4) hf5 rfl
    have d5 : w5.cell? ⟨f, 5, none⟩ = some (.int .i64 D) := cell_of (i := 5) hf5 rfl
    have e0 : w5.cell? ⟨w.heap.size, 0, none⟩ = some (.int .i64 a) := cell_of (i := 0) hq5 rfl
    have e1 : w5.cell? ⟨w.heap.size, 1, none⟩ = some (.int .i64 b) := cell_of (i := 1) hq5 rfl
    have e2 : w5.cell? ⟨w.heap.size, 2, none⟩ = some (.int .i64 c) := cell_of (i := 2) hq5 rfl
    have e3 : w5.cell? ⟨w.heap.size, 3, none⟩ = some (.int .i64 d) := cell_of (i := 3) hq5 rfl
    have g : ∀ j, w5.frozen? ⟨f, j, none⟩ = false := fun j => free_of hf5
    have HF5 := Lib.hid hf5
    have HW := Lib.hid hW
    clear hb5 hf5 hq5 hW c0
    go_wp2_with (fail)
    refine wp_loop_rounds 2 ?_
    rw [rounds_succ]
    go_wp2_with (fail)
    go_quiet (fail)
    go_wp2_with (fail)
    rw [rounds_succ]
    go_wp2_with (fail)
    go_ret
    exact ask_set f m A B C D 0 a b c d ch le tr w _ _ H.out HW.out HN.out (by decide)
set_option maxHeartbeats 3200000 in
theorem ask_to1 (h : w.heap[f]? = some (MC m A B C D)) (hg : goodB ch le tr = true) : Calls Try.prog 10 #[.pointer (some ⟨f, 0, none⟩), .int .i64 1, .agg #[.int .i64 a, .int .i64 b, .int .i64 c, .int .i64 d], .agg #[.int .i64 ch, .int .i64 le, .bool tr]] w fun e w' => AskR f m A B C D 1 a b c d ch le tr w e w' := by
  have c0 : w.cell? ⟨f, 0, none⟩ = some (.bool true) := cell_of (i := 0) h rfl
  have hfl := lt_of_obj h
  have H := Lib.hid h
  have HN : Hid (askErr m 1 a b c d ch le tr = 0) := Lib.hid (by unfold askErr; rw [if_neg (by simp), if_neg (by simp [hg]), if_neg (by simp)])
  have i0 := ix0
  have HG := Lib.hid hg
  clear hg
  clear h
  rcases Decidable.em (m = 0) with rfl | hm
  · go_enter Try.func10, Try.ntmps10
    go_wp2_with (fail)
    refine (none_any f true _ (by go_simp)).mono ?_
    rintro e _ ⟨rfl, rfl⟩
    go_wp2_with (fail)
    refine (good_any ch le tr _).mono ?_
    rintro e _ ⟨rfl, rfl⟩
    rw [HG.out]
    go_wp2_with (fail)
    refine (refused_any _).mono ?_
    rintro e w5 ⟨rfl, hb5⟩
    have hW : Below w.heap.size w w5 := bl_step (bl_alloc (bl_alloc (bl_alloc (Below.refl w.heap.size w) _) _) _) hb5
    have hf5 := below_keeps hW H.out hfl
    have hq5 : w5.heap[w.heap.size]? = some (.cells #[.int .i64 a, .int .i64 b, .int .i64 c, .int .i64 d] 28) := below_keeps hb5 (hp_old (hp_old (hp_new w _) _) _) (by simp; omega)
    have hfl5 := lt_of_obj hf5
    have hql5 := lt_of_obj hq5
    have d1 : w5.cell? ⟨f, 1, none⟩ = some (.int .i64 0) := cell_of (i := 1) hf5 rfl
    have d2 : w5.cell? ⟨f, 2, none⟩ = some (.int .i64 A) := cell_of (i := 2) hf5 rfl
    have d3 : w5.cell? ⟨f, 3, none⟩ = some (.int .i64 B) := cell_of (i := 3) hf5 rfl
    have d4 : w5.cell? ⟨f, 4, none⟩ = some (.int .i64 C) := cell_of (i := 4) hf5 rfl
    have d5 : w5.cell? ⟨f, 5, none⟩ = some (.int .i64 D) := cell_of (i := 5) hf5 rfl
    have e0 : w5.cell? ⟨w.heap.size, 0, none⟩ = some (.int .i64 a) := cell_of (i := 0) hq5 rfl
    have e1 : w5.cell? ⟨w.heap.size, 1, none⟩ = some (.int .i64 b) := cell_of (i := 1) hq5 rfl
    have e2 : w5.cell? ⟨w.heap.size, 2, none⟩ = some (.int .i64 c) := cell_of (i := 2) hq5 rfl
    have e3 : w5.cell? ⟨w.heap.size, 3, none⟩ = some (.int .i64 d) := cell_of (i := 3) hq5 rfl
    have g : ∀ j, w5.frozen? ⟨f, j, none⟩ = false := fun j => free_of hf5
    have HF5 := Lib.hid hf5
    have HW := Lib.hid hW
    clear hb5 hf5 hq5 hW c0
    go_wp2_with (fail)
    refine wp_loop_rounds 2 ?_
    rw [rounds_succ]
    go_wp2_with (fail)
    go_quiet (fail)
    go_wp2_with (fail)
    rw [rounds_succ]
    go_wp2_with (fail)
    go_ret
    exact ask_set f 0 A B C D 1 a b c d ch le tr w _ _ H.out HW.out HN.out (by decide)
  · have hm2 : ¬ (0 : Int) = m := fun e => hm e.symm
    go_enter Try.func10, Try.ntmps10
    go_wp2_with (fail)
    refine (none_any f true _ (by go_simp)).mono ?_
    rintro e _ ⟨rfl, rfl⟩
    go_wp2_with (fail)
    refine (good_any ch le tr _).mono ?_
    rintro e _ ⟨rfl, rfl⟩
    rw [HG.out]
    go_wp2_with (fail)
    refine (refused_any _).mono ?_
    rintro e w5 ⟨rfl, hb5⟩
    have hW : Below w.heap.size w w5 := bl_step (bl_alloc (bl_alloc (bl_alloc (Below.refl w.heap.size w) _) _) _) hb5
    have hf5 := below_keeps hW H.out hfl
    have hq5 : w5.heap[w.heap.size]? = some (.cells #[.int .i64 a, .int .i64 b, .int .i64 c, .int .i64 d] 28) := below_keeps hb5 (hp_old (hp_old (hp_new w _) _) _) (by simp; omega)
    have hfl5 := lt_of_obj hf5
    have hql5 := lt_of_obj hq5
    have d1 : w5.cell? ⟨f, 1, none⟩ = some (.int .i64 m) := cell_of (i := 1) hf5 rfl
    have d2 : w5.cell? ⟨f, 2, none⟩ = some (.int .i64 A) := cell_of (i := 2) hf5 rfl
    have d3 : w5.cell? ⟨f, 3, none⟩ = some (.int .i64 B) := cell_of (i := 3) hf5 rfl
    have d4 : w5.cell? ⟨f, 4, none⟩ = some (.int .i64 C) := cell_of (i := 4) hf5 rfl
    have d5 : w5.cell? ⟨f, 5, none⟩ = some (.int .i64 D) := cell_of (i := 5) hf5 rfl
    have e0 : w5.cell? ⟨w.heap.size, 0, none⟩ = some (.int .i64 a) := cell_of (i := 0) hq5 rfl
    have e1 : w5.cell? ⟨w.heap.size, 1, none⟩ = some (.int .i64 b) := cell_of (i := 1) hq5 rfl
    have e2 : w5.cell? ⟨w.heap.size, 2, none⟩ = some (.int .i64 c) := cell_of (i := 2) hq5 rfl
    have e3 : w5.cell? ⟨w.heap.size, 3, none⟩ = some (.int .i64 d) := cell_of (i := 3) hq5 rfl
    have g : ∀ j, w5.frozen? ⟨f, j, none⟩ = false := fun j => free_of hf5
    have HF5 := Lib.hid hf5
    have HW := Lib.hid hW
    clear hb5 hf5 hq5 hW c0
    go_wp2_with (fail)
    refine wp_loop_rounds 2 ?_
    rw [rounds_succ]
    go_wp2_with (fail)
    go_quiet (fail)
    go_wp2_with (fail)
    rw [rounds_succ]
    go_wp2_with (fail)
    go_ret
    exact ask_set f m A B C D 1 a b c d ch le tr w _ _ H.out HW.out HN.out (by decide)
end
end Go.Proofs.Ytfjhlgmdkkdooaa
