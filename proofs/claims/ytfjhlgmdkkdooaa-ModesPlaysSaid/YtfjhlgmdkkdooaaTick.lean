/-
  modes.Ask in one contract; the walk of modes.Tick.
-/
import Derived.Test.YtfjhlgmdkkdooaaAskb
import Derived.Test.YtfjhlgmdkkdooaaAskc
namespace Go.Proofs.Ytfjhlgmdkkdooaa
open Go.RowKit Kit
set_option linter.unusedVariables false
section
variable (f : Nat) (m A B C D mode a b c d ch le : Int) (tr : Bool) (w : World)
theorem ask_any (h : w.heap[f]? = some (MC m A B C D)) (hq : ∀ x ∈ [a, b, c, d], -9223372036854775808 ≤ x ∧ x ≤ 9223372036854775807) : Calls Try.prog 10 #[.pointer (some ⟨f, 0, none⟩), .int .i64 mode, .agg #[.int .i64 a, .int .i64 b, .int .i64 c, .int .i64 d], .agg #[.int .i64 ch, .int .i64 le, .bool tr]] w fun e w' => AskR f m A B C D mode a b c d ch le tr w e w' := by
  rcases Decidable.em (mode < 0 ∨ 2 < mode) with hm | hm
  · exact ask_out f m A B C D mode a b c d ch le tr w h hm
  · have hc : mode = 0 ∨ mode = 1 ∨ mode = 2 := by omega
    rcases hc with rfl | rfl | rfl
    · exact ask_to0 f m A B C D a b c d ch le tr w h
    · rcases hg : goodB ch le tr
      · exact ask_badp f m A B C D 1 a b c d ch le tr w h hq (.inl rfl) hg
      · exact ask_to1 f m A B C D a b c d ch le tr w h hg
    · rcases hv : qv [a, b, c, d]
      · exact ask_badq f m A B C D a b c d ch le tr w h hq hv
      · rcases hg : goodB ch le tr
        · exact ask_badp f m A B C D 2 a b c d ch le tr w h hq (.inr ⟨rfl, hv⟩) hg
        · exact ask_to2 f m A B C D a b c d ch le tr w h hq hv hg
def tkm (m ch le : Int) (tr : Bool) : Int := if goodB ch le tr = true then m else 0
def aim (m A B C D : Int) : Value := if m = 2 then .agg #[.int .i64 A, .int .i64 B, .int .i64 C, .int .i64 D] else .agg #[.int .i64 0, .int .i64 0, .int .i64 0, .int .i64 0]
def TickR (f : Nat) (m A B C D ch le : Int) (tr : Bool) (w : World) (e : Ending) (w' : World) : Prop :=
  e = .returned (.tuple #[.int .i64 (tkm m ch le tr), aim (tkm m ch le tr) A B C D]) ∧ w'.heap[f]? = some (MC (tkm m ch le tr) A B C D) ∧ Mod (fun k => k = f) w w'
theorem tick_keep {w' : World} {v : Value} (n : Int) (h : w.heap[f]? = some (MC m A B C D)) (hb : Below w.heap.size w w') (hn : tkm m ch le tr = n) (he : n = m) (hv : aim n A B C D = v) : TickR f m A B C D ch le tr w (.returned (.tuple #[.int .i64 n, v])) w' := by
  subst he
  exact ⟨by rw [hn, hv], by rw [hn]; exact below_keeps hb h (lt_of_obj h), Mod.of_below hb⟩
theorem tick_safe {w5 : World} (q : Nat) (o : Obj) (va vb vc vd : Value) (hf5 : w5.heap[f]? = some (MC m A B C D)) (hb : Below w.heap.size w w5) (hq : w.heap.size ≤ q) (hne : f ≠ q) (hn : tkm m ch le tr = 0) : TickR f m A B C D ch le tr w (.returned (.tuple #[.int .i64 0, .agg #[.int .i64 0, .int .i64 0, .int .i64 0, .int .i64 0]])) (((((((w5.setCell ⟨f, 1, none⟩ (.int .i64 0)).setCell ⟨q, 0, none⟩ va).setCell ⟨q, 1, none⟩ vb).setCell ⟨q, 2, none⟩ vc).setCell ⟨q, 3, none⟩ vd).alloc o).drew) := by
  refine ⟨by rw [hn]; rfl, ?_, ?_⟩
  · rw [hn]
    exact hp_drew (hp_old (hp_set_ne (hp_set_ne (hp_set_ne (hp_set_ne (hp_as (hp_set (i := 1) hf5 (.int .i64 0)) rfl) hne _) hne _) hne _) hne _) _)
  · exact ((mod_new (mod_new (mod_new (mod_new (mod_at (Mod.of_below hb) _) hq _) hq _) hq _) hq _).alloc _).drew
set_option maxHeartbeats 1600000 in
theorem tick_g0 (h : w.heap[f]? = some (MC 0 A B C D)) (hg : goodB ch le tr = true) : Calls Try.prog 12 #[.pointer (some ⟨f, 0, none⟩), .agg #[.int .i64 ch, .int .i64 le, .bool tr]] w fun e w' => TickR f 0 A B C D ch le tr w e w' := by
  have c0 : w.cell? ⟨f, 0, none⟩ = some (.bool true) := cell_of (i := 0) h rfl
  have hfl := lt_of_obj h
  have H := Lib.hid h
  have HG := Lib.hid hg
  clear h hg
  go_enter Try.func12, Try.ntmps12
  go_wp2_with (fail)
  refine (none_any f true _ (by go_simp)).mono ?_
  rintro e _ ⟨rfl, rfl⟩
  go_wp2_with (fail)
  refine (good_any ch le tr _).mono ?_
  rintro e w5 ⟨rfl, hw5⟩
  have hW : Below w.heap.size w w5 := by rw [hw5]; exact bl_alloc (bl_alloc (bl_alloc (Below.refl _ _) _) _) _
  have hf5 := below_keeps hW H.out hfl
  have hq5 : w5.heap[w.heap.size + 1]? = some (.cells #[.int .i64 0, .int .i64 0, .int .i64 0, .int .i64 0] 28) := by
    rw [hw5]; exact hp_old (by simpa using hp_new (w.alloc _) _) _
  have hfl5 := lt_of_obj hf5
  have hql5 := lt_of_obj hq5
  have d1 : w5.cell? ⟨f, 1, none⟩ = some (.int .i64 0) := cell_of (i := 1) hf5 rfl
  have d2 : w5.cell? ⟨f, 2, none⟩ = some (.int .i64 A) := cell_of (i := 2) hf5 rfl
  have d3 : w5.cell? ⟨f, 3, none⟩ = some (.int .i64 B) := cell_of (i := 3) hf5 rfl
  have d4 : w5.cell? ⟨f, 4, none⟩ = some (.int .i64 C) := cell_of (i := 4) hf5 rfl
  have d5 : w5.cell? ⟨f, 5, none⟩ = some (.int .i64 D) := cell_of (i := 5) hf5 rfl
  have e0 : w5.cell? ⟨w.heap.size + 1, 0, none⟩ = some (.int .i64 0) := cell_of (i := 0) hq5 rfl
  have e1 : w5.cell? ⟨w.heap.size + 1, 1, none⟩ = some (.int .i64 0) := cell_of (i := 1) hq5 rfl
  have e2 : w5.cell? ⟨w.heap.size + 1, 2, none⟩ = some (.int .i64 0) := cell_of (i := 2) hq5 rfl
  have e3 : w5.cell? ⟨w.heap.size + 1, 3, none⟩ = some (.int .i64 0) := cell_of (i := 3) hq5 rfl
  have g : ∀ j, w5.frozen? ⟨f, j, none⟩ = false := fun j => free_of hf5
  have gq : ∀ j, w5.frozen? ⟨w.heap.size + 1, j, none⟩ = false := fun j => free_of hq5
  have HF5 := Lib.hid hf5
  have HW := Lib.hid hW
  clear hf5 hq5 hW c0 hw5
  rw [HG.out]
  go_wp2_with (fail)
  go_region
  go_wp2_with (fail)
  refine bodyPost_ret (v := .tuple #[.int .i64 0, .agg #[.int .i64 0, .int .i64 0, .int .i64 0, .int .i64 0]]) (by simp [results, Try.results12]; go_simp) rfl ?_
  exact tick_keep f 0 A B C D ch le tr w 0 H.out (((bl_set (bl_set (bl_set (bl_set HW.out (Nat.le_succ _) _) (Nat.le_succ _) _) (Nat.le_succ _) _) (Nat.le_succ _) _).alloc (by have := HW.out.size; simp; omega) _).drew) (by unfold tkm; rw [if_pos HG.out]) rfl rfl
set_option maxHeartbeats 1600000 in
theorem tick_g1 (h : w.heap[f]? = some (MC 1 A B C D)) (hg : goodB ch le tr = true) : Calls Try.prog 12 #[.pointer (some ⟨f, 0, none⟩), .agg #[.int .i64 ch, .int .i64 le, .bool tr]] w fun e w' => TickR f 1 A B C D ch le tr w e w' := by
  have c0 : w.cell? ⟨f, 0, none⟩ = some (.bool true) := cell_of (i := 0) h rfl
  have hfl := lt_of_obj h
  have H := Lib.hid h
  have HG := Lib.hid hg
  clear h hg
  go_enter Try.func12, Try.ntmps12
  go_wp2_with (fail)
  refine (none_any f true _ (by go_simp)).mono ?_
  rintro e _ ⟨rfl, rfl⟩
  go_wp2_with (fail)
  refine (good_any ch le tr _).mono ?_
  rintro e w5 ⟨rfl, hw5⟩
  have hW : Below w.heap.size w w5 := by rw [hw5]; exact bl_alloc (bl_alloc (bl_alloc (Below.refl _ _) _) _) _
  have hf5 := below_keeps hW H.out hfl
  have hq5 : w5.heap[w.heap.size + 1]? = some (.cells #[.int .i64 0, .int .i64 0, .int .i64 0, .int .i64 0] 28) := by
    rw [hw5]; exact hp_old (by simpa using hp_new (w.alloc _) _) _
  have hfl5 := lt_of_obj hf5
  have hql5 := lt_of_obj hq5
  have d1 : w5.cell? ⟨f, 1, none⟩ = some (.int .i64 1) := cell_of (i := 1) hf5 rfl
  have d2 : w5.cell? ⟨f, 2, none⟩ = some (.int .i64 A) := cell_of (i := 2) hf5 rfl
  have d3 : w5.cell? ⟨f, 3, none⟩ = some (.int .i64 B) := cell_of (i := 3) hf5 rfl
  have d4 : w5.cell? ⟨f, 4, none⟩ = some (.int .i64 C) := cell_of (i := 4) hf5 rfl
  have d5 : w5.cell? ⟨f, 5, none⟩ = some (.int .i64 D) := cell_of (i := 5) hf5 rfl
  have e0 : w5.cell? ⟨w.heap.size + 1, 0, none⟩ = some (.int .i64 0) := cell_of (i := 0) hq5 rfl
  have e1 : w5.cell? ⟨w.heap.size + 1, 1, none⟩ = some (.int .i64 0) := cell_of (i := 1) hq5 rfl
  have e2 : w5.cell? ⟨w.heap.size + 1, 2, none⟩ = some (.int .i64 0) := cell_of (i := 2) hq5 rfl
  have e3 : w5.cell? ⟨w.heap.size + 1, 3, none⟩ = some (.int .i64 0) := cell_of (i := 3) hq5 rfl
  have g : ∀ j, w5.frozen? ⟨f, j, none⟩ = false := fun j => free_of hf5
  have gq : ∀ j, w5.frozen? ⟨w.heap.size + 1, j, none⟩ = false := fun j => free_of hq5
  have HF5 := Lib.hid hf5
  have HW := Lib.hid hW
  clear hf5 hq5 hW c0 hw5
  rw [HG.out]
  go_wp2_with (fail)
  go_region
  go_wp2_with (fail)
  refine bodyPost_ret (v := .tuple #[.int .i64 1, .agg #[.int .i64 0, .int .i64 0, .int .i64 0, .int .i64 0]]) (by simp [results, Try.results12]; go_simp) rfl ?_
  exact tick_keep f 1 A B C D ch le tr w 1 H.out (((bl_set (bl_set (bl_set (bl_set HW.out (Nat.le_succ _) _) (Nat.le_succ _) _) (Nat.le_succ _) _) (Nat.le_succ _) _).alloc (by have := HW.out.size; simp; omega) _).drew) (by unfold tkm; rw [if_pos HG.out]) rfl rfl
set_option maxHeartbeats 1600000 in
theorem tick_b (h : w.heap[f]? = some (MC m A B C D)) (hg : goodB ch le tr = false) : Calls Try.prog 12 #[.pointer (some ⟨f, 0, none⟩), .agg #[.int .i64 ch, .int .i64 le, .bool tr]] w fun e w' => TickR f m A B C D ch le tr w e w' := by
  have c0 : w.cell? ⟨f, 0, none⟩ = some (.bool true) := cell_of (i := 0) h rfl
  have hfl := lt_of_obj h
  have H := Lib.hid h
  have HG := Lib.hid hg
  clear h hg
  go_enter Try.func12, Try.ntmps12
  go_wp2_with (fail)
  refine (none_any f true _ (by go_simp)).mono ?_
  rintro e _ ⟨rfl, rfl⟩
  go_wp2_with (fail)
  refine (good_any ch le tr _).mono ?_
  rintro e w5 ⟨rfl, hw5⟩
  have hW : Below w.heap.size w w5 := by rw [hw5]; exact bl_alloc (bl_alloc (bl_alloc (Below.refl _ _) _) _) _
  have hf5 := below_keeps hW H.out hfl
  have hq5 : w5.heap[w.heap.size + 1]? = some (.cells #[.int .i64 0, .int .i64 0, .int .i64 0, .int .i64 0] 28) := by
    rw [hw5]; exact hp_old (by simpa using hp_new (w.alloc _) _) _
  have hfl5 := lt_of_obj hf5
  have hql5 := lt_of_obj hq5
  have d1 : w5.cell? ⟨f, 1, none⟩ = some (.int .i64 m) := cell_of (i := 1) hf5 rfl
  have d2 : w5.cell? ⟨f, 2, none⟩ = some (.int .i64 A) := cell_of (i := 2) hf5 rfl
  have d3 : w5.cell? ⟨f, 3, none⟩ = some (.int .i64 B) := cell_of (i := 3) hf5 rfl
  have d4 : w5.cell? ⟨f, 4, none⟩ = some (.int .i64 C) := cell_of (i := 4) hf5 rfl
  have d5 : w5.cell? ⟨f, 5, none⟩ = some (.int .i64 D) := cell_of (i := 5) hf5 rfl
  have e0 : w5.cell? ⟨w.heap.size + 1, 0, none⟩ = some (.int .i64 0) := cell_of (i := 0) hq5 rfl
  have e1 : w5.cell? ⟨w.heap.size + 1, 1, none⟩ = some (.int .i64 0) := cell_of (i := 1) hq5 rfl
  have e2 : w5.cell? ⟨w.heap.size + 1, 2, none⟩ = some (.int .i64 0) := cell_of (i := 2) hq5 rfl
  have e3 : w5.cell? ⟨w.heap.size + 1, 3, none⟩ = some (.int .i64 0) := cell_of (i := 3) hq5 rfl
  have g : ∀ j, w5.frozen? ⟨f, j, none⟩ = false := fun j => free_of hf5
  have gq : ∀ j, w5.frozen? ⟨w.heap.size + 1, j, none⟩ = false := fun j => free_of hq5
  have HF5 := Lib.hid hf5
  have HW := Lib.hid hW
  clear hf5 hq5 hW c0 hw5
  rw [HG.out]
  go_wp2_with (fail)
  go_region
  go_wp2_with (fail)
  refine bodyPost_ret (v := .tuple #[.int .i64 0, .agg #[.int .i64 0, .int .i64 0, .int .i64 0, .int .i64 0]]) (by simp [results, Try.results12]; go_simp) rfl ?_
  exact tick_safe f m A B C D ch le tr w _ _ _ _ _ _ HF5.out HW.out (Nat.le_succ _) (by omega) (by unfold tkm; rw [if_neg (by rw [HG.out]; simp)])
set_option maxHeartbeats 1600000 in
theorem tick_g2 (h : w.heap[f]? = some (MC 2 A B C D)) (hg : goodB ch le tr = true) : Calls Try.prog 12 #[.pointer (some ⟨f, 0, none⟩), .agg #[.int .i64 ch, .int .i64 le, .bool tr]] w fun e w' => TickR f 2 A B C D ch le tr w e w' := by
  have c0 : w.cell? ⟨f, 0, none⟩ = some (.bool true) := cell_of (i := 0) h rfl
  have hfl := lt_of_obj h
  have H := Lib.hid h
  have HG := Lib.hid hg
  clear h hg
  go_enter Try.func12, Try.ntmps12
  go_wp2_with (fail)
  refine (none_any f true _ (by go_simp)).mono ?_
  rintro e _ ⟨rfl, rfl⟩
  go_wp2_with (fail)
  refine (good_any ch le tr _).mono ?_
  rintro e w5 ⟨rfl, hw5⟩
  have hW : Below w.heap.size w w5 := by rw [hw5]; exact bl_alloc (bl_alloc (bl_alloc (Below.refl _ _) _) _) _
  have hf5 := below_keeps hW H.out hfl
  have hq5 : w5.heap[w.heap.size + 1]? = some (.cells #[.int .i64 0, .int .i64 0, .int .i64 0, .int .i64 0] 28) := by
    rw [hw5]; exact hp_old (by simpa using hp_new (w.alloc _) _) _
  have hfl5 := lt_of_obj hf5
  have hql5 := lt_of_obj hq5
  have d1 : w5.cell? ⟨f, 1, none⟩ = some (.int .i64 2) := cell_of (i := 1) hf5 rfl
  have d2 : w5.cell? ⟨f, 2, none⟩ = some (.int .i64 A) := cell_of (i := 2) hf5 rfl
  have d3 : w5.cell? ⟨f, 3, none⟩ = some (.int .i64 B) := cell_of (i := 3) hf5 rfl
  have d4 : w5.cell? ⟨f, 4, none⟩ = some (.int .i64 C) := cell_of (i := 4) hf5 rfl
  have d5 : w5.cell? ⟨f, 5, none⟩ = some (.int .i64 D) := cell_of (i := 5) hf5 rfl
  have e0 : w5.cell? ⟨w.heap.size + 1, 0, none⟩ = some (.int .i64 0) := cell_of (i := 0) hq5 rfl
  have e1 : w5.cell? ⟨w.heap.size + 1, 1, none⟩ = some (.int .i64 0) := cell_of (i := 1) hq5 rfl
  have e2 : w5.cell? ⟨w.heap.size + 1, 2, none⟩ = some (.int .i64 0) := cell_of (i := 2) hq5 rfl
  have e3 : w5.cell? ⟨w.heap.size + 1, 3, none⟩ = some (.int .i64 0) := cell_of (i := 3) hq5 rfl
  have g : ∀ j, w5.frozen? ⟨f, j, none⟩ = false := fun j => free_of hf5
  have gq : ∀ j, w5.frozen? ⟨w.heap.size + 1, j, none⟩ = false := fun j => free_of hq5
  have HF5 := Lib.hid hf5
  have HW := Lib.hid hW
  clear hf5 hq5 hW c0 hw5
  rw [HG.out]
  go_wp2_with (fail)
  obtain ⟨w6, h6⟩ : ∃ w6, w6 = ((((w5.setCell ⟨w.heap.size + 1, 0, none⟩ (.int .i64 A)).setCell ⟨w.heap.size + 1, 1, none⟩ (.int .i64 B)).setCell ⟨w.heap.size + 1, 2, none⟩ (.int .i64 C)).setCell ⟨w.heap.size + 1, 3, none⟩ (.int .i64 D)).alloc (.cells #[.int .i64 0, .int .i64 1, .int .i64 2] 56) := ⟨_, rfl⟩
  have k1 : w6.cell? ⟨f, 1, none⟩ = some (.int .i64 2) := by rw [h6]; go_simp
  have k2 : w6.cell? ⟨w.heap.size + 1, 0, none⟩ = some (.int .i64 A) := by rw [h6]; go_simp
  have k3 : w6.cell? ⟨w.heap.size + 1, 1, none⟩ = some (.int .i64 B) := by rw [h6]; go_simp
  have k4 : w6.cell? ⟨w.heap.size + 1, 2, none⟩ = some (.int .i64 C) := by rw [h6]; go_simp
  have k5 : w6.cell? ⟨w.heap.size + 1, 3, none⟩ = some (.int .i64 D) := by rw [h6]; go_simp
  have k6 : w6.cell? ⟨w5.heap.size, 0, none⟩ = some (.int .i64 0) := by rw [h6]; go_simp
  have k7 : w6.cell? ⟨w5.heap.size, 1, none⟩ = some (.int .i64 1) := by rw [h6]; go_simp
  have k8 : w6.cell? ⟨w5.heap.size, 2, none⟩ = some (.int .i64 2) := by rw [h6]; go_simp
  have gq6 : ∀ j, w6.frozen? ⟨w.heap.size + 1, j, none⟩ = false := fun j => by rw [h6]; go_simp
  have HW6 : Hid (Below w.heap.size w w6) := Lib.hid (by
    rw [h6]; exact ((bl_set (bl_set (bl_set (bl_set HW.out (Nat.le_succ _) _) (Nat.le_succ _) _) (Nat.le_succ _) _) (Nat.le_succ _) _).alloc (by have := HW.out.size; simp; omega) _))
  rw [← h6]
  clear h6 HW d1 d2 d3 d4 d5 e0 e1 e2 e3 g gq
  go_region
  go_wp2_with (fail)
  refine bodyPost_ret (v := .tuple #[.int .i64 2, .agg #[.int .i64 A, .int .i64 B, .int .i64 C, .int .i64 D]]) (by simp [results, Try.results12]; go_simp) rfl ?_
  exact tick_keep f 2 A B C D ch le tr w 2 H.out (bl_set (bl_set (bl_set (bl_set HW6.out.drew (Nat.le_succ _) _) (Nat.le_succ _) _) (Nat.le_succ _) _) (Nat.le_succ _) _) (by unfold tkm; rw [if_pos HG.out]) rfl rfl
theorem tick_any (hm : m = 0 ∨ m = 1 ∨ m = 2) (h : w.heap[f]? = some (MC m A B C D)) : Calls Try.prog 12 #[.pointer (some ⟨f, 0, none⟩), .agg #[.int .i64 ch, .int .i64 le, .bool tr]] w fun e w' => TickR f m A B C D ch le tr w e w' := by
  rcases hg : goodB ch le tr
  · exact tick_b f m A B C D ch le tr w h hg
  · rcases hm with rfl | rfl | rfl
    · exact tick_g0 f A B C D ch le tr w h hg
    · exact tick_g1 f A B C D ch le tr w h hg
    · exact tick_g2 f A B C D ch le tr w h hg
end
end Go.Proofs.Ytfjhlgmdkkdooaa
