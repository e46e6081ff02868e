/-
  The walk of modes.Ask on an object that New has made. Conditions: numbers of 64 bits.
-/
import Derived.Test.YtfjhlgmdkkdooaaBase
namespace Go.Proofs.Ytfjhlgmdkkdooaa
open Go.RowKit Kit
set_option linter.unusedVariables false
def askErr (m mode a b c d ch le : Int) (tr : Bool) : Int :=
  if mode < 0 ∨ 2 < mode ∨ (mode = 2 ∧ qv [a, b, c, d] = false) then 2 else if mode ≠ 0 ∧ goodB ch le tr = false then 360 else if m = 0 ∧ mode = 2 then 360 else 0
def askObj (m A B C D mode a b c d ch le : Int) (tr : Bool) : Obj :=
  if askErr m mode a b c d ch le tr = 0 then (if mode = 2 then MC mode a b c d else MC mode A B C D) else MC m A B C D
def AskR (f : Nat) (m A B C D mode a b c d ch le : Int) (tr : Bool) (w : World) (e : Ending) (w' : World) : Prop :=
  e = .returned (.int .i64 (askErr m mode a b c d ch le tr)) ∧ w'.heap[f]? = some (askObj m A B C D mode a b c d ch le tr) ∧ Mod (fun k => k = f) w w'
section
variable (f : Nat) (m A B C D mode a b c d ch le : Int) (tr : Bool) (w : World)
theorem ask_keep {w' : World} (n : Int) (h : w.heap[f]? = some (MC m A B C D)) (hb : Below w.heap.size w w') (hn : askErr m mode a b c d ch le tr = n) (h0 : n ≠ 0) : AskR f m A B C D mode a b c d ch le tr w (.returned (.int .i64 n)) w' :=
  ⟨by rw [hn], by unfold askObj; rw [if_neg (by rw [hn]; exact h0)]; exact below_keeps hb h (lt_of_obj h), Mod.of_below hb⟩
set_option maxHeartbeats 1600000 in
theorem ask_out (h : w.heap[f]? = some (MC m A B C D)) (hm : mode < 0 ∨ 2 < mode) : Calls Try.prog 10 #[.pointer (some ⟨f, 0, none⟩), .int .i64 mode, .agg #[.int .i64 a, .int .i64 b, .int .i64 c, .int .i64 d], .agg #[.int .i64 ch, .int .i64 le, .bool tr]] w fun e w' => AskR f m A B C D mode a b c d ch le tr w e w' := by
  have c0 : w.cell? ⟨f, 0, none⟩ = some (.bool true) := cell_of (i := 0) h rfl
  have hfl := lt_of_obj h
  have K : Hid (∀ w', Below w.heap.size w w' → AskR f m A B C D mode a b c d ch le tr w (.returned (.int .i64 2)) w') := Lib.hid (fun w' hb => ask_keep f m A B C D mode a b c d ch le tr w 2 h hb (by unfold askErr; rw [if_pos (by omega)]) (by omega))
  clear h
  rcases hm with hm | hm
  · go_enter Try.func10, Try.ntmps10
    go_wp2_with (fail)
    refine (none_any f true _ (by go_simp)).mono ?_
    rintro e _ ⟨rfl, rfl⟩
    go_wp2_with (fail)
    go_ret
    exact K.out _ (bl_alloc (bl_alloc (Below.refl _ _) _) _)
  · go_enter Try.func10, Try.ntmps10
    go_wp2_with (fail)
    refine (none_any f true _ (by go_simp)).mono ?_
    rintro e _ ⟨rfl, rfl⟩
    go_wp2_with (fail)
    go_ret
    exact K.out _ (bl_alloc (bl_alloc (Below.refl _ _) _) _)
set_option maxHeartbeats 1600000 in
theorem ask_badq (h : w.heap[f]? = some (MC m A B C D)) (hq : ∀ x ∈ [a, b, c, d], -9223372036854775808 ≤ x ∧ x ≤ 9223372036854775807) (hv : qv [a, b, c, d] = false) : Calls Try.prog 10 #[.pointer (some ⟨f, 0, none⟩), .int .i64 2, .agg #[.int .i64 a, .int .i64 b, .int .i64 c, .int .i64 d], .agg #[.int .i64 ch, .int .i64 le, .bool tr]] w fun e w' => AskR f m A B C D 2 a b c d ch le tr w e w' := by
  have c0 : w.cell? ⟨f, 0, none⟩ = some (.bool true) := cell_of (i := 0) h rfl
  have hfl := lt_of_obj h
  have K : Hid (∀ w', Below w.heap.size w w' → AskR f m A B C D 2 a b c d ch le tr w (.returned (.int .i64 2)) w') := Lib.hid (fun w' hb => ask_keep f m A B C D 2 a b c d ch le tr w 2 h hb (by unfold askErr; rw [if_pos (by simp [hv])]) (by omega))
  have HQ := Lib.hid hq; have HV := Lib.hid hv
  clear h hq hv
  go_enter Try.func10, Try.ntmps10
  go_wp2_with (fail)
  refine (none_any f true _ (by go_simp)).mono ?_
  rintro e _ ⟨rfl, rfl⟩
  go_wp2_with (fail)
  refine (valid_any a b c d HQ.out _).mono ?_
  rintro e _ ⟨rfl, rfl⟩
  rw [HV.out]
  go_wp2_with (fail)
  go_ret
  exact K.out _ (bl_alloc (bl_alloc (bl_alloc (Below.refl _ _) _) _) _)
set_option maxHeartbeats 1600000 in
theorem ask_badp (h : w.heap[f]? = some (MC m A B C D)) (hq : ∀ x ∈ [a, b, c, d], -9223372036854775808 ≤ x ∧ x ≤ 9223372036854775807) (hm : mode = 1 ∨ mode = 2 ∧ qv [a, b, c, d] = true) (hg : goodB ch le tr = false) : Calls Try.prog 10 #[.pointer (some ⟨f, 0, none⟩), .int .i64 mode, .agg #[.int .i64 a, .int .i64 b, .int .i64 c, .int .i64 d], .agg #[.int .i64 ch, .int .i64 le, .bool tr]] w fun e w' => AskR f m A B C D mode a b c d ch le tr w e w' := by
  have c0 : w.cell? ⟨f, 0, none⟩ = some (.bool true) := cell_of (i := 0) h rfl
  have hfl := lt_of_obj h
  have K : Hid (∀ w', Below w.heap.size w w' → AskR f m A B C D mode a b c d ch le tr w (.returned (.int .i64 360)) w') := Lib.hid (fun w' hb => ask_keep f m A B C D mode a b c d ch le tr w 360 h hb (by
    unfold askErr
    rw [if_neg (by rcases hm with rfl | ⟨rfl, hv⟩; simp; simp [hv]), if_pos ⟨by omega, hg⟩]) (by omega))
  have HQ := Lib.hid hq; have HG := Lib.hid hg
  clear h hq hg
  rcases hm with rfl | ⟨rfl, hv⟩
  · go_enter Try.func10, Try.ntmps10
    go_wp2_with (fail)
    refine (none_any f true _ (by go_simp)).mono ?_
    rintro e _ ⟨rfl, rfl⟩
    go_wp2_with (fail)
    refine (good_any ch le tr _).mono ?_
    rintro e _ ⟨rfl, rfl⟩
    rw [HG.out]
    go_wp2_with (fail)
    go_ret
    exact K.out _ (bl_alloc (bl_alloc (bl_alloc (Below.refl _ _) _) _) _)
  · have HV := Lib.hid hv; clear hv
    go_enter Try.func10, Try.ntmps10
    go_wp2_with (fail)
    refine (none_any f true _ (by go_simp)).mono ?_
    rintro e _ ⟨rfl, rfl⟩
    go_wp2_with (fail)
    refine (valid_any a b c d HQ.out _).mono ?_
    rintro e _ ⟨rfl, rfl⟩
    rw [HV.out]
    go_wp2_with (fail)
    refine (good_any ch le tr _).mono ?_
    rintro e _ ⟨rfl, rfl⟩
    rw [HG.out]
    go_wp2_with (fail)
    go_ret
    exact K.out _ (bl_alloc (bl_alloc (bl_alloc (bl_alloc (Below.refl _ _) _) _) _) _)
theorem ask_set {w' : World} (n : Nat) (o : Obj) (h : w.heap[f]? = some (MC m A B C D)) (hb : Below w.heap.size w w') (hn : askErr m mode a b c d ch le tr = 0) (hm : mode ≠ 2) : AskR f m A B C D mode a b c d ch le tr w (.returned (.int .i64 0)) (((w'.setCell ⟨f, 1, none⟩ (.int .i64 mode)).alloc o).drewN n) := by
  have h5 := below_keeps hb h (lt_of_obj h)
  refine ⟨by rw [hn], ?_, ?_⟩
  · unfold askObj; rw [if_pos hn, if_neg hm]
    exact hp_drewN (hp_old (hp_as (hp_set (i := 1) h5 (.int .i64 mode)) rfl) o) n
  · exact ((mod_at (Mod.of_below hb) _).alloc _).drewN n
theorem ask_set2 {w' : World} (n : Nat) (o : Obj) (h : w.heap[f]? = some (MC m A B C D)) (hb : Below w.heap.size w w') (hn : askErr m 2 a b c d ch le tr = 0) : AskR f m A B C D 2 a b c d ch le tr w (.returned (.int .i64 0)) (((((((w'.setCell ⟨f, 1, none⟩ (.int .i64 2)).setCell ⟨f, 2, none⟩ (.int .i64 a)).setCell ⟨f, 3, none⟩ (.int .i64 b)).setCell ⟨f, 4, none⟩ (.int .i64 c)).setCell ⟨f, 5, none⟩ (.int .i64 d)).alloc o).drewN n) := by
  have h5 := below_keeps hb h (lt_of_obj h)
  refine ⟨by rw [hn], ?_, ?_⟩
  · unfold askObj; rw [if_pos hn, if_pos rfl]
    exact hp_drewN (hp_old (hp_as (hp_set (i := 5) (hp_set (i := 4) (hp_set (i := 3) (hp_set (i := 2) (hp_set (i := 1) h5 (.int .i64 2)) (.int .i64 a)) (.int .i64 b)) (.int .i64 c)) (.int .i64 d)) rfl) o) n
  · exact ((mod_at (mod_at (mod_at (mod_at (mod_at (Mod.of_below hb) _) _) _) _) _).alloc _).drewN n
theorem ix0 (w : World) : (Instr.index 54 (.agg #[.int .i64 0, .int .i64 2]) (.int .i64 0)).run Try.prog w = .ok (.agg #[.int .i64 0, .int .i64 2]) w := by kernel_rfl
end
end Go.Proofs.Ytfjhlgmdkkdooaa
