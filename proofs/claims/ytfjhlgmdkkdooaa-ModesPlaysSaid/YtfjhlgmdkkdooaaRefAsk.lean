/-
  The walks of the reference's Good, Ask, Tick and Allows. Conditions: numbers of 64 bits.
-/
import Derived.Test.YtfjhlgmdkkdooaaTick
import Derived.Test.YtfjhlgmdkkdooaaRefVal
namespace Go.Proofs.Ytfjhlgmdkkdooaa
open Go.RowKit Kit
set_option linter.unusedVariables false
/-- The reference's object. -/
def RC (m a b c d : Int) : Obj := .cells #[.int .i64 m, .int .i64 a, .int .i64 b, .int .i64 c, .int .i64 d] 30
def refObj (m A B C D mode a b c d ch le : Int) (tr : Bool) : Obj :=
  if askErr m mode a b c d ch le tr = 0 then (if mode = 2 then RC mode a b c d else RC mode A B C D) else RC m A B C D
theorem refgood_any (ch le : Int) (tr : Bool) (w : World) : Calls Try.prog 23 #[.agg #[.int .i64 ch, .int .i64 le, .bool tr]] w fun e w' => e = .returned (.bool (goodB ch le tr)) ∧ Below w.heap.size w w' := by
  obtain ⟨G, hG⟩ : ∃ G, Hid (goodB ch le tr = G) := ⟨_, Lib.hid rfl⟩
  rw [hG.out]
  rcases hd : decide (le ≤ ch)
  · have hz : G = false := by rw [← hG.out]; unfold goodB; rw [hd]; simp
    subst hz
    go_enter Try.func23, Try.ntmps23
    go_wp2_with (fail)
    go_ret
    exact ⟨rfl, bl_alloc (Below.refl _ _) _⟩
  · cases tr with
    | true =>
      have hz : G = false := by rw [← hG.out]; unfold goodB; simp
      subst hz
      go_enter Try.func23, Try.ntmps23
      go_wp2_with (fail)
      go_ret
      exact ⟨rfl, bl_alloc (Below.refl _ _) _⟩
    | false =>
      have hz : G = true := by rw [← hG.out]; unfold goodB; rw [hd]; simp
      subst hz
      go_enter Try.func23, Try.ntmps23
      go_wp2_with (fail)
      go_ret
      exact ⟨rfl, bl_alloc (Below.refl _ _) _⟩
theorem refallows_any (r : Nat) (rank m a b c d : Int) (w : World) (h : w.heap[r]? = some (RC m a b c d)) : Calls Try.prog 16 #[.pointer (some ⟨r, 0, none⟩), .int .i64 rank] w fun e w' => e = .returned (.bool (allowB m rank)) ∧ w = w' := by
  have c1 := cell_of (i := 0) h rfl
  clear h
  obtain ⟨A, hA⟩ : ∃ A, Hid (allowB m rank = A) := ⟨_, Lib.hid rfl⟩
  rw [hA.out]
  by_cases h8 : 8 ≤ rank
  · have hz : A = true := by rw [← hA.out]; unfold allowB; simp [h8]
    subst hz
    go_enter Try.func16, Try.ntmps16
    go_wp2_with (fail)
    go_ret
    exact ⟨rfl, rfl⟩
  · have hd : decide (8 ≤ rank) = false := by simpa using h8
    rcases Decidable.em (m = 0) with rfl | hm
    · have hz : A = false := by rw [← hA.out]; unfold allowB; rw [hd]; simp
      subst hz
      clear h8
      go_enter Try.func16, Try.ntmps16
      go_wp2_with (fail)
      go_ret
      exact ⟨rfl, rfl⟩
    · have hz : A = true := by rw [← hA.out]; unfold allowB; simp [hm]
      have hb : (m != 0) = true := by simpa using hm
      subst hz
      clear h8 hm
      go_enter Try.func16, Try.ntmps16
      go_wp2_with (fail)
      go_ret
      exact ⟨rfl, rfl⟩
def RAsk (r : Nat) (m A B C D mode a b c d ch le : Int) (tr : Bool) (w : World) (e : Ending) (w' : World) : Prop :=
  e = .returned (.int .i64 (askErr m mode a b c d ch le tr)) ∧ w'.heap[r]? = some (refObj m A B C D mode a b c d ch le tr) ∧ Mod (fun k => k = r) w w'
section
variable (r : Nat) (m A B C D mode a b c d ch le : Int) (tr : Bool) (w : World)
theorem rask_keep {w' : World} (n : Int) (h : w.heap[r]? = some (RC m A B C D)) (hb : Below w.heap.size w w') (hn : askErr m mode a b c d ch le tr = n) (h0 : n ≠ 0) : RAsk r m A B C D mode a b c d ch le tr w (.returned (.int .i64 n)) w' :=
  ⟨by rw [hn], by unfold refObj; rw [if_neg (by rw [hn]; exact h0)]; exact below_keeps hb h (lt_of_obj h), Mod.of_below hb⟩
theorem rask_set {w' : World} (h : w'.heap[r]? = some (RC m A B C D)) (hb : Below w.heap.size w w') (hn : askErr m mode a b c d ch le tr = 0) (hm : mode ≠ 2) : RAsk r m A B C D mode a b c d ch le tr w (.returned (.int .i64 0)) (w'.setCell ⟨r, 0, none⟩ (.int .i64 mode)) :=
  ⟨by rw [hn], by unfold refObj; rw [if_pos hn, if_neg hm]; exact hp_as (hp_set h _) rfl, mod_at (Mod.of_below hb) _⟩
theorem rask_set2 (o1 o2 : Obj) (h : w.heap[r]? = some (RC m A B C D)) (hn : askErr m mode a b c d ch le tr = 0) (hm : mode ≠ 2) : RAsk r m A B C D mode a b c d ch le tr w (.returned (.int .i64 0)) (((w.setCell ⟨r, 0, none⟩ (.int .i64 mode)).alloc o1).alloc o2) :=
  ⟨by rw [hn], by unfold refObj; rw [if_pos hn, if_neg hm]; exact hp_old (hp_old (hp_as (hp_set h _) rfl) _) _, ((mod_at (Mod.refl _ _) _).alloc _).alloc _⟩
theorem rask_aim {w' : World} (h : w'.heap[r]? = some (RC m A B C D)) (hb : Below w.heap.size w w') (hn : askErr m 2 a b c d ch le tr = 0) : RAsk r m A B C D 2 a b c d ch le tr w (.returned (.int .i64 0)) (((((w'.setCell ⟨r, 0, none⟩ (.int .i64 2)).setCell ⟨r, 1, none⟩ (.int .i64 a)).setCell ⟨r, 2, none⟩ (.int .i64 b)).setCell ⟨r, 3, none⟩ (.int .i64 c)).setCell ⟨r, 4, none⟩ (.int .i64 d)) :=
  ⟨by rw [hn], by unfold refObj; rw [if_pos hn, if_pos rfl]; exact hp_as (hp_set (hp_set (hp_set (hp_set (hp_set h _) _) _) _) _) rfl, mod_at (mod_at (mod_at (mod_at (mod_at (Mod.of_below hb) _) _) _) _) _⟩
/-- What a walk is told of the reference's object. -/
theorem rc_cells {W : World} (h : W.heap[r]? = some (RC m A B C D)) : W.cell? ⟨r, 0, none⟩ = some (.int .i64 m) ∧ W.cell? ⟨r, 1, none⟩ = some (.int .i64 A) ∧ W.cell? ⟨r, 2, none⟩ = some (.int .i64 B) ∧ W.cell? ⟨r, 3, none⟩ = some (.int .i64 C) ∧ W.cell? ⟨r, 4, none⟩ = some (.int .i64 D) ∧ (∀ j, W.frozen? ⟨r, j, none⟩ = false) ∧ r < W.heap.size :=
  ⟨cell_of (i := 0) h rfl, cell_of (i := 1) h rfl, cell_of (i := 2) h rfl, cell_of (i := 3) h rfl, cell_of (i := 4) h rfl, fun j => free_of h, lt_of_obj h⟩
end
end Go.Proofs.Ytfjhlgmdkkdooaa
